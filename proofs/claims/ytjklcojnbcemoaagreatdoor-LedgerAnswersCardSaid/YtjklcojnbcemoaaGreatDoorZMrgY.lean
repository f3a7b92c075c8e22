/-
  Layer 14: slices.SortStableFunc over samples.
-/
import Derived.Test.YtjklcojnbcemoaaGreatDoorZMrgX
import Derived.Test.YtjklcojnbcemoaaGreatDoorZLib23
import Derived.Test.YtjklcojnbcemoaaGreatDoorZMrgU

namespace Go.Bar.Mrg
open Go.RowKit Go.Bar Go.Bar.Xor

/-- a run: rising, of what came in there -/
def Run (c d : Nat) (F : Nat → Tg) : Prop := Sor lt2 c d F ∧ ∀ k, c ≤ k → k < d → c ≤ (F k).2 ∧ (F k).2 < d
theorem Run.congr {c d : Nat} {F G : Nat → Tg} (h : Run c d F) (he : ∀ k, c ≤ k → k < d → G k = F k) : Run c d G := ⟨h.1.congr he, fun k h1 h2 => by rw [he k h1 h2]; exact h.2 k h1 h2⟩
/-- runs of s each, from c on, below n -/
inductive Rs (s n : Nat) (F : Nat → Tg) : Nat → Prop
  | done {c : Nat} (h : n ≤ c) : Rs s n F c
  | run {c : Nat} (h : c < n) (r : Run c (min (c + s) n) F) (t : Rs s n F (c + s)) : Rs s n F c
/-- runs of s each, up to a -/
inductive Pre (s : Nat) (F : Nat → Tg) : Nat → Prop
  | zero : Pre s F 0
  | snoc {a : Nat} (p : Pre s F a) (r : Run a (a + s) F) : Pre s F (a + s)
theorem Pre.congr {s a : Nat} {F G : Nat → Tg} (h : Pre s F a) (he : ∀ k, k < a → G k = F k) : Pre s G a := by
  induction h with
  | zero => exact .zero
  | snoc p r ih => exact .snoc (ih fun k hk => he k (by omega)) (r.congr fun k _ h2 => he k h2)
theorem Rs.congr {s n c : Nat} {F G : Nat → Tg} (h : Rs s n F c) (he : ∀ k, c ≤ k → G k = F k) : Rs s n G c := by
  induction h with
  | done h => exact .done h
  | run h r t ih => exact .run h (r.congr fun k h1 _ => he k h1) (ih fun k hk => he k (by omega))
theorem Pre.join {s n a : Nat} {F : Nat → Tg} (h : Pre s F a) (ha : a ≤ n) (hs : 0 < s) (k : Rs s n F a) : Rs s n F 0 := by
  induction h with
  | zero => exact k
  | @snoc a p r ih => exact ih (by omega) (.run (by omega) (by rw [Nat.min_eq_left ha]; exact r) k)
theorem Rs.whole {s n : Nat} {F : Nat → Tg} (h : Rs s n F 0) (hs : n ≤ s) (hn : 0 < n) : Sor lt2 0 n F := by
  cases h with
  | done h => omega
  | run h r t => rw [Nat.min_eq_right (by omega)] at r; exact r.1
theorem Rs.two {s n a : Nat} {F : Nat → Tg} (h : Rs s n F a) (hs : 0 < s) (ha : a + s < n) : Run a (a + s) F ∧ Run (a + s) (min (a + s + s) n) F ∧ Rs s n F (a + s + s) := by
  cases h with
  | done h => omega
  | run h r t =>
    rw [Nat.min_eq_left (by omega)] at r
    cases t with
    | done h => omega
    | run h r' t' => exact ⟨r, r', t'⟩
theorem Rs.one {s n a : Nat} {F : Nat → Tg} (h : Rs s n F a) (ha : a < n) (hs : n ≤ a + s) : Run a n F := by
  cases h with
  | done h => omega
  | run h r t => rw [Nat.min_eq_right hs] at r; exact r
theorem Run.tag {c m d : Nat} {F : Nat → Tg} (h1 : Run c m F) (h2 : Run m d F) : Tag c m d F := fun i j i1 i2 j1 j2 => by
  have := h1.2 i i1 i2
  have := h2.2 j j1 j2
  omega
/-- two runs merged -/
theorem Run.merged {c m d : Nat} {F G : Nat → Tg} (h1 : Run c m F) (h2 : Run m d F) (hcm : c ≤ m) (hmd : m ≤ d) (p : PermOn c d F G) (s : Sor lt2 c d G) : Run c d G :=
  ⟨s, p.all (P := fun z => c ≤ z.2 ∧ z.2 < d) fun k k1 k2 => by
    by_cases hk : k < m
    · have := h1.2 k k1 hk; omega
    · have := h2.2 k (by omega) k2; omega⟩
end Go.Bar.Mrg
namespace Go.Proofs.YtjklcojnbcemoaaGreatDoor
open Go.RowKit Go.Bar Go.Bar.Xor Go.Bar.Mrg

theorem symMerge_any (b o n c : Nat) (W : World) (hn : n < 1000000000) : ∀ (N x m y : Nat) (F : Nat → Tg) (w : World), y - x < N → Rw W b o n c (fun k => (F k).1) w → x < m → m < y → y ≤ n → Sor lt2 x m F → Sor lt2 m y F → Tag x m y F →
    Calls Tryz.prog 78 #[.slice (some ⟨b, o, none⟩) n c, .int .i64 (x : Nat), .int .i64 (m : Nat), .int .i64 (y : Nat), fvS] w (RetMg W b o n c x y F)
  | 0, _, _, _, _, _, h, _, _, _, _, _, _, _ => by omega
  | N + 1, x, m, y, F, w, hN, h, hx, hm, hy, h1, h2, ht => by
    by_cases e1 : m = x + 1
    · subst e1
      exact symLeft_any b o n c x y F W w h hm hy hn h1 h2 ht
    · by_cases e2 : y = m + 1
      · subst e2
        exact symRight_any b o n c x m F W w h (by omega) hy hn h1 h2 ht
      · exact symStep_any b o n c x m y F W w h (by omega) (by omega) hy hn h1 h2 ht (fun x' m' y' F' w' hlt h' a1 a2 a3 a4 a5 a6 => symMerge_any b o n c W hn N x' m' y' F' w' (by omega) h' a1 a2 a3 a4 a5 a6)

set_option maxHeartbeats 1000000 in
theorem insNone_any (A : Option Addr) (n c x : Nat) (fv : Value) (w : World) (hx : x < 1000000000) :
    Calls Tryz.prog 77 #[.slice A n c, .int .i64 (x : Nat), .int .i64 (x : Nat), fv] w fun e w' => e = .returned (.tuple #[]) ∧ w = w' := by
  have hx1 : IntKind.i64.wrap ((x : Int) + 1) = (x : Int) + 1 := by rw [IntKind.wrap_i64]; omega
  have hx2 : ¬ (x : Int) + 1 < (x : Int) := by omega
  go_enter Tryz.func77, Tryz.ntmps77
  go_wp2_with fail
  go_loopw [8] (fun iv wr => iv = .int .i64 ((x : Int) + 1) ∧ wr = w) (fun _ _ => 0)
  case atStart => exact ⟨rfl, rfl⟩
  case round =>
    obtain ⟨rfl, rfl⟩ := hrel
    go_wp2_with fail
    go_end0
    exact ⟨rfl, rfl⟩

theorem insRun_any (b o n c x y : Nat) (F : Nat → Tg) (W w : World) (h : Rw W b o n c (fun k => (F k).1) w) (hxy : x < y) (hy : y ≤ n) (hn : n < 1000000000) (ht : ∀ k, x ≤ k → (F k).2 = k) :
    Calls Tryz.prog 77 #[.slice (some ⟨b, o, none⟩) n c, .int .i64 (x : Nat), .int .i64 (y : Nat), fvS] w (fun e w' => e = .returned (.tuple #[]) ∧ ∃ G, PermOn x y F G ∧ Run x y G ∧ Rw W b o n c (fun k => (G k).1) w') := by
  refine (insSort_any b o n c x y F W w h hxy hy hn (fun i j h1 h2 _ => by rw [ht i h1, ht j (by omega)]; exact h2)).mono ?_
  rintro e w' ⟨rfl, G, p, s, r⟩
  exact ⟨rfl, G, p, ⟨s, p.all (P := fun z => x ≤ z.2 ∧ z.2 < y) fun k k1 k2 => by rw [ht k k1]; omega⟩, r⟩

/-- what a stable sort leaves -/
def RetSt (W : World) (b o n c : Nat) (F : Nat → Tg) (e : Ending) (w' : World) : Prop := e = .returned (.tuple #[]) ∧ ∃ G, PermOn 0 n F G ∧ Sor lt2 0 n G ∧ Rw W b o n c (fun k => (G k).1) w'

set_option maxHeartbeats 8000000 in
set_option maxRecDepth 10000 in
theorem stable_any (b o n c : Nat) (F : Nat → Tg) (W w : World) (h : Rw W b o n c (fun k => (F k).1) w) (h0 : 0 < n) (hn : n < 100000000) (ht : ∀ k, (F k).2 = k) :
    Calls Tryz.prog 66 #[.slice (some ⟨b, o, none⟩) n c, .int .i64 (n : Nat), fvS] w (RetSt W b o n c F) := by
  have hns := fun (w : World) => insNone_any (some ⟨b, o, none⟩) n c n fvS w (by omega)
  have his := fun (x y : Nat) (G : Nat → Tg) (w : World) (h : Rw W b o n c (fun k => (G k).1) w) (h1 : x < y) (h2 : y ≤ n) (ht : ∀ k, x ≤ k → (G k).2 = k) => insRun_any b o n c x y G W w h h1 h2 (by omega) ht
  have hsm := fun (x m y : Nat) (G : Nat → Tg) (w : World) (h : Rw W b o n c (fun k => (G k).1) w) (h1 : x < m) (h2 : m < y) (h3 : y ≤ n) => symMerge_any b o n c W (by omega) (y - x + 1) x m y G w (by omega) h h1 h2 h3
  have HNS := Lib.hid hns
  have HIS := Lib.hid his
  have HSM := Lib.hid hsm
  have HT := Lib.hid ht
  clear hns his hsm ht
  go_enter Tryz.func66, Tryz.ntmps66
  go_wp2_with fail
  go_loopw [7, 8] (fun av bv wr => ∃ (a : Nat) (G : Nat → Tg), av = .int .i64 a ∧ bv = .int .i64 ((a : Int) + 20) ∧ a ≤ n ∧ Hid (PermOn 0 n F G ∧ Pre 20 G a ∧ ∀ k, a ≤ k → G k = F k) ∧ Rw W b o n c (fun k => (G k).1) wr) (fun av _ _ => n + 20 - (intOf av).toNat)
  case atStart => exact ⟨0, F, rfl, rfl, Nat.zero_le _, Lib.hid ⟨PermOn.refl _ _ _, .zero, fun _ _ => rfl⟩, h⟩
  case round =>
    obtain ⟨a, G, rfl, rfl, han, HG, hR⟩ := hrel
    clear h
    by_cases hgo : a + 20 ≤ n
    · have hgz : (a : Int) + 20 ≤ (n : Int) := by omega
      have hw1 : IntKind.i64.wrap ((a : Int) + 20 + 20) = (a : Int) + 20 + 20 := by rw [IntKind.wrap_i64]; omega
      have hc := HIS.out a (a + 20) G wr hR (by omega) hgo (fun k hk => by rw [HG.out.2.2 k hk]; exact HT.out k)
      rw [show ((a + 20 : Nat) : Int) = (a : Int) + 20 by omega] at hc
      have HC := Lib.hid hc
      clear hc hR
      go_wp2_with fail
      refine HC.out.mono ?_
      rintro e w2 ⟨rfl, G', p1, r1, hR2⟩
      have HG2 : Hid (PermOn 0 n F G' ∧ Pre 20 G' (a + 20) ∧ ∀ k, a + 20 ≤ k → G' k = F k) := Lib.hid ⟨HG.out.1.trans (p1.mono (Nat.zero_le _) hgo), .snoc (HG.out.2.1.congr fun k hk => p1.out (by omega)) r1, fun k hk => by rw [p1.out (by omega)]; exact HG.out.2.2 k (by omega)⟩
      clear HC p1 r1 HG
      go_wp2_with fail
      go_roundw
      case rel => exact ⟨a + 20, G', by go_num, by go_num, hgo, HG2, hR2⟩
      case measure => simp [intOf]; omega
    · have hgz : ¬ (a : Int) + 20 ≤ (n : Int) := by omega
      have hins : Calls Tryz.prog 77 #[.slice (some ⟨b, o, none⟩) n c, .int .i64 (a : Nat), .int .i64 (n : Nat), fvS] wr (fun e w' => e = .returned (.tuple #[]) ∧ ∃ G', Hid (PermOn 0 n F G' ∧ Rs 20 n G' 0) ∧ Rw W b o n c (fun k => (G' k).1) w') := by
        rcases Nat.lt_or_ge a n with h1 | h1
        · refine (HIS.out a n G wr hR h1 (Nat.le_refl _) (fun k hk => by rw [HG.out.2.2 k hk]; exact HT.out k)).mono ?_
          rintro e w2 ⟨rfl, G', p1, r1, hR2⟩
          refine ⟨rfl, G', Lib.hid ⟨HG.out.1.trans (p1.mono (Nat.zero_le _) (Nat.le_refl _)), Pre.join (HG.out.2.1.congr fun k hk => p1.out (by omega)) han (by omega) (.run h1 ?_ (.done (by omega)))⟩, hR2⟩
          rw [Nat.min_eq_right (by omega)]
          exact r1
        · obtain rfl : a = n := by omega
          refine (HNS.out wr).mono ?_
          rintro e w2 ⟨rfl, rfl⟩
          exact ⟨rfl, G, Lib.hid ⟨HG.out.1, Pre.join HG.out.2.1 han (by omega) (.done (Nat.le_refl _))⟩, hR⟩
      have HINS := Lib.hid hins
      clear hins hR HG HIS HNS HT
      go_wp2_with fail
      refine HINS.out.mono ?_
      rintro e w2 ⟨rfl, G2, HG2, hR2⟩
      clear HINS hgz hgo
      go_wp2_with fail
      go_loopw [6] (fun sv wi => ∃ (s : Nat) (G : Nat → Tg), sv = .int .i64 s ∧ 0 < s ∧ s ≤ 200000020 ∧ Hid (PermOn 0 n F G ∧ Rs s n G 0) ∧ Rw W b o n c (fun k => (G k).1) wi) (fun sv _ => n + 1 - (intOf sv).toNat)
      case atStart => exact ⟨20, G2, rfl, by omega, by omega, HG2, hR2⟩
      case round =>
        obtain ⟨s, G, rfl, hs0, hs1, HG, hR⟩ := hrel
        clear hR2 HG2
        by_cases hgo : s < n
        · have hw1 : IntKind.i64.wrap (2 * (s : Int)) = 2 * (s : Int) := by rw [IntKind.wrap_i64]; omega
          have hw2 : IntKind.i64.wrap ((s : Int) * 2) = (s : Int) * 2 := by rw [IntKind.wrap_i64]; omega
          have hgz : (s : Int) < (n : Int) := by omega
          obtain ⟨wo, hwo⟩ : ∃ wo : World, wo = wr := ⟨_, rfl⟩
          rw [← hwo] at hR
          go_wp2_with fail
          go_loopw [7, 8] (fun av bv wi => ∃ (a : Nat) (G : Nat → Tg), av = .int .i64 a ∧ bv = .int .i64 ((a : Int) + 2 * (s : Int)) ∧ a ≤ n ∧ Hid (PermOn 0 n F G ∧ Pre (2 * s) G a ∧ Rs s n G a) ∧ Rw W b o n c (fun k => (G k).1) wi) (fun av _ _ => n + 2 * s - (intOf av).toNat)
          case atStart => exact ⟨0, G, rfl, by go_num, Nat.zero_le _, Lib.hid ⟨HG.out.1, .zero, HG.out.2⟩, by rw [← hwo]; exact hR⟩
          case round =>
            obtain ⟨a, G1, rfl, rfl, han, HG1, hR1⟩ := hrel
            clear hR HG hwo
            by_cases hg1 : a + 2 * s ≤ n
            · have hz1 : (a : Int) + 2 * (s : Int) ≤ (n : Int) := by omega
              have hw3 : IntKind.i64.wrap ((a : Int) + (s : Int)) = (a : Int) + (s : Int) := by rw [IntKind.wrap_i64]; omega
              have hw4 : IntKind.i64.wrap ((a : Int) + 2 * (s : Int) + 2 * (s : Int)) = (a : Int) + 2 * (s : Int) + 2 * (s : Int) := by rw [IntKind.wrap_i64]; omega
              obtain ⟨r1, r2, r3⟩ : Run a (a + s) G1 ∧ Run (a + s) (a + 2 * s) G1 ∧ Rs s n G1 (a + 2 * s) := by
                have h := HG1.out.2.2
                by_cases he : a + s < n
                · obtain ⟨q1, q2, q3⟩ := h.two hs0 he
                  rw [Nat.min_eq_left (by omega)] at q2
                  rw [show a + 2 * s = a + s + s by omega]
                  exact ⟨q1, q2, q3⟩
                · omega
              have hc := HSM.out a (a + s) (a + 2 * s) G1 wr hR1 (by omega) (by omega) hg1 r1.1 r2.1 (r1.tag r2)
              rw [show ((a + s : Nat) : Int) = (a : Int) + (s : Int) by omega, show ((a + 2 * s : Nat) : Int) = (a : Int) + 2 * (s : Int) by omega] at hc
              have HC := Lib.hid hc
              have HR12 := Lib.hid (And.intro r1 (And.intro r2 r3))
              clear hc hR1 r1 r2 r3
              go_wp2_with fail
              refine HC.out.mono ?_
              rintro e w3 ⟨rfl, G', p1, s1, hR2⟩
              have HG2 : Hid (PermOn 0 n F G' ∧ Pre (2 * s) G' (a + 2 * s) ∧ Rs s n G' (a + 2 * s)) := Lib.hid ⟨HG1.out.1.trans (p1.mono (Nat.zero_le _) hg1), .snoc (HG1.out.2.1.congr fun k hk => p1.out (by omega)) (HR12.out.1.merged HR12.out.2.1 (by omega) (by omega) p1 s1), HR12.out.2.2.congr fun k hk => p1.out (by omega)⟩
              clear HC p1 s1 HG1 HR12
              go_wp2_with fail
              go_roundw
              case rel => exact ⟨a + 2 * s, G', by go_num, by go_num, hg1, HG2, hR2⟩
              case measure => simp [intOf]; omega
            · have hz1 : ¬ (a : Int) + 2 * (s : Int) ≤ (n : Int) := by omega
              have hw3 : IntKind.i64.wrap ((a : Int) + (s : Int)) = (a : Int) + (s : Int) := by rw [IntKind.wrap_i64]; omega
              by_cases hg2 : a + s < n
              · have hz2 : (a : Int) + (s : Int) < (n : Int) := by omega
                obtain ⟨r1, r2, r3⟩ := HG1.out.2.2.two hs0 hg2
                rw [Nat.min_eq_right (by omega)] at r2
                have hc := HSM.out a (a + s) n G1 wr hR1 (by omega) hg2 (Nat.le_refl _) r1.1 r2.1 (r1.tag r2)
                rw [show ((a + s : Nat) : Int) = (a : Int) + (s : Int) by omega] at hc
                have HC := Lib.hid hc
                have HR12 := Lib.hid (And.intro r1 r2)
                clear hc hR1 r1 r2 r3
                go_wp2_with fail
                refine HC.out.mono ?_
                rintro e w3 ⟨rfl, G', p1, s1, hR2⟩
                have HG2 : Hid (PermOn 0 n F G' ∧ Rs (s * 2) n G' 0) := Lib.hid ⟨HG1.out.1.trans (p1.mono (Nat.zero_le _) (Nat.le_refl _)), by
                  rw [Nat.mul_comm]
                  refine Pre.join (HG1.out.2.1.congr fun k hk => p1.out (by omega)) han (by omega) (.run (by omega) ?_ (.done (by omega)))
                  rw [Nat.min_eq_right (by omega)]
                  exact HR12.out.1.merged HR12.out.2 (by omega) (by omega) p1 s1⟩
                clear HC p1 s1 HG1 HR12
                go_wp2_with fail
                go_roundw
                case rel => exact ⟨s * 2, G', by go_num, by omega, by omega, HG2, hR2⟩
                case measure => simp [intOf]; omega
              · have hz2 : ¬ (a : Int) + (s : Int) < (n : Int) := by omega
                have HG2 : Hid (PermOn 0 n F G1 ∧ Rs (s * 2) n G1 0) := Lib.hid ⟨HG1.out.1, by
                  rw [Nat.mul_comm]
                  refine Pre.join HG1.out.2.1 han (by omega) ?_
                  rcases Nat.lt_or_ge a n with h1 | h1
                  · refine .run h1 ?_ (.done (by omega))
                    rw [Nat.min_eq_right (by omega)]
                    exact HG1.out.2.2.one h1 (by omega)
                  · exact .done h1⟩
                clear HG1
                go_wp2_with fail
                go_roundw
                case rel => exact ⟨s * 2, G1, by go_num, by omega, by omega, HG2, hR1⟩
                case measure => simp [intOf]; omega
        · have hfin := HG.out.2.whole (by omega) h0
          have HFIN := Lib.hid hfin
          have HP := Lib.hid HG.out.1
          have hgz : ¬ (s : Int) < (n : Int) := by omega
          clear hfin HG
          go_wp2_with fail
          go_end0
          exact ⟨rfl, G, HP.out, HFIN.out, hR⟩
end Go.Proofs.YtjklcojnbcemoaaGreatDoor

/-
  Layer 14: SortStableFunc and CompactFunc over samples.
-/
namespace Go.Bar.Mrg
open Go.RowKit Go.Bar Go.Bar.Xor

/-- the first of each time, of a row of m that is in order -/
def ddr (f : Nat → Sm) (m : Nat) : List Sm := ((List.range m).filter (fun i => decide (i = 0) || !((f i).1 == (f (i - 1)).1))).map f
theorem ddr_succ (f : Nat → Sm) (m : Nat) (hm : 0 < m) : ddr f (m + 1) = ddr f m ++ (if (f m).1 == (f (m - 1)).1 then [] else [f m]) := by
  unfold ddr
  rw [List.range_succ, List.filter_append, List.map_append]
  congr 1
  rw [List.filter_cons]
  have h0 : decide (m = 0) = false := decide_eq_false (by omega)
  rw [h0, Bool.false_or]
  cases (f m).1 == (f (m - 1)).1 <;> rfl
theorem ddr_one (f : Nat → Sm) : ddr f 1 = [f 0] := rfl
theorem ddr_row (f : Nat → Sm) : ∀ m, (∀ i, 0 < i → i < m → ((f i).1 == (f (i - 1)).1) = false) → ddr f m = row m f
  | 0, _ => rfl
  | 1, _ => rfl
  | m + 2, h => by
    rw [ddr_succ _ _ (by omega), ddr_row f (m + 1) (fun i h1 h2 => h i h1 (by omega)), h (m + 1) (by omega) (by omega)]
    unfold row
    rw [List.range_succ (n := m + 1), List.map_append]
    rfl
theorem ddr_len (f : Nat → Sm) (m : Nat) : (ddr f m).length ≤ m := by
  unfold ddr
  rw [List.length_map]
  exact Nat.le_trans (List.length_filter_le _ _) (by rw [List.length_range]; omega)
theorem row_take {α : Type} (f : Nat → α) {k n : Nat} (h : k ≤ n) : (row n f).take k = row k f := by
  unfold row
  rw [← List.map_take, List.take_range, Nat.min_eq_left h]
theorem row_succ {α : Type} (f : Nat → α) (n : Nat) : row (n + 1) f = row n f ++ [f n] := by
  unfold row
  rw [List.range_succ, List.map_append]; rfl
end Go.Bar.Mrg
namespace Go.Proofs.YtjklcojnbcemoaaGreatDoor
open Go.RowKit Go.Bar Go.Bar.Xor Go.Bar.Mrg

set_option maxHeartbeats 1000000 in
theorem stableNone_any (A : Option Addr) (c : Nat) (w : World) :
    Calls Tryz.prog 66 #[.slice A 0 c, .int .i64 0, fvS] w fun e w' => e = .returned (.tuple #[]) ∧ w = w' := by
  have hns := insNone_any A 0 c 0 fvS w (by omega)
  have HNS := Lib.hid hns
  clear hns
  go_enter Tryz.func66, Tryz.ntmps66
  go_wp2_with fail
  go_loopw [7, 8] (fun av bv wr => av = .int .i64 0 ∧ bv = .int .i64 20 ∧ wr = w) (fun _ _ _ => 0)
  case atStart => exact ⟨rfl, rfl, rfl⟩
  case round =>
    obtain ⟨rfl, rfl, rfl⟩ := hrel
    go_wp2_with fail
    refine HNS.out.mono ?_
    rintro e w2 ⟨rfl, rfl⟩
    go_wp2_with fail
    go_loopw [6] (fun sv wi => sv = .int .i64 20 ∧ wi = wr) (fun _ _ => 0)
    case atStart => exact ⟨rfl, rfl⟩
    case round =>
      obtain ⟨rfl, rfl⟩ := hrel
      go_wp2_with fail
      go_end0
      exact ⟨rfl, rfl⟩

set_option maxHeartbeats 1000000 in
theorem sortStNone_any (A : Option Addr) (c : Nat) (w : World) :
    Calls Tryz.prog 48 #[.slice A 0 c, fvS] w fun e w' => e = .returned (.tuple #[]) ∧ w = w' := by
  have HNS := Lib.hid (stableNone_any A c w)
  go_enter Tryz.func48, Tryz.ntmps48
  go_wp2_with fail
  refine HNS.out.mono ?_
  rintro e w2 ⟨rfl, rfl⟩
  go_wp2_with fail
  go_end0
  exact ⟨rfl, rfl⟩

set_option maxHeartbeats 1000000 in
theorem sortSt_any (b o n c : Nat) (F : Nat → Tg) (W w : World) (h : Rw W b o n c (fun k => (F k).1) w) (h0 : 0 < n) (hn : n < 100000000) (ht : ∀ k, (F k).2 = k) :
    Calls Tryz.prog 48 #[.slice (some ⟨b, o, none⟩) n c, fvS] w (RetSt W b o n c F) := by
  have HNS := Lib.hid (stable_any b o n c F W w h h0 hn ht)
  go_enter Tryz.func48, Tryz.ntmps48
  go_wp2_with fail
  refine HNS.out.mono ?_
  rintro e w2 ⟨rfl, hp⟩
  have HP := Lib.hid hp
  clear hp
  go_wp2_with fail
  go_end0
  exact ⟨rfl, HP.out⟩

set_option maxHeartbeats 1000000 in
theorem samEq_any (x y : Sm) (w : World) : Calls Tryz.prog 52 #[.agg #[.int .i64 x.1, .int .u64 (x.2 : Nat)], .agg #[.int .i64 y.1, .int .u64 (y.2 : Nat)]] w (RetBelow w (.bool (x.1 == y.1))) := by
  obtain ⟨z, hz⟩ : ∃ z, z = (x.1 == y.1) := ⟨_, rfl⟩
  rw [← hz]
  have hz2 := hz.symm
  clear hz
  go_enter Tryz.func52, Tryz.ntmps52
  go_wp2_with fail
  go_ret
  exact ⟨rfl, ((Below.refl _ _).alloc (Nat.le_refl _) _).alloc (by simp) _⟩

/-- the test that CompactFunc is given -/
abbrev fvE : Value := .func (.func 52) #[] #[]

/-- what CompactFunc leaves -/
def RetCp (W : World) (b o n c : Nat) (f : Nat → Sm) (e : Ending) (w' : World) : Prop := ∃ k, k = (ddr f n).length ∧ e = .returned (.slice (some ⟨b, o, none⟩) k c) ∧ Buf w' 42 2 (.slice (some ⟨b, o, none⟩) k c) k (smc (ddr f n)) ∧ W.grownBy w' (some b)

set_option maxHeartbeats 8000000 in
set_option maxRecDepth 10000 in
theorem compact_any (b o n c : Nat) (f : Nat → Sm) (W w : World) (h : Rw W b o n c f w) (h0 : 0 < n) (hn : n < 100000000) :
    Calls Tryz.prog 51 #[.slice (some ⟨b, o, none⟩) n c, fvE] w (RetCp W b o n c f) := by
  have hnc : n ≤ c := by obtain ⟨_, _, he, hc, _⟩ := h.buf.val; injection he with _ _ h3; omega
  by_cases h2 : n < 2
  · obtain rfl : n = 1 := by omega
    have hb := h.buf
    have e : row 1 f = ddr f 1 := rfl
    rw [e] at hb
    have HB := Lib.hid (And.intro hb h.gr)
    clear hb e h
    go_enter Tryz.func51, Tryz.ntmps51
    go_wp2_with fail
    go_ret
    exact ⟨1, rfl, rfl, HB.out.1, HB.out.2⟩
  · have h2z : ¬ (n : Int) < 2 := by omega
    go_enter Tryz.func51, Tryz.ntmps51
    go_wp2_with fail
    clear h2z
    go_loopw [5] (fun kv wr => ∃ k : Nat, kv = .int .i64 k ∧ 1 ≤ k ∧ k ≤ n ∧ Hid (∀ i, 0 < i → i < k → ((f i).1 == (f (i - 1)).1) = false) ∧ Rw W b o n c f wr) (fun kv _ => n - (intOf kv).toNat)
    case atStart => exact ⟨1, rfl, Nat.le_refl _, by omega, Lib.hid (fun i h1 h2 => by omega), h⟩
    case round =>
      obtain ⟨k, rfl, hk1, hkn, HA, hR⟩ := hrel
      clear h
      by_cases hgo : k < n
      · obtain ⟨kp, rfl⟩ : ∃ kp, k = kp + 1 := ⟨k - 1, by omega⟩
        have hkn1 : kp < n := by omega
        obtain ⟨X, hX⟩ : ∃ X, X = f (kp + 1) := ⟨_, rfl⟩
        obtain ⟨Y, hY⟩ : ∃ Y, Y = f kp := ⟨_, rfl⟩
        have hat := fun (w' : World) (hb : Below wr.heap.size wr w') => (hR.below hb).at_ hgo
        have hat1 := fun (w' : World) (hb : Below wr.heap.size wr w') => (hR.below hb).at_ hkn1
        rw [← hX] at hat
        rw [← hY] at hat1
        have HAT := Lib.hid hat
        have HAT1 := Lib.hid hat1
        have HR := Lib.hid hR
        have hc := samEq_any X Y
        have HX := Lib.hid hX
        have HY := Lib.hid hY
        have hj0 : (0 : Int) ≤ (kp : Int) + 1 := by omega
        have hjt : ((kp : Int) + 1).toNat = kp + 1 := by omega
        have hjn3 : (kp : Int) + 1 < (n : Int) := by omega
        have hjn4 : (kp : Int) < (n : Int) := by omega
        have hjw : IntKind.i64.wrap (kp : Int) = (kp : Int) := by rw [IntKind.wrap_i64]; omega
        have hjw1 : IntKind.i64.wrap ((kp : Int) + 1 - 1) = (kp : Int) := by rw [IntKind.wrap_i64]; omega
        clear hat hat1 hR hX hY
        rcases hz : (X.1 == Y.1) with _ | _
        · rw [hz] at hc
          have HC := Lib.hid hc
          have hno : ∀ i, 0 < i → i < kp + 2 → ((f i).1 == (f (i - 1)).1) = false := fun i i1 i2 => by
            by_cases hi : i < kp + 1
            · exact HA.out i i1 hi
            · obtain rfl : i = kp + 1 := by omega
              rw [Nat.add_sub_cancel, ← HX.out, ← HY.out]; exact hz
          have HNO := Lib.hid hno
          clear hc hz hno HA
          go_upto_region 6 with fail
          refine wp_region_facts [(4, (isV (.agg #[.int .i64 X.1, .int .u64 (X.2 : Nat)]), noFact)), (9, (isV (.agg #[.int .i64 Y.1, .int .u64 (Y.2 : Nat)]), noFact)), (10, (isV (.bool false), noFact))] (by kernel_rfl) 66 (by kernel_rfl) rfl ?_ ?_ ?_
          · apply lookup_ne
            simp only [List.forall_mem_cons, List.not_mem_nil, false_imp_iff, implies_true, and_true]
            exact ⟨⟨_, rfl⟩, ⟨_, rfl⟩, ⟨_, rfl⟩⟩
          · apply lookup_st
            simp only [List.forall_mem_cons, List.not_mem_nil, false_imp_iff, implies_true, and_true]
            refine ⟨?_, ?_, ?_⟩
            · exact fun _ _ _ _ _ => trivial
            · exact fun _ _ _ _ _ => trivial
            · exact fun _ _ _ _ _ => trivial
          repeat (first
            | (refine Chain.step (v := ?_) (a' := ?_) rfl rfl rfl ?_ ?_ ?_
               rotate_left 2
               focus (intro w; go_simp; try with_reducible rfl)
               focus (simp only [Act.put, List.setIfInBounds_toArray, List.set_cons_succ, List.set_cons_zero]; try rfl))
            | (refine Chain.skip (a' := ?_) rfl rfl rfl ?_ ?_
               rotate_left 1
               focus (simp only [Act.put, List.setIfInBounds_toArray, List.set_cons_succ, List.set_cons_zero]; try rfl)))
          refine Chain.call' (a' := ?_) _ rfl rfl rfl rfl (fun wx hw hF => ?_) ?_ ?_
          rotate_left 1
          focus
            obtain ⟨a1, a2, _, _⟩ := HAT.out wx hw
            go_simp
            first | exact ⟨rfl, Below.refl _ _⟩ | exact Below.refl _ _
          focus (simp only [Act.put, List.setIfInBounds_toArray, List.set_cons_succ, List.set_cons_zero]; try rfl)
          repeat (first
            | (refine Chain.step (v := ?_) (a' := ?_) rfl rfl rfl ?_ ?_ ?_
               rotate_left 2
               focus (intro w; go_simp; try with_reducible rfl)
               focus (simp only [Act.put, List.setIfInBounds_toArray, List.set_cons_succ, List.set_cons_zero]; try rfl))
            | (refine Chain.skip (a' := ?_) rfl rfl rfl ?_ ?_
               rotate_left 1
               focus (simp only [Act.put, List.setIfInBounds_toArray, List.set_cons_succ, List.set_cons_zero]; try rfl)))
          refine Chain.call' (a' := ?_) _ rfl rfl rfl rfl (fun wx hw hF => ?_) ?_ ?_
          rotate_left 1
          focus
            obtain ⟨a1, a2, _, _⟩ := HAT1.out wx hw
            go_simp
            first | exact ⟨rfl, Below.refl _ _⟩ | exact Below.refl _ _
          focus (simp only [Act.put, List.setIfInBounds_toArray, List.set_cons_succ, List.set_cons_zero]; try rfl)
          repeat (first
            | (refine Chain.step (v := ?_) (a' := ?_) rfl rfl rfl ?_ ?_ ?_
               rotate_left 2
               focus (intro w; go_simp; try with_reducible rfl)
               focus (simp only [Act.put, List.setIfInBounds_toArray, List.set_cons_succ, List.set_cons_zero]; try rfl))
            | (refine Chain.skip (a' := ?_) rfl rfl rfl ?_ ?_
               rotate_left 1
               focus (simp only [Act.put, List.setIfInBounds_toArray, List.set_cons_succ, List.set_cons_zero]; try rfl)))
          refine Chain.call' (a' := ?_) _ rfl rfl rfl rfl (fun wx hw hF => ?_) ?_ ?_
          rotate_left 1
          focus
            go_simp; (with_reducible refine (HC.out _).mono ?_); exact (fun e w' ⟨h1, h2⟩ => by subst h1; exact ⟨rfl, h2⟩)
          focus (simp only [Act.put, List.setIfInBounds_toArray, List.set_cons_succ, List.set_cons_zero]; try rfl)
          repeat (first
            | (refine Chain.step (v := ?_) (a' := ?_) rfl rfl rfl ?_ ?_ ?_
               rotate_left 2
               focus (intro w; go_simp; try with_reducible rfl)
               focus (simp only [Act.put, List.setIfInBounds_toArray, List.set_cons_succ, List.set_cons_zero]; try rfl))
            | (refine Chain.skip (a' := ?_) rfl rfl rfl ?_ ?_
               rotate_left 1
               focus (simp only [Act.put, List.setIfInBounds_toArray, List.set_cons_succ, List.set_cons_zero]; try rfl)))
          refine Chain.end_ (fun wz hwz _ => ?_)
          have hR2 := HR.out.below hwz
          clear HAT HAT1 HR HC hwz
          go_wp2_with fail
          go_roundw
          case rel => exact ⟨kp + 2, by go_num, by omega, by omega, HNO, hR2⟩
          case measure => simp [intOf]; omega
        · rw [hz] at hc
          have HC := Lib.hid hc
          have HZ : Hid (((f (kp + 1)).1 == (f kp).1) = true) := Lib.hid (by rw [← HX.out, ← HY.out]; exact hz)
          clear hc hz
          go_upto_region 6 with fail
          refine wp_region_facts [(4, (isV (.agg #[.int .i64 X.1, .int .u64 (X.2 : Nat)]), noFact)), (9, (isV (.agg #[.int .i64 Y.1, .int .u64 (Y.2 : Nat)]), noFact)), (10, (isV (.bool true), noFact))] (by kernel_rfl) 66 (by kernel_rfl) rfl ?_ ?_ ?_
          · apply lookup_ne
            simp only [List.forall_mem_cons, List.not_mem_nil, false_imp_iff, implies_true, and_true]
            exact ⟨⟨_, rfl⟩, ⟨_, rfl⟩, ⟨_, rfl⟩⟩
          · apply lookup_st
            simp only [List.forall_mem_cons, List.not_mem_nil, false_imp_iff, implies_true, and_true]
            refine ⟨?_, ?_, ?_⟩
            · exact fun _ _ _ _ _ => trivial
            · exact fun _ _ _ _ _ => trivial
            · exact fun _ _ _ _ _ => trivial
          repeat (first
            | (refine Chain.step (v := ?_) (a' := ?_) rfl rfl rfl ?_ ?_ ?_
               rotate_left 2
               focus (intro w; go_simp; try with_reducible rfl)
               focus (simp only [Act.put, List.setIfInBounds_toArray, List.set_cons_succ, List.set_cons_zero]; try rfl))
            | (refine Chain.skip (a' := ?_) rfl rfl rfl ?_ ?_
               rotate_left 1
               focus (simp only [Act.put, List.setIfInBounds_toArray, List.set_cons_succ, List.set_cons_zero]; try rfl)))
          refine Chain.call' (a' := ?_) _ rfl rfl rfl rfl (fun wx hw hF => ?_) ?_ ?_
          rotate_left 1
          focus
            obtain ⟨a1, a2, _, _⟩ := HAT.out wx hw
            go_simp
            first | exact ⟨rfl, Below.refl _ _⟩ | exact Below.refl _ _
          focus (simp only [Act.put, List.setIfInBounds_toArray, List.set_cons_succ, List.set_cons_zero]; try rfl)
          repeat (first
            | (refine Chain.step (v := ?_) (a' := ?_) rfl rfl rfl ?_ ?_ ?_
               rotate_left 2
               focus (intro w; go_simp; try with_reducible rfl)
               focus (simp only [Act.put, List.setIfInBounds_toArray, List.set_cons_succ, List.set_cons_zero]; try rfl))
            | (refine Chain.skip (a' := ?_) rfl rfl rfl ?_ ?_
               rotate_left 1
               focus (simp only [Act.put, List.setIfInBounds_toArray, List.set_cons_succ, List.set_cons_zero]; try rfl)))
          refine Chain.call' (a' := ?_) _ rfl rfl rfl rfl (fun wx hw hF => ?_) ?_ ?_
          rotate_left 1
          focus
            obtain ⟨a1, a2, _, _⟩ := HAT1.out wx hw
            go_simp
            first | exact ⟨rfl, Below.refl _ _⟩ | exact Below.refl _ _
          focus (simp only [Act.put, List.setIfInBounds_toArray, List.set_cons_succ, List.set_cons_zero]; try rfl)
          repeat (first
            | (refine Chain.step (v := ?_) (a' := ?_) rfl rfl rfl ?_ ?_ ?_
               rotate_left 2
               focus (intro w; go_simp; try with_reducible rfl)
               focus (simp only [Act.put, List.setIfInBounds_toArray, List.set_cons_succ, List.set_cons_zero]; try rfl))
            | (refine Chain.skip (a' := ?_) rfl rfl rfl ?_ ?_
               rotate_left 1
               focus (simp only [Act.put, List.setIfInBounds_toArray, List.set_cons_succ, List.set_cons_zero]; try rfl)))
          refine Chain.call' (a' := ?_) _ rfl rfl rfl rfl (fun wx hw hF => ?_) ?_ ?_
          rotate_left 1
          focus
            go_simp; (with_reducible refine (HC.out _).mono ?_); exact (fun e w' ⟨h1, h2⟩ => by subst h1; exact ⟨rfl, h2⟩)
          focus (simp only [Act.put, List.setIfInBounds_toArray, List.set_cons_succ, List.set_cons_zero]; try rfl)
          repeat (first
            | (refine Chain.step (v := ?_) (a' := ?_) rfl rfl rfl ?_ ?_ ?_
               rotate_left 2
               focus (intro w; go_simp; try with_reducible rfl)
               focus (simp only [Act.put, List.setIfInBounds_toArray, List.set_cons_succ, List.set_cons_zero]; try rfl))
            | (refine Chain.skip (a' := ?_) rfl rfl rfl ?_ ?_
               rotate_left 1
               focus (simp only [Act.put, List.setIfInBounds_toArray, List.set_cons_succ, List.set_cons_zero]; try rfl)))
          refine Chain.end_ (fun wz hwz _ => ?_)
          have hR2 := HR.out.below hwz
          clear HAT HAT1 HR HC hwz HX HY
          have hq0 : Hid (row (kp + 1) f = ddr f (kp + 1 + 1)) := Lib.hid (by
            rw [ddr_succ f (kp + 1) (by omega), Nat.add_sub_cancel, HZ.out, if_pos rfl, List.append_nil, ddr_row f _ HA.out])
          obtain ⟨M, hM⟩ : ∃ M, M = n - (kp + 1) := ⟨_, rfl⟩
          clear HA HZ
          go_wp2_with fail
          rw [← hM]
          have HM := Lib.hid (show n = kp + 1 + M by omega)
          have HMle : kp + 1 + M ≤ n := by omega
          clear hM
          go_loopw [5, 7] (fun qv rv wi => ∃ (q r : Nat) (g : Nat → Sm), qv = .int .i64 q ∧ rv = .int .i64 ((r : Int) + 1) ∧ r + 1 ≤ M ∧ q ≤ kp + 1 + r ∧ Hid ((∀ i, kp + 1 + r ≤ i → g i = f i) ∧ row q g = ddr f (kp + 1 + (r + 1))) ∧ Rw W b o n c g wi) (fun _ rv _ => M - (intOf rv).toNat)
          case atStart => exact ⟨kp + 1, 0, f, by go_num, rfl, by have := HM.out; omega, Nat.le_refl _, Lib.hid ⟨fun _ _ => rfl, hq0.out⟩, hR2⟩
          case round =>
            obtain ⟨q, r, g, rfl, rfl, hrM, hqr, HG, hI⟩ := hrel
            clear hR2 hq0
            have hqn : q < n := by omega
            by_cases hg2 : r + 1 < M
            · have i1 : kp + 1 + (r + 1) < n := by omega
              have i2 : kp + 1 + r < n := by omega
              obtain ⟨X, hX⟩ : ∃ X, X = g (kp + 1 + (r + 1)) := ⟨_, rfl⟩
              obtain ⟨Y, hY⟩ : ∃ Y, Y = g (kp + 1 + r) := ⟨_, rfl⟩
              have hat := fun (w' : World) (hb : Below wr.heap.size wr w') => (hI.below hb).at_ i1
              have hat1 := fun (w' : World) (hb : Below wr.heap.size wr w') => (hI.below hb).at_ i2
              rw [← hX, show o + (kp + 1 + (r + 1)) * 2 = o + (kp + 1) * 2 + (r + 1) * 2 by omega] at hat
              rw [← hY, show o + (kp + 1 + r) * 2 = o + (kp + 1) * 2 + r * 2 by omega] at hat1
              have hfX : X = f (kp + 1 + (r + 1)) := by rw [hX]; exact HG.out.1 _ (by omega)
              have hfY : Y = f (kp + 1 + r) := by rw [hY]; exact HG.out.1 _ (by omega)
              have hs := ddr_succ f (kp + 1 + (r + 1)) (by omega)
              rw [show kp + 1 + (r + 1) - 1 = kp + 1 + r by omega, ← hfX, ← hfY, ← HG.out.2] at hs
              have HAT := Lib.hid hat
              have HAT1 := Lib.hid hat1
              have HI := Lib.hid hI
              have HS := Lib.hid hs
              have hc := samEq_any X Y
              have r0 : (0 : Int) ≤ (r : Int) + 1 := by omega
              have r1 : ((r : Int) + 1).toNat = r + 1 := by omega
              have r2 : (r : Int) + 1 < (M : Int) := by omega
              have r3 : (r : Int) < (M : Int) := by omega
              have r4 : IntKind.i64.wrap (r : Int) = (r : Int) := by rw [IntKind.wrap_i64]; omega
              have r5 : IntKind.i64.wrap ((r : Int) + 1 - 1) = (r : Int) := by rw [IntKind.wrap_i64]; omega
              have HX := Lib.hid hX
              clear hat hat1 hI hX hY hfX hfY hs
              rcases hz : (X.1 == Y.1) with _ | _
              · rw [hz] at hc HS
                rw [if_neg (by decide)] at HS
                have HC := Lib.hid hc
                clear hc hz
                go_upto_region 11 with fail
                refine wp_region_facts [(4, (isV (.agg #[.int .i64 X.1, .int .u64 (X.2 : Nat)]), noFact)), (9, (isV (.agg #[.int .i64 Y.1, .int .u64 (Y.2 : Nat)]), noFact)), (10, (isV (.bool false), noFact))] (by kernel_rfl) 66 (by kernel_rfl) rfl ?_ ?_ ?_
                · apply lookup_ne
                  simp only [List.forall_mem_cons, List.not_mem_nil, false_imp_iff, implies_true, and_true]
                  exact ⟨⟨_, rfl⟩, ⟨_, rfl⟩, ⟨_, rfl⟩⟩
                · apply lookup_st
                  simp only [List.forall_mem_cons, List.not_mem_nil, false_imp_iff, implies_true, and_true]
                  refine ⟨?_, ?_, ?_⟩
                  · exact fun _ _ _ _ _ => trivial
                  · exact fun _ _ _ _ _ => trivial
                  · exact fun _ _ _ _ _ => trivial
                repeat (first
                  | (refine Chain.step (v := ?_) (a' := ?_) rfl rfl rfl ?_ ?_ ?_
                     rotate_left 2
                     focus (intro w; go_simp; try with_reducible rfl)
                     focus (simp only [Act.put, List.setIfInBounds_toArray, List.set_cons_succ, List.set_cons_zero]; try rfl))
                  | (refine Chain.skip (a' := ?_) rfl rfl rfl ?_ ?_
                     rotate_left 1
                     focus (simp only [Act.put, List.setIfInBounds_toArray, List.set_cons_succ, List.set_cons_zero]; try rfl)))
                refine Chain.call' (a' := ?_) _ rfl rfl rfl rfl (fun wx hw hF => ?_) ?_ ?_
                rotate_left 1
                focus
                  obtain ⟨a1, a2, _, _⟩ := HAT.out wx hw
                  go_simp
                  first | exact ⟨rfl, Below.refl _ _⟩ | exact Below.refl _ _
                focus (simp only [Act.put, List.setIfInBounds_toArray, List.set_cons_succ, List.set_cons_zero]; try rfl)
                repeat (first
                  | (refine Chain.step (v := ?_) (a' := ?_) rfl rfl rfl ?_ ?_ ?_
                     rotate_left 2
                     focus (intro w; go_simp; try with_reducible rfl)
                     focus (simp only [Act.put, List.setIfInBounds_toArray, List.set_cons_succ, List.set_cons_zero]; try rfl))
                  | (refine Chain.skip (a' := ?_) rfl rfl rfl ?_ ?_
                     rotate_left 1
                     focus (simp only [Act.put, List.setIfInBounds_toArray, List.set_cons_succ, List.set_cons_zero]; try rfl)))
                refine Chain.call' (a' := ?_) _ rfl rfl rfl rfl (fun wx hw hF => ?_) ?_ ?_
                rotate_left 1
                focus
                  obtain ⟨a1, a2, _, _⟩ := HAT1.out wx hw
                  go_simp
                  first | exact ⟨rfl, Below.refl _ _⟩ | exact Below.refl _ _
                focus (simp only [Act.put, List.setIfInBounds_toArray, List.set_cons_succ, List.set_cons_zero]; try rfl)
                repeat (first
                  | (refine Chain.step (v := ?_) (a' := ?_) rfl rfl rfl ?_ ?_ ?_
                     rotate_left 2
                     focus (intro w; go_simp; try with_reducible rfl)
                     focus (simp only [Act.put, List.setIfInBounds_toArray, List.set_cons_succ, List.set_cons_zero]; try rfl))
                  | (refine Chain.skip (a' := ?_) rfl rfl rfl ?_ ?_
                     rotate_left 1
                     focus (simp only [Act.put, List.setIfInBounds_toArray, List.set_cons_succ, List.set_cons_zero]; try rfl)))
                refine Chain.call' (a' := ?_) _ rfl rfl rfl rfl (fun wx hw hF => ?_) ?_ ?_
                rotate_left 1
                focus
                  go_simp; (with_reducible refine (HC.out _).mono ?_); exact (fun e w' ⟨h1, h2⟩ => by subst h1; exact ⟨rfl, h2⟩)
                focus (simp only [Act.put, List.setIfInBounds_toArray, List.set_cons_succ, List.set_cons_zero]; try rfl)
                repeat (first
                  | (refine Chain.step (v := ?_) (a' := ?_) rfl rfl rfl ?_ ?_ ?_
                     rotate_left 2
                     focus (intro w; go_simp; try with_reducible rfl)
                     focus (simp only [Act.put, List.setIfInBounds_toArray, List.set_cons_succ, List.set_cons_zero]; try rfl))
                  | (refine Chain.skip (a' := ?_) rfl rfl rfl ?_ ?_
                     rotate_left 1
                     focus (simp only [Act.put, List.setIfInBounds_toArray, List.set_cons_succ, List.set_cons_zero]; try rfl)))
                refine Chain.end_ (fun wz hwz _ => ?_)
                have hI2 := HI.out.below hwz
                obtain ⟨a1, a2, a3, a4⟩ := HAT.out wz hwz
                obtain ⟨b1, b2, b3, b4⟩ := hI2.at_ hqn
                have hput := hI2.put hqn X
                have hlt := hI2.lt h0
                have HG2 : Hid ((∀ i, kp + 1 + (r + 1) ≤ i → (fun k => if k = q then X else g k) i = f i) ∧ row (q + 1) (fun k => if k = q then X else g k) = ddr f (kp + 1 + (r + 1 + 1))) := Lib.hid ⟨fun i hi => by
                  show (if i = q then X else g i) = f i
                  rw [if_neg (by omega)]
                  exact HG.out.1 i (by omega), by
                  rw [show kp + 1 + (r + 1 + 1) = kp + 1 + (r + 1) + 1 by omega, HS.out, row_succ, if_pos rfl]
                  congr 1
                  exact row_congr fun k hk => if_neg (by omega)⟩
                have HPUT := Lib.hid hput
                clear HAT HAT1 HI HC hwz hI2 hput HG HS HX
                go_wp2_with fail
                go_roundw
                case rel => exact ⟨q + 1, r + 1, _, by go_num, by go_num, by omega, by omega, HG2, HPUT.out⟩
                case measure => simp [intOf]; omega
              · rw [hz] at hc HS
                rw [if_pos rfl, List.append_nil] at HS
                have HC := Lib.hid hc
                clear hc hz
                go_upto_region 11 with fail
                refine wp_region_facts [(4, (isV (.agg #[.int .i64 X.1, .int .u64 (X.2 : Nat)]), noFact)), (9, (isV (.agg #[.int .i64 Y.1, .int .u64 (Y.2 : Nat)]), noFact)), (10, (isV (.bool true), noFact))] (by kernel_rfl) 66 (by kernel_rfl) rfl ?_ ?_ ?_
                · apply lookup_ne
                  simp only [List.forall_mem_cons, List.not_mem_nil, false_imp_iff, implies_true, and_true]
                  exact ⟨⟨_, rfl⟩, ⟨_, rfl⟩, ⟨_, rfl⟩⟩
                · apply lookup_st
                  simp only [List.forall_mem_cons, List.not_mem_nil, false_imp_iff, implies_true, and_true]
                  refine ⟨?_, ?_, ?_⟩
                  · exact fun _ _ _ _ _ => trivial
                  · exact fun _ _ _ _ _ => trivial
                  · exact fun _ _ _ _ _ => trivial
                repeat (first
                  | (refine Chain.step (v := ?_) (a' := ?_) rfl rfl rfl ?_ ?_ ?_
                     rotate_left 2
                     focus (intro w; go_simp; try with_reducible rfl)
                     focus (simp only [Act.put, List.setIfInBounds_toArray, List.set_cons_succ, List.set_cons_zero]; try rfl))
                  | (refine Chain.skip (a' := ?_) rfl rfl rfl ?_ ?_
                     rotate_left 1
                     focus (simp only [Act.put, List.setIfInBounds_toArray, List.set_cons_succ, List.set_cons_zero]; try rfl)))
                refine Chain.call' (a' := ?_) _ rfl rfl rfl rfl (fun wx hw hF => ?_) ?_ ?_
                rotate_left 1
                focus
                  obtain ⟨a1, a2, _, _⟩ := HAT.out wx hw
                  go_simp
                  first | exact ⟨rfl, Below.refl _ _⟩ | exact Below.refl _ _
                focus (simp only [Act.put, List.setIfInBounds_toArray, List.set_cons_succ, List.set_cons_zero]; try rfl)
                repeat (first
                  | (refine Chain.step (v := ?_) (a' := ?_) rfl rfl rfl ?_ ?_ ?_
                     rotate_left 2
                     focus (intro w; go_simp; try with_reducible rfl)
                     focus (simp only [Act.put, List.setIfInBounds_toArray, List.set_cons_succ, List.set_cons_zero]; try rfl))
                  | (refine Chain.skip (a' := ?_) rfl rfl rfl ?_ ?_
                     rotate_left 1
                     focus (simp only [Act.put, List.setIfInBounds_toArray, List.set_cons_succ, List.set_cons_zero]; try rfl)))
                refine Chain.call' (a' := ?_) _ rfl rfl rfl rfl (fun wx hw hF => ?_) ?_ ?_
                rotate_left 1
                focus
                  obtain ⟨a1, a2, _, _⟩ := HAT1.out wx hw
                  go_simp
                  first | exact ⟨rfl, Below.refl _ _⟩ | exact Below.refl _ _
                focus (simp only [Act.put, List.setIfInBounds_toArray, List.set_cons_succ, List.set_cons_zero]; try rfl)
                repeat (first
                  | (refine Chain.step (v := ?_) (a' := ?_) rfl rfl rfl ?_ ?_ ?_
                     rotate_left 2
                     focus (intro w; go_simp; try with_reducible rfl)
                     focus (simp only [Act.put, List.setIfInBounds_toArray, List.set_cons_succ, List.set_cons_zero]; try rfl))
                  | (refine Chain.skip (a' := ?_) rfl rfl rfl ?_ ?_
                     rotate_left 1
                     focus (simp only [Act.put, List.setIfInBounds_toArray, List.set_cons_succ, List.set_cons_zero]; try rfl)))
                refine Chain.call' (a' := ?_) _ rfl rfl rfl rfl (fun wx hw hF => ?_) ?_ ?_
                rotate_left 1
                focus
                  go_simp; (with_reducible refine (HC.out _).mono ?_); exact (fun e w' ⟨h1, h2⟩ => by subst h1; exact ⟨rfl, h2⟩)
                focus (simp only [Act.put, List.setIfInBounds_toArray, List.set_cons_succ, List.set_cons_zero]; try rfl)
                repeat (first
                  | (refine Chain.step (v := ?_) (a' := ?_) rfl rfl rfl ?_ ?_ ?_
                     rotate_left 2
                     focus (intro w; go_simp; try with_reducible rfl)
                     focus (simp only [Act.put, List.setIfInBounds_toArray, List.set_cons_succ, List.set_cons_zero]; try rfl))
                  | (refine Chain.skip (a' := ?_) rfl rfl rfl ?_ ?_
                     rotate_left 1
                     focus (simp only [Act.put, List.setIfInBounds_toArray, List.set_cons_succ, List.set_cons_zero]; try rfl)))
                refine Chain.end_ (fun wz hwz _ => ?_)
                have hI2 := HI.out.below hwz
                have HG2 : Hid ((∀ i, kp + 1 + (r + 1) ≤ i → g i = f i) ∧ row q g = ddr f (kp + 1 + (r + 1 + 1))) := Lib.hid ⟨fun i hi => HG.out.1 i (by omega), by rw [show kp + 1 + (r + 1 + 1) = kp + 1 + (r + 1) + 1 by omega, HS.out]⟩
                clear HAT HAT1 HI HC hwz HG HS HX
                go_wp2_with fail
                go_roundw
                case rel => exact ⟨q, r + 1, g, rfl, by go_num, by omega, by omega, HG2, hI2⟩
                case measure => simp [intOf]; omega
            · obtain rfl : r + 1 = M := by omega
              have hfin := HG.out.2
              rw [← HM.out] at hfin
              obtain ⟨vs, hcl⟩ := run_clear_buf (P := Tryz.prog) (t := 48) sm_ty.slice (z := .agg #[.int .i64 0, .int .u64 0]) (fun w => by kernel_rfl) (by simp [Value.cells, Value.oneCell']) (sz := 2) rfl (by decide) hI.buf q (n - q) (c - q) (by omega) (by omega)
              have hb1 := hI.buf.first q (by omega)
              have hb2 := Buf.behinds vs (o + q * 2) wr hb1 (Nat.le_refl _)
              have hg3 := grownBy_setCells vs (o + q * 2) wr hI.gr
              rw [smc_take, row_take _ (by omega), hfin] at hb2
              have hql : q = (ddr f n).length := by rw [← hfin, row_len]
              have HQ := Lib.hid hql
              have HB2 := Lib.hid (And.intro hb2 hg3)
              have hq1 : (q : Int) < (n : Int) := by omega
              have hq2 : (q : Int) ≤ (n : Int) := by omega
              have hq3 : q ≤ c := by omega
              clear hb1 hb2 hg3 hql hfin HG hI
              go_wp2_with fail
              go_ret
              exact ⟨q, HQ.out, rfl, HB2.out.1, HB2.out.2⟩
      · obtain rfl : k = n := by omega
        have hb := hR.buf
        rw [← ddr_row f k HA.out] at hb
        have hl : k = (ddr f k).length := by rw [ddr_row f k HA.out, row_len]
        have HB := Lib.hid (And.intro hb hR.gr)
        have HL := Lib.hid hl
        clear hb hl HA hR
        go_wp2_with fail
        go_ret
        exact ⟨k, HL.out, rfl, HB.out.1, HB.out.2⟩
end Go.Proofs.YtjklcojnbcemoaaGreatDoor

/-
  Layer 14: the walk of merge.Samples.
-/
namespace Go.Bar.Mrg
open Go.RowKit Go.Bar Go.Bar.Xor

theorem lk_ddr (f : Nat → Sm) (t : Int) : ∀ n, lk (ddr f n) t = lk (row n f) t
  | 0 => rfl
  | 1 => rfl
  | n + 2 => by
    rw [ddr_succ _ _ (by omega), lk_append, lk_ddr f t (n + 1), lk_row_succ f (n + 1), Nat.add_sub_cancel]
    by_cases h : (f (n + 1)).1 = (f n).1
    · rw [if_pos (beq_iff_eq.2 h), lk_nil, Option.or_none, lk_cons, lk_nil]
      by_cases e : (f (n + 1)).1 = t
      · rcases hh : lk (row (n + 1) f) t with _ | x
        · exact absurd (lk_none.1 hh _ (row_mem.2 ⟨n, by omega, rfl⟩)) (fun hc => hc (by omega))
        · rfl
      · rw [if_neg e, Option.or_none]
    · rw [if_neg (by rw [beq_iff_eq]; exact h)]
theorem ddr_mem {f : Nat → Sm} {n : Nat} {z : Sm} (h : z ∈ ddr f n) : ∃ k, k < n ∧ f k = z := by
  unfold ddr at h
  obtain ⟨k, hk, rfl⟩ := List.mem_map.1 h
  exact ⟨k, List.mem_range.1 (List.mem_filter.1 hk).1, rfl⟩
theorem ddr_ris {f : Nat → Sm} : ∀ n, (∀ i j, i ≤ j → j < n → (f i).1 ≤ (f j).1) → Ris (ddr f n)
  | 0, _ => ris_nil
  | 1, _ => List.pairwise_singleton _ _
  | n + 2, h => by
    rw [ddr_succ _ _ (by omega), Nat.add_sub_cancel]
    have ih := ddr_ris (n + 1) (fun i j h1 h2 => h i j h1 (by omega))
    by_cases he : (f (n + 1)).1 = (f n).1
    · rw [if_pos (beq_iff_eq.2 he), List.append_nil]; exact ih
    · rw [if_neg (by rw [beq_iff_eq]; exact he)]
      refine List.pairwise_append.2 ⟨ih, List.pairwise_singleton _ _, fun a ha b hb => ?_⟩
      obtain rfl := List.mem_singleton.1 hb
      obtain ⟨k, hk, rfl⟩ := ddr_mem ha
      have h1 := h k n (by omega) (by omega)
      have h2 := h n (n + 1) (by omega) (by omega)
      omega
theorem stable_ddr {l : List Sm} {n : Nat} {f : Nat → Sm} (hl : row n f = l) {G : Nat → Tg} (p : PermOn 0 n (fun k => (f k, k)) G) (s : Sor lt2 0 n G) : ddr (fun k => (G k).1) n = putAll [] l := by
  refine ris_ext (ddr_ris n fun i j h1 h2 => s.le (Nat.zero_le _) h1 h2) (ris_nil.putAll _) fun t => ?_
  rw [lk_ddr, lk_stable p s, lk_putAll ris_nil, lk_nil, Option.none_or, hl]
end Go.Bar.Mrg
namespace Go.Proofs.YtjklcojnbcemoaaGreatDoor
open Go.RowKit Go.Bar Go.Bar.Xor Go.Bar.Mrg

/-- lists of samples, a slice of slices: the slices at w, their samples at w0 -/
def LsAt (w0 w : World) (v : Value) (ls : List (List Sm)) : Prop := ∃ vs : List Value, vs.length = ls.length ∧ SlAt w 1 v ls.length vs ∧ ∀ (i : Nat) (x : List Sm), ls[i]? = some x → ∃ A c, vs[i]? = some (.slice A x.length c) ∧ SmsAt w0 (.slice A x.length c) x
theorem LsAt.below {w0 w w' : World} {v : Value} {ls : List (List Sm)} (h : LsAt w0 w v ls) (hb : Below w.heap.size w w') : LsAt w0 w' v ls := by
  obtain ⟨vs, h1, h2, h3⟩ := h
  exact ⟨vs, h1, h2.below hb, h3⟩
theorem LsAt.base {w0 w w1 : World} {v : Value} {ls : List (List Sm)} (h : LsAt w0 w v ls) (hb : Below w0.heap.size w0 w1) : LsAt w1 w v ls := by
  obtain ⟨vs, h1, h2, h3⟩ := h
  refine ⟨vs, h1, h2, fun i x hx => ?_⟩
  obtain ⟨A, c, e, h⟩ := h3 i x hx
  exact ⟨A, c, e, h.below hb⟩
theorem LsAt.shape {w0 w : World} {v : Value} {ls : List (List Sm)} (h : LsAt w0 w v ls) : ∃ A c, v = .slice A ls.length c ∧ ls.length ≤ c ∧ c ≤ maxLen := by
  obtain ⟨vs, h1, h2, h3⟩ := h
  exact h2.shape
theorem LsAt.at_ {w0 w : World} {A : Option Addr} {n c i : Nat} {ls : List (List Sm)} {x : List Sm} (h : LsAt w0 w (.slice A n c) ls) (hi : ls[i]? = some x) : ∃ b o B d, A = some ⟨b, o, none⟩ ∧ w.cell? ⟨b, o + i, none⟩ = some (.slice B x.length d) ∧ SmsAt w0 (.slice B x.length d) x := by
  obtain ⟨vs, h1, h2, h3⟩ := h
  have hlt : i < ls.length := (List.getElem?_eq_some_iff.1 hi).1
  obtain ⟨A', c', he, _⟩ := h2.shape
  injection he with e1 e2 e3
  subst e1; subst e2; subst e3
  obtain ⟨B, d, e, hs⟩ := h3 i x hi
  obtain ⟨b, o, rfl, hb, hc⟩ := SlAt.cells h2 (by omega)
  exact ⟨b, o, B, d, rfl, hc i _ e, hs⟩
/-- samples, made by the call -/
def RetSms (w : World) (l : List Sm) (e : Ending) (w' : World) : Prop := ∃ v, e = .returned v ∧ NBuf w w' 42 2 v l.length (smc l)

set_option maxHeartbeats 1000000 in
theorem compactNone_any (A : Option Addr) (c : Nat) (fv : Value) (w : World) :
    Calls Tryz.prog 51 #[.slice A 0 c, fv] w fun e w' => e = .returned (.slice A 0 c) ∧ w = w' := by
  go_enter Tryz.func51, Tryz.ntmps51
  go_wp2_with fail
  go_ret
  exact ⟨rfl, rfl⟩

theorem flatten_take_succ {ls : List (List Sm)} {k : Nat} {x : List Sm} (h : ls[k]? = some x) : (ls.take (k + 1)).flatten = (ls.take k).flatten ++ x := by
  rw [List.take_add_one, h, List.flatten_append, Option.toList_some]; simp
theorem flatten_take_len (ls : List (List Sm)) (k : Nat) : (ls.take k).flatten.length ≤ ls.flatten.length := by
  have h : ls.flatten = (ls.take k).flatten ++ (ls.drop k).flatten := by rw [← List.flatten_append, List.take_append_drop]
  rw [h, List.length_append]; omega
theorem row_list (l : List Sm) : row l.length (fun k => l.getD k (0, 0)) = l := by
  refine List.ext_getElem? fun k => ?_
  by_cases h : k < l.length
  · rw [row_at _ h, List.getD_eq_getElem?_getD, List.getElem?_eq_getElem h]; rfl
  · rw [List.getElem?_eq_none (by rw [row_len]; omega), List.getElem?_eq_none (by omega)]

set_option maxHeartbeats 8000000 in
set_option maxRecDepth 10000 in
theorem mSamples_any (v : Value) (ls : List (List Sm)) (w : World) (h : LsAt w w v ls) (_hl : ls.length ≤ 1000000) (hn : ls.flatten.length ≤ 10000000) :
    Calls Tryz.prog 29 #[v] w (RetSms w (smp ls)) := by
  obtain ⟨A, c, rfl, hlc, hcm⟩ := h.shape
  unfold maxLen at hcm
  go_enter Tryz.func29, Tryz.ntmps29
  go_wp2_with fail
  go_loopw [3, 8] (fun ov iv wr => ∃ k : Nat, iv = .int .i64 k ∧ k ≤ ls.length ∧ NBuf w wr 42 2 ov (ls.take k).flatten.length (smc (ls.take k).flatten)) (fun _ iv _ => ls.length - (intOf iv).toNat)
  case atStart => exact ⟨0, rfl, Nat.zero_le _, NBuf.nil (Below.refl _ _) _ _⟩
  case round =>
    obtain ⟨k, rfl, hk, hnb⟩ := hrel
    have hlk := flatten_take_len ls k
    by_cases hgo : k < ls.length
    · obtain ⟨x, hx⟩ : ∃ x, ls[k]? = some x := ⟨_, List.getElem?_eq_getElem hgo⟩
      obtain ⟨bb, o, B, d, hA, hc, hs⟩ := (h.below hnb.below).at_ hx
      have hft := flatten_take_succ hx
      have hlk2 := flatten_take_len ls (k + 1)
      rw [hft, List.length_append] at hlk2
      have hsrc := SlAt.src (P := Tryz.prog) (hs.below hnb.below) (by omega) (t := 48) Tryz.underlying48 (smc1 x)
      obtain ⟨L, hL⟩ : ∃ L, L = (ls.take k).flatten := ⟨_, rfl⟩
      rw [← hL] at hnb hft hlk hlk2
      have hci : (0 : Int) ≤ (k : Int) := by omega
      have HFT := Lib.hid hft
      have HSRC := Lib.hid hsrc
      have HA := Lib.hid hA
      obtain ⟨oA, oc, rfl, hoc⟩ := hnb.buf.shape
      clear hx hft hsrc hA hs hL
      rw [HA.out]
      go_wp2_with (at_builtin; refine wpList_append_el rfl (.tmp 12) (.tmp 13) 48 48 rfl sm_ty rfl hnb.buf rfl HSRC.out (by simp only [maxLen]; omega) (by omega) ?_; intro v8 w8 hb8 ha8 hg8; have hn8 := hnb.step hb8 ha8 hg8; clear hb8 ha8 hg8)
      go_roundw
      case rel => exact ⟨k + 1, by go_num, by omega, by rw [HFT.out, List.length_append, smc_append]; exact hn8⟩
      case measure => simp [intOf]; omega
    · obtain rfl : k = ls.length := by omega
      rw [List.take_length] at hnb
      obtain ⟨L, hL⟩ : ∃ L, L = ls.flatten := ⟨_, rfl⟩
      have hsm : smp ls = putAll [] L := by rw [hL]; rfl
      rw [← hL] at hnb hn
      have HSM := Lib.hid hsm
      obtain ⟨n, hnn⟩ : ∃ n, n = L.length := ⟨_, rfl⟩
      rw [← hnn] at hnb hn
      obtain ⟨oA, oc, rfl, hoc⟩ := hnb.buf.shape
      clear hlk hL hsm h
      rcases Nat.eq_zero_or_pos n with h0 | h0
      · subst h0
        obtain rfl : L = [] := List.eq_nil_of_length_eq_zero hnn.symm
        have H1 := Lib.hid (sortStNone_any oA oc wr)
        have H2 := Lib.hid (compactNone_any oA oc fvE wr)
        have HN := Lib.hid hnb
        clear hnb hnn
        go_wp2_with fail
        refine H1.out.mono ?_
        rintro e w2 ⟨rfl, rfl⟩
        go_wp2_with fail
        refine H2.out.mono ?_
        rintro e w2 ⟨rfl, rfl⟩
        go_wp2_with fail
        go_ret
        exact ⟨_, rfl, by rw [HSM.out]; exact HN.out⟩
      · obtain ⟨b, o, hA2, hlt⟩ := hnb.buf.some_at h0
        subst hA2
        obtain ⟨f, hf⟩ : ∃ f : Nat → Sm, f = fun k => L.getD k (0, 0) := ⟨_, rfl⟩
        have hrow : row n f = L := by rw [hf, hnn]; exact row_list L
        have hR : Rw wr b o n oc f wr := ⟨by rw [hrow]; exact hnb.buf, World.grownBy.refl _ _⟩
        have hst := sortSt_any b o n oc (fun k => (f k, k)) wr wr hR h0 (by omega) (fun _ => rfl)
        have HST := Lib.hid hst
        have HROW := Lib.hid hrow
        have HN := Lib.hid hnb
        clear hst hrow hR hnb hf hnn
        go_wp2_with fail
        refine HST.out.mono ?_
        rintro e w2 ⟨rfl, G, p, s, hR2⟩
        have hcp := compact_any b o n oc (fun k => (G k).1) wr w2 hR2 h0 (by omega)
        have hd := stable_ddr HROW.out p s
        unfold RetCp at hcp
        rw [hd] at hcp
        have HCP := Lib.hid hcp
        clear hcp hd p s hR2 HST
        go_wp2_with fail
        refine HCP.out.mono ?_
        rintro e w3 ⟨k, hk2, rfl, hb, hg⟩
        have hB : w.heap.size ≤ b := HN.out.new b rfl
        have HB := Lib.hid (show NBuf w w3 42 2 (.slice (some ⟨b, o, none⟩) k oc) (putAll [] L).length (smc (putAll [] L)) from ⟨by rw [← hk2]; exact hb, grown_below HN.out.below hg hB (Nat.le_refl _), HN.out.new⟩)
        clear hb hg hk2 HCP
        go_wp2_with fail
        go_ret
        exact ⟨_, rfl, by rw [HSM.out]; exact HB.out⟩
end Go.Proofs.YtjklcojnbcemoaaGreatDoor
