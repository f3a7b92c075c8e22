/-
  Plain mathematics of layers 10 and 20 (listings and plans): no program in sight; no condition.
-/
import Derived.Test.YtemmgejaoegpfaaMetM
import Derived.Test.YtemmgejaoegpfaaLabM
namespace Go.Bar.Pln
open Go.RowKit Go.Bar Go.Bar.Leb Go.Bar.Frm Go.Bar.Idt Go.Bar.Met

/-- marks: when a block was marked -/
abbrev Marks := List UInt8 → Option Int
/-- how often a text is on a list, as a map -/
def cntF (L : List (List UInt8)) : List UInt8 → Option Int := fun x => if L.count x = 0 then none else some (L.count x : Int)
theorem cntF_nil : cntF [] = fun _ => none := by funext x; simp [cntF]
theorem cntF_getD (L : List (List UInt8)) (s : List UInt8) : (cntF L s).getD 0 = (L.count s : Int) := by
  unfold cntF
  split
  · rename_i h; rw [h]; rfl
  · rfl
theorem cntF_snoc (L : List (List UInt8)) (s : List UInt8) : cntF (L ++ [s]) = fun x => if x = s then some ((L.count s : Int) + 1) else cntF L x := by
  funext x
  unfold cntF
  by_cases h : x = s
  · subst h
    rw [if_pos rfl, List.count_append, List.count_singleton_self, if_neg (by omega)]
    rfl
  · rw [if_neg h, List.count_append, List.count_eq_zero_of_not_mem (a := x) (l := [s]) (by simpa using h)]
    rfl
/-- all sources -/
def srcs (l : List Mt) : List (List UInt8) := l.flatMap (·.ss)
theorem srcs_append (l m : List Mt) : srcs (l ++ m) = srcs l ++ srcs m := List.flatMap_append
def gone (l : List Mt) (id : List UInt8) : Nat := (srcs l).count id
/-- those of which none is made -/
def live (l : List Mt) : List Mt := l.filter (fun x => gone l x.id == 0)
def freeU (l : List Mt) (mk : Marks) : List Mt := (live l).filter (fun x => (mk x.id).isNone)
/-- by times, then names -/
def lt2 (x y : Mt) : Bool := decide (x.mn < y.mn) || (x.mn == y.mn && decide (x.id < y.id))
def ins (x : Mt) : List Mt → List Mt
  | [] => [x]
  | y :: r => if lt2 x y then x :: y :: r else y :: ins x r
def srt (l : List Mt) : List Mt := l.foldl (fun out x => ins x out) []
def free (l : List Mt) (mk : Marks) : List Mt := srt (freeU l mk)

/-- a plan -/
structure Pl where
  fr : Int
  to_ : Int
  lv : Int
  ms : List Mt
def size (x : Mt) : Int := (x.fs.getD 0 ⟨[], 0, 0⟩).size + (x.fs.getD 1 ⟨[], 0, 0⟩).size
def pl0 : Pl := ⟨0, 0, 0, []⟩
def add (p : Pl) (x : Mt) : Pl := ⟨min (if p.ms.length = 0 then x.mn else p.fr) x.mn, max (if p.ms.length = 0 then x.mx else p.to_) x.mx, max p.lv x.lv, p.ms ++ [x]⟩
def over (b s a : Int) (n : Nat) : Prop := 262144 < b ∨ 10000 < s ∨ 40000 < a ∨ n = 20
instance (b s a : Int) (n : Nat) : Decidable (over b s a n) := by unfold over; exact inferInstance
def ofGo : List Mt → Int → Int → Int → Pl → Pl
  | [], _, _, _, p => p
  | x :: r, b, s, a, p => if over (b + size x) (s + x.sr) (a + x.sm) p.ms.length then p else ofGo r (b + size x) (s + x.sr) (a + x.sm) (add p x)
def fin (p : Pl) : Pl := { p with lv := min (p.lv + 1) 9 }
def of (l : List Mt) : Pl := fin (ofGo l 0 0 0 pl0)
def base (m : Mt) (wide : Int) : Int := m.mn - m.mn.tmod wide
def inG (m x : Mt) (wide : Int) : Bool := decide (base x wide = base m wide) && decide (x.mx ≤ base m wide + wide)
def group (all : List Mt) (wide : Int) (i : Nat) : List Mt := (all.drop i).filter (fun x => inG (all.getD i ⟨[], 0, 0, 0, 0, 0, [], []⟩) x wide)
def tryP (all : List Mt) (wide : Int) (i : Nat) : Option Pl := if 1 < (of (group all wide i)).ms.length then some (of (group all wide i)) else none
def nextIn (all : List Mt) (wide : Int) : Option Pl := (List.range all.length).findSome? (tryP all wide)
def nextOf (all : List Mt) (width : Int) : Option Pl := (nextIn all (max width 1 * 3)).or (nextIn all (max width 1 * 9))
def next (l : List Mt) (mk : Marks) (width : Int) : Option Pl := nextOf (free l mk) width
def unmarked (l : List Mt) (mk : Marks) : List Mt := l.filter (fun x => (mk x.id).isNone)
def toMark (l : List Mt) (mk : Marks) : List (List UInt8) := (l.filter (fun x => decide (0 < gone (unmarked l mk) x.id) && (mk x.id).isNone)).map (·.id)
def rank (l : List Mt) (mk : Marks) : Int := max (((free l mk).length : Int) - 1) 0

/-- a meta whose numbers are small -/
structure Sm (m : Mt) : Prop where
  id : m.id.length ≤ 1000
  ss : ∀ s ∈ m.ss, s.length ≤ 1000
  sl : m.ss.length ≤ 1000
  mn : 0 ≤ m.mn ∧ m.mn ≤ 1000000
  mx : 0 ≤ m.mx ∧ m.mx ≤ 1000000
  lv : 0 ≤ m.lv ∧ m.lv ≤ 1000
  sr : 0 ≤ m.sr ∧ m.sr ≤ 1000000
  sm : 0 ≤ m.sm ∧ m.sm ≤ 1000000
  fs : ∃ f g, m.fs = [f, g] ∧ 0 ≤ f.size ∧ f.size ≤ 1000000 ∧ 0 ≤ g.size ∧ g.size ≤ 1000000
/-- a list of such, by rising names -/
structure Lst (l : List Mt) : Prop where
  sm : ∀ m ∈ l, Sm m
  len : l.length ≤ 1000
  asc : l.Pairwise (fun a b => a.id < b.id)

theorem nextIn_some {all : List Mt} {wide : Int} {i : Nat} {p : Pl} (h : ∀ j, j < i → tryP all wide j = none) (hi : i < all.length) (hp : tryP all wide i = some p) : nextIn all wide = some p := by
  unfold nextIn
  rw [List.findSome?_eq_some_iff]
  refine ⟨List.range i, i, List.range' (i + 1) (all.length - (i + 1)), ?_, hp, fun j hj => h j (by simpa using hj)⟩
  rw [List.range_eq_range', List.range_eq_range']
  have h1 := @List.range'_append_1 0 i (all.length - i)
  rw [show i + (all.length - i) = all.length by omega, Nat.zero_add, show all.length - i = (all.length - (i + 1)) + 1 by omega, List.range'_succ] at h1
  exact h1.symm
theorem nextIn_none {all : List Mt} {wide : Int} (h : ∀ j, j < all.length → tryP all wide j = none) : nextIn all wide = none := by
  unfold nextIn
  rw [List.findSome?_eq_none_iff]
  intro j hj
  exact h j (by simpa using hj)

/-! ### sorted lists -/
theorem b_lt_irr (a : List UInt8) : ¬ a < a := List.lt_irrefl a
theorem lt2_irr (x : Mt) : lt2 x x = false := by unfold lt2; simp [List.lt_irrefl]
theorem lt2_iff {x y : Mt} : lt2 x y = true ↔ x.mn < y.mn ∨ x.mn = y.mn ∧ x.id < y.id := by unfold lt2; simp
theorem lt2_trans {x y z : Mt} (h : lt2 x y = true) (k : lt2 y z = true) : lt2 x z = true := by
  rw [lt2_iff] at *
  rcases h with h | ⟨h1, h2⟩ <;> rcases k with k | ⟨k1, k2⟩
  · left; omega
  · left; omega
  · left; omega
  · right; exact ⟨by omega, List.lt_trans h2 k2⟩
theorem ins_perm (x : Mt) : ∀ l, (ins x l).Perm (x :: l)
  | [] => .refl _
  | y :: r => by
    unfold ins
    split
    · exact .refl _
    · exact ((ins_perm x r).cons y).trans (.swap x y r)
theorem srt_perm (l : List Mt) : (srt l).Perm l := by
  have h : ∀ (l out : List Mt), (l.foldl (fun out x => ins x out) out).Perm (l ++ out) := by
    intro l
    induction l with
    | nil => exact fun out => .refl _
    | cons x l ih =>
      intro out
      exact (ih (ins x out)).trans (((ins_perm x out).append_left l).trans List.perm_middle)
  have := h l []
  rwa [List.append_nil] at this
/-- no two are alike -/
def Apart (l : List Mt) : Prop := l.Pairwise (fun a b => a.id ≠ b.id)
theorem lt2_total {x y : Mt} (h : x.id ≠ y.id) (k : lt2 x y = false) : lt2 y x = true := by
  rw [lt2_iff]
  have k : ¬ (x.mn < y.mn ∨ x.mn = y.mn ∧ x.id < y.id) := fun e => by rw [lt2_iff.2 e] at k; cases k
  have ht : ¬ x.id < y.id → y.id < x.id := fun h1 => by
    by_cases h2 : y.id < x.id
    · exact h2
    · exact absurd (Lab.b_tri h1 h2) h
  rcases (show x.mn < y.mn ∨ x.mn = y.mn ∨ y.mn < x.mn by omega) with h1 | h1 | h1
  · exact absurd (.inl h1) k
  · exact .inr ⟨h1.symm, ht fun h2 => k (.inr ⟨h1, h2⟩)⟩
  · exact .inl h1
theorem ins_sorted (x : Mt) : ∀ l : List Mt, (∀ y ∈ l, x.id ≠ y.id) → l.Pairwise (fun a b => lt2 a b = true) → (ins x l).Pairwise (fun a b => lt2 a b = true)
  | [], _, _ => by simp [ins]
  | y :: r, hx, h => by
    obtain ⟨h1, h2⟩ := List.pairwise_cons.1 h
    unfold ins
    split
    · rename_i hc
      exact List.pairwise_cons.2 ⟨fun z hz => by
        rcases List.mem_cons.1 hz with rfl | hz
        · exact hc
        · exact lt2_trans hc (h1 z hz), h⟩
    · rename_i hc
      refine List.pairwise_cons.2 ⟨fun z hz => ?_, ins_sorted x r (fun y hy => hx y (by simp [hy])) h2⟩
      rcases List.mem_cons.1 ((ins_perm x r).mem_iff.1 hz) with rfl | hz
      · exact lt2_total (hx y (by simp)) (by simpa using hc)
      · exact h1 z hz
theorem srt_sorted {l : List Mt} (h : Apart l) : (srt l).Pairwise (fun a b => lt2 a b = true) := by
  have hh : ∀ (l out : List Mt), Apart l → (∀ x ∈ l, ∀ y ∈ out, x.id ≠ y.id) → out.Pairwise (fun a b => lt2 a b = true) → (l.foldl (fun out x => ins x out) out).Pairwise (fun a b => lt2 a b = true) := by
    intro l
    induction l with
    | nil => exact fun out _ _ h => h
    | cons x l ih =>
      intro out ha hd ho
      obtain ⟨a1, a2⟩ := List.pairwise_cons.1 ha
      refine ih (ins x out) a2 (fun z hz y hy => ?_) (ins_sorted x out (hd x (by simp)) ho)
      rcases List.mem_cons.1 ((ins_perm x out).mem_iff.1 hy) with rfl | hy
      · exact fun e => a1 z hz e.symm
      · exact hd z (by simp [hz]) y hy
  exact hh l [] h (by simp) List.Pairwise.nil
/-- two sorted lists of the same members are one -/
theorem sorted_one : ∀ {l m : List Mt}, l.Perm m → l.Pairwise (fun a b => lt2 a b = true) → m.Pairwise (fun a b => lt2 a b = true) → l = m
  | [], m, h, _, _ => (List.nil_perm.1 h).symm
  | x :: l, [], h, _, _ => by have := h.length_eq; simp at this
  | x :: l, y :: m, h, h1, h2 => by
    obtain ⟨a1, a2⟩ := List.pairwise_cons.1 h1
    obtain ⟨b1, b2⟩ := List.pairwise_cons.1 h2
    have hxy : x = y := by
      rcases List.mem_cons.1 (h.mem_iff.1 (List.mem_cons_self)) with e | e
      · exact e
      · rcases List.mem_cons.1 (h.mem_iff.2 (List.mem_cons_self)) with e' | e'
        · exact e'.symm
        · have := lt2_trans (a1 y e') (b1 x e)
          rw [lt2_irr] at this
          cases this
    subst hxy
    rw [sorted_one (List.Perm.cons_inv h) a2 b2]
theorem srt_unique {l m : List Mt} (h : Apart l) (hp : m.Perm l) (hs : m.Pairwise (fun a b => lt2 a b = true)) : m = srt l :=
  sorted_one (hp.trans (srt_perm l).symm) hs (srt_sorted h)
theorem asc_apart {l : List Mt} (h : l.Pairwise (fun a b => a.id < b.id)) : Apart l := h.imp (fun {a b} (h : a.id < b.id) (e : a.id = b.id) => b_lt_irr _ (e ▸ h))
theorem asc_filter {l : List Mt} (h : l.Pairwise (fun a b => a.id < b.id)) (p : Mt → Bool) : (l.filter p).Pairwise (fun a b => a.id < b.id) := h.filter p
theorem freeU_asc {l : List Mt} (mk : Marks) (h : Lst l) : (freeU l mk).Pairwise (fun a b => a.id < b.id) := (h.asc.filter _).filter _
theorem free_mem {l : List Mt} {mk : Marks} {m : Mt} (h : m ∈ free l mk) : m ∈ l ∧ gone l m.id = 0 ∧ mk m.id = none := by
  have h := (srt_perm _).mem_iff.1 h
  unfold freeU live at h
  simp only [List.mem_filter, beq_iff_eq, Option.isNone_iff_eq_none] at h
  exact ⟨h.1.1, h.1.2, h.2⟩
theorem free_length (l : List Mt) (mk : Marks) : (free l mk).length ≤ l.length := by
  unfold free
  rw [(srt_perm _).length_eq]
  exact Nat.le_trans (List.length_filter_le _ _) (List.length_filter_le _ _)
end Go.Bar.Pln
