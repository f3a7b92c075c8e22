/-
  Plain mathematics of layers 10 and 20 (listings and plans): no program in sight; no condition.
-/
import Derived.Test.YtemmgejaoegpfaaZMetM
import Derived.Test.YtemmgejaoegpfaaZLabM

namespace Go.Bar.Pln
open Go.RowKit Go.Bar Go.Bar.Leb Go.Bar.Frm Go.Bar.Idt Go.Bar.Met

/-- marks: when a block was marked -/
abbrev Marks := List UInt8 → Option Int
/-- how often a text is on a list, as a map -/
def cntF (L : List (List UInt8)) : List UInt8 → Option Int := fun x => if L.count x = 0 then none else some (L.count x : Int)
theorem cntF_nil : cntF [] = fun _ => none := by funext x; simp [cntF]
theorem cntF_getD (L : List (List UInt8)) (s : List UInt8) : (cntF L s).getD 0 = (L.count s : Int) := by
  unfold cntF
  split
  · rename_i h; rw [h]; rfl
  · rfl
theorem cntF_snoc (L : List (List UInt8)) (s : List UInt8) : cntF (L ++ [s]) = fun x => if x = s then some ((L.count s : Int) + 1) else cntF L x := by
  funext x
  unfold cntF
  by_cases h : x = s
  · subst h
    rw [if_pos rfl, List.count_append, List.count_singleton_self, if_neg (by omega)]
    rfl
  · rw [if_neg h, List.count_append, List.count_eq_zero_of_not_mem (a := x) (l := [s]) (by simpa using h)]
    rfl
/-- all sources -/
def srcs (l : List Mt) : List (List UInt8) := l.flatMap (·.ss)
theorem srcs_append (l m : List Mt) : srcs (l ++ m) = srcs l ++ srcs m := List.flatMap_append
def gone (l : List Mt) (id : List UInt8) : Nat := (srcs l).count id
/-- those of which none is made -/
def live (l : List Mt) : List Mt := l.filter (fun x => gone l x.id == 0)
def freeU (l : List Mt) (mk : Marks) : List Mt := (live l).filter (fun x => (mk x.id).isNone)
/-- by times, then names -/
def lt2 (x y : Mt) : Bool := decide (x.mn < y.mn) || (x.mn == y.mn && decide (x.id < y.id))
def ins (x : Mt) : List Mt → List Mt
  | [] => [x]
  | y :: r => if lt2 x y then x :: y :: r else y :: ins x r
def srt (l : List Mt) : List Mt := l.foldl (fun out x => ins x out) []
def free (l : List Mt) (mk : Marks) : List Mt := srt (freeU l mk)

/-- a plan -/
structure Pl where
  fr : Int
  to_ : Int
  lv : Int
  ms : List Mt
def size (x : Mt) : Int := (x.fs.getD 0 ⟨[], 0, 0⟩).size + (x.fs.getD 1 ⟨[], 0, 0⟩).size
def pl0 : Pl := ⟨0, 0, 0, []⟩
def add (p : Pl) (x : Mt) : Pl := ⟨min (if p.ms.length = 0 then x.mn else p.fr) x.mn, max (if p.ms.length = 0 then x.mx else p.to_) x.mx, max p.lv x.lv, p.ms ++ [x]⟩
def over (b s a : Int) (n : Nat) : Prop := 262144 < b ∨ 10000 < s ∨ 40000 < a ∨ n = 20
instance (b s a : Int) (n : Nat) : Decidable (over b s a n) := by unfold over; exact inferInstance
def ofGo : List Mt → Int → Int → Int → Pl → Pl
  | [], _, _, _, p => p
  | x :: r, b, s, a, p => if over (b + size x) (s + x.sr) (a + x.sm) p.ms.length then p else ofGo r (b + size x) (s + x.sr) (a + x.sm) (add p x)
def fin (p : Pl) : Pl := { p with lv := min (p.lv + 1) 9 }
def of (l : List Mt) : Pl := fin (ofGo l 0 0 0 pl0)
def base (m : Mt) (wide : Int) : Int := m.mn - m.mn.tmod wide
def inG (m x : Mt) (wide : Int) : Bool := decide (base x wide = base m wide) && decide (x.mx ≤ base m wide + wide)
def group (all : List Mt) (wide : Int) (i : Nat) : List Mt := (all.drop i).filter (fun x => inG (all.getD i ⟨[], 0, 0, 0, 0, 0, [], []⟩) x wide)
def tryP (all : List Mt) (wide : Int) (i : Nat) : Option Pl := if 1 < (of (group all wide i)).ms.length then some (of (group all wide i)) else none
def nextIn (all : List Mt) (wide : Int) : Option Pl := (List.range all.length).findSome? (tryP all wide)
def nextOf (all : List Mt) (width : Int) : Option Pl := (nextIn all (max width 1 * 3)).or (nextIn all (max width 1 * 9))
def next (l : List Mt) (mk : Marks) (width : Int) : Option Pl := nextOf (free l mk) width
def unmarked (l : List Mt) (mk : Marks) : List Mt := l.filter (fun x => (mk x.id).isNone)
def toMark (l : List Mt) (mk : Marks) : List (List UInt8) := (l.filter (fun x => decide (0 < gone (unmarked l mk) x.id) && (mk x.id).isNone)).map (·.id)
def rank (l : List Mt) (mk : Marks) : Int := max (((free l mk).length : Int) - 1) 0

/-- a meta whose numbers are small -/
structure Sm (m : Mt) : Prop where
  id : m.id.length ≤ 1000
  ss : ∀ s ∈ m.ss, s.length ≤ 1000
  sl : m.ss.length ≤ 1000
  mn : 0 ≤ m.mn ∧ m.mn ≤ 1000000
  mx : 0 ≤ m.mx ∧ m.mx ≤ 1000000
  lv : 0 ≤ m.lv ∧ m.lv ≤ 1000
  sr : 0 ≤ m.sr ∧ m.sr ≤ 1000000
  sm : 0 ≤ m.sm ∧ m.sm ≤ 1000000
  fs : ∃ f g, m.fs = [f, g] ∧ 0 ≤ f.size ∧ f.size ≤ 1000000 ∧ 0 ≤ g.size ∧ g.size ≤ 1000000
/-- a list of such, by rising names -/
structure Lst (l : List Mt) : Prop where
  sm : ∀ m ∈ l, Sm m
  len : l.length ≤ 1000
  asc : l.Pairwise (fun a b => a.id < b.id)

theorem nextIn_some {all : List Mt} {wide : Int} {i : Nat} {p : Pl} (h : ∀ j, j < i → tryP all wide j = none) (hi : i < all.length) (hp : tryP all wide i = some p) : nextIn all wide = some p := by
  unfold nextIn
  rw [List.findSome?_eq_some_iff]
  refine ⟨List.range i, i, List.range' (i + 1) (all.length - (i + 1)), ?_, hp, fun j hj => h j (by simpa using hj)⟩
  rw [List.range_eq_range', List.range_eq_range']
  have h1 := @List.range'_append_1 0 i (all.length - i)
  rw [show i + (all.length - i) = all.length by omega, Nat.zero_add, show all.length - i = (all.length - (i + 1)) + 1 by omega, List.range'_succ] at h1
  exact h1.symm
theorem nextIn_none {all : List Mt} {wide : Int} (h : ∀ j, j < all.length → tryP all wide j = none) : nextIn all wide = none := by
  unfold nextIn
  rw [List.findSome?_eq_none_iff]
  intro j hj
  exact h j (by simpa using hj)

/-! ### sorted lists -/
theorem b_lt_irr (a : List UInt8) : ¬ a < a := List.lt_irrefl a
theorem lt2_irr (x : Mt) : lt2 x x = false := by unfold lt2; simp [List.lt_irrefl]
theorem lt2_iff {x y : Mt} : lt2 x y = true ↔ x.mn < y.mn ∨ x.mn = y.mn ∧ x.id < y.id := by unfold lt2; simp
theorem lt2_trans {x y z : Mt} (h : lt2 x y = true) (k : lt2 y z = true) : lt2 x z = true := by
  rw [lt2_iff] at *
  rcases h with h | ⟨h1, h2⟩ <;> rcases k with k | ⟨k1, k2⟩
  · left; omega
  · left; omega
  · left; omega
  · right; exact ⟨by omega, List.lt_trans h2 k2⟩
theorem ins_perm (x : Mt) : ∀ l, (ins x l).Perm (x :: l)
  | [] => .refl _
  | y :: r => by
    unfold ins
    split
    · exact .refl _
    · exact ((ins_perm x r).cons y).trans (.swap x y r)
theorem srt_perm (l : List Mt) : (srt l).Perm l := by
  have h : ∀ (l out : List Mt), (l.foldl (fun out x => ins x out) out).Perm (l ++ out) := by
    intro l
    induction l with
    | nil => exact fun out => .refl _
    | cons x l ih =>
      intro out
      exact (ih (ins x out)).trans (((ins_perm x out).append_left l).trans List.perm_middle)
  have := h l []
  rwa [List.append_nil] at this
/-- no two are alike -/
def Apart (l : List Mt) : Prop := l.Pairwise (fun a b => a.id ≠ b.id)
theorem lt2_total {x y : Mt} (h : x.id ≠ y.id) (k : lt2 x y = false) : lt2 y x = true := by
  rw [lt2_iff]
  have k : ¬ (x.mn < y.mn ∨ x.mn = y.mn ∧ x.id < y.id) := fun e => by rw [lt2_iff.2 e] at k; cases k
  have ht : ¬ x.id < y.id → y.id < x.id := fun h1 => by
    by_cases h2 : y.id < x.id
    · exact h2
    · exact absurd (Lab.b_tri h1 h2) h
  rcases (show x.mn < y.mn ∨ x.mn = y.mn ∨ y.mn < x.mn by omega) with h1 | h1 | h1
  · exact absurd (.inl h1) k
  · exact .inr ⟨h1.symm, ht fun h2 => k (.inr ⟨h1, h2⟩)⟩
  · exact .inl h1
theorem ins_sorted (x : Mt) : ∀ l : List Mt, (∀ y ∈ l, x.id ≠ y.id) → l.Pairwise (fun a b => lt2 a b = true) → (ins x l).Pairwise (fun a b => lt2 a b = true)
  | [], _, _ => by simp [ins]
  | y :: r, hx, h => by
    obtain ⟨h1, h2⟩ := List.pairwise_cons.1 h
    unfold ins
    split
    · rename_i hc
      exact List.pairwise_cons.2 ⟨fun z hz => by
        rcases List.mem_cons.1 hz with rfl | hz
        · exact hc
        · exact lt2_trans hc (h1 z hz), h⟩
    · rename_i hc
      refine List.pairwise_cons.2 ⟨fun z hz => ?_, ins_sorted x r (fun y hy => hx y (by simp [hy])) h2⟩
      rcases List.mem_cons.1 ((ins_perm x r).mem_iff.1 hz) with rfl | hz
      · exact lt2_total (hx y (by simp)) (by simpa using hc)
      · exact h1 z hz
theorem srt_sorted {l : List Mt} (h : Apart l) : (srt l).Pairwise (fun a b => lt2 a b = true) := by
  have hh : ∀ (l out : List Mt), Apart l → (∀ x ∈ l, ∀ y ∈ out, x.id ≠ y.id) → out.Pairwise (fun a b => lt2 a b = true) → (l.foldl (fun out x => ins x out) out).Pairwise (fun a b => lt2 a b = true) := by
    intro l
    induction l with
    | nil => exact fun out _ _ h => h
    | cons x l ih =>
      intro out ha hd ho
      obtain ⟨a1, a2⟩ := List.pairwise_cons.1 ha
      refine ih (ins x out) a2 (fun z hz y hy => ?_) (ins_sorted x out (hd x (by simp)) ho)
      rcases List.mem_cons.1 ((ins_perm x out).mem_iff.1 hy) with rfl | hy
      · exact fun e => a1 z hz e.symm
      · exact hd z (by simp [hz]) y hy
  exact hh l [] h (by simp) List.Pairwise.nil
/-- two sorted lists of the same members are one -/
theorem sorted_one : ∀ {l m : List Mt}, l.Perm m → l.Pairwise (fun a b => lt2 a b = true) → m.Pairwise (fun a b => lt2 a b = true) → l = m
  | [], m, h, _, _ => (List.nil_perm.1 h).symm
  | x :: l, [], h, _, _ => by have := h.length_eq; simp at this
  | x :: l, y :: m, h, h1, h2 => by
    obtain ⟨a1, a2⟩ := List.pairwise_cons.1 h1
    obtain ⟨b1, b2⟩ := List.pairwise_cons.1 h2
    have hxy : x = y := by
      rcases List.mem_cons.1 (h.mem_iff.1 (List.mem_cons_self)) with e | e
      · exact e
      · rcases List.mem_cons.1 (h.mem_iff.2 (List.mem_cons_self)) with e' | e'
        · exact e'.symm
        · have := lt2_trans (a1 y e') (b1 x e)
          rw [lt2_irr] at this
          cases this
    subst hxy
    rw [sorted_one (List.Perm.cons_inv h) a2 b2]
theorem srt_unique {l m : List Mt} (h : Apart l) (hp : m.Perm l) (hs : m.Pairwise (fun a b => lt2 a b = true)) : m = srt l :=
  sorted_one (hp.trans (srt_perm l).symm) hs (srt_sorted h)
theorem asc_apart {l : List Mt} (h : l.Pairwise (fun a b => a.id < b.id)) : Apart l := h.imp (fun {a b} (h : a.id < b.id) (e : a.id = b.id) => b_lt_irr _ (e ▸ h))
theorem asc_filter {l : List Mt} (h : l.Pairwise (fun a b => a.id < b.id)) (p : Mt → Bool) : (l.filter p).Pairwise (fun a b => a.id < b.id) := h.filter p
theorem freeU_asc {l : List Mt} (mk : Marks) (h : Lst l) : (freeU l mk).Pairwise (fun a b => a.id < b.id) := (h.asc.filter _).filter _
theorem free_mem {l : List Mt} {mk : Marks} {m : Mt} (h : m ∈ free l mk) : m ∈ l ∧ gone l m.id = 0 ∧ mk m.id = none := by
  have h := (srt_perm _).mem_iff.1 h
  unfold freeU live at h
  simp only [List.mem_filter, beq_iff_eq, Option.isNone_iff_eq_none] at h
  exact ⟨h.1.1, h.1.2, h.2⟩
theorem free_length (l : List Mt) (mk : Marks) : (free l mk).length ≤ l.length := by
  unfold free
  rw [(srt_perm _).length_eq]
  exact Nat.le_trans (List.length_filter_le _ _) (List.length_filter_le _ _)
end Go.Bar.Pln

/-
  Layer 20: plain: the document's plan is the plan.
-/
namespace Go.Bar.Pln
open Go.RowKit Go.Bar Go.Bar.Leb Go.Bar.Frm Go.Bar.Idt Go.Bar.Met

theorem base_mul (m : Mt) (wide : Int) : base m wide = wide * m.mn.tdiv wide := by
  unfold base
  have := Int.tmod_add_mul_tdiv m.mn wide
  omega
theorem base_iff {m x : Mt} {wide : Int} (hw : 0 < wide) : base x wide = base m wide ↔ x.mn.tdiv wide = m.mn.tdiv wide := by
  rw [base_mul, base_mul]
  constructor
  · intro h
    exact Int.eq_of_mul_eq_mul_left (by omega) h
  · intro h; rw [h]
theorem inG_eq (m x : Mt) {wide : Int} (hw : 0 < wide) : inG m x wide = (decide (x.mn.tdiv wide = m.mn.tdiv wide) && decide (x.mx ≤ (m.mn.tdiv wide + 1) * wide)) := by
  unfold inG
  congr 1
  · exact decide_eq_decide.2 (base_iff hw)
  · refine decide_eq_decide.2 ?_
    rw [base_mul, Int.add_mul, Int.one_mul, Int.mul_comm wide]
/-- over all that are left, those of the range alone -/
def rgo (m : Mt) (wide : Int) : List Mt → Int → Int → Int → Pl → Pl
  | [], _, _, _, p => p
  | x :: r, b, s, a, p => if inG m x wide = true then (if over (b + size x) (s + x.sr) (a + x.sm) p.ms.length then p else rgo m wide r (b + size x) (s + x.sr) (a + x.sm) (add p x)) else rgo m wide r b s a p
theorem rgo_eq (m : Mt) (wide : Int) : ∀ (l : List Mt) (b s a : Int) (p : Pl), rgo m wide l b s a p = ofGo (l.filter (fun x => inG m x wide)) b s a p
  | [], _, _, _, _ => rfl
  | x :: r, b, s, a, p => by
    unfold rgo
    by_cases h : inG m x wide = true
    · rw [if_pos h, List.filter_cons_of_pos (by simpa using h)]
      show _ = if over (b + size x) (s + x.sr) (a + x.sm) p.ms.length then p else ofGo _ _ _ _ _
      split
      · rfl
      · exact rgo_eq m wide r _ _ _ _
    · rw [if_neg h, List.filter_cons_of_neg (by simpa using h)]
      exact rgo_eq m wide r _ _ _ _
theorem rgo_at {m : Mt} {wide : Int} {l : List Mt} {k : Nat} {x : Mt} (h : l[k]? = some x) (b s a : Int) (p : Pl) : rgo m wide (l.drop k) b s a p = if inG m x wide = true then (if over (b + size x) (s + x.sr) (a + x.sm) p.ms.length then p else rgo m wide (l.drop (k + 1)) (b + size x) (s + x.sr) (a + x.sm) (add p x)) else rgo m wide (l.drop (k + 1)) b s a p := by
  obtain ⟨hlt, rfl⟩ := List.getElem?_eq_some_iff.1 h
  rw [List.drop_eq_getElem_cons hlt]
  rfl
/-- the plan of the i-th one -/
def tryR (all : List Mt) (wide : Int) (i : Nat) : Pl := fin (rgo (all.getD i ⟨[], 0, 0, 0, 0, 0, [], []⟩) wide (all.drop i) 0 0 0 pl0)
theorem tryR_eq (all : List Mt) (wide : Int) (i : Nat) : tryP all wide i = if 1 < (tryR all wide i).ms.length then some (tryR all wide i) else none := by
  unfold tryP tryR of group
  rw [rgo_eq]
/-- what is to be marked, as the document says it -/
theorem toMark_eq (l : List Mt) (mk : Marks) : toMark l mk = ((unmarked l mk).filter (fun x => decide (0 < gone (unmarked l mk) x.id))).map (·.id) := by
  obtain ⟨g, hg⟩ : ∃ g : Mt → Nat, g = fun x => gone (unmarked l mk) x.id := ⟨_, rfl⟩
  have h1 : toMark l mk = (l.filter (fun x => decide (0 < g x) && (mk x.id).isNone)).map (·.id) := by rw [hg]; rfl
  have h2 : ((unmarked l mk).filter (fun x => decide (0 < gone (unmarked l mk) x.id))) = (unmarked l mk).filter (fun x => decide (0 < g x)) := by rw [hg]
  rw [h1, h2]
  unfold unmarked
  rw [List.filter_filter]
theorem srcs_take' {l : List Mt} {k : Nat} {m : Mt} (h : l[k]? = some m) : srcs (l.take (k + 1)) = srcs (l.take k) ++ m.ss := by
  rw [List.take_add_one, h, srcs_append]
  simp [srcs]
theorem ins_cons (x y : Mt) (r : List Mt) : ins x (y :: r) = if lt2 x y then x :: y :: r else y :: ins x r := rfl
theorem srt_snoc (l : List Mt) (x : Mt) : srt (l ++ [x]) = ins x (srt l) := by unfold srt; rw [List.foldl_append]; rfl
end Go.Bar.Pln

/-
  Layer 20: plain laws: what a plan is (PlanSound).
-/
namespace Go.Bar.Pln
open Go.RowKit Go.Bar Go.Bar.Leb Go.Bar.Frm Go.Bar.Idt Go.Bar.Met

def bytes : List Mt → Int
  | [] => 0
  | m :: r => size m + bytes r
theorem bytes_append (l r : List Mt) : bytes (l ++ r) = bytes l + bytes r := by
  induction l with
  | nil => simp [bytes]
  | cons m l ih =>
    show size m + bytes (l ++ r) = size m + bytes l + bytes r
    rw [ih]; omega
/-- a plan under way -/
structure PInv (p : Pl) (b : Int) : Prop where
  lo : ∀ m ∈ p.ms, p.fr ≤ m.mn ∧ m.mx ≤ p.to_ ∧ m.lv ≤ p.lv
  at_ : p.ms ≠ [] → (∃ m ∈ p.ms, p.fr = m.mn) ∧ ∃ m ∈ p.ms, p.to_ = m.mx
  sum : bytes p.ms = b
  most : bytes p.ms ≤ 262144
  len : p.ms.length ≤ 20
theorem PInv.start : PInv pl0 0 := ⟨by simp [pl0], by simp [pl0], rfl, by decide, by decide⟩
theorem PInv.add {p : Pl} {b : Int} {m : Mt} (h : PInv p b) (hm : b + size m ≤ 262144) (hl : p.ms.length ≠ 20) : PInv (add p m) (b + size m) := by
  have hs : bytes (p.ms ++ [m]) = b + size m := by rw [bytes_append, h.sum]; simp [bytes]
  refine ⟨fun x hx => ?_, fun _ => ?_, hs, by show bytes (p.ms ++ [m]) ≤ _; rw [hs]; exact hm, by show (p.ms ++ [m]).length ≤ 20; have := h.len; simp; omega⟩
  · have hx : x ∈ p.ms ++ [m] := hx
    show min (if p.ms.length = 0 then m.mn else p.fr) m.mn ≤ x.mn ∧ x.mx ≤ max (if p.ms.length = 0 then m.mx else p.to_) m.mx ∧ x.lv ≤ max p.lv m.lv
    rcases List.mem_append.1 hx with hx | hx
    · have hne : p.ms.length ≠ 0 := fun e => by rw [List.eq_nil_of_length_eq_zero e] at hx; simp at hx
      rw [if_neg hne, if_neg hne]
      have := h.lo x hx
      omega
    · obtain rfl := List.mem_singleton.1 hx
      omega
  · show (∃ x ∈ p.ms ++ [m], min (if p.ms.length = 0 then m.mn else p.fr) m.mn = x.mn) ∧ ∃ x ∈ p.ms ++ [m], max (if p.ms.length = 0 then m.mx else p.to_) m.mx = x.mx
    by_cases h0 : p.ms.length = 0
    · rw [if_pos h0, if_pos h0]
      exact ⟨⟨m, by simp, by omega⟩, m, by simp, by omega⟩
    · rw [if_neg h0, if_neg h0]
      obtain ⟨⟨x, hx, ex⟩, y, hy, ey⟩ := h.at_ (fun e => h0 (by rw [e]; rfl))
      constructor
      · by_cases e : p.fr ≤ m.mn
        · exact ⟨x, by simp [hx], by omega⟩
        · exact ⟨m, by simp, by omega⟩
      · by_cases e : m.mx ≤ p.to_
        · exact ⟨y, by simp [hy], by omega⟩
        · exact ⟨m, by simp, by omega⟩
theorem ofGo_inv : ∀ (l : List Mt) (b s a : Int) (p : Pl), PInv p b → (∃ b', PInv (ofGo l b s a p) b') ∧ ∃ t, t.Sublist l ∧ (ofGo l b s a p).ms = p.ms ++ t
  | [], b, s, a, p, h => ⟨⟨b, h⟩, [], .slnil, by simp [ofGo]⟩
  | m :: l, b, s, a, p, h => by
    unfold ofGo
    split
    · exact ⟨⟨b, h⟩, [], List.nil_sublist _, by simp⟩
    · rename_i ho
      unfold over at ho
      have h1 : b + size m ≤ 262144 := by
        by_cases e : 262144 < b + size m
        · exact absurd (.inl e) ho
        · omega
      have h2 : p.ms.length ≠ 20 := fun e => ho (.inr (.inr (.inr e)))
      obtain ⟨g1, t, ht, e⟩ := ofGo_inv l (b + size m) (s + m.sr) (a + m.sm) (add p m) (h.add h1 h2)
      exact ⟨g1, m :: t, ht.cons_cons m, by rw [e]; show p.ms ++ [m] ++ t = _; simp⟩
/-- the plan of a group -/
theorem of_inv (l : List Mt) : (∃ b, PInv { of l with lv := (ofGo l 0 0 0 pl0).lv } b) ∧ (of l).ms.Sublist l ∧ (of l).lv = min ((ofGo l 0 0 0 pl0).lv + 1) 9 := by
  obtain ⟨g1, t, ht, e⟩ := ofGo_inv l 0 0 0 pl0 PInv.start
  refine ⟨g1, ?_, rfl⟩
  show (ofGo l 0 0 0 pl0).ms.Sublist l
  rw [e]
  exact ht

theorem base_dvd (m : Mt) (wide : Int) : ∃ k, base m wide = k * wide := ⟨m.mn.tdiv wide, by
  unfold base
  have := Int.tmod_add_mul_tdiv m.mn wide
  rw [Int.mul_comm] at this
  omega⟩
/-- numbers of one range -/
theorem same_range {k wide x y wd : Int} (hw : 0 < wd) (hwide : wide = wd * 3 ∨ wide = wd * 9) (hx : k * wide ≤ x) (hxy : x ≤ y) (hy : y < k * wide + wide) (h0 : 0 ≤ x) : x.tdiv (9 * wd) = y.tdiv (9 * wd) := by
  have hwp : 0 < wide := by rcases hwide with h | h <;> omega
  rw [Int.tdiv_eq_ediv_of_nonneg h0, Int.tdiv_eq_ediv_of_nonneg (by omega)]
  have h1 : ∀ z, k * wide ≤ z → z < k * wide + wide → z / wide = k := fun z h1 h2 => by
    have a1 : k ≤ z / wide := Int.le_ediv_of_mul_le hwp h1
    have a2 : z / wide < k + 1 := Int.ediv_lt_of_lt_mul hwp (by rw [Int.add_mul]; omega)
    omega
  have e1 := h1 x hx (by omega)
  have e2 := h1 y (by omega) hy
  rcases hwide with h | h
  · have h3 : 9 * wd = wide * 3 := by omega
    rw [h3, ← Int.ediv_ediv_of_nonneg (by omega), ← Int.ediv_ediv_of_nonneg (by omega), e1, e2]
  · rw [show 9 * wd = wide by omega, e1, e2]
theorem tryP_some {F : List Mt} {wide : Int} {i : Nat} {p : Pl} (h : tryP F wide i = some p) : p = of (group F wide i) ∧ 1 < p.ms.length := by
  unfold tryP at h
  split at h
  · rename_i h1
    injection h with h
    subst h
    exact ⟨rfl, h1⟩
  · cases h
theorem nextOf_some {F : List Mt} {wd : Int} {p : Pl} (hw : 1 ≤ wd) (h : nextOf F wd = some p) : ∃ wide i, (wide = wd * 3 ∨ wide = wd * 9) ∧ p = of (group F wide i) ∧ 1 < p.ms.length := by
  unfold nextOf at h
  rw [Int.max_eq_left hw] at h
  have hh : ∀ wide, nextIn F wide = some p → ∃ i, p = of (group F wide i) ∧ 1 < p.ms.length := fun wide hn => by
    unfold nextIn at hn
    obtain ⟨i, _, hi⟩ := List.exists_of_findSome?_eq_some hn
    exact ⟨i, tryP_some hi⟩
  rcases h3 : nextIn F (wd * 3) with _ | p3
  · rw [h3, Option.none_or] at h
    obtain ⟨i, h1, h2⟩ := hh _ h
    exact ⟨_, i, .inr rfl, h1, h2⟩
  · rw [h3, Option.some_or] at h
    injection h with h
    subst h
    obtain ⟨i, h1, h2⟩ := hh _ h3
    exact ⟨_, i, .inl rfl, h1, h2⟩
/-- what a plan is -/
structure Sound (L : List Mt) (mk : Marks) (wd : Int) (p : Pl) : Prop where
  mem : ∀ m ∈ p.ms, m ∈ L ∧ gone L m.id = 0 ∧ mk m.id = none ∧ p.fr ≤ m.mn ∧ m.mx ≤ p.to_
  most : bytes p.ms ≤ 262144
  two : 1 < p.ms.length
  len : p.ms.length ≤ 20
  rng : p.fr.tdiv (9 * wd) = (p.to_ - 1).tdiv (9 * wd)
  lv : 2 ≤ p.lv ∧ p.lv ≤ 9
  ap : Apart p.ms
  fr : 0 ≤ p.fr ∧ p.fr < p.to_ ∧ p.to_ ≤ 1000000
theorem sound {L : List Mt} {mk : Marks} {wd : Int} {p : Pl} (hL : Lst L) (hmx : ∀ m ∈ L, m.mn < m.mx ∧ 1 ≤ m.lv) (hw : 1 ≤ wd) (h : next L mk wd = some p) : Sound L mk wd p := by
  obtain ⟨wide, i, hwide, hp, h2⟩ := nextOf_some hw h
  obtain ⟨⟨b, hI⟩, hsub, hlv⟩ := of_inv (group (free L mk) wide i)
  rw [← hp] at hI hsub hlv
  have hgm : ∀ m ∈ p.ms, m ∈ group (free L mk) wide i := fun m hm => hsub.subset hm
  have hfm : ∀ m ∈ p.ms, m ∈ free L mk := fun m hm => List.mem_of_mem_drop (List.mem_filter.1 (hgm m hm)).1
  have hne : p.ms ≠ [] := fun e => by rw [e] at h2; simp at h2
  obtain ⟨⟨x, hx, ex⟩, y, hy, ey⟩ := hI.at_ hne
  have ex : p.fr = x.mn := ex
  have ey : p.to_ = y.mx := ey
  have hlo : ∀ m ∈ p.ms, p.fr ≤ m.mn ∧ m.mx ≤ p.to_ ∧ m.lv ≤ (ofGo (group (free L mk) wide i) 0 0 0 pl0).lv := hI.lo
  obtain ⟨k, hk⟩ := base_dvd ((free L mk).getD i ⟨[], 0, 0, 0, 0, 0, [], []⟩) wide
  have hin : ∀ m ∈ p.ms, base m wide = k * wide ∧ m.mx ≤ k * wide + wide := fun m hm => by
    have h1 := (List.mem_filter.1 (hgm m hm)).2
    unfold inG at h1
    rw [Bool.and_eq_true, decide_eq_true_eq, decide_eq_true_eq, hk] at h1
    exact h1
  have hxL := (free_mem (hfm x hx)).1
  have hyL := (free_mem (hfm y hy)).1
  have hsx := hL.sm x hxL
  have hsy := hL.sm y hyL
  have hbx : base x wide ≤ x.mn := by
    unfold base
    have := Int.tmod_nonneg wide hsx.mn.1
    omega
  have g1 := hin x hx
  have g2 := hin y hy
  have g3 := hlo x hx
  have g4 := (hmx x hxL).1
  have hap : Apart (free L mk) := by
    have ha := asc_apart (freeU_asc mk hL)
    exact (srt_perm (freeU L mk)).pairwise_iff (R := fun a b : Mt => a.id ≠ b.id) (fun h e => h e.symm) |>.2 ha
  refine ⟨fun m hm => ?_, hI.most, h2, hI.len, ?_, ?_, ?_, ?_⟩
  · obtain ⟨a1, a2, a3⟩ := free_mem (hfm m hm)
    exact ⟨a1, a2, a3, (hlo m hm).1, (hlo m hm).2.1⟩
  · exact same_range (k := k) (wide := wide) (by omega) hwide (by omega) (by omega) (by omega) (by have := hsx.mn; omega)
  · have := (hmx x hxL).2
    rw [hlv]
    omega
  · exact hap.sublist (hsub.trans ((List.filter_sublist).trans (List.drop_sublist _ _)))
  · have := hsx.mn; have := hsy.mx
    omega
end Go.Bar.Pln

/-
  Layer 20: plain laws: plans come to an end (PlanEnds).
-/
namespace Go.Bar.Pln
open Go.RowKit Go.Bar Go.Bar.Leb Go.Bar.Frm Go.Bar.Idt Go.Bar.Met Go.Bar.Pln

theorem gone_snoc (L : List Mt) (m : Mt) (id : List UInt8) : gone (L ++ [m]) id = gone L id + m.ss.count id := by
  unfold gone
  rw [srcs_append, List.count_append]
  simp [srcs]
theorem plan_sub {L : List Mt} {mk : Marks} {wd : Int} {p : Pl} (hw : 1 ≤ wd) (h : next L mk wd = some p) : p.ms.Sublist (free L mk) := by
  obtain ⟨wide, i, hwide, hp, h2⟩ := nextOf_some hw h
  obtain ⟨_, hsub, _⟩ := of_inv (group (free L mk) wide i)
  rw [← hp] at hsub
  exact hsub.trans ((List.filter_sublist).trans (List.drop_sublist _ _))
/-- those of a list -/
def inI (I : List (List UInt8)) (x : Mt) : Bool := decide (x.id ∈ I)
theorem plan_count {L : List Mt} {mk : Marks} {p : Pl} (h : p.ms.Sublist (free L mk)) : p.ms.length ≤ ((freeU L mk).filter (inI (p.ms.map (·.id)))).length := by
  have h1 := h.filter (inI (p.ms.map (·.id)))
  have h2 : p.ms.filter (inI (p.ms.map (·.id))) = p.ms := List.filter_eq_self.2 fun x hx => decide_eq_true (List.mem_map_of_mem hx)
  rw [h2] at h1
  have h3 := ((srt_perm (freeU L mk)).filter (inI (p.ms.map (·.id)))).length_eq
  have h4 := h1.length_le
  unfold free at h4
  omega
theorem filter_parts (l : List Mt) (q : Mt → Bool) : (l.filter q).length + (l.filter (fun x => !q x)).length = l.length := by
  induction l with
  | nil => rfl
  | cons x r ih =>
    rw [List.filter_cons, List.filter_cons]
    cases q x <;> simp <;> omega
theorem freeU_snoc {L : List Mt} {mk : Marks} {m : Mt} {I : List (List UInt8)} (hss : m.ss.Perm I) : (freeU (L ++ [m]) mk).length ≤ ((freeU L mk).filter (fun x => !inI I x)).length + 1 := by
  have h : freeU (L ++ [m]) mk = (freeU L mk).filter (fun x => !inI I x) ++ ([m].filter (fun x => gone (L ++ [m]) x.id == 0)).filter (fun x => (mk x.id).isNone) := by
    unfold freeU live
    rw [List.filter_append, List.filter_append, List.filter_filter, List.filter_filter, List.filter_filter, List.filter_filter]
    congr 1
    refine List.filter_congr fun x _ => ?_
    rw [gone_snoc]
    by_cases hx : x.id ∈ I
    · have h1 : 0 < m.ss.count x.id := List.count_pos_iff.2 (hss.mem_iff.2 hx)
      have h2 : (gone L x.id + m.ss.count x.id == 0) = false := by rw [beq_eq_false_iff_ne]; omega
      have h3 : inI I x = true := decide_eq_true hx
      rw [h2, h3, Bool.and_false]
      rfl
    · have h1 : m.ss.count x.id = 0 := List.count_eq_zero_of_not_mem (fun h => hx (hss.mem_iff.1 h))
      have h3 : inI I x = false := decide_eq_false hx
      rw [h1, h3, Nat.add_zero]
      simp [Bool.and_comm]
  rw [h, List.length_append]
  have h1 : (([m].filter (fun x => gone (L ++ [m]) x.id == 0)).filter (fun x => (mk x.id).isNone)).length ≤ 1 := Nat.le_trans (List.length_filter_le _ _) (List.length_filter_le _ _)
  omega
/-- with a block more that has a plan's blocks as sources there are fewer free ones, and these are to be marked -/
theorem ends {L : List Mt} {mk : Marks} {wd : Int} {p : Pl} {m : Mt} (hw : 1 ≤ wd) (hmk : mk m.id = none) (hss : m.ss.Perm (p.ms.map (·.id))) (hp : next L mk wd = some p) (h2 : 1 < p.ms.length) :
    (freeU (L ++ [m]) mk).length + 1 ≤ (freeU L mk).length ∧ p.ms.length ≤ (toMark (L ++ [m]) mk).length ∧ 2 ≤ (freeU L mk).length := by
  have hsub := plan_sub hw hp
  have h1 := plan_count hsub
  have h3 := filter_parts (freeU L mk) (inI (p.ms.map (·.id)))
  have h4 := freeU_snoc (L := L) (mk := mk) hss
  refine ⟨by omega, Nat.le_trans h1 ?_, by omega⟩
  unfold toMark
  rw [List.length_map]
  unfold freeU live
  rw [List.filter_filter, List.filter_filter, ← List.countP_eq_length_filter, ← List.countP_eq_length_filter, List.countP_append]
  refine Nat.le_trans (List.countP_mono_left (q := fun x => decide (0 < gone (unmarked (L ++ [m]) mk) x.id) && (mk x.id).isNone) fun x _ hx => ?_) (Nat.le_add_right _ _)
  have a1 : inI (p.ms.map (·.id)) x = true := by simp only [Bool.and_eq_true] at hx; exact hx.1.1
  have a2 : (mk x.id).isNone = true := by simp only [Bool.and_eq_true] at hx; exact hx.1.2
  rw [Bool.and_eq_true, decide_eq_true_eq]
  refine ⟨?_, a2⟩
  have e : unmarked (L ++ [m]) mk = unmarked L mk ++ [m] := by
    unfold unmarked
    rw [List.filter_append]
    congr 1
    rw [List.filter_cons, hmk]
    rfl
  rw [e, gone_snoc]
  have : 0 < m.ss.count x.id := List.count_pos_iff.2 (hss.mem_iff.2 (of_decide_eq_true a1))
  omega
theorem rank_of (L : List Mt) (mk : Marks) : rank L mk = max (((freeU L mk).length : Int) - 1) 0 := by
  unfold rank free
  rw [(srt_perm _).length_eq]
/-- the next block -/
def nxM (id : List UInt8) (p : Pl) (I : List (List UInt8)) : Mt := ⟨id, p.fr, p.to_, p.lv, 1, 1, [⟨chunksN, 10, 0⟩, ⟨indexN, 10, 0⟩], I⟩
/-- where the turns stand -/
structure Turn (L : List Mt) (mk : Marks) (t : Nat) : Prop where
  lst : Lst L
  wide : ∀ m ∈ L, m.mn < m.mx ∧ 1 ≤ m.lv
  below : ∀ m ∈ L, m.id < Idt.mk 2 t
  len : L.length ≤ 12 + t
  free : (freeU L mk).length + t ≤ 12
  marks : ∀ t, t < 1000 → mk (Idt.mk 2 t) = none
theorem Turn.step {L : List Mt} {mk : Marks} {wd : Int} {p : Pl} {t : Nat} {I : List (List UInt8)} (h : Turn L mk t) (hw : 1 ≤ wd) (hp : next L mk wd = some p) (hI : I.Perm (p.ms.map (·.id))) :
    t ≤ 10 ∧ Turn (L ++ [nxM (Idt.mk 2 t) p I]) mk (t + 1) ∧ rank (L ++ [nxM (Idt.mk 2 t) p I]) mk < rank L mk ∧ p.ms.length ≤ (toMark (L ++ [nxM (Idt.mk 2 t) p I]) mk).length := by
  have hS := sound h.lst h.wide hw hp
  have ht := h.free
  have he := ends (m := nxM (Idt.mk 2 t) p I) hw (by
    have hf : 2 ≤ (freeU L mk).length := by
      have h1 := plan_count (plan_sub hw hp)
      have h3 := filter_parts (freeU L mk) (inI (p.ms.map (·.id)))
      have := hS.two
      omega
    exact h.marks t (by omega)) hI hp hS.two
  obtain ⟨e1, e2, e3⟩ := he
  have hfr := hS.fr
  have hlv := hS.lv
  have hlen := hS.len
  have hlt : Idt.mk 2 t < Idt.mk 2 (t + 1) := by
    have := less_mk 2 t 2 (t + 1) (by decide) (by omega) (by decide) (by omega)
    rw [Lab.less_eq] at this
    refine of_decide_eq_true (this.trans ?_)
    simp
  refine ⟨by omega, ⟨⟨fun m hm => ?_, ?_, ?_⟩, fun m hm => ?_, fun m hm => ?_, ?_, by omega, h.marks⟩, ?_, e2⟩
  · rcases List.mem_append.1 hm with hm | hm
    · exact h.lst.sm m hm
    · obtain rfl := List.mem_singleton.1 hm
      refine ⟨by show (Idt.mk 2 t).length ≤ 1000; rw [mk_length]; decide, fun s hs => ?_, ?_, ⟨hfr.1, by show p.fr ≤ 1000000; omega⟩, ⟨by show 0 ≤ p.to_; omega, hfr.2.2⟩, ⟨by show 0 ≤ p.lv; omega, by show p.lv ≤ 1000; omega⟩, ⟨by show (0 : Int) ≤ 1; decide, by show (1 : Int) ≤ 1000000; decide⟩, ⟨by show (0 : Int) ≤ 1; decide, by show (1 : Int) ≤ 1000000; decide⟩, ⟨chunksN, 10, 0⟩, ⟨indexN, 10, 0⟩, rfl, by decide, by decide, by decide, by decide⟩
      · obtain ⟨y, hy, rfl⟩ := List.mem_map.1 (hI.mem_iff.1 hs)
        exact (h.lst.sm y (hS.mem y hy).1).id
      · show I.length ≤ 1000
        rw [hI.length_eq, List.length_map]; omega
  · rw [List.length_append]
    have := h.len
    show L.length + 1 ≤ 1000
    omega
  · rw [List.pairwise_append]
    refine ⟨h.lst.asc, by simp, fun a ha b hb => ?_⟩
    obtain rfl := List.mem_singleton.1 hb
    exact h.below a ha
  · rcases List.mem_append.1 hm with hm | hm
    · exact h.wide m hm
    · obtain rfl := List.mem_singleton.1 hm
      exact ⟨hfr.2.1, by show 1 ≤ p.lv; omega⟩
  · rcases List.mem_append.1 hm with hm | hm
    · exact List.lt_trans (h.below m hm) hlt
    · obtain rfl := List.mem_singleton.1 hm
      exact hlt
  · rw [List.length_append]
    have := h.len
    show L.length + 1 ≤ 12 + (t + 1)
    omega
  · rw [rank_of, rank_of]
    omega
theorem Turn.stops {L : List Mt} {mk : Marks} {wd : Int} {t : Nat} (h : Turn L mk t) (hw : 1 ≤ wd) (ht : 11 ≤ t) : next L mk wd = none := by
  rcases hn : next L mk wd with _ | p
  · rfl
  · have := (h.step hw hn (List.Perm.refl _)).1
    omega
end Go.Bar.Pln
