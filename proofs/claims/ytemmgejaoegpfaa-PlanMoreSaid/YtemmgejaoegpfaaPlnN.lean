/-
  Layer 20: plain laws: what is marked changes no plan (PlanMore).
-/
import Derived.Test.YtemmgejaoegpfaaPlnM
import Derived.Test.YtemmgejaoegpfaaLib17
namespace Go.Bar.Pln
open Go.RowKit Go.Bar Go.Bar.Leb Go.Bar.Frm Go.Bar.Idt Go.Bar.Met

theorem srcs_filter_count (l : List Mt) (p : Mt → Bool) (id : List UInt8) : (srcs (l.filter p)).count id ≤ (srcs l).count id := by
  induction l with
  | nil => simp
  | cons m r ih =>
    unfold srcs at ih ⊢
    rw [List.filter_cons]
    split
    · rw [List.flatMap_cons, List.flatMap_cons, List.count_append, List.count_append]; omega
    · rw [List.flatMap_cons, List.count_append]; omega
theorem gone_unmarked (l : List Mt) (mk : Marks) (id : List UInt8) : gone (unmarked l mk) id ≤ gone l id := srcs_filter_count l _ id
/-- marks, and all of a list at a time -/
def withL (mk : Marks) (z : Int) (L : List (List UInt8)) : Marks := fun id => if id ∈ L then some z else mk id
theorem withL_nil (mk : Marks) (z : Int) : withL mk z [] = mk := by funext id; simp [withL]
theorem withL_snoc (mk : Marks) (z : Int) (L : List (List UInt8)) (s : List UInt8) : withL mk z (L ++ [s]) = upd (withL mk z L) s z := by
  funext id
  unfold withL upd
  by_cases h : id = s
  · rw [if_pos h, if_pos (by simp [h])]
  · rw [if_neg h]
    show _ = if id ∈ L then some z else mk id
    by_cases h2 : id ∈ L
    · rw [if_pos h2, if_pos (by simp [h2])]
    · rw [if_neg h2, if_neg (by simp [h2, h])]
theorem toMark_mem {l : List Mt} {mk : Marks} {id : List UInt8} (h : id ∈ toMark l mk) : 0 < gone (unmarked l mk) id ∧ mk id = none := by
  unfold toMark at h
  obtain ⟨m, hm, rfl⟩ := List.mem_map.1 h
  have h2 := (List.mem_filter.1 hm).2
  rw [Bool.and_eq_true, decide_eq_true_eq, Option.isNone_iff_eq_none] at h2
  exact h2
theorem more_free (l : List Mt) (mk : Marks) (z : Int) : free l (withL mk z (toMark l mk)) = free l mk := by
  have h : freeU l (withL mk z (toMark l mk)) = freeU l mk := by
    unfold freeU
    refine List.filter_congr fun m hm => ?_
    have hg : gone l m.id = 0 := by
      have := (List.mem_filter.1 hm).2
      simpa using this
    have hn : m.id ∉ toMark l mk := fun hc => by
      have h1 := (toMark_mem hc).1
      have h2 := gone_unmarked l mk m.id
      omega
    unfold withL
    rw [if_neg hn]
  unfold free
  rw [h]
theorem more_next (l : List Mt) (mk : Marks) (z width : Int) : next l (withL mk z (toMark l mk)) width = next l mk width := by
  unfold next
  rw [more_free]
theorem more_rank (l : List Mt) (mk : Marks) (z : Int) : rank l (withL mk z (toMark l mk)) = rank l mk := by
  unfold rank
  rw [more_free]
theorem more_mark (l : List Mt) (mk : Marks) (z : Int) : toMark l (withL mk z (toMark l mk)) = [] := by
  have h : (l.filter (fun x => decide (0 < gone (unmarked l (withL mk z (toMark l mk))) x.id) && (withL mk z (toMark l mk) x.id).isNone)) = [] := by
    rw [List.filter_eq_nil_iff]
    intro m hm hc
    rw [Bool.and_eq_true, decide_eq_true_eq, Option.isNone_iff_eq_none] at hc
    obtain ⟨h1, h2⟩ := hc
    unfold withL at h2
    by_cases hin : m.id ∈ toMark l mk
    · rw [if_pos hin] at h2; cases h2
    · rw [if_neg hin] at h2
      refine hin ?_
      unfold toMark
      refine List.mem_map.2 ⟨m, List.mem_filter.2 ⟨hm, ?_⟩, rfl⟩
      rw [Bool.and_eq_true, decide_eq_true_eq, Option.isNone_iff_eq_none]
      refine ⟨Nat.lt_of_lt_of_le h1 ?_, h2⟩
      have e : unmarked l (withL mk z (toMark l mk)) = (unmarked l mk).filter (fun x => (withL mk z (toMark l mk) x.id).isNone) := by
        unfold unmarked
        rw [List.filter_filter]
        refine List.filter_congr fun x _ => ?_
        unfold withL
        by_cases hx : x.id ∈ toMark l mk
        · rw [if_pos hx]; rfl
        · rw [if_neg hx, Bool.and_self]
      rw [e]
      exact srcs_filter_count _ _ _
  unfold toMark at h ⊢
  rw [h]; rfl
end Go.Bar.Pln
