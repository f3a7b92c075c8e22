/-
  Samples (a time, a value's bits) and rows of them in memory.
-/
import Derived.Test.YtjklcojnbcemoaaGreatDoorZLib2

namespace Go.Bar.Xor
/-- a sample: its time, its value's bits -/
abbrev Sm := Int × Nat
end Go.Bar.Xor
namespace Go.Proofs.YtjklcojnbcemoaaGreatDoor
open Go.RowKit Go.Bar Go.Bar.Xor

/-- samples as cells -/
def smc (l : List Sm) : List Value := l.flatMap fun x => [.int .i64 x.1, .int .u64 (x.2 : Nat)]
def SmsAt (w : World) (v : Value) (l : List Sm) : Prop := SlAt w 2 v l.length (smc l)
theorem SmsAt.below {w w' : World} {v : Value} {l : List Sm} (h : SmsAt w v l) (hb : Below w.heap.size w w') : SmsAt w' v l := SlAt.below h hb
theorem SmsAt.shape {w : World} {v : Value} {l : List Sm} (h : SmsAt w v l) : ∃ A c, v = .slice A l.length c ∧ l.length ≤ c ∧ c ≤ maxLen := SlAt.shape h
theorem SmsAt.at_ {w : World} {A : Option Addr} {n c i : Nat} {l : List Sm} {x : Sm} (h : SmsAt w (.slice A n c) l) (hi : l[i]? = some x) : ∃ b o, A = some ⟨b, o, none⟩ ∧ b < w.heap.size ∧ w.cell? ⟨b, o + i * 2, none⟩ = some (.int .i64 x.1) ∧ w.cell? ⟨b, o + i * 2 + 1, none⟩ = some (.int .u64 (x.2 : Nat)) := by
  have hlt : i < l.length := (List.getElem?_eq_some_iff.1 hi).1
  obtain ⟨A', c', he, _⟩ := h.shape
  injection he with h1 h2 h3
  subst h1; subst h2; subst h3
  obtain ⟨b, o, rfl, hb, hc⟩ := SlAt.cells h (by omega)
  obtain ⟨g1, g2⟩ := flat2 (fun x : Sm => Value.int .i64 x.1) (fun x : Sm => Value.int .u64 (x.2 : Nat)) l i x hi
  exact ⟨b, o, rfl, hb, hc _ _ g1, hc _ _ g2⟩
theorem sm_ty : ElemTy Tryz.prog 48 42 (.agg #[.int .i64 0, .int .u64 0]) 2 16 :=
  ⟨Tryz.underlying48, info_parts (show (Tryz.prog.info? 42).map (fun i => (i.zero, i.size, i.bytes)) = some (some (.agg #[.int .i64 0, .int .u64 0]), 2, 16) by kernel_rfl), rfl⟩
theorem smc_append (l m : List Sm) : smc (l ++ m) = smc l ++ smc m := List.flatMap_append
theorem smc1 (l : List Sm) : ∀ u ∈ smc l, u.oneCell' = true := by
  intro u hu
  unfold smc at hu
  obtain ⟨x, _, hx⟩ := List.mem_flatMap.1 hu
  simp only [List.mem_cons, List.not_mem_nil, or_false] at hx
  rcases hx with rfl | rfl <;> rfl
theorem smc_snoc (l : List Sm) (x : Sm) : smc (l ++ [x]) = smc l ++ [.int .i64 x.1, .int .u64 (x.2 : Nat)] := by simp [smc]

theorem smc_len (l : List Sm) : (smc l).length = l.length * 2 := flat2_length _ _ l
theorem smc_take (l : List Sm) (k : Nat) : (smc l).take (k * 2) = smc (l.take k) := flat2_take _ _ l k
theorem smc_app (l m : List Sm) : smc (l ++ m) = smc l ++ smc m := List.flatMap_append
theorem smc_drop (l : List Sm) (k : Nat) : (smc l).drop (k * 2) = smc (l.drop k) := by
  have h : smc l = smc (l.take k) ++ smc (l.drop k) := by rw [← smc_app, List.take_append_drop]
  by_cases hk : k ≤ l.length
  · rw [h, List.drop_append_of_le_length (by rw [smc_len, List.length_take]; omega), List.drop_of_length_le (by rw [smc_len, List.length_take]; omega), List.nil_append]
  · rw [List.drop_of_length_le (by rw [smc_len]; omega), List.drop_of_length_le (by omega)]; rfl
theorem smc_one (l : List Sm) : ∀ u ∈ smc l, u.oneCell' = true := by
  intro u hu
  unfold smc at hu
  obtain ⟨x, _, hx⟩ := List.mem_flatMap.1 hu
  simp only [List.mem_cons, List.not_mem_nil, or_false] at hx
  rcases hx with rfl | rfl <;> rfl
end Go.Proofs.YtjklcojnbcemoaaGreatDoor
