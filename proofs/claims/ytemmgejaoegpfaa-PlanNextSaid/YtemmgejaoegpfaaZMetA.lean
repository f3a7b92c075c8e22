/-
  Layer 9: the walks of meta's small functions.
-/
import Derived.Test.YtemmgejaoegpfaaZMetM
import Derived.Test.YtemmgejaoegpfaaZIdtA
import Derived.Test.YtemmgejaoegpfaaZFrmN
import Derived.Test.YtemmgejaoegpfaaZLebA
import Derived.Test.YtemmgejaoegpfaaZLib2

namespace Go.Proofs.Ytemmgejaoegpfaa
open Go.RowKit Go.Bar Go.Bar.Leb Go.Bar.Frm Go.Bar.Idt Go.Bar.Met

theorem idOk_some {l : List UInt8} {t s : Nat} (h : parse l = some (t, s)) : idOk l = true := by unfold idOk; rw [h]; rfl
theorem idOk_none {l : List UInt8} (h : parse l = none) : idOk l = false := by unfold idOk; rw [h]; rfl

/-- sources as cells -/
def scs (ss : List (List UInt8)) : List Value := ss.map fun s => .string (bs s)
theorem scs_length (ss : List (List UInt8)) : (scs ss).length = ss.length := List.length_map _
theorem scs_append (l m : List (List UInt8)) : scs (l ++ m) = scs l ++ scs m := List.map_append
/-- files as cells -/
def fcs (fs : List Fl) : List Value := fs.flatMap fun f => [.string (bs f.name), .int .i64 f.size, .int .u32 f.sum]
theorem fcs_append (l m : List Fl) : fcs (l ++ m) = fcs l ++ fcs m := List.flatMap_append
theorem fcs_length : ∀ (fs : List Fl), (fcs fs).length = fs.length * 3
  | [] => rfl
  | f :: fs => by
    have := fcs_length fs
    unfold fcs at this ⊢
    simp only [List.flatMap_cons, List.length_append, List.length_cons, List.length_nil, this]; omega
theorem fcs_at : ∀ (fs : List Fl) (i : Nat) (f : Fl), fs[i]? = some f → (fcs fs)[i * 3]? = some (.string (bs f.name)) ∧ (fcs fs)[i * 3 + 1]? = some (.int .i64 f.size) ∧ (fcs fs)[i * 3 + 2]? = some (.int .u32 f.sum)
  | [], i, x, h => by simp at h
  | y :: l, 0, x, h => by simp at h; subst h; simp [fcs]
  | y :: l, i + 1, x, h => by
    obtain ⟨h1, h2, h3⟩ := fcs_at l i x (by simpa using h)
    unfold fcs at h1 h2 h3 ⊢
    simp only [List.flatMap_cons, List.cons_append, List.nil_append]
    rw [show (i + 1) * 3 = i * 3 + 1 + 1 + 1 by omega]
    exact ⟨by simpa using h1, by simpa using h2, by simpa using h3⟩
theorem fcs_take : ∀ (l : List Fl) (k : Nat), (fcs l).take (k * 3) = fcs (l.take k)
  | [], k => by simp [fcs]
  | y :: l, 0 => by simp [fcs]
  | y :: l, k + 1 => by
    have := fcs_take l k
    unfold fcs at this ⊢
    simp only [List.flatMap_cons, List.take_succ_cons, List.cons_append, List.nil_append]
    rw [show (k + 1) * 3 = k * 3 + 1 + 1 + 1 by omega, List.take_succ_cons, List.take_succ_cons, List.take_succ_cons, this]

/-- a slice of files, of texts -/
def FlsAt (w : World) (v : Value) (fs : List Fl) : Prop := SlAt w 3 v fs.length (fcs fs)
def SrcAt (w : World) (v : Value) (ss : List (List UInt8)) : Prop := SlAt w 1 v ss.length (scs ss)
theorem FlsAt.below {w w' : World} {v : Value} {fs : List Fl} (h : FlsAt w v fs) (hb : Below w.heap.size w w') : FlsAt w' v fs := SlAt.below h hb
theorem SrcAt.below {w w' : World} {v : Value} {ss : List (List UInt8)} (h : SrcAt w v ss) (hb : Below w.heap.size w w') : SrcAt w' v ss := SlAt.below h hb
theorem FlsAt.shape {w : World} {v : Value} {fs : List Fl} (h : FlsAt w v fs) : ∃ A c, v = .slice A fs.length c ∧ fs.length ≤ c ∧ c ≤ maxLen := SlAt.shape h
theorem SrcAt.shape {w : World} {v : Value} {ss : List (List UInt8)} (h : SrcAt w v ss) : ∃ A c, v = .slice A ss.length c ∧ ss.length ≤ c ∧ c ≤ maxLen := SlAt.shape h
theorem SrcAt.at_ {w : World} {A : Option Addr} {n c i : Nat} {ss : List (List UInt8)} {s : List UInt8} (h : SrcAt w (.slice A n c) ss) (hi : ss[i]? = some s) : ∃ b o, A = some ⟨b, o, none⟩ ∧ b < w.heap.size ∧ w.cell? ⟨b, o + i, none⟩ = some (.string (bs s)) := by
  have hlt : i < ss.length := (List.getElem?_eq_some_iff.1 hi).1
  obtain ⟨A', c', he, _⟩ := h.shape
  injection he with h1 h2 h3
  subst h1; subst h2; subst h3
  obtain ⟨b, o, rfl, hb, hc⟩ := SlAt.cells h (by omega)
  exact ⟨b, o, rfl, hb, hc i _ (by unfold scs; rw [List.getElem?_map, hi]; rfl)⟩
theorem FlsAt.at_ {w : World} {A : Option Addr} {n c i : Nat} {fs : List Fl} {f : Fl} (h : FlsAt w (.slice A n c) fs) (hi : fs[i]? = some f) : ∃ b o, A = some ⟨b, o, none⟩ ∧ b < w.heap.size ∧ w.cell? ⟨b, o + i * 3, none⟩ = some (.string (bs f.name)) ∧ w.cell? ⟨b, o + i * 3 + 1, none⟩ = some (.int .i64 f.size) ∧ w.cell? ⟨b, o + i * 3 + 2, none⟩ = some (.int .u32 f.sum) := by
  have hlt : i < fs.length := (List.getElem?_eq_some_iff.1 hi).1
  obtain ⟨A', c', he, _⟩ := h.shape
  injection he with h1 h2 h3
  subst h1; subst h2; subst h3
  obtain ⟨b, o, rfl, hb, hc⟩ := SlAt.cells h (by omega)
  obtain ⟨g1, g2, g3⟩ := fcs_at fs i _ hi
  exact ⟨b, o, rfl, hb, hc _ _ g1, hc _ _ g2, hc _ _ g3⟩

/-- a place, or -1 -/
def SomeIdx (ss : List (List UInt8)) (x : List UInt8) (w : World) (e : Ending) (w' : World) : Prop := ∃ z : Int, e = .returned (.int .i64 z) ∧ decide (0 ≤ z) = ss.contains x ∧ w = w'

end Go.Proofs.Ytemmgejaoegpfaa
