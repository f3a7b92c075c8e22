/-
 Layer 3: new rows and new eyes (of a law's own), and awake.
-/
import Derived.Test.YtgabmfibfikdbaaGreatDoorZBitA

namespace Go.Proofs.YtgabmfibfikdbaaGreatDoor
open Go.RowKit Go.Bar Go.Bar.Bit

structure RowNew (w0 w : World) (b : Nat) (v : Value) (l : List Bool) : Prop where
 at_ : RowAt w b 0 v l
 below : Below w0.heap.size w0 w
 b_new : w0.heap.size <= b
 v_new : ∀ k, v.ownBlock = some k -> w0.heap.size <= k
structure EyeNew (w0 w : World) (b : Nat) (L : List Bool) (p e : Nat) : Prop where
 at_ : EyeAt w b 0 L p e
 below : Below w0.heap.size w0 w
 b_new : w0.heap.size <= b

theorem RowNew.start {w0 w : World} (h : Below w0.heap.size w0 w) (t : TypeId) : RowNew w0 (w.alloc (.cells #[.slice none 0 0, .int .i64 0] t)) w.heap.size (.slice none 0 0) [] := by
 refine ⟨⟨?_, ?_, ?_, ?_, BBuf.nil _ _, by simp [Value.ownBlock], by simp [Value.ownBlock]⟩, h.alloc h.size _, h.size, by simp [Value.ownBlock]⟩
 ·rw [World.cell?_alloc_new]; rfl
 ·rw [World.cell?_alloc_new]; rfl
 ·exact World.frozen?_alloc_new w _ _ _
 ·exact World.frozen?_alloc_new w _ _ _
theorem RowNew.step {w0 w w' : World} {b : Nat} {v : Value} {l l' : List Bool} (h : RowNew w0 w b v l) {e : Ending} (h' : RowTo w b 0 v l' e w') : e = .returned (.tuple #[]) /\ ∃ v', RowNew w0 w' b v' l' := by
 obtain ⟨v', he, ha, hf, hm⟩ := h'
 refine ⟨he, v', ha, h.below.trans (hf.below h.below.size ?_), h.b_new, ?_⟩
 ·rintro k i hk (⟨rfl, _⟩ | hS)
  ·exact absurd h.b_new (by omega)
  ·exact absurd (h.v_new k hS) (by omega)
 ·intro k hk
  rcases hm with e1 | ⟨g, e1, hg⟩
  ·exact h.v_new k (by rw [<- e1]; exact hk)
  ·rw [e1] at hk; injection hk with hk
   have := h.below.size
   omega
theorem RowAt.keep {S : Nat -> Nat -> Prop} {w w' : World} {b : Nat} {v : Value} {l : List Bool} (h : RowAt w b 0 v l) (hf : Fr S w w') (h1 : ∀ i, ¬ S b i) (h2 : ∀ k i, v.ownBlock = some k -> ¬ S k i) : RowAt w' b 0 v l :=
 ⟨hf.cell h.c0 (h1 _), hf.cell h.c1 (h1 _), hf.free h.c0 h.f0, hf.free h.c1 h.f1, hf.buf h.buf h2, h.ne, fun k hk => Nat.lt_of_lt_of_le (h.lt k hk) hf.size⟩
theorem RowNew.then_below {w0 w w' : World} {b : Nat} {v : Value} {l : List Bool} (h : RowNew w0 w b v l) (hb : Below w.heap.size w w') : RowNew w0 w' b v l := by
 have hf : Fr (fun _ _ => False) w w' := Fr.of_below hb
 exact ⟨h.at_.keep hf (fun _ => id) (fun _ _ _ => id), h.below.trans (hb.mono h.below.size), h.b_new, h.v_new⟩
theorem RowNew.drewN {w0 w : World} {b : Nat} {v : Value} {l : List Bool} (h : RowNew w0 w b v l) (n : Nat) : RowNew w0 (w.drewN n) b v l := h.then_below (below_draws _ _)
theorem EyeNew.then_below {w0 w w' : World} {b : Nat} {L : List Bool} {p e : Nat} (h : EyeNew w0 w b L p e) (hb : Below w.heap.size w w') : EyeNew w0 w' b L p e := by
 have hf : Fr (fun _ _ => False) w w' := Fr.of_below hb
 exact ⟨h.at_.keep hf (fun _ _ _ => id), h.below.trans (hb.mono h.below.size), h.b_new⟩
theorem EyeNew.step {w0 w w' : World} {b : Nat} {L : List Bool} {p e p' e' : Nat} {v : Value} (h : EyeNew w0 w b L p e) {en : Ending} (h' : EyeTo w b 0 L v p' e' en w') : en = .returned v /\ EyeNew w0 w' b L p' e' := by
 obtain ⟨he, ha, hf⟩ := h'
 refine ⟨he, ha, h.below.trans (hf.below h.below.size ?_), h.b_new⟩
 rintro k i hk ⟨rfl, _⟩
 exact absurd h.b_new (by omega)
theorem EyeNew.start {w0 w w' : World} {L : List Bool} (h : Below w0.heap.size w0 w) (ha : EyeAt w' w.heap.size 0 L 0 0) (hb : Below w.heap.size w w') : EyeNew w0 w' w.heap.size L 0 0 :=
 ⟨ha, h.trans (hb.mono h.size), h.size⟩

end Go.Proofs.YtgabmfibfikdbaaGreatDoor
