/-
  Layer 14: what the laws' walks take: Tables, Told, Same, Between of small tables.
-/
import Derived.Test.YtjklcojnbcemoaaGreatDoorZMrgAC
import Derived.Test.YtjklcojnbcemoaaGreatDoorZMrgAB

namespace Go.Proofs.YtjklcojnbcemoaaGreatDoor
open Go.RowKit Go.Bar Go.Bar.Leb Go.Bar.Lab Go.Bar.Xor Go.Bar.Mrg

/-- a small table -/
def Szd (t : List Rv) (m p : Nat) : Prop := t.length ≤ m ∧ ∀ x ∈ t, x.ls.length ≤ 2 ∧ x.ss.length ≤ p
theorem FinTab.szd {tv : List (List Rv)} {t : List Rv} {m p : Nat} (h : FinTab tv t) (hm : ∀ r ∈ tv, Szd r m p) : Szd t (tv.length * m) (tv.length * m * p) := by
  have hs := evsK_small (m := m) (p := p) (ls := plT tv) (k := 0) fun R hR => by
    obtain ⟨t, ht, rfl⟩ := List.mem_map.1 hR
    refine ⟨by rw [List.length_map]; exact (hm t ht).1, fun r hr => ?_⟩
    obtain ⟨x, hx, rfl⟩ := List.mem_map.1 hr
    exact ((hm t ht).2 x hx).2
  have hl : (plT tv).length = tv.length := by unfold plT; rw [List.length_map]
  rw [hl] at hs
  refine ⟨Nat.le_trans h.len hs.1, fun x hx => ⟨?_, Nat.le_trans (h.sams x hx) hs.2⟩⟩
  obtain ⟨r, hr, y, hy, e⟩ := h.labs x hx
  rw [← e]
  exact ((hm r hr).2 y hy).1
theorem szd_tab {t : List Rv} {l : List On3} (h : t.map plR = tab3 l) : Szd t 40 40 := tabs_lab5 h rfl
theorem szd_nil {m p : Nat} : Szd [] m p := ⟨Nat.zero_le _, fun x hx => by cases hx⟩
theorem SlAt.none (w : World) (sz : Nat) : SlAt w sz (.slice none 0 0) 0 [] := ⟨by simp, _, _, rfl, Nat.le_refl _, by decide, fun h => absurd h (by simp)⟩
theorem tb_nil (w : World) : TbAt w (.slice none 0 0) [] := ⟨SlAt.none w 2, fun x hx => by cases hx⟩
/-- a table that a call hands back -/
def RetMt (w : World) (R : List Row) (m p : Nat) (e : Ending) (w' : World) : Prop := ∃ v t, e = .returned v ∧ Below w.heap.size w w' ∧ TbAt w' v t ∧ t.map plR = R ∧ Szd t m p
theorem tables_at (T : TypeId) (vs : List Value) (ts : List (List Rv)) (n m p : Nat) (R : List Row) (w : World) (hn : ts.length = n) (hl : vs.length = n) (hk : n ≤ 1000) (h : ∀ (i : Nat) (t : List Rv), ts[i]? = some t → ∃ v, vs[i]? = some v ∧ TbAt w v t) (hz : ∀ t ∈ ts, Szd t m p) (hr : ∀ t ∈ ts, Rls (t.map plR)) (hR : ∀ S, tabs (plT ts) S → S = R)
    (h1 : n * m ≤ 1000000) (h2 : n * m * p ≤ 10000000) :
    Calls Tryz.prog 9 #[.slice (some ⟨w.heap.size, 0, none⟩) n n] (w.alloc (.cells vs.toArray T)) (RetMt (w.alloc (.cells vs.toArray T)) R (n * m) (n * m * p)) := by
  have hts := TsAt.lit T vs ts n hn hl (by unfold maxLen; omega) fun i t ht => by
    obtain ⟨v, e, hv⟩ := h i t ht
    obtain ⟨A, c, rfl, _⟩ := hv.shape
    exact ⟨A, c, e, hv⟩
  refine (tables_of _ ts _ hts hr n m p (Nat.le_of_eq hn) (fun t ht => ⟨(hz t ht).1, fun x hx => ⟨by have := ((hz t ht).2 x hx).1; omega, ((hz t ht).2 x hx).2⟩⟩) hk h1 h2).mono ?_
  rintro e w' ⟨v, t, rfl, hb, ht, hf⟩
  have := hf.szd hz
  rw [hn] at this
  exact ⟨v, t, rfl, hb, ht, hR _ hf.tabs, this⟩
theorem told_at {v : Value} {t : List Rv} {w : World} {R : List Row} {m p : Nat} (h : TbAt w v t) (hR : t.map plR = R) (hz : Szd t m p) (hm : m ≤ 1000000) : Calls Tryz.prog 11 #[v] w (RetMt w R m p) := by
  refine (told14_any v t w h (Nat.le_trans hz.1 hm) fun x hx => by have := (hz.2 x hx).1; omega).mono ?_
  rintro e w' ⟨v', t', rfl, hd, hm'⟩
  refine ⟨v', t', rfl, hd.n.below, (hd.rtb (Below.refl _ _)).tb, hm'.trans hR, ?_⟩
  have hl := congrArg List.length hm'
  rw [List.length_map, List.length_map] at hl
  refine ⟨by rw [hl]; exact hz.1, rows_bound (R := t'.map plR) rfl fun r hr => ?_⟩
  rw [hm'] at hr
  obtain ⟨x, hx, rfl⟩ := List.mem_map.1 hr
  exact hz.2 x hx
theorem betw_len (a b : Int) : ∀ R : List Row, (betw R a b).length ≤ R.length := fun _ => List.length_filterMap_le _ _
theorem between_at {v : Value} {t : List Rv} {w : World} {R : List Row} {m p : Nat} (a b : Int) (h : TbAt w v t) (hR : t.map plR = R) (hz : Szd t m p) (hm : m ≤ 1000000) (hp : p ≤ 1000000) : Calls Tryz.prog 41 #[v, .int .i64 a, .int .i64 b] w (RetMt w (betw R a b) m p) := by
  refine (mbetween_any v t a b w h (Nat.le_trans hz.1 hm) fun x hx => by have := hz.2 x hx; omega).mono ?_
  rintro e w' ⟨v', t', rfl, hd, hm'⟩
  rw [hR] at hm'
  refine ⟨v', t', rfl, hd.n.below, (hd.rtb (Below.refl _ _)).tb, hm', ?_⟩
  have hl := congrArg List.length hm'
  rw [List.length_map] at hl
  have h1 := betw_len a b R
  have h2 : R.length = t.length := by rw [← hR, List.length_map]
  refine ⟨by have := hz.1; omega, rows_bound (R := t'.map plR) rfl fun r hr => ?_⟩
  rw [hm'] at hr
  obtain ⟨x, hx, e1, e2, _⟩ := betw_mem hr
  rw [← hR] at hx
  obtain ⟨y, hy, rfl⟩ := List.mem_map.1 hx
  have h3 := hz.2 y hy
  refine ⟨by rw [← e1]; exact h3.1, ?_⟩
  rw [e2]
  exact Nat.le_trans (List.length_filter_le _ _) h3.2
end Go.Proofs.YtjklcojnbcemoaaGreatDoor
