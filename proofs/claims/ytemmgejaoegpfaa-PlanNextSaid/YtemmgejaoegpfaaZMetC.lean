/-
  Layer 9: the walk of Check.
-/
import Derived.Test.YtemmgejaoegpfaaZMetA
import Derived.Test.YtemmgejaoegpfaaZLib9
import Derived.BigRegion

namespace Go.Proofs.Ytemmgejaoegpfaa
open Go.RowKit Go.Bar Go.Bar.Leb Go.Bar.Frm Go.Bar.Idt Go.Bar.Met

def sized (m : Mt) : Prop := m.fs.length = 2 ∧ m.ss.length ≤ 50
theorem not_ok {m : Mt} (h : ¬ (sane m ∧ sized m)) : ¬ Ok m := fun hk => h ⟨hk.1, hk.2.1, hk.2.2.1⟩
theorem bad_cases {m : Mt} (h : ¬ (sane m ∧ sized m)) : idOk m.id = false ∨ (idOk m.id = true ∧ m.mn < 0) ∨ (idOk m.id = true ∧ 0 ≤ m.mn ∧ m.mx ≤ m.mn) ∨ (idOk m.id = true ∧ 0 ≤ m.mn ∧ m.mn < m.mx ∧ 1099511627776 < m.mx) ∨
    (idOk m.id = true ∧ 0 ≤ m.mn ∧ m.mn < m.mx ∧ m.mx ≤ 1099511627776 ∧ m.lv < 1) ∨ (idOk m.id = true ∧ 0 ≤ m.mn ∧ m.mn < m.mx ∧ m.mx ≤ 1099511627776 ∧ 1 ≤ m.lv ∧ 9 < m.lv) ∨
    (idOk m.id = true ∧ 0 ≤ m.mn ∧ m.mn < m.mx ∧ m.mx ≤ 1099511627776 ∧ 1 ≤ m.lv ∧ m.lv ≤ 9 ∧ m.sr < 0) ∨ (idOk m.id = true ∧ 0 ≤ m.mn ∧ m.mn < m.mx ∧ m.mx ≤ 1099511627776 ∧ 1 ≤ m.lv ∧ m.lv ≤ 9 ∧ 0 ≤ m.sr ∧ m.sm < m.sr) ∨
    (idOk m.id = true ∧ 0 ≤ m.mn ∧ m.mn < m.mx ∧ m.mx ≤ 1099511627776 ∧ 1 ≤ m.lv ∧ m.lv ≤ 9 ∧ 0 ≤ m.sr ∧ m.sr ≤ m.sm ∧ 1073741824 < m.sm) ∨
    (idOk m.id = true ∧ 0 ≤ m.mn ∧ m.mn < m.mx ∧ m.mx ≤ 1099511627776 ∧ 1 ≤ m.lv ∧ m.lv ≤ 9 ∧ 0 ≤ m.sr ∧ m.sr ≤ m.sm ∧ m.sm ≤ 1073741824 ∧ m.fs.length ≠ 2) ∨
    (idOk m.id = true ∧ 0 ≤ m.mn ∧ m.mn < m.mx ∧ m.mx ≤ 1099511627776 ∧ 1 ≤ m.lv ∧ m.lv ≤ 9 ∧ 0 ≤ m.sr ∧ m.sr ≤ m.sm ∧ m.sm ≤ 1073741824 ∧ m.fs.length = 2 ∧ 50 < m.ss.length) := by
  unfold sane sized at h
  rcases hb : idOk m.id with _ | _
  · exact .inl rfl
  · rw [hb] at h
    simp only [true_and] at h
    by_cases h1 : m.mn < 0
    · exact (.inr (.inl ⟨rfl, h1⟩))
    by_cases h2 : m.mx ≤ m.mn
    · exact (.inr (.inr (.inl ⟨rfl, by omega, h2⟩)))
    by_cases h3 : 1099511627776 < m.mx
    · exact (.inr (.inr (.inr (.inl ⟨rfl, by omega, by omega, h3⟩))))
    by_cases h4 : m.lv < 1
    · exact (.inr (.inr (.inr (.inr (.inl ⟨rfl, by omega, by omega, by omega, h4⟩)))))
    by_cases h5 : 9 < m.lv
    · exact (.inr (.inr (.inr (.inr (.inr (.inl ⟨rfl, by omega, by omega, by omega, by omega, h5⟩))))))
    by_cases h6 : m.sr < 0
    · exact (.inr (.inr (.inr (.inr (.inr (.inr (.inl ⟨rfl, by omega, by omega, by omega, by omega, by omega, h6⟩)))))))
    by_cases h7 : m.sm < m.sr
    · exact (.inr (.inr (.inr (.inr (.inr (.inr (.inr (.inl ⟨rfl, by omega, by omega, by omega, by omega, by omega, by omega, h7⟩))))))))
    by_cases h8 : 1073741824 < m.sm
    · exact (.inr (.inr (.inr (.inr (.inr (.inr (.inr (.inr (.inl ⟨rfl, by omega, by omega, by omega, by omega, by omega, by omega, by omega, h8⟩)))))))))
    by_cases h9 : m.fs.length ≠ 2
    · exact (.inr (.inr (.inr (.inr (.inr (.inr (.inr (.inr (.inr (.inl ⟨rfl, by omega, by omega, by omega, by omega, by omega, by omega, by omega, by omega, h9⟩))))))))))
    exact (.inr (.inr (.inr (.inr (.inr (.inr (.inr (.inr (.inr (.inr ⟨rfl, by omega, by omega, by omega, by omega, by omega, by omega, by omega, by omega, by omega, by omega⟩))))))))))

theorem mbelow_alloc1 (w : World) (o : Obj) : Below w.heap.size w (w.alloc o) := (Below.refl _ _).alloc (Nat.le_refl _) o
theorem below_ad2 (w : World) (a b : Obj) : Below w.heap.size w ((w.alloc a).alloc b).drew := (below_trans (mbelow_alloc1 w a) (mbelow_alloc1 _ b)).drew'
theorem chk_file {m : Mt} {k : Nat} (hk : k < 2) (h : ¬ fileOk m k) : chk m = 3 := chk_no (fun h' => h (h'.2.2.2.1 k hk))
theorem chk_src {m : Mt} {k : Nat} (hk : k < m.ss.length) (h : ¬ good m k) : chk m = 3 := chk_no (fun h' => h (h'.2.2.2.2 k hk))

end Go.Proofs.Ytemmgejaoegpfaa
