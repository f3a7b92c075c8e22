/-
  Layer 6: the walk of the reference's Parse.
-/
import Derived.Test.YtpjicajifdandaaDoorLabW
namespace Go.Proofs.YtpjicajifdandaaDoor
open Go.RowKit Go.Bar Go.Bar.Leb Go.Bar.Lab

/-- a beginning put to the first part -/
def glue (x : List UInt8) : List (List UInt8) → List (List UInt8)
  | [] => [x]
  | h :: t => (x ++ h) :: t
theorem glue_nil {l : List (List UInt8)} (h : l ≠ []) : glue [] l = l := by
  cases l with
  | nil => exact absurd rfl h
  | cons a t => rfl
theorem commas_sign {c : UInt8} (r : List UInt8) (hc : ¬ c = 44) : commas (c :: r) = glue [c] (commas r) := by
  rw [commas, if_neg hc]
  cases commas r <;> rfl
theorem glue_glue (x y : List UInt8) (l : List (List UInt8)) : glue x (glue y l) = glue (x ++ y) l := by
  cases l <;> simp [glue]
/-- what has come: a name, or a name and a value's beginning -/
def preOf (a b : List UInt8) (eq : Bool) : List UInt8 := match eq with | true => a ++ 61 :: b | false => a
/-- what is said of the text, when so much is through -/
def RPI (s : List UInt8) (l : List Pr) (a b : List UInt8) (eq : Bool) (r : List UInt8) : Prop :=
  61 ∉ a ∧ (eq = false → b = []) ∧ pairsOf (commas s) = (pairsOf (glue (preOf a b eq) (commas r))).map (l ++ ·)
section
variable {s : List UInt8} {l : List Pr} {a b r : List UInt8} {c : UInt8}
theorem RPI.start : RPI s [] [] [] false s := ⟨by simp, fun _ => rfl, by
  unfold preOf
  rw [glue_nil (commas_ne s)]
  cases pairsOf (commas s) <;> simp⟩
theorem RPI.comma (h : RPI s l a b true (44 :: r)) : RPI s (l ++ [(a, b)]) [] [] false r := by
  obtain ⟨h1, _, h3⟩ := h
  refine ⟨by simp, fun _ => rfl, ?_⟩
  rw [h3, show preOf ([] : List UInt8) [] false = [] from rfl, glue_nil (commas_ne r), commas, if_pos rfl]
  unfold preOf
  simp only [glue, List.append_nil]
  rw [pairsOf, cutEq_at _ _ h1]
  cases pairsOf (commas r) <;> simp
theorem RPI.commaF (h : RPI s l a b false (44 :: r)) : parse s = ([], 3) := by
  obtain ⟨h1, _, h3⟩ := h
  rw [commas, if_pos rfl] at h3
  unfold preOf at h3
  simp only [glue, List.append_nil] at h3
  rw [pairsOf, cutEq_none _ h1] at h3
  unfold parse
  rw [h3]
  rfl
theorem RPI.endT (h : RPI s l a b true []) : pairsOf (commas s) = some (l ++ [(a, b)]) := by
  obtain ⟨h1, _, h3⟩ := h
  rw [h3]
  unfold preOf
  simp [commas, glue, pairsOf, cutEq_at _ _ h1]
theorem RPI.endF (h : RPI s l a b false []) : parse s = ([], 3) := by
  obtain ⟨h1, _, h3⟩ := h
  unfold preOf at h3
  simp only [commas, glue, List.append_nil] at h3
  rw [pairsOf, cutEq_none _ h1] at h3
  unfold parse
  rw [h3]
  rfl
theorem RPI.sign (h : RPI s l a b true (c :: r)) (hc : ¬ c = 44) : RPI s l a (b ++ [c]) true r := by
  obtain ⟨h1, _, h3⟩ := h
  refine ⟨h1, (fun h => by cases h), ?_⟩
  rw [h3, commas_sign r hc, glue_glue]
  unfold preOf
  simp
theorem RPI.signF (h : RPI s l a b false (c :: r)) (hc : ¬ c = 44) (he : ¬ c = 61) : RPI s l (a ++ [c]) b false r := by
  obtain ⟨h1, h2, h3⟩ := h
  refine ⟨by simp [h1]; exact fun h => he h.symm, h2, ?_⟩
  rw [h3, commas_sign r hc, glue_glue]
  unfold preOf
  simp
theorem RPI.eq (h : RPI s l a b false (61 :: r)) : RPI s l a b true r := by
  obtain ⟨h1, h2, h3⟩ := h
  refine ⟨h1, (fun h => by cases h), ?_⟩
  rw [h3, commas_sign r (by decide), glue_glue, h2 rfl]
  unfold preOf
  simp
end

/-- an append of a literal to a buffer of the call's own: and where it lies -/
theorem wpList_append_glit {P : Program} {ops : Array Oper} {rest : List Oper} {o : Oper} {a : Act} {Q : Exit → Act → World → Prop} {w : World} (hgd : o.guard = none) (s x : Operand) (t : TypeId)
    (ho : o.op = .call { callee := .builtin .append, args := #[s, x], argTypes := #[t, t] })
    {e : TypeId} {z : Value} {sz bytes : Nat} (hT : ElemTy P t e z sz bytes)
    {W : World} {v : Value} {m k : Nat} {ys news : List Value} (hv : a.eval s = v) (h : NBuf W w e sz v m ys) {H : Nat} (hx : a.eval x = .slice (some ⟨H, 0, none⟩) k k) (hH : w.heap.size = H)
    (hl : news.length = k * sz) (h1 : ∀ u ∈ news, u.oneCell' = true) (h63 : m + k ≤ maxLen) (hbytes : (m + k) * bytes ≤ 140737488355328)
    (K : ∀ v' w', NBuf W w' e sz v' (m + k) (ys ++ news) → Ap (w.alloc (.cells news.toArray e)) w' sz v → Grew (w.alloc (.cells news.toArray e)) v v' → wpList P ops Q rest (a.put o.dst v') w') : wpList P ops Q (o :: rest) a (w.alloc (.cells news.toArray e)) :=
  wpList_append_el hgd s x t t ho hT hv (h.alloc _).buf (hx.trans (by rw [hH])) ((Buf.lit w e sz k news hl (by omega)).src hT.slice h1) h63 hbytes fun v' w' hb ha hg => K v' w' ((h.alloc _).step hb ha hg) ha hg
theorem grew_ne {w : World} {v v' : Value} {M : Nat} (h : Grew w v v') (hM : M < w.heap.size) (hv : v.ownBlock ≠ some M) : v'.ownBlock ≠ some M := by
  rcases h with ⟨A, n, n', c, rfl, rfl, _⟩ | ⟨g, n', c', rfl, hg⟩
  · cases A <;> simp_all [Value.ownBlock]
  · simp [Value.ownBlock]; omega

/-- what the reference's Parse leaves -/
def RetRPs (w : World) (s : List UInt8) (e : Ending) (w' : World) : Prop := ∃ v, e = .returned (.tuple #[v, .int .i64 ((parse s).2 : Nat)]) ∧ NBuf w w' 61 2 v (parse s).1.length (pcs (parse s).1)

set_option maxHeartbeats 8000000 in
set_option maxRecDepth 10000 in
theorem rparse_any6 (s : List UInt8) (w : World) (hs : s.length ≤ 1000) :
    Calls Tryd.prog 28 #[.string (bs s)] w (RetRPs w s) := by
  obtain ⟨Z, hZ⟩ : ∃ Z, Z = parse s := ⟨_, rfl⟩
  unfold RetRPs
  rw [← hZ]
  have HZ := Lib.hid hZ
  clear hZ
  obtain ⟨PB, hPB⟩ : ∃ PB, PB = w.heap.size + 1 := ⟨_, rfl⟩
  have HN0 := Lib.hid ((NBuf.lit0 (Below.refl w.heap.size w) 61 2).alloc (.cells #[.string { data := #[] }, .string { data := #[] }] 61))
  have HB0 := Lib.hid (show Blk ((w.alloc (.cells #[] 61)).alloc (.cells #[.string { data := #[] }, .string { data := #[] }] 61)) PB 61 #[.string (bs []), .string (bs [])] by
    have := Blk.new (w.alloc (.cells #[] 61)) #[.string (bs []), .string (bs [])] 61
    rw [show (w.alloc (.cells #[] 61)).heap.size = PB by simp [World.alloc_eq, hPB]] at this
    exact this)
  have HPW := Lib.hid (show w.heap.size ≤ PB by omega)
  go_enter Tryd.func28, Tryd.ntmps28
  go_wp2_with fail
  rw [← hPB]
  go_loopw [7, 4, 6] (fun i d f wr => ∃ (k n : Nat) (eq : Bool) (l : List Pr) (a b : List UInt8), k ≤ s.length + 1 ∧ i = .int .i64 k ∧ f = .bool eq ∧ n ≤ k ∧ a.length ≤ k ∧ b.length ≤ k ∧ Hid (l.length = n) ∧ Hid (NBuf w wr 61 2 d n (pcs l)) ∧ Hid (d.ownBlock ≠ some PB) ∧ Hid (Blk wr PB 61 #[.string (bs a), .string (bs b)]) ∧ Hid ((k ≤ s.length → RPI s l a b eq (s.drop k)) ∧ (k = s.length + 1 → pairsOf (commas s) = some l)) ∧ Hid (∀ p ∈ l, p.1.length ≤ 2000)) (fun i _ _ _ => s.length + 1 - (intOf i).toNat)
  case atStart => exact ⟨0, 0, false, [], [], [], by omega, rfl, rfl, by omega, by simp, by simp, Lib.hid rfl, HN0, Lib.hid (by simp [Value.ownBlock]; omega), HB0, Lib.hid ⟨fun _ => RPI.start, fun h => by omega⟩, Lib.hid (by simp)⟩
  case round =>
    clear HN0 HB0 hPB
    obtain ⟨k, n, eq, l, a, b, hk, rfl, rfl, hnk, hak, hbk, hln, hnb, hne, hblk, hpi, hpl⟩ := hrel
    obtain ⟨fA, fc, rfl, hfc⟩ := hnb.out.buf.shape
    have b0 : wr.cell? ⟨PB, 0, none⟩ = some (.string (bs a)) := hblk.out.cell rfl
    have b1 : wr.cell? ⟨PB, 1, none⟩ = some (.string (bs b)) := hblk.out.cell rfl
    have f0 := hblk.out.free 0
    have f1 := hblk.out.free 1
    by_cases hgo : k ≤ s.length
    · have hd : decide ((k : Int) ≤ (s.length : Int)) = true := decide_eq_true (by omega)
      have hp := hpi.out.1 hgo
      by_cases hend : k = s.length
      · subst hend
        rw [List.drop_length] at hp
        rcases eq with _ | _
        · have HZ2 := Lib.hid (HZ.out.trans hp.endF)
          clear hp hpi hgo
          go_wp2_with fail
          go_ret2
          exact ⟨_, by rw [HZ2.out]; rfl, by rw [HZ2.out]; exact NBuf.nil hnb.out.below _ _⟩
        · have HE := Lib.hid hp.endT
          clear hp hpi hgo
          go_wp2_with (at_builtin; refine wpList_append_glit rfl (.tmp 29) (.tmp 31) 29 rfl rpair_ty rfl hnb.out rfl (by simp) rfl (by simp [Value.oneCell']) (by simp only [maxLen]; omega) (by omega) ?_; intro v3 w3 hn3 ha3 hg3; have hb3 := Lib.hid (blk_keep_ap (hblk.out.alloc (.cells #[.string (bs a), .string (bs b)] 61)) ha3 hne.out); have hne3 := Lib.hid (grew_ne hg3 (by have := hblk.out.lt; simp [World.alloc_eq]; omega) hne.out); have HN4 := Lib.hid hn3; clear hn3 ha3 hg3 b0 b1 f0 f1; have c0 : w3.cell? ⟨PB, 0, none⟩ = some (.string (bs a)) := hb3.out.cell rfl; have f0 := hb3.out.free 0; have c1 : (w3.setCell ⟨PB, 0, none⟩ (.string { data := #[] })).cell? ⟨PB, 1, none⟩ = some (.string (bs b)) := (hb3.out.set 0 _).cell rfl; have f1 := (hb3.out.set 0 (.string { data := #[] })).free 1)
          go_roundw
          case rel =>
            refine ⟨s.length + 1, n + 1, false, l ++ [(a, b)], [], [], by omega, by go_num, rfl, by omega, by simp, by simp, Lib.hid (by simp [hln.out]), ?_, hne3, Lib.hid ((hb3.out.set 0 _).set 1 _), Lib.hid ⟨fun h => by omega, fun _ => HE.out⟩, Lib.hid (fun p hp => ?_)⟩
            · rw [pcs_snoc]; exact Lib.hid ((HN4.out.set_blk HPW.out hne3.out 0 _).set_blk HPW.out hne3.out 1 _)
            · rw [List.mem_append, List.mem_singleton] at hp
              rcases hp with hp | rfl
              · exact hpl.out p hp
              · show a.length ≤ 2000; omega
          case measure => simp [intOf]; try omega
      · have hlt : k < s.length := by omega
        obtain ⟨c, hc⟩ : ∃ c, s[k]? = some c := ⟨_, List.getElem?_eq_getElem hlt⟩
        have hdr : s.drop k = c :: s.drop (k + 1) := by
          obtain ⟨h1, h2⟩ := List.getElem?_eq_some_iff.1 hc
          rw [← h2]; exact List.drop_eq_getElem_cons h1
        have hq : ((k : Int) == (s.length : Int)) = false := by rw [beq_eq_false_iff_ne]; omega
        have hxk := index_bs (P := Tryd.prog) Tryd.underlying9 .i64 s (k : Int) k c rfl hc
        rw [hdr] at hp
        by_cases h44 : c = 44
        · subst h44
          rcases eq with _ | _
          · have HZ2 := Lib.hid (HZ.out.trans hp.commaF)
            clear hp hpi hgo hdr hc
            go_wp2_with fail
            go_ret2
            exact ⟨_, by rw [HZ2.out]; rfl, by rw [HZ2.out]; exact NBuf.nil hnb.out.below _ _⟩
          · have HE := Lib.hid hp.comma
            clear hp hpi hgo hdr hc
            go_wp2_with (at_builtin; refine wpList_append_glit rfl (.tmp 29) (.tmp 31) 29 rfl rpair_ty rfl hnb.out rfl (by simp) rfl (by simp [Value.oneCell']) (by simp only [maxLen]; omega) (by omega) ?_; intro v3 w3 hn3 ha3 hg3; have hb3 := Lib.hid (blk_keep_ap (hblk.out.alloc (.cells #[.string (bs a), .string (bs b)] 61)) ha3 hne.out); have hne3 := Lib.hid (grew_ne hg3 (by have := hblk.out.lt; simp [World.alloc_eq]; omega) hne.out); have HN4 := Lib.hid hn3; clear hn3 ha3 hg3 b0 b1 f0 f1; have c0 : w3.cell? ⟨PB, 0, none⟩ = some (.string (bs a)) := hb3.out.cell rfl; have f0 := hb3.out.free 0; have c1 : (w3.setCell ⟨PB, 0, none⟩ (.string { data := #[] })).cell? ⟨PB, 1, none⟩ = some (.string (bs b)) := (hb3.out.set 0 _).cell rfl; have f1 := (hb3.out.set 0 (.string { data := #[] })).free 1)
            go_roundw
            case rel =>
              refine ⟨k + 1, n + 1, false, l ++ [(a, b)], [], [], by omega, by go_num, rfl, by omega, by simp, by simp, Lib.hid (by simp [hln.out]), ?_, hne3, Lib.hid ((hb3.out.set 0 _).set 1 _), Lib.hid ⟨fun h => HE.out, fun h => by omega⟩, Lib.hid (fun p hp => ?_)⟩
              · rw [pcs_snoc]; exact Lib.hid ((HN4.out.set_blk HPW.out hne3.out 0 _).set_blk HPW.out hne3.out 1 _)
              · rw [List.mem_append, List.mem_singleton] at hp
                rcases hp with hp | rfl
                · exact hpl.out p hp
                · show a.length ≤ 2000; omega
            case measure => simp [intOf]; try omega
        · have hq44 : ((c.toNat : Int) == 44) = false := by
            rw [beq_eq_false_iff_ne]; intro h; exact h44 (UInt8.toNat_inj.1 (by simpa using Int.ofNat_inj.1 h))
          have hs1 : ∀ w, (Instr.slice 9 (.string (bs s)) (some (.int .i64 (k : Int))) (some (.int .i64 ((k : Int) + 1))) none).run Tryd.prog w = .ok (.string (bs [c])) w := fun w => by
            have := slice_ft (P := Tryd.prog) (t := 9) Tryd.underlying9 s k (k + 1) (by omega) (by omega) w
            rw [hdr, show k + 1 - k = 1 by omega] at this
            exact this
          rcases eq with _ | _
          · by_cases h61 : c = 61
            · subst h61
              have HE := Lib.hid hp.eq
              clear hp hpi hgo hdr hc h44
              go_wp2_with fail
              go_roundw
              case rel => exact ⟨k + 1, n, true, l, a, b, by omega, by go_num, rfl, by omega, by omega, by omega, hln, hnb, hne, hblk, Lib.hid ⟨fun h => HE.out, fun h => by omega⟩, hpl⟩
              case measure => simp [intOf]; try omega
            · have HE := Lib.hid (hp.signF h44 h61)
              have hq61 : (([c] : List UInt8) == [61]) = false := by rw [beq_eq_false_iff_ne]; simpa using h61
              clear hp hpi hgo hdr hc h44 h61
              go_wp2_with fail
              go_roundw
              case rel => exact ⟨k + 1, n, false, l, a ++ [c], b, by omega, by go_num, rfl, by omega, by simp; omega, by omega, hln, Lib.hid (hnb.out.set_blk HPW.out hne.out 0 _), hne, Lib.hid (by have := hblk.out.set 0 (.string (bs (a ++ [c]))); rw [← bs_append] at this ⊢; exact this), Lib.hid ⟨fun h => HE.out, fun h => by omega⟩, hpl⟩
              case measure => simp [intOf]; try omega
          · have HE := Lib.hid (hp.sign h44)
            clear hp hpi hgo hdr hc h44
            go_wp2_with fail
            go_roundw
            case rel => exact ⟨k + 1, n, true, l, a, b ++ [c], by omega, by go_num, rfl, by omega, by omega, by simp; omega, hln, Lib.hid (hnb.out.set_blk HPW.out hne.out 1 _), hne, Lib.hid (by have := hblk.out.set 1 (.string (bs (b ++ [c]))); rw [← bs_append] at this ⊢; exact this), Lib.hid ⟨fun h => HE.out, fun h => by omega⟩, hpl⟩
            case measure => simp [intOf]; try omega
    · obtain rfl : k = s.length + 1 := by omega
      have hd : decide (((s.length : Int) + 1) ≤ (s.length : Int)) = false := decide_eq_false (by omega)
      have hpo := hpi.out.2 rfl
      obtain rfl : n = l.length := hln.out.symm
      have hps : parse s = (if chk (sorted l) = true then (sorted l, 0) else ([], 12)) := by unfold parse; rw [hpo]
      have hso := rsorted_any _ l wr hnb.out.slice (by omega)
      have HSO := Lib.hid hso
      have HPS := Lib.hid (HZ.out.trans hps)
      have HSL := Lib.hid (show ∀ p ∈ sorted l, p.1.length ≤ 1000000000000 from fun p hp => by have := hpl.out p ((sorted_perm l).mem_iff.1 hp); omega)
      clear hso hps hpo hpi hgo b0 b1
      go_wp2_with fail
      refine HSO.out.mono ?_
      rintro e w2 ⟨v2, rfl, hn2⟩
      obtain ⟨gA, gc, rfl, hgc⟩ := hn2.buf.shape
      have hck := rcheck_any6 _ (sorted l) w2 hn2.slice HSL.out
      have HN2 := Lib.hid (hn2.after hnb.out.below)
      rcases hcc : chk (sorted l) with _ | _
      · rw [hcc] at hck
        have HCK := Lib.hid hck
        have HZ3 := Lib.hid (show Z = ([], 12) by rw [HPS.out, hcc]; rfl)
        clear hck hcc hn2
        go_wp2_with fail
        refine HCK.out.mono ?_
        rintro e w3 ⟨rfl, hb3⟩
        have HN3 := Lib.hid (HN2.out.then_below hb3)
        clear hb3
        go_wp2_with fail
        go_ret2
        exact ⟨_, by rw [HZ3.out]; rfl, by rw [HZ3.out]; exact NBuf.nil HN3.out.below _ _⟩
      · rw [hcc] at hck
        have HCK := Lib.hid hck
        have HZ3 := Lib.hid (show Z = (sorted l, 0) by rw [HPS.out, hcc]; rfl)
        clear hck hcc hn2
        go_wp2_with fail
        refine HCK.out.mono ?_
        rintro e w3 ⟨rfl, hb3⟩
        have HN3 := Lib.hid (HN2.out.then_below hb3)
        clear hb3
        go_wp2_with fail
        go_ret2
        exact ⟨_, by rw [HZ3.out]; rfl, by rw [HZ3.out]; exact HN3.out⟩

end Go.Proofs.YtpjicajifdandaaDoor
