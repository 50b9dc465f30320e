/-
  Told in plain Lean: the places beside a machine that does nothing are the estimate.
-/
import Derived.Test.YtcjinmgieiebbaaDoorZRef12P
import Derived.Test.YtcjinmgieiebbaaDoorZRef12L
namespace Go.Proofs.YtcjinmgieiebbaaDoor
set_option linter.unusedSimpArgs false
set_option linter.unusedVariables false
set_option linter.unusedSectionVars false
open Go.RowKit

/-- Where a machine may be by what was seen. -/
noncomputable def estM (m : Mach) (seen v : List Int) : List Int := v.foldl (seeL m seen) (wideL m seen m.starts)
theorem estM_snoc (m : Mach) (seen v : List Int) (e : Int) : estM m seen (v ++ [e]) = seeL m seen (estM m seen v) e := by unfold estM; rw [List.foldl_append]; rfl
theorem estM_row {m : Mach} (hm : m.May) (seen v : List Int) : IsRow (estM m seen v) m.states := by
  rcases List.eq_nil_or_concat v with rfl | ⟨u, e, rfl⟩
  · exact wideL_row hm (row_range (may_starts hm))
  · rw [List.concat_eq_append, estM_snoc]; exact seeL_row hm seen _ e
theorem stepL_none {s : Mach} (h : s.arrows = []) (r : List Int) (e : Int) : stepL s r e = [] :=
  List.eq_nil_iff_forall_not_mem.2 fun x hx => by
    obtain ⟨a, ha, _⟩ := mem_stepL.1 hx
    rw [h] at ha
    exact absurd ha (by simp)
theorem un_one {m s : Mach} (h : s.arrows = []) {seen : List Int} {l0 : List Pl} {S : List Int} (h0 : ∀ x, x ∈ l0 ↔ x.2 = [] ∧ x.1 ∈ S) (x : Pl) : UnS m s seen l0 x ↔ x.2 = [] ∧ Clos (unE m seen) S x.1 := by
  constructor
  · intro hx
    induction hx with
    | base hx => exact ⟨((h0 _).1 hx).1, .base _ ((h0 _).1 hx).2⟩
    | @step x a _ ha h1 h2 ih =>
      refine ⟨stepL_none h _ _, Clos.step (a.frm, a.to_) (mem_eds.2 ⟨a, ha, by simp [unA, h2], rfl⟩) ?_⟩
      show Clos _ _ a.frm
      rw [h1]; exact ih.2
  · rintro ⟨hx2, hx1⟩
    obtain ⟨c, r⟩ := x
    simp only at hx1 hx2
    subst hx2
    induction hx1 with
    | base c hc => exact .base ((h0 _).2 ⟨rfl, hc⟩)
    | step p hp _ ih =>
      obtain ⟨a, ha, hu, rfl⟩ := mem_eds.1 hp
      have := UnS.step ih ha rfl (by simpa [unA] using hu)
      rw [stepL_none h] at this
      exact this
theorem AftP.one {m s : Mach} (hm : m.May) (h : s.arrows = []) (h0 : s.starts = []) {seen v : List Int} {l : List Pl} (hl : AftP m s seen v l) : ∀ x, x ∈ l ↔ x.2 = [] ∧ x.1 ∈ estM m seen v := by
  induction hl with
  | first e =>
    intro x
    rw [mem_wide e, un_one h (S := m.starts) (fun x => ?_), ← mem_wideL hm (row_range (may_starts hm))]
    · rfl
    · unfold firstPl
      rw [List.take_length, List.mem_map, h0]
      exact ⟨fun ⟨y, hy, q⟩ => q ▸ ⟨rfl, hy⟩, fun ⟨q, hy⟩ => ⟨x.1, hy, by rw [← q]⟩⟩
  | @step v e l l' _ he ih =>
    intro x
    rw [mem_wide he, estM_snoc, un_one h (S := stepL m (estM m seen v) e) (fun x => ?_)]
    · unfold seeL
      rw [mem_wideL hm (stepL_range hm _ _)]
    · rw [mem_sUptoP, mem_stepL]
      constructor
      · rintro ⟨y, hy, a, ha, h1, h2, rfl⟩
        exact ⟨stepL_none h _ _, a, ha, h2, by rw [h1]; exact ((ih y).1 hy).2, rfl⟩
      · rintro ⟨q, a, ha, h2, h1, h3⟩
        exact ⟨(a.frm, []), (ih _).2 ⟨rfl, h1⟩, a, ha, rfl, h2, by rw [stepL_none h, h3, ← q]⟩
/-- What the reference asks at a place, and what the program asks. -/
theorem only_pos {l m : List Int} : 0 < (onlyL l m true).length ↔ MeetL l m := by
  unfold onlyL MeetL
  rw [List.length_pos_iff_exists_mem]
  simp only [List.mem_filter, beq_true, decide_eq_true_eq]
theorem nodup_subP : ∀ (l m : List Pl), l.Nodup → (∀ x ∈ l, x ∈ m) → l.length ≤ m.length
  | [], _, _, _ => Nat.zero_le _
  | x :: l, m, hn, hs => by
      have hx := hs x List.mem_cons_self
      have h1 := nodup_subP l (m.erase x) (List.nodup_cons.1 hn).2 fun y hy => by
        have hne : y ≠ x := fun e => (List.nodup_cons.1 hn).1 (e ▸ hy)
        exact (List.mem_erase_of_ne hne).2 (hs y (List.mem_cons_of_mem _ hy))
      rw [List.length_erase_of_mem hx] at h1
      have h2 := List.length_pos_of_mem hx
      rw [List.length_cons]; omega
end Go.Proofs.YtcjinmgieiebbaaDoor
