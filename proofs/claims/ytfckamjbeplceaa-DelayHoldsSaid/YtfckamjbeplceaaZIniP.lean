/-
  Chapter 10, in plain Lean: from where a plant goes on; that is the same by the reference's way. No program in sight.
-/
import Derived.Test.YtfckamjbeplceaaZCur
import Derived.Test.YtfckamjbeplceaaZLay
namespace Go.Proofs.Ytfckamjbeplceaa
set_option linter.unusedSimpArgs false
set_option linter.unusedVariables false
set_option linter.unusedSectionVars false
open Go.RowKit

/-- From where an event leads into some states, arrow by arrow. -/
def preT (ar : List Arr) (l : List Int) (e : Int) : List Int := (ar.filter fun a => decide (a.evt = e) && decide (a.to_ ∈ l)).map (·.frm)
theorem mem_preT {ar : List Arr} {l : List Int} {e x : Int} : x ∈ preT ar l e ↔ ∃ a ∈ ar, a.evt = e ∧ a.to_ ∈ l ∧ a.frm = x := by
  unfold preT
  simp only [List.mem_map, List.mem_filter, Bool.and_eq_true, decide_eq_true_eq]
  exact ⟨fun ⟨a, ⟨h1, h2, h3⟩, h4⟩ => ⟨a, h1, h2, h3, h4⟩, fun ⟨a, h1, h2, h3, h4⟩ => ⟨a, ⟨h1, h2, h3⟩, h4⟩⟩
/-- The unseen edges, the other way round. -/
abbrev unR (m : Mach) (seen : List Int) : List (Int × Int) := eds (unA seen) true m.arrows
noncomputable def backL (m : Mach) (seen l : List Int) (e : Int) : List Int := pick (Clos (unR m seen) (preT m.arrows l e))
theorem unR_small {m : Mach} (hm : m.May) {seen : List Int} : ∀ p ∈ unR m seen, 0 ≤ p.2 ∧ p.2 < m.states := fun p hp => by
  obtain ⟨a, ha, _, rfl⟩ := mem_eds.1 hp
  exact (May.arr hm ha).1
theorem preT_range {m : Mach} (hm : m.May) (l : List Int) (e : Int) : ∀ x ∈ preT m.arrows l e, 0 ≤ x ∧ x < m.states := fun x hx => by
  obtain ⟨a, ha, _, _, rfl⟩ := mem_preT.1 hx
  exact (May.arr hm ha).1
theorem closR_range {m : Mach} (hm : m.May) {seen l : List Int} (hl : ∀ x ∈ l, 0 ≤ x ∧ x < m.states) {x : Int} (h : Clos (unR m seen) l x) : 0 ≤ x ∧ x < m.states :=
  Clos.all (p := fun x => 0 ≤ x ∧ x < m.states) hl (fun p hp _ => unR_small hm p hp) h
theorem mem_backL {m : Mach} (hm : m.May) {seen l : List Int} {e x : Int} : x ∈ backL m seen l e ↔ Clos (unR m seen) (preT m.arrows l e) x := by
  unfold backL
  rw [mem_pick]
  exact ⟨fun h => h.2, fun h => ⟨by have := closR_range hm (preT_range hm l e) h; have := hm.2.1; omega, h⟩⟩
theorem backL_row {m : Mach} (hm : m.May) (seen l : List Int) (e : Int) : IsRow (backL m seen l e) m.states := pick_row fun x hx => (closR_range hm (preT_range hm l e) hx).2
/-- Where unseen events lead from a state that is in it, back. -/
def BackClosed (m : Mach) (seen l : List Int) : Prop := ∀ a ∈ m.arrows, a.evt ∉ seen → a.to_ ∈ l → a.frm ∈ l
theorem backL_closed {m : Mach} (hm : m.May) (seen l : List Int) (e : Int) : BackClosed m seen (backL m seen l e) := fun a ha hs ht => by
  rw [mem_backL hm] at ht ⊢
  exact Clos.step (a.to_, a.frm) (mem_eds.2 ⟨a, ha, by simpa [unA] using hs, rfl⟩) ht
theorem all_row (n : Int) (h : 0 ≤ n) (h1 : n ≤ 256) : IsRow (evs n.toNat) n := IsRow.of_strict (evs_strict _) fun x hx => by
  have := evs_mem.1 hx; omega
theorem all_closed {m : Mach} (hm : m.May) (seen : List Int) : BackClosed m seen (evs m.states.toNat) := fun a ha _ _ => by
  have := (May.arr hm ha).1
  exact evs_mem.2 ⟨this.1, by omega⟩
noncomputable abbrev backP (p : Plt) : List Int → Int → List Int := backL p.m p.seen
noncomputable abbrev allP (p : Plt) : List Int := evs p.m.states.toNat
/-- What the places keep to. -/
def UB (p : Plt) (s : List Int) : Prop := IsRow s p.m.states ∧ BackClosed p.m p.seen s
theorem UB.all {p : Plt} (h : p.m.May) : UB p (allP p) := ⟨all_row _ (by have := h.1; omega) h.2.1, all_closed h _⟩
theorem UB.back {p : Plt} (h : p.m.May) (s : List Int) (e : Int) : UB p (backP p s e) := ⟨backL_row h _ _ _, backL_closed h _ _ _⟩
theorem wide_closed {m : Mach} (hm : m.May) {seen l : List Int} (hl : ∀ x ∈ l, 0 ≤ x ∧ x < m.states) : ∀ a ∈ m.arrows, a.evt ∉ seen → a.frm ∈ wideL m seen l → a.to_ ∈ wideL m seen l := fun a ha hs hf => by
  rw [mem_wideL hm hl] at hf ⊢
  exact Clos.step (a.frm, a.to_) (mem_eds.2 ⟨a, ha, by simpa [unA] using hs, rfl⟩) hf
end Go.Proofs.Ytfckamjbeplceaa
