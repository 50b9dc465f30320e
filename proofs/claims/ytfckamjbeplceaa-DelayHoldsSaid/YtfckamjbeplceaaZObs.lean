/-
  Runs of a machine, and what is seen of them; where a plant may be, and where it may have been, by its runs; who sees more knows more. In plain Lean. No program in sight.
-/
import Derived.Test.YtfckamjbeplceaaZIniP
namespace Go.Proofs.Ytfckamjbeplceaa
set_option linter.unusedSimpArgs false
set_option linter.unusedVariables false
set_option linter.unusedSectionVars false
open Go.RowKit

/-- A run. -/
inductive Rn (m : Mach) : Int → List Int → Int → Prop
  | nil (x : Int) : Rn m x [] x
  | cons (a : Arr) (s : List Int) (y : Int) : a ∈ m.arrows → Rn m a.to_ s y → Rn m a.frm (a.evt :: s) y
theorem Rn.app {m : Mach} {x y z : Int} {s t : List Int} (h : Rn m x s y) (k : Rn m y t z) : Rn m x (s ++ t) z := by
  induction h with
  | nil x => exact k
  | cons a s y ha _ ih => exact .cons a _ _ ha (ih k)
/-- What is seen of a word. -/
def obs (seen : List Int) (s : List Int) : List Int := s.filter fun e => decide (e ∈ seen)
theorem obs_nil (seen : List Int) : obs seen [] = [] := rfl
theorem obs_app (seen s t : List Int) : obs seen (s ++ t) = obs seen s ++ obs seen t := List.filter_append ..
theorem obs_in {seen : List Int} {e : Int} (h : e ∈ seen) (s : List Int) : obs seen (e :: s) = e :: obs seen s := by unfold obs; rw [List.filter_cons, if_pos (decide_eq_true h)]
theorem obs_out {seen : List Int} {e : Int} (h : e ∉ seen) (s : List Int) : obs seen (e :: s) = obs seen s := by unfold obs; rw [List.filter_cons, if_neg (by simpa using h)]
theorem obs_all {seen : List Int} (s : List Int) : AllIn (obs seen s) seen := fun x hx => of_decide_eq_true (List.mem_filter.1 hx).2
/-- Unseen edges are runs of which nothing is seen; and the other way round. -/
theorem rn_of_clos {m : Mach} {seen l : List Int} {t : Int} (h : Clos (unE m seen) l t) : ∃ x ∈ l, ∃ s, Rn m x s t ∧ obs seen s = [] := by
  induction h with
  | base z hz => exact ⟨z, hz, [], .nil z, rfl⟩
  | step q hq _ ih =>
    obtain ⟨x, hx, s, hr, ho⟩ := ih
    obtain ⟨a, ha, hpa, rfl⟩ := mem_eds.1 hq
    have hns : a.evt ∉ seen := by simpa [unA] using hpa
    exact ⟨x, hx, s ++ [a.evt], hr.app (.cons a [] _ ha (.nil _)), by rw [obs_app, ho, obs_out hns]; rfl⟩
/-- Where runs end, of which a list is seen: forward. -/
theorem est_run {p : Plt} (h : p.m.May) : ∀ (word S : List Int), AllIn word p.seen → (∀ x ∈ S, 0 ≤ x ∧ x < p.m.states) → ∀ y, y ∈ word.foldl (nextP p) S → ∃ x ∈ S, ∃ s, Rn p.m x s y ∧ obs p.seen s = word
  | [], S, _, _, y, hy => ⟨y, hy, [], .nil y, rfl⟩
  | e :: word, S, hw, hS, y, hy => by
    rw [List.foldl_cons] at hy
    have hrow := seeL_row h p.seen S e
    obtain ⟨x1, hx1, s, hr, ho⟩ := est_run h word _ (fun x hx => hw x (List.mem_cons_of_mem _ hx)) (row_range hrow) y hy
    have hx1 : x1 ∈ seeL p.m p.seen S e := hx1
    unfold seeL at hx1
    rw [mem_wideL h (stepL_range h _ _)] at hx1
    obtain ⟨z, hz, s0, hr0, ho0⟩ := rn_of_clos hx1
    obtain ⟨a, ha, hae, haf, rfl⟩ := mem_stepL.1 hz
    refine ⟨a.frm, haf, a.evt :: (s0 ++ s), .cons a _ _ ha (hr0.app hr), ?_⟩
    rw [obs_in (by rw [hae]; exact hw e (List.mem_cons_self ..)), obs_app, ho0, ho, List.nil_append, hae]
theorem run_est {p : Plt} (h : p.m.May) {x y : Int} {s : List Int} (hr : Rn p.m x s y) : ∀ S : List Int, (∀ x ∈ S, 0 ≤ x ∧ x < p.m.states) → (∀ a ∈ p.m.arrows, a.evt ∉ p.seen → a.frm ∈ S → a.to_ ∈ S) → x ∈ S → y ∈ (obs p.seen s).foldl (nextP p) S := by
  induction hr with
  | nil x => exact fun S _ _ hx => hx
  | cons a s y ha _ ih =>
    intro S hS hc hx
    by_cases c : a.evt ∈ p.seen
    · rw [obs_in c, List.foldl_cons]
      have hrow := seeL_row h p.seen S a.evt
      refine ih _ (row_range hrow) (fun b hb hs hf => ?_) ?_
      · show b.to_ ∈ seeL p.m p.seen S a.evt
        have hf : b.frm ∈ seeL p.m p.seen S a.evt := hf
        unfold seeL at hf ⊢
        rw [mem_wideL h (stepL_range h _ _)] at hf ⊢
        exact Clos.step (b.frm, b.to_) (mem_eds.2 ⟨b, hb, by simpa [unA] using hs, rfl⟩) hf
      · show a.to_ ∈ seeL p.m p.seen S a.evt
        unfold seeL
        rw [mem_wideL h (stepL_range h _ _)]
        exact .base _ (mem_stepL.2 ⟨a, ha, rfl, hx, rfl⟩)
    · rw [obs_out c]
      exact ih S hS hc (hc a ha c hx)
theorem mem_est {p : Plt} (h : p.m.May) {u : List Int} (hu : AllIn u p.seen) {y : Int} : y ∈ estL p u ↔ ∃ x ∈ p.m.starts, ∃ s, Rn p.m x s y ∧ obs p.seen s = u := by
  have hsr := row_range (may_starts h)
  constructor
  · intro hy
    obtain ⟨x1, hx1, s, hr, ho⟩ := est_run h u (firstP p) hu (row_range (wideL_row h hsr)) y hy
    have hx1 : x1 ∈ wideL p.m p.seen p.m.starts := hx1
    rw [mem_wideL h hsr] at hx1
    obtain ⟨x, hx, s0, hr0, ho0⟩ := rn_of_clos hx1
    exact ⟨x, hx, s0 ++ s, hr0.app hr, by rw [obs_app, ho0, ho]; rfl⟩
  · rintro ⟨x, hx, s, hr, rfl⟩
    exact run_est h hr (firstP p) (row_range (wideL_row h hsr)) (wide_closed h hsr) ((mem_wideL h hsr).2 (.base x hx))
end Go.Proofs.Ytfckamjbeplceaa
