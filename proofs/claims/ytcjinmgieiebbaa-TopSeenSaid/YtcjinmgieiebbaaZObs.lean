/-
  Runs of a machine, and what is seen of them; where a plant may be, and where it may have been, by its runs; who sees more knows more. In plain Lean. No program in sight.
-/
import Derived.Test.YtcjinmgieiebbaaZIniP
namespace Go.Proofs.Ytcjinmgieiebbaa
set_option linter.unusedSimpArgs false
set_option linter.unusedVariables false
set_option linter.unusedSectionVars false
open Go.RowKit

/-- A run. -/
inductive Rn (m : Mach) : Int → List Int → Int → Prop
  | nil (x : Int) : Rn m x [] x
  | cons (a : Arr) (s : List Int) (y : Int) : a ∈ m.arrows → Rn m a.to_ s y → Rn m a.frm (a.evt :: s) y
theorem Rn.app {m : Mach} {x y z : Int} {s t : List Int} (h : Rn m x s y) (k : Rn m y t z) : Rn m x (s ++ t) z := by
  induction h with
  | nil x => exact k
  | cons a s y ha _ ih => exact .cons a _ _ ha (ih k)
/-- What is seen of a word. -/
def obs (seen : List Int) (s : List Int) : List Int := s.filter fun e => decide (e ∈ seen)
theorem obs_app (seen s t : List Int) : obs seen (s ++ t) = obs seen s ++ obs seen t := List.filter_append ..
theorem obs_in {seen : List Int} {e : Int} (h : e ∈ seen) (s : List Int) : obs seen (e :: s) = e :: obs seen s := by unfold obs; rw [List.filter_cons, if_pos (decide_eq_true h)]
theorem obs_out {seen : List Int} {e : Int} (h : e ∉ seen) (s : List Int) : obs seen (e :: s) = obs seen s := by unfold obs; rw [List.filter_cons, if_neg (by simpa using h)]
theorem obs_all {seen : List Int} (s : List Int) : AllIn (obs seen s) seen := fun x hx => of_decide_eq_true (List.mem_filter.1 hx).2
theorem obs_obs {small big : List Int} (h : ∀ x ∈ small, x ∈ big) (s : List Int) : obs small (obs big s) = obs small s := by
  unfold obs
  rw [List.filter_filter]
  refine List.filter_congr fun x _ => ?_
  by_cases c : x ∈ small
  · simp [c, h x c]
  · simp [c]
/-- Unseen edges are runs of which nothing is seen; and the other way round. -/
theorem rn_of_clos {m : Mach} {seen l : List Int} {t : Int} (h : Clos (unE m seen) l t) : ∃ x ∈ l, ∃ s, Rn m x s t ∧ obs seen s = [] := by
  induction h with
  | base z hz => exact ⟨z, hz, [], .nil z, rfl⟩
  | step q hq _ ih =>
    obtain ⟨x, hx, s, hr, ho⟩ := ih
    obtain ⟨a, ha, hpa, rfl⟩ := mem_eds.1 hq
    have hns : a.evt ∉ seen := by simpa [unA] using hpa
    exact ⟨x, hx, s ++ [a.evt], hr.app (.cons a [] _ ha (.nil _)), by rw [obs_app, ho, obs_out hns]; rfl⟩
/-- Where runs end, of which a list is seen: forward. -/
theorem est_run {p : Plt} (h : p.m.May) : ∀ (word S : List Int), AllIn word p.seen → (∀ x ∈ S, 0 ≤ x ∧ x < p.m.states) → ∀ y, y ∈ word.foldl (nextP p) S → ∃ x ∈ S, ∃ s, Rn p.m x s y ∧ obs p.seen s = word
  | [], S, _, _, y, hy => ⟨y, hy, [], .nil y, rfl⟩
  | e :: word, S, hw, hS, y, hy => by
    rw [List.foldl_cons] at hy
    have hrow := seeL_row h p.seen S e
    obtain ⟨x1, hx1, s, hr, ho⟩ := est_run h word _ (fun x hx => hw x (List.mem_cons_of_mem _ hx)) (row_range hrow) y hy
    have hx1 : x1 ∈ seeL p.m p.seen S e := hx1
    unfold seeL at hx1
    rw [mem_wideL h (stepL_range h _ _)] at hx1
    obtain ⟨z, hz, s0, hr0, ho0⟩ := rn_of_clos hx1
    obtain ⟨a, ha, hae, haf, rfl⟩ := mem_stepL.1 hz
    refine ⟨a.frm, haf, a.evt :: (s0 ++ s), .cons a _ _ ha (hr0.app hr), ?_⟩
    rw [obs_in (by rw [hae]; exact hw e (List.mem_cons_self ..)), obs_app, ho0, ho, List.nil_append, hae]
theorem run_est {p : Plt} (h : p.m.May) {x y : Int} {s : List Int} (hr : Rn p.m x s y) : ∀ S : List Int, (∀ x ∈ S, 0 ≤ x ∧ x < p.m.states) → (∀ a ∈ p.m.arrows, a.evt ∉ p.seen → a.frm ∈ S → a.to_ ∈ S) → x ∈ S → y ∈ (obs p.seen s).foldl (nextP p) S := by
  induction hr with
  | nil x => exact fun S _ _ hx => hx
  | cons a s y ha _ ih =>
    intro S hS hc hx
    by_cases c : a.evt ∈ p.seen
    · rw [obs_in c, List.foldl_cons]
      have hrow := seeL_row h p.seen S a.evt
      refine ih _ (row_range hrow) (fun b hb hs hf => ?_) ?_
      · show b.to_ ∈ seeL p.m p.seen S a.evt
        have hf : b.frm ∈ seeL p.m p.seen S a.evt := hf
        unfold seeL at hf ⊢
        rw [mem_wideL h (stepL_range h _ _)] at hf ⊢
        exact Clos.step (b.frm, b.to_) (mem_eds.2 ⟨b, hb, by simpa [unA] using hs, rfl⟩) hf
      · show a.to_ ∈ seeL p.m p.seen S a.evt
        unfold seeL
        rw [mem_wideL h (stepL_range h _ _)]
        exact .base _ (mem_stepL.2 ⟨a, ha, rfl, hx, rfl⟩)
    · rw [obs_out c]
      exact ih S hS hc (hc a ha c hx)
theorem mem_est {p : Plt} (h : p.m.May) {u : List Int} (hu : AllIn u p.seen) {y : Int} : y ∈ estL p u ↔ ∃ x ∈ p.m.starts, ∃ s, Rn p.m x s y ∧ obs p.seen s = u := by
  have hsr := row_range (may_starts h)
  constructor
  · intro hy
    obtain ⟨x1, hx1, s, hr, ho⟩ := est_run h u (firstP p) hu (row_range (wideL_row h hsr)) y hy
    have hx1 : x1 ∈ wideL p.m p.seen p.m.starts := hx1
    rw [mem_wideL h hsr] at hx1
    obtain ⟨x, hx, s0, hr0, ho0⟩ := rn_of_clos hx1
    exact ⟨x, hx, s0 ++ s, hr0.app hr, by rw [obs_app, ho0, ho]; rfl⟩
  · rintro ⟨x, hx, s, hr, rfl⟩
    exact run_est h hr (firstP p) (row_range (wideL_row h hsr)) (wide_closed h hsr) ((mem_wideL h hsr).2 (.base x hx))
theorem mem_backs {p : Plt} (h : p.m.May) {v : List Int} (hv : AllIn v p.seen) {x : Int} (hx : 0 ≤ x ∧ x < p.m.states) : x ∈ backsL p v ↔ ∃ y s, Rn p.m x s y ∧ obs p.seen s = v := by
  have hxr : ∀ z ∈ [x], 0 ≤ z ∧ z < p.m.states := fun z hz => by rw [List.mem_singleton.1 hz]; exact hx
  rw [← from_one h v hx]
  constructor
  · intro hne
    obtain ⟨y, hy⟩ := List.exists_mem_of_ne_nil _ hne
    obtain ⟨x1, hx1, s, hr, ho⟩ := est_run h v _ hv (row_range (wideL_row h hxr)) y hy
    rw [mem_wideL h hxr] at hx1
    obtain ⟨x', hx', s0, hr0, ho0⟩ := rn_of_clos hx1
    rw [List.mem_singleton.1 hx'] at hr0
    exact ⟨y, s0 ++ s, hr0.app hr, by rw [obs_app, ho0, ho]; rfl⟩
  · rintro ⟨y, s, hr, rfl⟩ hn
    have := run_est h hr (wideL p.m p.seen [x]) (row_range (wideL_row h hxr)) (wide_closed h hxr) ((mem_wideL h hxr).2 (.base x (by simp)))
    rw [hn] at this
    simp at this
/-- Who sees more knows more. -/
theorem more_est {p q : Plt} (h : p.m.May) (hm : q.m = p.m) (hs : ∀ x ∈ p.seen, x ∈ q.seen) {u : List Int} (hu : AllIn u p.seen) {x : Int} (hx : x ∈ estL p u) :
    ∃ u', AllIn u' q.seen ∧ x ∈ estL q u' ∧ ∀ y ∈ estL q u', y ∈ estL p u := by
  have hq : q.m.May := by rw [hm]; exact h
  obtain ⟨x0, hx0, s, hr, ho⟩ := (mem_est h hu).1 hx
  refine ⟨obs q.seen s, obs_all s, (mem_est hq (obs_all s)).2 ⟨x0, by rw [hm]; exact hx0, s, by rw [hm]; exact hr, rfl⟩, fun y hy => ?_⟩
  obtain ⟨x1, hx1, s1, hr1, ho1⟩ := (mem_est hq (obs_all s)).1 hy
  rw [hm] at hx1 hr1
  refine (mem_est h hu).2 ⟨x1, hx1, s1, hr1, ?_⟩
  rw [← ho, ← obs_obs hs s1, ho1, obs_obs hs s]
theorem more_backs {p q : Plt} (h : p.m.May) (hm : q.m = p.m) (hs : ∀ x ∈ p.seen, x ∈ q.seen) {v : List Int} (hv : AllIn v p.seen) {x : Int} (hx : x ∈ backsL p v) :
    ∃ v', AllIn v' q.seen ∧ x ∈ backsL q v' ∧ ∀ y ∈ backsL q v', y ∈ backsL p v := by
  have hq : q.m.May := by rw [hm]; exact h
  have rng : ∀ y ∈ backsL p v, 0 ≤ y ∧ y < p.m.states := fun y hy => by have := (backsL_UB h v).1.mem hy; exact ⟨this.1, this.2.1⟩
  obtain ⟨y0, s, hr, ho⟩ := (mem_backs h hv (rng x hx)).1 hx
  refine ⟨obs q.seen s, obs_all s, (mem_backs hq (obs_all s) (by rw [hm]; exact rng x hx)).2 ⟨y0, s, by rw [hm]; exact hr, rfl⟩, fun y hy => ?_⟩
  have hyr : 0 ≤ y ∧ y < q.m.states := by have := (backsL_UB hq (obs q.seen s)).1.mem hy; exact ⟨this.1, this.2.1⟩
  obtain ⟨y1, s1, hr1, ho1⟩ := (mem_backs hq (obs_all s) hyr).1 hy
  rw [hm] at hr1 hyr
  refine (mem_backs h hv hyr).2 ⟨y1, s1, hr1, ?_⟩
  rw [← ho, ← obs_obs hs s1, ho1, obs_obs hs s]
end Go.Proofs.Ytcjinmgieiebbaa
