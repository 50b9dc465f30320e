/-
  The law WithinSays: what within.Within tells is the least word between, or there is none: it returns true.
-/
import Derived.Test.YtcjedgiglimipaaDoorZRef7
import Derived.Test.YtcjedgiglimipaaDoorZLawMach
import Derived.Test.YtcjedgiglimipaaDoorZBfs
namespace Go.Proofs.YtcjedgiglimipaaDoor
set_option linter.unusedSimpArgs false
set_option linter.unusedVariables false
set_option linter.unusedSectionVars false
open Go.RowKit

theorem evs_sorted (n : Nat) : (evs n).Pairwise (· < ·) := by
  unfold evs
  rw [List.pairwise_map]
  exact List.pairwise_lt_range.imp fun h => by omega
theorem isWord_evs {m : Mach} (he : 0 ≤ m.events) {u : List Int} : IsWord m u ↔ ∀ e ∈ u, e ∈ evs m.events.toNat := by
  have key : IsWord m u ↔ ∀ x ∈ u, 0 ≤ x ∧ x < m.events := ⟨fun h x hx => by
    obtain ⟨i, hi, rfl⟩ := (mem_iff_getD u 0 x).1 hx
    exact h i hi, fun h i hi => h _ (getD_mem u 0 i hi)⟩
  rw [key]
  have ee : ((m.events.toNat : Nat) : Int) = m.events := by omega
  exact forall_congr' fun x => forall_congr' fun _ => by rw [evs_mem, ee]
theorem run2 (a b : Mach) (u : List Int) (s : St) : u.foldl (step2 a b) s = (afterL a s.1 u, afterL b s.2 u) := by
  induction u generalizing s with
  | nil => rfl
  | cons e u ih => rw [List.foldl_cons, ih]; rfl
theorem found2_run (a b : Mach) (u : List Int) : found2 a b (u.foldl (step2 a b) (a.starts, b.starts)) = (decide (AcceptsL a u) && !decide (AcceptsL b u)) := by
  rw [run2]; rfl
theorem says_none {a b : Mach} (pa : a.May) {o : List Int} (h : FirstIs (step2 a b) (found2 a b) (evs a.events.toNat) (a.starts, b.starts) false o) :
    o = [] ∧ ∀ u, IsWord a u → AcceptsL a u → AcceptsL b u := by
  have he : 0 ≤ a.events := by have := pa.2.2.1; omega
  rcases h with ⟨h, _⟩ | ⟨_, rfl, k, hk, hno⟩
  · cases h
  · refine ⟨rfl, fun u hu ha => ?_⟩
    have := first_none (evs_sorted _) hk hno u ((isWord_evs he).1 hu)
    rw [found2_run, decide_eq_true ha, Bool.true_and] at this
    by_cases hb : AcceptsL b u
    · exact hb
    · rw [decide_eq_false hb] at this; cases this
theorem says_some {a b : Mach} (pa : a.May) (pb : b.May) (na : a.states ≤ 6) (nb : b.states ≤ 6) {o : List Int} (h : FirstIs (step2 a b) (found2 a b) (evs a.events.toNat) (a.starts, b.starts) true o) :
    o.length ≤ 4096 ∧ IsWord a o ∧ AcceptsL a o ∧ ¬ AcceptsL b o ∧ ∀ u, IsWord a u → AcceptsL a u → ¬ AcceptsL b u → ¬ Shl u o := by
  have he : 0 ≤ a.events := by have := pa.2.2.1; omega
  rcases h with ⟨_, k, q, hq, hf, rfl, hno⟩ | ⟨h, _⟩
  · have hr := bIter_run (evs_sorted _) hq
    rw [hr.1, found2_run, Bool.and_eq_true] at hf
    have h1 : k < (bIter (step2 a b) (evs a.events.toNat) (a.starts, b.starts) k).length := by
      rcases Nat.lt_or_ge k (bIter (step2 a b) (evs a.events.toNat) (a.starts, b.starts) k).length with c | c
      · exact c
      · rw [List.getElem?_eq_none c] at hq; cases hq
    have h2 := bIter_word _ _ _ _ hq
    have h3 := pairs_few pa pb na nb (evs a.events.toNat) k 0
    rw [bPart_zero] at h3
    refine ⟨by omega, (isWord_evs he).2 hr.2, of_decide_eq_true hf.1, by simpa using hf.2, fun u hu ha hb => ?_⟩
    exact (first_some (evs_sorted _) hq hno u ((isWord_evs he).1 hu) (by rw [found2_run, decide_eq_true ha, decide_eq_false hb]; rfl)).not
  · cases h

end Go.Proofs.YtcjedgiglimipaaDoor
