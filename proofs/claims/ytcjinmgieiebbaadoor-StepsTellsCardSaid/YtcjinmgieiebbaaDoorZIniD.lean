/-
  The laws InitialKeeps, InitialTells: they return true.
-/
import Derived.Test.YtcjinmgieiebbaaDoorZBeg
import Derived.Test.YtcjinmgieiebbaaDoorZCurD
namespace Go.Proofs.YtcjinmgieiebbaaDoor
set_option linter.unusedSimpArgs false
set_option linter.unusedVariables false
set_option linter.unusedSectionVars false
open Go.RowKit

theorem lay_all {p : Plt} (p1 : p.May) {n : Nat} (hn : (layP p n).2 = []) {u : List Int} (hu : AllIn u p.seen) : ∃ q ∈ (layP p n).1, q.1 = backsL p u ∧ Shle q.2 u := by
  obtain ⟨q, hq, h1, h2⟩ := lays_all (step := backP p) (es := p.seen) (U := UB p) (fun s _ e _ => UB.back p1.1 s e) (UB.all p1.1) u hu
  refine ⟨q, ?_, h1, h2⟩
  rcases Nat.le_total u.length n with c | c
  · exact (lays_mono c).subset hq
  · rw [lays_stop hn _ c] at hq; exact hq
theorem lay_run {p : Plt} (p1 : p.May) {n : Nat} {q : List Int × List Int} (hq : q ∈ (layP p n).1) : q.1 = backsL p q.2 ∧ AllIn q.2 p.seen := by
  have := (lays_good (step := backP p) (es := p.seen) (U := UB p) (fun s _ e _ => UB.back p1.1 s e) (UB.all p1.1) n).run q hq
  exact ⟨this.1, this.2.1⟩
end Go.Proofs.YtcjinmgieiebbaaDoor
