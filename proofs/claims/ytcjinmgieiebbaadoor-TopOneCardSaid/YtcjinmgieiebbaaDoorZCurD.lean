/-
  The laws CurrentTells, CurrentKeeps: they return true.
-/
import Derived.Test.YtcjinmgieiebbaaDoorZCurC
import Derived.Test.YtcjinmgieiebbaaDoorZLawMach
namespace Go.Proofs.YtcjinmgieiebbaaDoor
set_option linter.unusedSimpArgs false
set_option linter.unusedVariables false
set_option linter.unusedSectionVars false
open Go.RowKit

theorem lk_none {p : Plt} {o : List Int} {e : Int} (p1 : p.May) (h : LkIs p false o e) : o = [] ∧ ∀ u, AllIn u p.seen → ¬ TellsL (estL p u) p.secret := by
  rcases h with ⟨hn, _⟩ | ⟨_, _, k, hk, ho⟩
  · exact absurd p1 hn
  · rcases bestF_spec (tellB p.secret) (bIter (nextP p) p.seen (firstP p) k) with ⟨hb, hno⟩ | ⟨x, hx, ht, hb, _⟩
    · rw [hb] at ho
      refine ⟨ho.2, fun u hu ht => ?_⟩
      have := first_none (step := nextP p) p1.2.2.1.strict (found := tellB p.secret) hk (fun j q hq => hno q (List.mem_of_getElem? hq)) u hu
      exact absurd ht (of_decide_eq_false this)
    · rw [hb] at ho
      exact absurd ho.1 (by decide)
theorem lk_some {p : Plt} {o : List Int} {e : Int} (p1 : p.May) (h : LkIs p true o e) : AllIn o p.seen ∧ TellsL (estL p o) p.secret ∧ ∀ u, AllIn u p.seen → TellsL (estL p u) p.secret → ¬ Shl u o := by
  rcases h with ⟨hn, _⟩ | ⟨_, _, k, hk, ho⟩
  · exact absurd p1 hn
  · rcases bestF_spec (tellB p.secret) (bIter (nextP p) p.seen (firstP p) k) with ⟨hb, hno⟩ | ⟨x, hx, ht, hb, hmin⟩
    · rw [hb] at ho
      exact absurd ho.1 (by decide)
    · rw [hb] at ho
      obtain rfl : o = x.2 := ho.2
      obtain ⟨i, hi⟩ := List.mem_iff_getElem?.1 hx
      obtain ⟨r1, r2⟩ := bIter_run (step := nextP p) p1.2.2.1.strict hi
      refine ⟨r2, ?_, fun u hu htu => ?_⟩
      · show TellsL (x.2.foldl (nextP p) (firstP p)) p.secret
        rw [← r1]; exact of_decide_eq_true ht
      · obtain ⟨n, i', q, hq, hqs, hle⟩ := bIter_all (step := nextP p) p1.2.2.1.strict (firstP p) u hu
        have hqk : q ∈ bIter (nextP p) p.seen (firstP p) k := by
          rcases Nat.le_total k n with c | c
          · rw [bIter_stop (Nat.le_of_eq hk) n c] at hq; exact List.mem_of_getElem? hq
          · exact (bIter_prefix (step := nextP p) (es := p.seen) (firstP p) c).subset (List.mem_of_getElem? hq)
        have := hmin q hqk (by rw [hqs]; exact decide_eq_true htu)
        exact (this.trans hle).not
end Go.Proofs.YtcjinmgieiebbaaDoor
