/-
  The laws InitialKeeps, InitialTells: they return true.
-/
import Derived.Test.YtcjinmgieiebbaaZBeg
import Derived.Test.YtcjinmgieiebbaaZCurD
namespace Go.Proofs.Ytcjinmgieiebbaa
set_option linter.unusedSimpArgs false
set_option linter.unusedVariables false
set_option linter.unusedSectionVars false
open Go.RowKit

noncomputable abbrev begL (p : Plt) (u : List Int) : List Int := onlyL (backsL p u) p.m.starts true
theorem lay_all {p : Plt} (p1 : p.May) {n : Nat} (hn : (layP p n).2 = []) {u : List Int} (hu : AllIn u p.seen) : ∃ q ∈ (layP p n).1, q.1 = backsL p u ∧ Shle q.2 u := by
  obtain ⟨q, hq, h1, h2⟩ := lays_all (step := backP p) (es := p.seen) (U := UB p) (fun s _ e _ => UB.back p1.1 s e) (UB.all p1.1) u hu
  refine ⟨q, ?_, h1, h2⟩
  rcases Nat.le_total u.length n with c | c
  · exact (lays_mono c).subset hq
  · rw [lays_stop hn _ c] at hq; exact hq
theorem lay_run {p : Plt} (p1 : p.May) {n : Nat} {q : List Int × List Int} (hq : q ∈ (layP p n).1) : q.1 = backsL p q.2 ∧ AllIn q.2 p.seen := by
  have := (lays_good (step := backP p) (es := p.seen) (U := UB p) (fun s _ e _ => UB.back p1.1 s e) (UB.all p1.1) n).run q hq
  exact ⟨this.1, this.2.1⟩
theorem ini_none {p : Plt} {o : List Int} {e : Int} (p1 : p.May) (h : IniIs p false o e) : o = [] ∧ ∀ u, AllIn u p.seen → ¬ TellsL (begL p u) p.secret := by
  rcases h with ⟨hn, _⟩ | ⟨_, _, n, hn, ho⟩
  · exact absurd p1 hn
  · rcases bestF_spec (tellsB p.secret p.m.starts) (layP p n).1 with ⟨hb, hno⟩ | ⟨x, hx, ht, hb, _⟩
    · rw [hb] at ho
      refine ⟨ho.2, fun u hu ht => ?_⟩
      obtain ⟨q, hq, h1, _⟩ := lay_all p1 hn hu
      have := hno q hq
      unfold tellsB at this
      rw [h1] at this
      exact absurd ht (of_decide_eq_false this)
    · rw [hb] at ho
      exact absurd ho.1 (by decide)
theorem ini_some {p : Plt} {o : List Int} {e : Int} (p1 : p.May) (h : IniIs p true o e) : AllIn o p.seen ∧ TellsL (begL p o) p.secret ∧ ∀ u, AllIn u p.seen → TellsL (begL p u) p.secret → ¬ Shl u o := by
  rcases h with ⟨hn, _⟩ | ⟨_, _, n, hn, ho⟩
  · exact absurd p1 hn
  · rcases bestF_spec (tellsB p.secret p.m.starts) (layP p n).1 with ⟨hb, hno⟩ | ⟨x, hx, ht, hb, hmin⟩
    · rw [hb] at ho
      exact absurd ho.1 (by decide)
    · rw [hb] at ho
      obtain rfl : o = x.2 := ho.2
      obtain ⟨r1, r2⟩ := lay_run p1 hx
      unfold tellsB at ht
      rw [r1] at ht
      refine ⟨r2, of_decide_eq_true ht, fun u hu htu => ?_⟩
      obtain ⟨q, hq, hqs, hle⟩ := lay_all p1 hn hu
      have := hmin q hq (by unfold tellsB; rw [hqs]; exact decide_eq_true htu)
      exact (this.trans hle).not
end Go.Proofs.Ytcjinmgieiebbaa
