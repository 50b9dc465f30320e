/-
  Are two machines the same, two rows of rows: by their contracts.
-/
import Derived.Test.YtfckamjbeplceaaZDet
import Derived.ChangeKeysEq
namespace Go.Proofs.Ytfckamjbeplceaa
set_option linter.unusedSimpArgs false
set_option linter.unusedVariables false
set_option linter.unusedSectionVars false
open Go.RowKit

theorem eqFields_int (w : World) (d : Nat) (xs ys : Array Value) : ∀ (fs : List Field) (us vs : List Int), (∀ f ∈ fs, (f.name != "_") = true ∧ f.type = 3) → fs.length = us.length → us.length = vs.length →
    (∀ i f, fs[i]? = some f → (part 3 xs f.offset).run Try.prog w = .ok (.int .i64 (us.getD i 0)) w ∧ (part 3 ys f.offset).run Try.prog w = .ok (.int .i64 (vs.getD i 0)) w) →
    (Op.eqFields (d + 1) xs ys fs).run Try.prog w = .ok (decide (us = vs)) w
  | [], [], [], _, _, _, _ => by simp [Op.eqFields]
  | f :: fs, a :: us, b :: vs, hf, h1, h2, hp => by
    have hff := hf f (List.mem_cons_self ..)
    have hn : f.name ≠ "_" := by have := hff.1; simpa using this
    have hp0 := hp 0 f rfl
    simp only [List.getD_cons_zero] at hp0
    have ih := eqFields_int w d xs ys fs us vs (fun g hg => hf g (List.mem_cons_of_mem _ hg)) (by simpa using h1) (by simpa using h2) fun i g hg => by
      have := hp (i + 1) g (by simpa using hg)
      simpa using this
    unfold Op.eqFields
    rw [if_pos hn, hff.2]
    simp only [Sem.run_bind, hp0.1, hp0.2, Result.andThen_ok, run_equalIn_int w d 3 .i64 .i64 a b Try.underlying3]
    by_cases hab : a = b
    · subst hab
      simp [ih]
    · have : (a == b) = false := by simpa using hab
      simp [this, hab]
theorem run_part_arr (w : World) (a : Arr) (j : Nat) (hj : j < 3) : (part 3 (arrCells a).toArray j).run Try.prog w = .ok (.int .i64 (a.cell j)) w :=
  run_part_plain w (by kernel_rfl) (by
    match j, hj with
    | 0, _ => rfl
    | 1, _ => rfl
    | 2, _ => rfl)
end Go.Proofs.Ytfckamjbeplceaa
