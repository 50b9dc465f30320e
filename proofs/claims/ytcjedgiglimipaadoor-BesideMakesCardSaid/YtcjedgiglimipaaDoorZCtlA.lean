/-
  Chapter 14: which rows are safe; which machines a law leaves out: by their contracts.
-/
import Derived.Test.YtcjedgiglimipaaDoorZMach
import Derived.Test.YtcjedgiglimipaaDoorZSet
namespace Go.Proofs.YtcjedgiglimipaaDoor
set_option linter.unusedSimpArgs false
set_option linter.unusedVariables false
set_option linter.unusedSectionVars false
open Go.RowKit

def Mach.Great (m : Mach) : Prop := (40 < m.states ∧ m.states ≤ 256) ∨ (300 < (m.arrows.length : Int) ∧ (m.arrows.length : Int) ≤ 4096)
instance (m : Mach) : Decidable m.Great := inferInstanceAs (Decidable (_ ∨ _))
theorem law_great (a : MV) (m : Mach) (w : World) :
    Cal Tryd.prog 18 [a.val m] w fun v w' => v = .bool (decide m.Great) ∧ Below w.heap.size w w' := by
  have mg : m.Great ↔ (40 < m.states ∧ m.states ≤ 256) ∨ (300 < (m.arrows.length : Int) ∧ (m.arrows.length : Int) ≤ 4096) := Iff.rfl
  refine cal_law_great (by simp) 100000 fun Q hQ => ?_
  simp (disch := first | with_reducible assumption | omega) only [push_cast, x_blk, x_cd, ↓reduceIte, Nat.reduceEqDiff, List.map_cons, List.map_nil, Int.reduceEq, Int.lt_irrefl, F_law_great]
  refine blk_of (box_agg _ (a.cells m)) ?_
  intro w1 k1 b1 z1
  by_cases c1 : 40 < m.states <;> by_cases c2 : m.states ≤ 256 <;> by_cases c3 : (300 : Int) < (m.arrows.length : Int) <;> by_cases c4 : (m.arrows.length : Int) ≤ 4096
  all_goals
    by_cases hg : m.Great
    · have r := decide_eq_true hg
      rw [mg] at hg
      first
      | omega
      | (simp (disch := first | with_reducible assumption | omega) only [push_cast, x_blk, x_cd, ↓reduceIte, Nat.reduceEqDiff, List.map_cons, List.map_nil, Int.reduceEq, Int.lt_irrefl, c1, c2, c3, c4, k1.m0 ty_ag_3, k1.m3 ty_ag_23]; exact fin_1 (hQ _ _ ⟨(by simp only [push_cast, ↓reduceIte, Nat.reduceEqDiff, Int.reduceEq, r]), b1⟩))
    · have r := decide_eq_false hg
      rw [mg] at hg
      first
      | omega
      | (simp (disch := first | with_reducible assumption | omega) only [push_cast, x_blk, x_cd, ↓reduceIte, Nat.reduceEqDiff, List.map_cons, List.map_nil, Int.reduceEq, Int.lt_irrefl, c1, c2, c3, c4, k1.m0 ty_ag_3, k1.m3 ty_ag_23]; exact fin_1 (hQ _ _ ⟨(by simp only [push_cast, ↓reduceIte, Nat.reduceEqDiff, Int.reduceEq, r]), b1⟩))

def SafeL (m : Mach) (free bad l : List Int) : Prop := (∀ x ∈ l, x ∉ bad) ∧ ∀ a ∈ m.arrows, a.frm ∈ l → a.evt ∉ free → a.to_ ∈ l
instance (m : Mach) (free bad l : List Int) : Decidable (SafeL m free bad l) := inferInstanceAs (Decidable (_ ∧ _))

end Go.Proofs.YtcjedgiglimipaaDoor
