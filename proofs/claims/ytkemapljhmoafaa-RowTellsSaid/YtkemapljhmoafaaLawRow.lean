/-
  The laws on rows: they return true.
-/
import Derived.Test.YtkemapljhmoafaaRowB
namespace Go.Proofs.Ytkemapljhmoafaa
open Go.RowKit

theorem law_RowTells {w : World} {A0 : Option Addr} {c0 : Nat} {l0 : List Int} (h0 : Ints (· < w.heap.size) w A0 l0) (_b0 : ∀ x ∈ l0, I64 x) (n0 : l0.length ≤ 17592186043904) (_k0 : l0.length ≤ c0) {x1 : Int} (_b1 : I64 x1) :
    Cal Try.prog 3 [.slice A0 l0.length c0, .int .i64 x1] w fun v w' => v = .bool true ∧ Below w.heap.size w w' := by
  refine cal_law_RowTells (by simp) 100000 fun Q hQ => ?_
  simp (disch := first | with_reducible assumption | omega) only [push_cast, ↓reduceIte, Nat.reduceEqDiff, F_law_RowTells]
  refine call_of (row_Is h0 c0 x1 (by omega)) ?_
  rintro v w1 ⟨rfl, hs1⟩
  have g1 := h0.same hs1
  simp (disch := first | with_reducible assumption | omega) only [push_cast, ↓reduceIte, Nat.reduceEqDiff]
  refine call_of (row_Has g1 c0 x1 (by omega)) ?_
  rintro v w2 ⟨rfl, hs2⟩
  have g2 := g1.same hs2
  simp (disch := first | with_reducible assumption | omega) only [push_cast, ↓reduceIte, Nat.reduceEqDiff]
  refine call_of (ref1_Is g2 c0 x1 (by omega)) ?_
  rintro v w3 ⟨rfl, hs3⟩
  have g3 := g2.same hs3
  simp (disch := first | with_reducible assumption | omega) only [push_cast, ↓reduceIte, Nat.reduceEqDiff]
  refine call_of (ref1_Has g3 c0 x1 (by omega)) ?_
  rintro v w4 ⟨rfl, hs4⟩
  simp (disch := first | with_reducible assumption | omega) only [push_cast, ↓reduceIte, Nat.reduceEqDiff]
  exact fin_1 (hQ _ _ ⟨(by simp only [push_cast, ↓reduceIte]), (((hs1.trans hs2).trans hs3).trans hs4).below _⟩)
end Go.Proofs.Ytkemapljhmoafaa
