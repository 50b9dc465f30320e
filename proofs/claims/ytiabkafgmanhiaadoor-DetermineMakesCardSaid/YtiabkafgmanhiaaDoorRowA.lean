/-
  Chapter 1's questions on rows: row.Is, row.Has and the reference's, by their contracts.
-/
import Derived.Test.YtiabkafgmanhiaaDoorData
import Derived.Test.YtiabkafgmanhiaaDoorIr
import Derived.Test.YtiabkafgmanhiaaDoorTy
namespace Go.Proofs.YtiabkafgmanhiaaDoor
set_option linter.unusedSimpArgs false
set_option linter.unusedVariables false
set_option linter.unusedSectionVars false
open Go.RowKit

def RowAt (l : List Int) (b : Int) (i : Nat) : Prop := 0 ≤ l.getD i 0 ∧ l.getD i 0 < b ∧ l.getD i 0 < 2147483648 ∧ (0 < i → l.getD (i - 1) 0 < l.getD i 0)
instance (l : List Int) (b : Int) (i : Nat) : Decidable (RowAt l b i) := by unfold RowAt; exact inferInstance
/-- A row below a number. -/
def IsRow (l : List Int) (b : Int) : Prop := ∀ i, i < l.length → RowAt l b i
instance (l : List Int) (b : Int) : Decidable (IsRow l b) := by unfold IsRow; exact inferInstance

theorem ref1_Is {ok : Nat → Prop} {w : World} {A : Option Addr} {l : List Int} (h : Ints ok w A l) (c : Nat) (b : Int) (hl : l.length ≤ 9223372036854775807) :
    Cal Tryd.prog 22 [.slice A l.length c, .int .i64 b] w fun v w' => v = .bool (decide (IsRow l b)) ∧ Same w w' := by
  refine cal_ref1_Is (by simp) 100000 fun Q hQ => ?_
  simp only [F_ref1_Is, push_cast]
  refine loop_rule (fun f w' => ∃ k : Nat, k ≤ l.length ∧ f 0 = .slice A l.length c ∧ f 1 = .int .i64 b ∧ f 5 = .int .i64 k ∧ (∀ i, i < k → RowAt l b i) ∧ Same w w')
    (fun f _ => l.length - (intOf (f 5)).toNat) ⟨0, Nat.zero_le _, rfl, rfl, rfl, fun i hi => absurd hi (by omega), Same.refl w⟩ ?_
  rintro f w1 ⟨k, hk, h0, h1, h5, hpre, hs⟩ J hJ
  have hI := (h.same hs).drew
  by_cases hlt : k < l.length
  · have hA := h.isSome (by omega)
    have bad : ¬ RowAt l b k → decide (IsRow l b) = false := fun h1 => decide_eq_false fun h2 => h1 (h2 k hlt)
    have e1 : ((k : Int) - 1).toNat = k - 1 := by omega
    have good : RowAt l b k → ∀ i, i < k + 1 → RowAt l b i := fun h1 i hi => if e : i = k then e ▸ h1 else hpre i (by omega)
    by_cases c1 : l.getD k 0 < 0
    · have B := bad fun h => by have := h.1; omega
      simp (disch := first | with_reducible assumption | omega) only [push_cast, x_blk, x_cd, ↓reduceIte, Nat.reduceEqDiff, List.map_cons, List.map_nil, Int.reduceEq, Int.lt_irrefl, L_ref1_Is_0, h0, h1, h5, hlt, c1, hI.ld ty_ag_3]
      exact fin_1 (hQ _ _ ⟨(by simp only [push_cast, ↓reduceIte, Nat.reduceEqDiff, Int.reduceEq, B]), hs.drew⟩)
    by_cases c2 : b ≤ l.getD k 0
    · have B := bad fun h => by have := h.2.1; omega
      simp (disch := first | with_reducible assumption | omega) only [push_cast, x_blk, x_cd, ↓reduceIte, Nat.reduceEqDiff, List.map_cons, List.map_nil, Int.reduceEq, Int.lt_irrefl, L_ref1_Is_0, h0, h1, h5, hlt, c1, c2, hI.ld ty_ag_3]
      exact fin_1 (hQ _ _ ⟨(by simp only [push_cast, ↓reduceIte, Nat.reduceEqDiff, Int.reduceEq, B]), hs.drew⟩)
    by_cases c3 : 2147483648 ≤ l.getD k 0
    · have B := bad fun h => by have := h.2.2.1; omega
      simp (disch := first | with_reducible assumption | omega) only [push_cast, x_blk, x_cd, ↓reduceIte, Nat.reduceEqDiff, List.map_cons, List.map_nil, Int.reduceEq, Int.lt_irrefl, L_ref1_Is_0, h0, h1, h5, hlt, c1, c2, c3, hI.ld ty_ag_3]
      exact fin_1 (hQ _ _ ⟨(by simp only [push_cast, ↓reduceIte, Nat.reduceEqDiff, Int.reduceEq, B]), hs.drew⟩)
    by_cases c4 : (0 : Int) < k
    · by_cases c5 : l.getD k 0 ≤ l.getD (k - 1) 0
      · have B := bad fun h => by have := h.2.2.2 (by omega); omega
        simp (disch := first | with_reducible assumption | omega) only [push_cast, x_blk, x_cd, ↓reduceIte, Nat.reduceEqDiff, List.map_cons, List.map_nil, Int.reduceEq, Int.lt_irrefl, L_ref1_Is_0, h0, h1, h5, hlt, c1, c2, c3, c4, c5, e1, hI.ld ty_ag_3]
        exact fin_1 (hQ _ _ ⟨(by simp only [push_cast, ↓reduceIte, Nat.reduceEqDiff, Int.reduceEq, B]), hs.drew⟩)
      · have G := good ⟨by omega, by omega, by omega, fun _ => by omega⟩
        simp (disch := first | with_reducible assumption | omega) only [push_cast, x_blk, x_cd, ↓reduceIte, Nat.reduceEqDiff, List.map_cons, List.map_nil, Int.reduceEq, Int.lt_irrefl, L_ref1_Is_0, h0, h1, h5, hlt, c1, c2, c3, c4, c5, e1, hI.ld ty_ag_3]
        exact hJ _ _ ⟨k + 1, hlt, (by simp only [push_cast, ↓reduceIte, Nat.reduceEqDiff, Int.reduceEq, h0]), (by simp only [push_cast, ↓reduceIte, Nat.reduceEqDiff, Int.reduceEq, h1]), (by simp only [push_cast, ↓reduceIte, Nat.reduceEqDiff, Int.reduceEq]), G, hs.drew⟩ (by simp only [push_cast, ↓reduceIte, Nat.reduceEqDiff, h5, intOf]; omega)
    · have G := good ⟨by omega, by omega, by omega, fun _ => by omega⟩
      simp (disch := first | with_reducible assumption | omega) only [push_cast, x_blk, x_cd, ↓reduceIte, Nat.reduceEqDiff, List.map_cons, List.map_nil, Int.reduceEq, Int.lt_irrefl, L_ref1_Is_0, h0, h1, h5, hlt, c1, c2, c3, c4, hI.ld ty_ag_3]
      exact hJ _ _ ⟨k + 1, hlt, (by simp only [push_cast, ↓reduceIte, Nat.reduceEqDiff, Int.reduceEq, h0]), (by simp only [push_cast, ↓reduceIte, Nat.reduceEqDiff, Int.reduceEq, h1]), (by simp only [push_cast, ↓reduceIte, Nat.reduceEqDiff, Int.reduceEq]), G, hs.drew⟩ (by simp only [push_cast, ↓reduceIte, Nat.reduceEqDiff, h5, intOf]; omega)
  · have B : decide (IsRow l b) = true := decide_eq_true fun i hi => hpre i (by omega)
    simp (disch := first | with_reducible assumption | omega) only [push_cast, x_blk, x_cd, ↓reduceIte, Nat.reduceEqDiff, List.map_cons, List.map_nil, Int.reduceEq, Int.lt_irrefl, L_ref1_Is_0, h0, h1, h5, hlt]
    exact fin_1 (hQ _ _ ⟨(by simp only [push_cast, ↓reduceIte, Nat.reduceEqDiff, Int.reduceEq, B]), hs⟩)
end Go.Proofs.YtiabkafgmanhiaaDoor
