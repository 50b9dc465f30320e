/-
  Chapter 1's questions on rows: row.Is, row.Has and the reference's, by their contracts.
  Chapter 1: row.Is, row.Has, the reference's Has, Same: by their contracts.
  Chapter 1: the reference's Only, Sorted, Join: by their contracts.
  Chapter 1: two rows gone over at once (merge), and the three functions made of it: by their contracts.
  Chapter 1: Join, Meet, Less of the program, Join of the reference, and the keep's has: by their contracts.
  Chapter 1, in plain Lean: a merge of two rows is the row of what both have, and so on. No program in sight.
-/
import Derived.Test.YtcjedgiglimipaaDoorZLaws
import Derived.Test.YtcjedgiglimipaaDoorZIr
import Derived.Test.YtcjedgiglimipaaDoorZTy
import Derived.Test.YtcjedgiglimipaaDoorZOwn
import Derived.KernelRfl
import Derived.RangeFuncNested
import Derived.RangeFuncBox
import Derived.RangeFuncBound
import Derived.RangeFuncCalls
import Derived.RangeFuncLeaves
import Derived.Shelf.Abstract
import Derived.WalkKit
import Derived.OwnWalkIn
import Derived.TacticsInMore
import Derived.LoopNIn
import Derived.LoopIn
import Derived.ChangeKeysEq
namespace Go.Proofs.YtcjedgiglimipaaDoor
set_option linter.unusedSimpArgs false
set_option linter.unusedVariables false
set_option linter.unusedSectionVars false
section
open Go.RowKit

def RowAt (l : List Int) (b : Int) (i : Nat) : Prop := 0 ≤ l.getD i 0 ∧ l.getD i 0 < b ∧ l.getD i 0 < 2147483648 ∧ (0 < i → l.getD (i - 1) 0 < l.getD i 0)
instance (l : List Int) (b : Int) (i : Nat) : Decidable (RowAt l b i) := by unfold RowAt; exact inferInstance
/-- A row below a number. -/
def IsRow (l : List Int) (b : Int) : Prop := ∀ i, i < l.length → RowAt l b i
instance (l : List Int) (b : Int) : Decidable (IsRow l b) := by unfold IsRow; exact inferInstance

theorem ref1_Is {ok : Nat → Prop} {w : World} {A : Option Addr} {l : List Int} (h : Ints ok w A l) (c : Nat) (b : Int) (hl : l.length ≤ 9223372036854775807) :
    Cal Tryd.prog 23 [.slice A l.length c, .int .i64 b] w fun v w' => v = .bool (decide (IsRow l b)) ∧ Same w w' := by
  refine cal_ref1_Is (by simp) 100000 fun Q hQ => ?_
  simp only [F_ref1_Is, push_cast]
  refine loop_rule (fun f w' => ∃ k : Nat, k ≤ l.length ∧ f 0 = .slice A l.length c ∧ f 1 = .int .i64 b ∧ f 5 = .int .i64 k ∧ (∀ i, i < k → RowAt l b i) ∧ Same w w')
    (fun f _ => l.length - (intOf (f 5)).toNat) ⟨0, Nat.zero_le _, rfl, rfl, rfl, fun i hi => absurd hi (by omega), Same.refl w⟩ ?_
  rintro f w1 ⟨k, hk, h0, h1, h5, hpre, hs⟩ J hJ
  have hI := (h.same hs).drew
  by_cases hlt : k < l.length
  · have hA := h.isSome (by omega)
    have bad : ¬ RowAt l b k → decide (IsRow l b) = false := fun h1 => decide_eq_false fun h2 => h1 (h2 k hlt)
    have e1 : ((k : Int) - 1).toNat = k - 1 := by omega
    have good : RowAt l b k → ∀ i, i < k + 1 → RowAt l b i := fun h1 i hi => if e : i = k then e ▸ h1 else hpre i (by omega)
    by_cases c1 : l.getD k 0 < 0
    · have B := bad fun h => by have := h.1; omega
      simp (disch := first | with_reducible assumption | omega) only [push_cast, x_blk, x_cd, ↓reduceIte, Nat.reduceEqDiff, List.map_cons, List.map_nil, Int.reduceEq, Int.lt_irrefl, L_ref1_Is_0, h0, h1, h5, hlt, c1, hI.ld ty_ag_3]
      exact fin_1 (hQ _ _ ⟨(by simp only [push_cast, ↓reduceIte, Nat.reduceEqDiff, Int.reduceEq, B]), hs.drew⟩)
    by_cases c2 : b ≤ l.getD k 0
    · have B := bad fun h => by have := h.2.1; omega
      simp (disch := first | with_reducible assumption | omega) only [push_cast, x_blk, x_cd, ↓reduceIte, Nat.reduceEqDiff, List.map_cons, List.map_nil, Int.reduceEq, Int.lt_irrefl, L_ref1_Is_0, h0, h1, h5, hlt, c1, c2, hI.ld ty_ag_3]
      exact fin_1 (hQ _ _ ⟨(by simp only [push_cast, ↓reduceIte, Nat.reduceEqDiff, Int.reduceEq, B]), hs.drew⟩)
    by_cases c3 : 2147483648 ≤ l.getD k 0
    · have B := bad fun h => by have := h.2.2.1; omega
      simp (disch := first | with_reducible assumption | omega) only [push_cast, x_blk, x_cd, ↓reduceIte, Nat.reduceEqDiff, List.map_cons, List.map_nil, Int.reduceEq, Int.lt_irrefl, L_ref1_Is_0, h0, h1, h5, hlt, c1, c2, c3, hI.ld ty_ag_3]
      exact fin_1 (hQ _ _ ⟨(by simp only [push_cast, ↓reduceIte, Nat.reduceEqDiff, Int.reduceEq, B]), hs.drew⟩)
    by_cases c4 : (0 : Int) < k
    · by_cases c5 : l.getD k 0 ≤ l.getD (k - 1) 0
      · have B := bad fun h => by have := h.2.2.2 (by omega); omega
        simp (disch := first | with_reducible assumption | omega) only [push_cast, x_blk, x_cd, ↓reduceIte, Nat.reduceEqDiff, List.map_cons, List.map_nil, Int.reduceEq, Int.lt_irrefl, L_ref1_Is_0, h0, h1, h5, hlt, c1, c2, c3, c4, c5, e1, hI.ld ty_ag_3]
        exact fin_1 (hQ _ _ ⟨(by simp only [push_cast, ↓reduceIte, Nat.reduceEqDiff, Int.reduceEq, B]), hs.drew⟩)
      · have G := good ⟨by omega, by omega, by omega, fun _ => by omega⟩
        simp (disch := first | with_reducible assumption | omega) only [push_cast, x_blk, x_cd, ↓reduceIte, Nat.reduceEqDiff, List.map_cons, List.map_nil, Int.reduceEq, Int.lt_irrefl, L_ref1_Is_0, h0, h1, h5, hlt, c1, c2, c3, c4, c5, e1, hI.ld ty_ag_3]
        exact hJ _ _ ⟨k + 1, hlt, (by simp only [push_cast, ↓reduceIte, Nat.reduceEqDiff, Int.reduceEq, h0]), (by simp only [push_cast, ↓reduceIte, Nat.reduceEqDiff, Int.reduceEq, h1]), (by simp only [push_cast, ↓reduceIte, Nat.reduceEqDiff, Int.reduceEq]), G, hs.drew⟩ (by simp only [push_cast, ↓reduceIte, Nat.reduceEqDiff, h5, intOf]; omega)
    · have G := good ⟨by omega, by omega, by omega, fun _ => by omega⟩
      simp (disch := first | with_reducible assumption | omega) only [push_cast, x_blk, x_cd, ↓reduceIte, Nat.reduceEqDiff, List.map_cons, List.map_nil, Int.reduceEq, Int.lt_irrefl, L_ref1_Is_0, h0, h1, h5, hlt, c1, c2, c3, c4, hI.ld ty_ag_3]
      exact hJ _ _ ⟨k + 1, hlt, (by simp only [push_cast, ↓reduceIte, Nat.reduceEqDiff, Int.reduceEq, h0]), (by simp only [push_cast, ↓reduceIte, Nat.reduceEqDiff, Int.reduceEq, h1]), (by simp only [push_cast, ↓reduceIte, Nat.reduceEqDiff, Int.reduceEq]), G, hs.drew⟩ (by simp only [push_cast, ↓reduceIte, Nat.reduceEqDiff, h5, intOf]; omega)
  · have B : decide (IsRow l b) = true := decide_eq_true fun i hi => hpre i (by omega)
    simp (disch := first | with_reducible assumption | omega) only [push_cast, x_blk, x_cd, ↓reduceIte, Nat.reduceEqDiff, List.map_cons, List.map_nil, Int.reduceEq, Int.lt_irrefl, L_ref1_Is_0, h0, h1, h5, hlt]
    exact fin_1 (hQ _ _ ⟨(by simp only [push_cast, ↓reduceIte, Nat.reduceEqDiff, Int.reduceEq, B]), hs⟩)
end

section
open Go.RowKit

theorem row_Is {ok : Nat → Prop} {w : World} {A : Option Addr} {l : List Int} (h : Ints ok w A l) (c : Nat) (b : Int) (hl : l.length ≤ 9223372036854775807) :
    Cal Tryd.prog 49 [.slice A l.length c, .int .i64 b] w fun v w' => v = .bool (decide (IsRow l b)) ∧ Same w w' := by
  refine cal_row_Is (by simp) 100000 fun Q hQ => ?_
  simp (disch := first | with_reducible assumption | omega) only [push_cast, x_blk, x_cd, ↓reduceIte, Nat.reduceEqDiff, List.map_cons, List.map_nil, Int.reduceEq, Int.lt_irrefl, F_row_Is]
  refine loop_rule (fun f w' => ∃ k : Nat, k ≤ l.length ∧ f 1 = .int .i64 b ∧ f 5 = .int .i64 (if k = 0 then -1 else l.getD (k - 1) 0) ∧ f 8 = .slice A l.length c ∧ f 9 = .int .i64 l.length ∧ f 10 = .int .i64 k ∧ (∀ i, i < k → RowAt l b i) ∧ Same w w')
    (fun f _ => l.length - (intOf (f 10)).toNat) ⟨0, Nat.zero_le _, rfl, rfl, rfl, rfl, rfl, fun i hi => absurd hi (by omega), Same.refl w⟩ ?_
  rintro f w1 ⟨k, hk, h1, h5, h8, h9, h10, hpre, hs⟩ J hJ
  have hI := h.same hs
  by_cases hlt : k < l.length
  · have hA := h.isSome (by omega)
    have bad : ¬ RowAt l b k → decide (IsRow l b) = false := fun h1 => decide_eq_false fun h2 => h1 (h2 k hlt)
    have good : RowAt l b k → ∀ i, i < k + 1 → RowAt l b i := fun h1 i hi => if e : i = k then e ▸ h1 else hpre i (by omega)
    have hlast : (if k = 0 then -1 else l.getD (k - 1) 0) < l.getD k 0 ↔ 0 ≤ l.getD k 0 ∧ (0 < k → l.getD (k - 1) 0 < l.getD k 0) := by
      by_cases h0 : k = 0
      · rw [if_pos h0]; exact ⟨fun h => ⟨by omega, fun h1 => absurd h1 (by omega)⟩, fun h => by have := h.1; omega⟩
      · have h2 := (hpre (k - 1) (by omega)).1
        rw [if_neg h0]; exact ⟨fun h => ⟨by omega, fun _ => h⟩, fun h => h.2 (by omega)⟩
    generalize (if k = 0 then -1 else l.getD (k - 1) 0) = last at *
    by_cases c1 : l.getD k 0 ≤ last
    · have B := bad fun h => by have := hlast.2 ⟨h.1, h.2.2.2⟩; omega
      simp (disch := first | with_reducible assumption | omega) only [push_cast, x_blk, x_cd, ↓reduceIte, Nat.reduceEqDiff, List.map_cons, List.map_nil, Int.reduceEq, Int.lt_irrefl, L_row_Is_0, h1, h5, h8, h9, h10, hlt, c1, hI.ld ty_ag_3]
      exact fin_1 (hQ _ _ ⟨(by simp only [push_cast, ↓reduceIte, Nat.reduceEqDiff, Int.reduceEq, B]), hs⟩)
    have hl := hlast.1 (by omega)
    by_cases c2 : min b 2147483648 ≤ l.getD k 0
    · have B := bad fun h => by have := h.2; omega
      simp (disch := first | with_reducible assumption | omega) only [push_cast, x_blk, x_cd, ↓reduceIte, Nat.reduceEqDiff, List.map_cons, List.map_nil, Int.reduceEq, Int.lt_irrefl, L_row_Is_0, h1, h5, h8, h9, h10, hlt, c1, c2, hI.ld ty_ag_3]
      exact fin_1 (hQ _ _ ⟨(by simp only [push_cast, ↓reduceIte, Nat.reduceEqDiff, Int.reduceEq, B]), hs⟩)
    · have G := good ⟨hl.1, by omega, by omega, hl.2⟩
      simp (disch := first | with_reducible assumption | omega) only [push_cast, x_blk, x_cd, ↓reduceIte, Nat.reduceEqDiff, List.map_cons, List.map_nil, Int.reduceEq, Int.lt_irrefl, L_row_Is_0, h1, h5, h8, h9, h10, hlt, c1, c2, hI.ld ty_ag_3]
      exact hJ _ _ ⟨k + 1, hlt, (by simp only [push_cast, ↓reduceIte, Nat.reduceEqDiff, Int.reduceEq, h1]), (by simp only [push_cast, ↓reduceIte, Nat.reduceEqDiff, Int.reduceEq, Nat.add_one_ne_zero, Nat.add_sub_cancel]), (by simp only [push_cast, ↓reduceIte, Nat.reduceEqDiff, Int.reduceEq, h8]), (by simp only [push_cast, ↓reduceIte, Nat.reduceEqDiff, Int.reduceEq, h9]), (by simp only [push_cast, ↓reduceIte, Nat.reduceEqDiff, Int.reduceEq]), G, hs⟩ (by simp only [push_cast, ↓reduceIte, Nat.reduceEqDiff, h10, intOf]; omega)
  · have B : decide (IsRow l b) = true := decide_eq_true fun i hi => hpre i (by omega)
    simp (disch := first | with_reducible assumption | omega) only [push_cast, x_blk, x_cd, ↓reduceIte, Nat.reduceEqDiff, List.map_cons, List.map_nil, Int.reduceEq, Int.lt_irrefl, L_row_Is_0, h1, h5, h8, h9, h10, hlt]
    exact fin_1 (hQ _ _ ⟨(by simp only [push_cast, ↓reduceIte, Nat.reduceEqDiff, Int.reduceEq, B]), hs⟩)

theorem slices_Index {ok : Nat → Prop} {w : World} {A : Option Addr} {l : List Int} (h : Ints ok w A l) (c : Nat) (b : Int) (hl : l.length ≤ 9223372036854775807) :
    Cal Tryd.prog 119 [.slice A l.length c, .int .i64 b] w fun v w' => (∃ k : Int, v = .int .i64 k ∧ (0 ≤ k ↔ b ∈ l)) ∧ Same w w' := by
  refine cal_slices_Index (by simp) 100000 fun Q hQ => ?_
  simp (disch := first | with_reducible assumption | omega) only [push_cast, x_blk, x_cd, ↓reduceIte, Nat.reduceEqDiff, List.map_cons, List.map_nil, Int.reduceEq, Int.lt_irrefl, F_slices_Index]
  refine loop_rule (fun f w' => ∃ k : Nat, k ≤ l.length ∧ f 0 = .slice A l.length c ∧ f 1 = .int .i64 b ∧ f 7 = .int .i64 l.length ∧ f 8 = .int .i64 k ∧ (∀ i, i < k → l.getD i 0 ≠ b) ∧ Same w w')
    (fun f _ => l.length - (intOf (f 8)).toNat) ⟨0, Nat.zero_le _, rfl, rfl, rfl, rfl, fun i hi => absurd hi (by omega), Same.refl w⟩ ?_
  rintro f w1 ⟨k, hk, h0, h1, h7, h8, hpre, hs⟩ J hJ
  have hI := h.same hs
  by_cases hlt : k < l.length
  · have hA := h.isSome (by omega)
    by_cases c1 : b = l.getD k 0
    · simp (disch := first | with_reducible assumption | omega) only [push_cast, x_blk, x_cd, ↓reduceIte, Nat.reduceEqDiff, List.map_cons, List.map_nil, Int.reduceEq, Int.lt_irrefl, L_slices_Index_0, h0, h1, h7, h8, hlt, c1, hI.ld ty_ag_3]
      exact fin_1 (hQ _ _ ⟨⟨k, (by simp only [push_cast, ↓reduceIte, Nat.reduceEqDiff, Int.reduceEq]), fun _ => c1 ▸ getD_mem l 0 k hlt, fun _ => by omega⟩, hs⟩)
    · simp (disch := first | with_reducible assumption | omega) only [push_cast, x_blk, x_cd, ↓reduceIte, Nat.reduceEqDiff, List.map_cons, List.map_nil, Int.reduceEq, Int.lt_irrefl, L_slices_Index_0, h0, h1, h7, h8, hlt, c1, hI.ld ty_ag_3]
      exact hJ _ _ ⟨k + 1, hlt, (by simp only [push_cast, ↓reduceIte, Nat.reduceEqDiff, Int.reduceEq, h0]), (by simp only [push_cast, ↓reduceIte, Nat.reduceEqDiff, Int.reduceEq, h1]), (by simp only [push_cast, ↓reduceIte, Nat.reduceEqDiff, Int.reduceEq, h7]), (by simp only [push_cast, ↓reduceIte, Nat.reduceEqDiff, Int.reduceEq]), fun i hi => if e : i = k then e ▸ fun h => c1 h.symm else hpre i (by omega), hs⟩ (by simp only [push_cast, ↓reduceIte, Nat.reduceEqDiff, h8, intOf]; omega)
  · simp (disch := first | with_reducible assumption | omega) only [push_cast, x_blk, x_cd, ↓reduceIte, Nat.reduceEqDiff, List.map_cons, List.map_nil, Int.reduceEq, Int.lt_irrefl, L_slices_Index_0, h0, h1, h7, h8, hlt]
    refine fin_1 (hQ _ _ ⟨⟨-1, (by simp only [push_cast, ↓reduceIte, Nat.reduceEqDiff, Int.reduceEq]), fun h => absurd h (by omega), fun h => ?_⟩, hs⟩)
    obtain ⟨i, hi, he⟩ := (mem_iff_getD l 0 b).1 h
    exact absurd he (hpre i (by omega))

theorem slices_Contains {ok : Nat → Prop} {w : World} {A : Option Addr} {l : List Int} (h : Ints ok w A l) (c : Nat) (b : Int) (hl : l.length ≤ 9223372036854775807) :
    Cal Tryd.prog 92 [.slice A l.length c, .int .i64 b] w fun v w' => v = .bool (decide (b ∈ l)) ∧ Same w w' := by
  refine cal_slices_Contains (by simp) 100000 fun Q hQ => ?_
  simp (disch := first | with_reducible assumption | omega) only [push_cast, x_blk, x_cd, ↓reduceIte, Nat.reduceEqDiff, List.map_cons, List.map_nil, Int.reduceEq, Int.lt_irrefl, F_slices_Contains]
  refine call_of (slices_Index h c b hl) ?_
  rintro v w' ⟨⟨k, rfl, hk⟩, hs⟩
  simp (disch := first | with_reducible assumption | omega) only [push_cast, x_blk, x_cd, ↓reduceIte, Nat.reduceEqDiff, List.map_cons, List.map_nil, Int.reduceEq, Int.lt_irrefl]
  exact fin_1 (hQ _ _ ⟨(by simp only [push_cast, ↓reduceIte, Nat.reduceEqDiff, Int.reduceEq, hk]), hs⟩)

theorem row_Has {ok : Nat → Prop} {w : World} {A : Option Addr} {l : List Int} (h : Ints ok w A l) (c : Nat) (b : Int) (hl : l.length ≤ 9223372036854775807) :
    Cal Tryd.prog 46 [.slice A l.length c, .int .i64 b] w fun v w' => v = .bool (decide (b ∈ l)) ∧ Same w w' := by
  refine cal_row_Has (by simp) 100000 fun Q hQ => ?_
  simp (disch := first | with_reducible assumption | omega) only [push_cast, x_blk, x_cd, ↓reduceIte, Nat.reduceEqDiff, List.map_cons, List.map_nil, Int.reduceEq, Int.lt_irrefl, F_row_Has]
  refine call_of (slices_Contains h c b hl) ?_
  rintro v w' ⟨rfl, hs⟩
  simp (disch := first | with_reducible assumption | omega) only [push_cast, x_blk, x_cd, ↓reduceIte, Nat.reduceEqDiff, List.map_cons, List.map_nil, Int.reduceEq, Int.lt_irrefl]
  exact fin_1 (hQ _ _ ⟨(by simp only [push_cast, ↓reduceIte, Nat.reduceEqDiff, Int.reduceEq]), hs⟩)

theorem ref1_Has {ok : Nat → Prop} {w : World} {A : Option Addr} {l : List Int} (h : Ints ok w A l) (c : Nat) (b : Int) (hl : l.length ≤ 9223372036854775807) :
    Cal Tryd.prog 36 [.slice A l.length c, .int .i64 b] w fun v w' => v = .bool (decide (b ∈ l)) ∧ Same w w' := by
  refine cal_ref1_Has (by simp) 100000 fun Q hQ => ?_
  simp (disch := first | with_reducible assumption | omega) only [push_cast, x_blk, x_cd, ↓reduceIte, Nat.reduceEqDiff, List.map_cons, List.map_nil, Int.reduceEq, Int.lt_irrefl, F_ref1_Has]
  refine loop_rule (fun f w' => ∃ k : Nat, k ≤ l.length ∧ f 0 = .slice A l.length c ∧ f 1 = .int .i64 b ∧ f 5 = .int .i64 k ∧ (∀ i, i < k → l.getD i 0 ≠ b) ∧ Same w w')
    (fun f _ => l.length - (intOf (f 5)).toNat) ⟨0, Nat.zero_le _, rfl, rfl, rfl, fun i hi => absurd hi (by omega), Same.refl w⟩ ?_
  rintro f w1 ⟨k, hk, h0, h1, h5, hpre, hs⟩ J hJ
  have hI := h.same hs
  by_cases hlt : k < l.length
  · have hA := h.isSome (by omega)
    by_cases c1 : l.getD k 0 = b
    · have B : decide (b ∈ l) = true := decide_eq_true (c1 ▸ getD_mem l 0 k hlt)
      simp (disch := first | with_reducible assumption | omega) only [push_cast, x_blk, x_cd, ↓reduceIte, Nat.reduceEqDiff, List.map_cons, List.map_nil, Int.reduceEq, Int.lt_irrefl, L_ref1_Has_0, h0, h1, h5, hlt, c1, hI.ld ty_ag_3]
      exact fin_1 (hQ _ _ ⟨(by simp only [push_cast, ↓reduceIte, Nat.reduceEqDiff, Int.reduceEq, B]), hs⟩)
    · simp (disch := first | with_reducible assumption | omega) only [push_cast, x_blk, x_cd, ↓reduceIte, Nat.reduceEqDiff, List.map_cons, List.map_nil, Int.reduceEq, Int.lt_irrefl, L_ref1_Has_0, h0, h1, h5, hlt, c1, hI.ld ty_ag_3]
      exact hJ _ _ ⟨k + 1, hlt, (by simp only [push_cast, ↓reduceIte, Nat.reduceEqDiff, Int.reduceEq, h0]), (by simp only [push_cast, ↓reduceIte, Nat.reduceEqDiff, Int.reduceEq, h1]), (by simp only [push_cast, ↓reduceIte, Nat.reduceEqDiff, Int.reduceEq]), fun i hi => if e : i = k then e ▸ c1 else hpre i (by omega), hs⟩ (by simp only [push_cast, ↓reduceIte, Nat.reduceEqDiff, h5, intOf]; omega)
  · have B : decide (b ∈ l) = false := decide_eq_false fun h => by
      obtain ⟨i, hi, he⟩ := (mem_iff_getD l 0 b).1 h
      exact hpre i (by omega) he
    simp (disch := first | with_reducible assumption | omega) only [push_cast, x_blk, x_cd, ↓reduceIte, Nat.reduceEqDiff, List.map_cons, List.map_nil, Int.reduceEq, Int.lt_irrefl, L_ref1_Has_0, h0, h1, h5, hlt]
    exact fin_1 (hQ _ _ ⟨(by simp only [push_cast, ↓reduceIte, Nat.reduceEqDiff, Int.reduceEq, B]), hs⟩)

theorem ref1_Same {ok ok' : Nat → Prop} {w : World} {A A' : Option Addr} {l m : List Int} (h : Ints ok w A l) (h' : Ints ok' w A' m) (c c' : Nat) (hl : l.length ≤ 9223372036854775807) :
    Cal Tryd.prog 17 [.slice A l.length c, .slice A' m.length c'] w fun v w' => v = .bool (decide (l = m)) ∧ Same w w' := by
  refine cal_ref1_Same (by simp) 100000 fun Q hQ => ?_
  by_cases hlen : (l.length : Int) = (m.length : Int)
  · have hlen' : l.length = m.length := by omega
    simp (disch := first | with_reducible assumption | omega) only [push_cast, x_blk, x_cd, ↓reduceIte, Nat.reduceEqDiff, List.map_cons, List.map_nil, Int.reduceEq, Int.lt_irrefl, F_ref1_Same, hlen]
    refine loop_rule (fun f w' => ∃ k : Nat, k ≤ l.length ∧ f 0 = .slice A l.length c ∧ f 1 = .slice A' m.length c' ∧ f 5 = .int .i64 k ∧ (∀ i, i < k → l.getD i 0 = m.getD i 0) ∧ Same w w')
      (fun f _ => l.length - (intOf (f 5)).toNat) ⟨0, Nat.zero_le _, rfl, rfl, rfl, fun i hi => absurd hi (by omega), Same.refl w⟩ ?_
    rintro f w1 ⟨k, hk, h0, h1, h5, hpre, hs⟩ J hJ
    have hI := (h.same hs).drew
    have hI' := (h'.same hs).drew
    by_cases hlt : k < l.length
    · have hA := h.isSome (by omega)
      have hA' := h'.isSome (by omega)
      have hlt' : k < m.length := by omega
      by_cases c1 : l.getD k 0 = m.getD k 0
      · simp (disch := first | with_reducible assumption | omega) only [push_cast, x_blk, x_cd, ↓reduceIte, Nat.reduceEqDiff, List.map_cons, List.map_nil, Int.reduceEq, Int.lt_irrefl, L_ref1_Same_0, h0, h1, h5, hlt, c1, hI.ld ty_ag_3, hI'.ld ty_ag_3]
        exact hJ _ _ ⟨k + 1, hlt, (by simp only [push_cast, ↓reduceIte, Nat.reduceEqDiff, Int.reduceEq, h0]), (by simp only [push_cast, ↓reduceIte, Nat.reduceEqDiff, Int.reduceEq, h1]), (by simp only [push_cast, ↓reduceIte, Nat.reduceEqDiff, Int.reduceEq]), fun i hi => if e : i = k then e ▸ c1 else hpre i (by omega), hs.drew⟩ (by simp only [push_cast, ↓reduceIte, Nat.reduceEqDiff, h5, intOf]; omega)
      · have B : decide (l = m) = false := decide_eq_false fun e => c1 (by rw [e])
        simp (disch := first | with_reducible assumption | omega) only [push_cast, x_blk, x_cd, ↓reduceIte, Nat.reduceEqDiff, List.map_cons, List.map_nil, Int.reduceEq, Int.lt_irrefl, L_ref1_Same_0, h0, h1, h5, hlt, c1, hI.ld ty_ag_3, hI'.ld ty_ag_3]
        exact fin_1 (hQ _ _ ⟨(by simp only [push_cast, ↓reduceIte, Nat.reduceEqDiff, Int.reduceEq, B]), hs.drew⟩)
    · have B : decide (l = m) = true := decide_eq_true (ext_getD 0 hlen' fun i hi => hpre i (by omega))
      simp (disch := first | with_reducible assumption | omega) only [push_cast, x_blk, x_cd, ↓reduceIte, Nat.reduceEqDiff, List.map_cons, List.map_nil, Int.reduceEq, Int.lt_irrefl, L_ref1_Same_0, h0, h1, h5, hlt]
      exact fin_1 (hQ _ _ ⟨(by simp only [push_cast, ↓reduceIte, Nat.reduceEqDiff, Int.reduceEq, B]), hs⟩)
  · have B : decide (l = m) = false := decide_eq_false fun e => hlen (by rw [e])
    simp (disch := first | with_reducible assumption | omega) only [push_cast, x_blk, x_cd, ↓reduceIte, Nat.reduceEqDiff, List.map_cons, List.map_nil, Int.reduceEq, Int.lt_irrefl, F_ref1_Same, hlen]
    exact fin_1 (hQ _ _ ⟨(by simp only [push_cast, ↓reduceIte, Nat.reduceEqDiff, Int.reduceEq, B]), Same.refl w⟩)
end

section
open Go.RowKit

theorem Ints.lt {ok : Nat → Prop} {w : World} {A : Option Addr} {l : List Int} (h : Ints ok w A l) : Ints (· < w.heap.size) w A l :=
  ⟨h.isSome, fun hl => by have := World.block_lt_of_cell? w _ (h.cell 0 hl); rwa [eA_block] at this, h.cell⟩

/-- The numbers of a row that are (are not) in another one. -/
def onlyL (l m : List Int) (inn : Bool) : List Int := l.filter fun x => decide (x ∈ m) == inn
theorem onlyL_snoc (l m : List Int) (inn : Bool) (k : Nat) (h : k < l.length) : onlyL (l.take (k + 1)) m inn = onlyL (l.take k) m inn ++ (if (decide (l.getD k 0 ∈ m) == inn) = true then [l.getD k 0] else []) := by
  unfold onlyL
  rw [take_snoc l 0 k h, List.filter_append]
  congr 1
  simp only [List.filter_cons, List.filter_nil]
theorem onlyL_le (l m : List Int) (inn : Bool) (k : Nat) : (onlyL (l.take k) m inn).length ≤ k := by
  unfold onlyL
  have := List.length_filter_le (fun x => decide (x ∈ m) == inn) (l.take k)
  have := List.length_take_le k l
  omega

theorem ref1_Only {w : World} {A A1 : Option Addr} {l m : List Int} (h : Ints (· < w.heap.size) w A l) (h' : Ints (· < w.heap.size) w A1 m) (c c1 : Nat) (inn : Bool) (hl : l.length ≤ 17592186043904) (hm : m.length ≤ 9223372036854775807) :
    Cal Tryd.prog 47 [.slice A l.length c, .slice A1 m.length c1, .bool inn] w fun v w' =>
      ∃ A' c', v = .slice A' (onlyL l m inn).length c' ∧ OwnI w.heap.size 3 w' A' c' (onlyL l m inn) ∧ Below w.heap.size w w' := by
  refine cal_ref1_Only (by simp) 100000 fun Q hQ => ?_
  simp (disch := first | with_reducible assumption | omega) only [push_cast, x_blk, x_cd, ↓reduceIte, Nat.reduceEqDiff, List.map_cons, List.map_nil, Int.reduceEq, Int.lt_irrefl, F_ref1_Only]
  refine loop_rule (fun f w' => ∃ k : Nat, ∃ A' c', k ≤ l.length ∧ f 0 = .slice A l.length c ∧ f 1 = .slice A1 m.length c1 ∧ f 2 = .bool inn ∧ f 7 = .slice A' (onlyL (l.take k) m inn).length c' ∧ f 8 = .int .i64 k ∧
      OwnI w.heap.size 3 w' A' c' (onlyL (l.take k) m inn) ∧ Below w.heap.size w w')
    (fun f _ => l.length - (intOf (f 8)).toNat) ⟨0, none, 0, Nat.zero_le _, rfl, rfl, rfl, rfl, rfl, Own.nil _ _ _ _, Below.refl _ _⟩ ?_
  rintro f w1 ⟨k, A', c', hk, h0, h1, h2, h7, h8, ho, hb⟩ J hJ
  have hI := h.below hb
  by_cases hlt : k < l.length
  · have hA := h.isSome (by omega)
    simp (disch := first | with_reducible assumption | omega) only [push_cast, x_blk, x_cd, ↓reduceIte, Nat.reduceEqDiff, List.map_cons, List.map_nil, Int.reduceEq, Int.lt_irrefl, L_ref1_Only_0, h0, h1, h2, h7, h8, hlt, hI.ld ty_ag_3]
    refine call_of (ref1_Has (h'.below hb) c1 (l.getD k 0) hm) ?_
    rintro v w2 ⟨rfl, hs⟩
    have hI2 := hI.same hs
    have hle := onlyL_le l m inn k
    have hsn := onlyL_snoc l m inn k hlt
    by_cases hin : (decide (l.getD k 0 ∈ m) == inn) = true
    · rw [if_pos hin] at hsn
      simp (disch := first | with_reducible assumption | omega) only [push_cast, x_blk, x_cd, ↓reduceIte, Nat.reduceEqDiff, List.map_cons, List.map_nil, Int.reduceEq, Int.lt_irrefl, h0, h1, h2, h7, h8, hin, hI2.ld ty_ag_3]
      refine app_int slT_22 (ho.same hs) (l.getD k 0) (by omega) (by have := hb.size; rw [hs.heap]; exact this) ?_
      intro A2 c2 w3 ho3 hg hA3 hs3 hz
      simp (disch := first | with_reducible assumption | omega) only [push_cast, x_blk, x_cd, ↓reduceIte, Nat.reduceEqDiff, List.map_cons, List.map_nil, Int.reduceEq, Int.lt_irrefl, h8]
      exact hJ _ _ ⟨k + 1, A2, c2, hlt, (by simp only [push_cast, ↓reduceIte, Nat.reduceEqDiff, Int.reduceEq, h0]), (by simp only [push_cast, ↓reduceIte, Nat.reduceEqDiff, Int.reduceEq, h1]), (by simp only [push_cast, ↓reduceIte, Nat.reduceEqDiff, Int.reduceEq, h2]), (by simp only [push_cast, ↓reduceIte, Nat.reduceEqDiff, Int.reduceEq, hsn, List.length_append, List.length_cons, List.length_nil]), (by simp only [push_cast, ↓reduceIte, Nat.reduceEqDiff, Int.reduceEq]), by rw [hsn]; exact ho3,
        hg.below (hb.trans (hs.below _)) (by have := hb.size; rw [hs.heap]; exact this) ho.geB⟩ (by simp only [push_cast, ↓reduceIte, Nat.reduceEqDiff, h8, intOf]; omega)
    · rw [if_neg hin, List.append_nil] at hsn
      simp (disch := first | with_reducible assumption | omega) only [push_cast, x_blk, x_cd, ↓reduceIte, Nat.reduceEqDiff, List.map_cons, List.map_nil, Int.reduceEq, Int.lt_irrefl, h0, h1, h2, h7, h8, hin]
      exact hJ _ _ ⟨k + 1, A', c', hlt, (by simp only [push_cast, ↓reduceIte, Nat.reduceEqDiff, Int.reduceEq, h0]), (by simp only [push_cast, ↓reduceIte, Nat.reduceEqDiff, Int.reduceEq, h1]), (by simp only [push_cast, ↓reduceIte, Nat.reduceEqDiff, Int.reduceEq, h2]), (by simp only [push_cast, ↓reduceIte, Nat.reduceEqDiff, Int.reduceEq, h7, hsn]), (by simp only [push_cast, ↓reduceIte, Nat.reduceEqDiff, Int.reduceEq]), by rw [hsn]; exact ho.same hs, hb.trans (hs.below _)⟩ (by simp only [push_cast, ↓reduceIte, Nat.reduceEqDiff, h8, intOf]; omega)
  · obtain rfl : k = l.length := by omega
    rw [List.take_length] at h7 ho
    simp (disch := first | with_reducible assumption | omega) only [push_cast, x_blk, x_cd, ↓reduceIte, Nat.reduceEqDiff, List.map_cons, List.map_nil, Int.reduceEq, Int.lt_irrefl, L_ref1_Only_0, h0, h1, h2, h7, h8, Nat.lt_irrefl]
    exact fin_1 (hQ _ _ ⟨A', c', (by simp only [push_cast, ↓reduceIte, Nat.reduceEqDiff, Int.reduceEq, h7]), ho, hb⟩)

def ins (x : Int) : List Int → List Int
  | [] => [x]
  | y :: l => if y < x then y :: ins x l else if y = x then y :: l else x :: y :: l
/-- The row of a list's numbers. -/
def sortedL (l : List Int) : List Int := l.foldl (fun o x => ins x o) []
theorem ins_at (x : Int) : ∀ (o : List Int) (a : Nat), a ≤ o.length → (∀ j, j < a → o.getD j 0 < x) → (a < o.length → ¬ o.getD a 0 < x) →
    ins x o = if a < o.length ∧ o.getD a 0 = x then o else o.take a ++ x :: o.drop a
  | [], a, h, _, _ => by simp at h; subst h; rfl
  | y :: o, 0, _, _, h2 => by
    have h3 : ¬ y < x := by simpa using h2 (by simp)
    unfold ins
    rw [if_neg h3]
    simp only [List.length_cons, Nat.zero_lt_succ, true_and, List.take_zero, List.nil_append, List.drop_zero, List.getD_cons_zero]
  | y :: o, a + 1, h, h1, h2 => by
    have h3 : y < x := by simpa using h1 0 (by omega)
    unfold ins
    rw [if_pos h3, ins_at x o a (by simpa using h) (fun j hj => by simpa using h1 (j + 1) (by omega)) (fun hj => by simpa using h2 (by simpa using hj))]
    simp only [List.length_cons, Nat.add_lt_add_iff_right, List.getD_cons_succ, List.take_succ_cons, List.drop_succ_cons, List.cons_append]
    split <;> rfl
theorem ins_len (x : Int) (o : List Int) : (ins x o).length ≤ o.length + 1 := by
  induction o with
  | nil => simp [ins]
  | cons y o ih => unfold ins; split; · simpa using ih
                   · split <;> simp
theorem sortedL_len (l : List Int) : (sortedL l).length ≤ l.length := by
  have key : ∀ (l o : List Int), (l.foldl (fun o x => ins x o) o).length ≤ o.length + l.length := by
    intro l
    induction l with
    | nil => simp
    | cons x l ih => intro o; have := ih (ins x o); have := ins_len x o; simp only [List.foldl_cons, List.length_cons]; omega
  have := key l []
  simpa [sortedL] using this
theorem sortedL_snoc (l : List Int) (k : Nat) (h : k < l.length) : sortedL (l.take (k + 1)) = ins (l.getD k 0) (sortedL (l.take k)) := by
  unfold sortedL; rw [take_snoc l 0 k h, List.foldl_append]; rfl

theorem ref1_Sorted {w : World} {A : Option Addr} {l : List Int} (h : Ints (· < w.heap.size) w A l) (c : Nat) (hl : l.length ≤ 17592186043904) :
    Cal Tryd.prog 80 [.slice A l.length c] w fun v w' =>
      ∃ A' c', v = .slice A' (sortedL l).length c' ∧ OwnI w.heap.size 3 w' A' c' (sortedL l) ∧ Below w.heap.size w w' := by
  refine cal_ref1_Sorted (by simp) 100000 fun Q hQ => ?_
  simp (disch := first | with_reducible assumption | omega) only [push_cast, x_blk, x_cd, ↓reduceIte, Nat.reduceEqDiff, List.map_cons, List.map_nil, Int.reduceEq, Int.lt_irrefl, F_ref1_Sorted]
  refine loop_rule (fun f w' => ∃ k : Nat, ∃ A' c', k ≤ l.length ∧ f 0 = .slice A l.length c ∧ f 3 = .slice A' (sortedL (l.take k)).length c' ∧ f 4 = .int .i64 k ∧
      OwnI w.heap.size 3 w' A' c' (sortedL (l.take k)) ∧ Below w.heap.size w w')
    (fun f _ => l.length - (intOf (f 4)).toNat) ⟨0, none, 0, Nat.zero_le _, rfl, rfl, rfl, Own.nil _ _ _ _, Below.refl _ _⟩ ?_
  rintro f w1 ⟨k, A', c', hk, h0, h3, h4, ho, hb⟩ J hJ
  by_cases hlt : k < l.length
  · have hA := h.isSome (by omega)
    have hle := sortedL_len (l.take k)
    have hle2 := List.length_take_le k l
    have hsn := sortedL_snoc l k hlt
    generalize sortedL (l.take k) = o at *
    generalize hx : l.getD k 0 = y at *
    simp (disch := first | with_reducible assumption | omega) only [push_cast, x_cd, ↓reduceIte, Nat.reduceEqDiff, L_ref1_Sorted_2, h0, h3, h4, hlt]
    rw [x_blk]
    simp (disch := first | with_reducible assumption | omega) only [push_cast, x_cd, ↓reduceIte, Nat.reduceEqDiff, h0, h3, h4, hlt]
    refine cut (fun f' w' => ∃ a : Nat, a ≤ o.length ∧ (∀ j, j < a → o.getD j 0 < y) ∧ (a < o.length → ¬ o.getD a 0 < y) ∧ f' 0 = .slice A l.length c ∧ f' 3 = .slice A' o.length c' ∧ f' 4 = .int .i64 k ∧ f' 5 = .int .i64 a ∧ Same w1 w') 40000 40000 (by decide) ?_ ?_
    · intro E hE
      simp (disch := first | with_reducible assumption | omega) only [push_cast, x_blk, x_cd, ↓reduceIte, Nat.reduceEqDiff, List.map_cons, List.map_nil, Int.reduceEq, Int.lt_irrefl]
      refine loop_rule (fun f' w' => ∃ a : Nat, a ≤ o.length ∧ (∀ j, j < a → o.getD j 0 < y) ∧ f' 0 = .slice A l.length c ∧ f' 3 = .slice A' o.length c' ∧ f' 4 = .int .i64 k ∧ f' 5 = .int .i64 a ∧ Same w1 w')
        (fun f' _ => o.length - (intOf (f' 5)).toNat) ⟨0, Nat.zero_le _, fun j hj => absurd hj (by omega), (by simp only [push_cast, ↓reduceIte, Nat.reduceEqDiff, Int.reduceEq, h0]), (by simp only [push_cast, ↓reduceIte, Nat.reduceEqDiff, Int.reduceEq, h3]), (by simp only [push_cast, ↓reduceIte, Nat.reduceEqDiff, Int.reduceEq, h4]), (by simp only [push_cast, ↓reduceIte, Nat.reduceEqDiff, Int.reduceEq]), Same.refl _⟩ ?_
      rintro f2 w2 ⟨a, ha, hp, g0, g3, g4, g5, hs⟩ J2 hJ2
      have hI := ((h.below hb).same hs).drew
      have hO := (OwnI.ints (ho.same hs)).drew
      by_cases c1 : a < o.length
      · have hA' := ho.isSome (by omega)
        by_cases c2 : o.getD a 0 < y
        · simp (disch := first | with_reducible assumption | omega) only [push_cast, x_blk, x_cd, ↓reduceIte, Nat.reduceEqDiff, List.map_cons, List.map_nil, Int.reduceEq, Int.lt_irrefl, L_ref1_Sorted_1, g0, g3, g4, g5, c1, c2, hI.ld ty_ag_3, hO.ld ty_ag_3, hx]
          exact hJ2 _ _ ⟨a + 1, c1, fun j hj => if e : j = a then e ▸ c2 else hp j (by omega), (by simp only [push_cast, ↓reduceIte, Nat.reduceEqDiff, Int.reduceEq, g0]), (by simp only [push_cast, ↓reduceIte, Nat.reduceEqDiff, Int.reduceEq, g3]), (by simp only [push_cast, ↓reduceIte, Nat.reduceEqDiff, Int.reduceEq, g4]), (by simp only [push_cast, ↓reduceIte, Nat.reduceEqDiff, Int.reduceEq]), hs.drew⟩ (by simp only [push_cast, ↓reduceIte, Nat.reduceEqDiff, g5, intOf]; omega)
        · simp (disch := first | with_reducible assumption | omega) only [push_cast, x_blk, x_cd, ↓reduceIte, Nat.reduceEqDiff, List.map_cons, List.map_nil, Int.reduceEq, Int.lt_irrefl, L_ref1_Sorted_1, g0, g3, g4, g5, c1, c2, hI.ld ty_ag_3, hO.ld ty_ag_3, hx]
          exact hE _ _ ⟨a, ha, hp, fun _ => c2, (by simp only [push_cast, ↓reduceIte, Nat.reduceEqDiff, Int.reduceEq, g0]), (by simp only [push_cast, ↓reduceIte, Nat.reduceEqDiff, Int.reduceEq, g3]), (by simp only [push_cast, ↓reduceIte, Nat.reduceEqDiff, Int.reduceEq, g4]), (by simp only [push_cast, ↓reduceIte, Nat.reduceEqDiff, Int.reduceEq, g5]), hs.drew⟩
      · simp (disch := first | with_reducible assumption | omega) only [push_cast, x_blk, x_cd, ↓reduceIte, Nat.reduceEqDiff, List.map_cons, List.map_nil, Int.reduceEq, Int.lt_irrefl, L_ref1_Sorted_1, g0, g3, g4, g5, c1]
        exact hE _ _ ⟨a, ha, hp, fun hh => absurd hh c1, (by simp only [push_cast, ↓reduceIte, Nat.reduceEqDiff, Int.reduceEq, g0]), (by simp only [push_cast, ↓reduceIte, Nat.reduceEqDiff, Int.reduceEq, g3]), (by simp only [push_cast, ↓reduceIte, Nat.reduceEqDiff, Int.reduceEq, g4]), (by simp only [push_cast, ↓reduceIte, Nat.reduceEqDiff, Int.reduceEq, g5]), hs.drew⟩
    · rintro f2 w2 ⟨a, ha, hp, hq, g0, g3, g4, g5, hs⟩
      have hI := ((h.below hb).same hs).drew
      have ho2 := ho.same hs.drew
      have hb2 := hb.trans (hs.drew.below w.heap.size)
      have hO := OwnI.ints ho2
      rw [ins_at y o a ha hp hq] at hsn
      by_cases c3 : a < o.length ∧ o.getD a 0 = y
      · have hA' := ho.isSome (by omega)
        rw [if_pos c3] at hsn
        simp (disch := first | with_reducible assumption | omega) only [push_cast, x_blk, x_cd, ↓reduceIte, Nat.reduceEqDiff, List.map_cons, List.map_nil, Int.reduceEq, Int.lt_irrefl, g0, g3, g4, g5, c3.1, c3.2, hI.ld ty_ag_3, hO.ld ty_ag_3, hx]
        exact hJ _ _ ⟨k + 1, A', c', hlt, (by simp only [push_cast, ↓reduceIte, Nat.reduceEqDiff, Int.reduceEq, g0]), (by simp only [push_cast, ↓reduceIte, Nat.reduceEqDiff, Int.reduceEq, g3, hsn]), (by simp only [push_cast, ↓reduceIte, Nat.reduceEqDiff, Int.reduceEq]), by rw [hsn]; exact ho2, hb2⟩ (by simp only [push_cast, ↓reduceIte, Nat.reduceEqDiff, h4, intOf]; omega)
      · rw [if_neg c3] at hsn
        rw [x_sq]
        refine cut (fun f' w' => f' 0 = .slice A l.length c ∧ f' 3 = .slice A' o.length c' ∧ f' 4 = .int .i64 k ∧ f' 5 = .int .i64 a ∧ w' = w2.drew) 10000 20000 (by decide) ?_ ?_
        · intro E hE
          by_cases c1 : a < o.length
          · have hA' := ho.isSome (by omega)
            have c2 : ¬ o.getD a 0 = y := fun e => c3 ⟨c1, e⟩
            simp (disch := first | with_reducible assumption | omega) only [push_cast, x_blk, x_cd, ↓reduceIte, Nat.reduceEqDiff, List.map_cons, List.map_nil, Int.reduceEq, Int.lt_irrefl, g0, g3, g4, g5, c1, c2, hI.ld ty_ag_3, hO.ld ty_ag_3, hx]
            exact hE _ _ ⟨(by simp only [push_cast, ↓reduceIte, Nat.reduceEqDiff, Int.reduceEq, g0]), (by simp only [push_cast, ↓reduceIte, Nat.reduceEqDiff, Int.reduceEq, g3]), (by simp only [push_cast, ↓reduceIte, Nat.reduceEqDiff, Int.reduceEq, g4]), (by simp only [push_cast, ↓reduceIte, Nat.reduceEqDiff, Int.reduceEq, g5]), rfl⟩
          · simp (disch := first | with_reducible assumption | omega) only [push_cast, x_blk, x_cd, ↓reduceIte, Nat.reduceEqDiff, List.map_cons, List.map_nil, Int.reduceEq, Int.lt_irrefl, g0, g3, g4, g5, c1]
            exact hE _ _ ⟨(by simp only [push_cast, ↓reduceIte, Nat.reduceEqDiff, Int.reduceEq, g0]), (by simp only [push_cast, ↓reduceIte, Nat.reduceEqDiff, Int.reduceEq, g3]), (by simp only [push_cast, ↓reduceIte, Nat.reduceEqDiff, Int.reduceEq, g4]), (by simp only [push_cast, ↓reduceIte, Nat.reduceEqDiff, Int.reduceEq, g5]), rfl⟩
        · rintro f3 w3 ⟨e0, e3, e4, e5, rfl⟩
          simp (disch := first | with_reducible assumption | omega) only [push_cast, x_blk, x_cd, ↓reduceIte, Nat.reduceEqDiff, List.map_cons, List.map_nil, Int.reduceEq, Int.lt_irrefl, e0, e3, e4, e5]
          refine app_int slT_22 ho2 0 (by omega) hb2.size ?_
          intro A2 c2 w3 ho3 hg hA3 hs3 hz
          have hb3 := hg.below hb2 hb2.size ho2.geB
          clear ho ho2 hO hg hA3
          simp (disch := first | with_reducible assumption | omega) only [push_cast, x_blk, x_cd, ↓reduceIte, Nat.reduceEqDiff, List.map_cons, List.map_nil, Int.reduceEq, Int.lt_irrefl, e0, e3, e4, e5]
          refine loop_rule (fun f' w' => ∃ j : Nat, ∃ o', a ≤ j ∧ j ≤ o.length ∧ o'.length = o.length + 1 ∧ (∀ i, i ≤ o.length → o'.getD i 0 = if i ≤ j then (o ++ [0]).getD i 0 else o.getD (i - 1) 0) ∧
              f' 0 = .slice A l.length c ∧ f' 3 = .slice A2 (o.length + 1) c2 ∧ f' 4 = .int .i64 k ∧ f' 5 = .int .i64 a ∧ f' 6 = .int .i64 j ∧ OwnI w.heap.size 3 w' A2 c2 o' ∧ Below w.heap.size w w')
            (fun f' _ => (intOf (f' 6)).toNat) ⟨o.length, o ++ [0], ha, Nat.le_refl _, by simp, fun i hi => by rw [if_pos hi], (by simp only [push_cast, ↓reduceIte, Nat.reduceEqDiff, Int.reduceEq, e0]), (by simp only [push_cast, ↓reduceIte, Nat.reduceEqDiff, Int.reduceEq]), (by simp only [push_cast, ↓reduceIte, Nat.reduceEqDiff, Int.reduceEq, e4]), (by simp only [push_cast, ↓reduceIte, Nat.reduceEqDiff, Int.reduceEq, e5]), by simp only [push_cast, ↓reduceIte, Nat.reduceEqDiff]; congr 1; omega, ho3, hb3⟩ ?_
          rintro f4 w4 ⟨j, o', hj1, hj2, hlen, hv, e0, e3, e4, e5, e6, ho4, hb4⟩ J2 hJ2
          have hI4 := h.below hb4
          by_cases c4 : a < j
          · have e1 : ((j : Int) - 1).toNat = j - 1 := by omega
            have hO4 := OwnI.ints ho4
            rw [← hlen] at e3
            simp (disch := first | with_reducible assumption | omega) only [push_cast, x_blk, x_cd, ↓reduceIte, Nat.reduceEqDiff, List.map_cons, List.map_nil, Int.reduceEq, Int.lt_irrefl, L_ref1_Sorted_0, e0, e3, e4, e5, e6, c4, e1, hO4.ld ty_ag_3]
            refine sto_int ty_ag_3 ty_sz_int ho4 j (by omega) _ ?_
            intro w5 ho5 hg5 hz5
            simp (disch := first | with_reducible assumption | omega) only [push_cast, x_blk, x_cd, ↓reduceIte, Nat.reduceEqDiff, List.map_cons, List.map_nil, Int.reduceEq, Int.lt_irrefl, e6]
            refine hJ2 _ _ ⟨j - 1, _, by omega, by omega, by rw [List.length_set]; exact hlen, fun i hi => ?_, (by simp only [push_cast, ↓reduceIte, Nat.reduceEqDiff, Int.reduceEq, e0]), (by simp only [push_cast, ↓reduceIte, Nat.reduceEqDiff, Int.reduceEq, e3, hlen]), (by simp only [push_cast, ↓reduceIte, Nat.reduceEqDiff, Int.reduceEq, e4]), (by simp only [push_cast, ↓reduceIte, Nat.reduceEqDiff, Int.reduceEq, e5]), by simp only [push_cast, ↓reduceIte, Nat.reduceEqDiff]; congr 1; omega, ho5, hg5.below hb4 (by have := hb4.size; exact this) ho4.geB⟩ (by simp only [push_cast, ↓reduceIte, Nat.reduceEqDiff, e6, intOf]; omega)
            rw [getD_set _ _ _ _ _ (by omega)]
            by_cases ei : i = j
            · rw [if_pos ei, if_neg (by omega), hv (j - 1) (by omega), if_pos (by omega), getD_append_left _ _ _ _ (by omega), ei]
            · rw [if_neg ei, hv i hi]
              by_cases ej : i ≤ j
              · rw [if_pos ej, if_pos (by omega)]
              · rw [if_neg ej, if_neg (by omega)]
          · obtain rfl : j = a := by omega
            rw [← hlen] at e3
            have hfin : o'.set j y = o.take j ++ y :: o.drop j := by
              refine ext_getD 0 (by simp; omega) fun i hi => ?_
              rw [List.length_set] at hi
              rw [getD_set _ _ _ _ _ (by omega), hv i (by omega)]
              by_cases ei : i < j
              · rw [if_neg (by omega), if_pos (by omega), getD_append_left o _ _ _ (by omega), getD_append_left (o.take j) _ _ _ (by simp; omega)]
                simp [List.getD_eq_getElem?_getD, List.getElem?_take, ei]
              · rw [getD_append_right (o.take j) _ _ _ (by simp; omega)]
                have ht : (o.take j).length = j := by simp; omega
                rw [ht]
                by_cases ej : i = j
                · rw [if_pos ej]; subst ej; simp
                · rw [if_neg ej, if_neg (by omega), show i - j = (i - j - 1) + 1 by omega, List.getD_cons_succ]
                  simp only [List.getD_eq_getElem?_getD, List.getElem?_drop]
                  congr 2; omega
            simp (disch := first | with_reducible assumption | omega) only [push_cast, x_blk, x_cd, ↓reduceIte, Nat.reduceEqDiff, List.map_cons, List.map_nil, Int.reduceEq, Int.lt_irrefl, L_ref1_Sorted_0, e0, e3, e4, e5, e6, Nat.lt_irrefl, hI4.ld ty_ag_3, hx]
            refine sto_int ty_ag_3 ty_sz_int ho4 j (by omega) _ ?_
            intro w5 ho5 hg5 hz5
            rw [hfin, ← hsn] at ho5
            have hlen5 : (sortedL (l.take (k + 1))).length = o'.length := by rw [hsn]; simp; omega
            simp (disch := first | with_reducible assumption | omega) only [push_cast, x_blk, x_cd, ↓reduceIte, Nat.reduceEqDiff, List.map_cons, List.map_nil, Int.reduceEq, Int.lt_irrefl, e4]
            exact hJ _ _ ⟨k + 1, A2, c2, hlt, (by simp only [push_cast, ↓reduceIte, Nat.reduceEqDiff, Int.reduceEq, e0]), (by simp only [push_cast, ↓reduceIte, Nat.reduceEqDiff, Int.reduceEq, e3, hlen5]), (by simp only [push_cast, ↓reduceIte, Nat.reduceEqDiff, Int.reduceEq, e4]), ho5, hg5.below hb4 hb4.size ho4.geB⟩ (by simp only [push_cast, ↓reduceIte, Nat.reduceEqDiff, e4, h4, intOf]; omega)
  · obtain rfl : k = l.length := by omega
    rw [List.take_length] at h3 ho
    simp (disch := first | with_reducible assumption | omega) only [push_cast, x_blk, x_cd, ↓reduceIte, Nat.reduceEqDiff, List.map_cons, List.map_nil, Int.reduceEq, Int.lt_irrefl, L_ref1_Sorted_2, h0, h3, h4, Nat.lt_irrefl]
    exact fin_1 (hQ _ _ ⟨A', c', (by simp only [push_cast, ↓reduceIte, Nat.reduceEqDiff, Int.reduceEq, h3]), ho, hb⟩)
end

section
open Go.RowKit

theorem IsRow.len {l : List Int} {b : Int} (h : IsRow l b) : l.length ≤ 2147483648 := by
  have key : ∀ i : Nat, i < l.length → (i : Int) ≤ l.getD i 0 := by
    intro i
    induction i with
    | zero => intro hi; exact (h 0 hi).1
    | succ i ih => intro hi; have := ih (by omega); have := (h (i + 1) hi).2.2.2 (by omega); simp only [Nat.add_sub_cancel] at this; omega
  rcases Nat.eq_zero_or_pos l.length with h0 | h0
  · omega
  · have := key (l.length - 1) (by omega); have := (h (l.length - 1) (by omega)).2.2.1; omega

def lenOf : Value → Nat
  | .slice _ n _ => n
  | _ => 0
end

section
open Go.RowKit

end

section
open Go.RowKit

def Strict (l : List Int) : Prop := l.Pairwise (· < ·)
theorem Strict.ext : ∀ {l m : List Int}, Strict l → Strict m → (∀ x, x ∈ l ↔ x ∈ m) → l = m
  | [], [], _, _, _ => rfl
  | [], y :: m, _, _, h => absurd ((h y).2 (List.mem_cons_self ..)) (by simp)
  | x :: l, [], _, _, h => absurd ((h x).1 (List.mem_cons_self ..)) (by simp)
  | x :: l, y :: m, hl, hm, h => by
    have hl' := List.pairwise_cons.1 hl
    have hm' := List.pairwise_cons.1 hm
    have h1 : x = y := by
      have a1 := (h x).1 (List.mem_cons_self ..)
      have a2 := (h y).2 (List.mem_cons_self ..)
      rcases List.mem_cons.1 a1 with e | e
      · exact e
      · rcases List.mem_cons.1 a2 with e2 | e2
        · exact e2.symm
        · have := hm'.1 x e; have := hl'.1 y e2; omega
    subst h1
    rw [Strict.ext hl'.2 hm'.2 fun z => ⟨fun hz => ?_, fun hz => ?_⟩]
    · rcases List.mem_cons.1 ((h z).1 (List.mem_cons_of_mem _ hz)) with e | e
      · have := hl'.1 z hz; omega
      · exact e
    · rcases List.mem_cons.1 ((h z).2 (List.mem_cons_of_mem _ hz)) with e | e
      · have := hm'.1 z hz; omega
      · exact e
theorem IsRow.strict {l : List Int} {b : Int} (h : IsRow l b) : Strict l := by
  have key : ∀ j i : Nat, i < j → j < l.length → l.getD i 0 < l.getD j 0 := by
    intro j
    induction j with
    | zero => intro i hi; omega
    | succ j ih =>
      intro i hi hj
      have h1 := (h (j + 1) hj).2.2.2 (by omega)
      simp only [Nat.add_sub_cancel] at h1
      rcases Nat.lt_or_ge i j with hij | hij
      · have := ih i hij (by omega); omega
      · rw [show i = j by omega]; exact h1
  refine List.pairwise_iff_getElem.2 fun i j hi hj hij => ?_
  have := key j i hij hj
  simpa [List.getD_eq_getElem?_getD, hi, hj] using this
theorem IsRow.of_strict {l : List Int} {b : Int} (h : Strict l) (hb : ∀ x ∈ l, 0 ≤ x ∧ x < b ∧ x < 2147483648) : IsRow l b := fun i hi => by
  have h1 := hb _ (getD_mem l 0 i hi)
  refine ⟨h1.1, h1.2.1, h1.2.2, fun h0 => ?_⟩
  have := List.pairwise_iff_getElem.1 h (i - 1) i (by omega) hi (by omega)
  simpa [List.getD_eq_getElem?_getD, hi, show i - 1 < l.length by omega] using this
theorem IsRow.mem {l : List Int} {b : Int} (h : IsRow l b) {x : Int} (hx : x ∈ l) : 0 ≤ x ∧ x < b ∧ x < 2147483648 := by
  obtain ⟨k, hk, rfl⟩ := (mem_iff_getD l 0 x).1 hx
  have := h k hk
  exact ⟨this.1, this.2.1, this.2.2.1⟩

theorem mem_ins (x z : Int) : ∀ o : List Int, z ∈ ins x o ↔ z = x ∨ z ∈ o
  | [] => by simp [ins]
  | y :: o => by
    unfold ins
    split
    · rw [List.mem_cons, mem_ins x z o, List.mem_cons]; exact ⟨fun h => by rcases h with h | h | h <;> simp [h], fun h => by rcases h with h | h | h <;> simp [h]⟩
    · split
      · rename_i h; subst h; simp
      · simp
theorem strict_ins (x : Int) : ∀ o : List Int, Strict o → Strict (ins x o)
  | [], _ => by simp [ins, Strict]
  | y :: o, h => by
    have h' := List.pairwise_cons.1 h
    unfold ins
    split
    · rename_i hlt
      refine List.pairwise_cons.2 ⟨fun z hz => ?_, strict_ins x o h'.2⟩
      rcases (mem_ins x z o).1 hz with e | e
      · omega
      · exact h'.1 z e
    · split
      · exact h
      · refine List.pairwise_cons.2 ⟨fun z hz => ?_, h⟩
        rcases List.mem_cons.1 hz with e | e
        · omega
        · have := h'.1 z e; omega
theorem sortedL_spec (l : List Int) : Strict (sortedL l) ∧ ∀ z, z ∈ sortedL l ↔ z ∈ l := by
  have key : ∀ (l o : List Int), Strict o → Strict (l.foldl (fun o x => ins x o) o) ∧ ∀ z, z ∈ l.foldl (fun o x => ins x o) o ↔ z ∈ o ∨ z ∈ l := by
    intro l
    induction l with
    | nil => intro o h; simp [h]
    | cons x l ih =>
      intro o h
      obtain ⟨h1, h2⟩ := ih (ins x o) (strict_ins x o h)
      refine ⟨h1, fun z => ?_⟩
      rw [List.foldl_cons, h2, mem_ins, List.mem_cons]
      exact ⟨fun h => by rcases h with (h | h) | h <;> simp [h], fun h => by rcases h with h | h | h <;> simp [h]⟩
  have := key l [] (by simp [Strict])
  simpa [sortedL] using this

end
end Go.Proofs.YtcjedgiglimipaaDoor

/-
  Chapter 2: which machines may be: the program's May and the reference's: by their contracts.
  Chapter 2: the program's order of arrows and its May: by their contracts.
  Chapter 2: the program's May: by its contract.
-/
namespace Go.Proofs.YtcjedgiglimipaaDoor
set_option linter.unusedSimpArgs false
set_option linter.unusedVariables false
set_option linter.unusedSectionVars false
section
open Go.RowKit

def Arr.lt (a b : Arr) : Prop := a.frm < b.frm ∨ (a.frm = b.frm ∧ (a.evt < b.evt ∨ (a.evt = b.evt ∧ a.to_ < b.to_)))
instance (a b : Arr) : Decidable (a.lt b) := inferInstanceAs (Decidable (_ ∨ _))
def Mach.ArrOk (m : Mach) (a : Arr) : Prop := (0 ≤ a.frm ∧ a.frm < m.states) ∧ (0 ≤ a.to_ ∧ a.to_ < m.states) ∧ (0 ≤ a.evt ∧ a.evt < m.events)
instance (m : Mach) (a : Arr) : Decidable (m.ArrOk a) := inferInstanceAs (Decidable (_ ∧ _))
def Mach.At (m : Mach) (i : Nat) : Prop := m.ArrOk (m.arrows.getD i default) ∧ (0 < i → (m.arrows.getD (i - 1) default).lt (m.arrows.getD i default))
instance (m : Mach) (i : Nat) : Decidable (m.At i) := inferInstanceAs (Decidable (_ ∧ _))
def Mach.May (m : Mach) : Prop := 1 ≤ m.states ∧ m.states ≤ 256 ∧ 0 ≤ m.events ∧ m.events ≤ 8 ∧ m.arrows.length ≤ 4096 ∧ IsRow m.starts m.states ∧ IsRow m.ends m.states ∧ ∀ i, i < m.arrows.length → m.At i
instance (m : Mach) : Decidable m.May := inferInstanceAs (Decidable (_ ∧ _))

theorem ref2_ahead (a b : Arr) (w : World) :
    Cal Tryd.prog 58 [arrVal a, arrVal b] w fun v w' => v = .bool (decide (a.lt b)) ∧ Below w.heap.size w w' := by
  refine cal_ref2_ahead (by simp) 100000 fun Q hQ => ?_
  simp (disch := first | with_reducible assumption | omega) only [push_cast, x_blk, x_cd, ↓reduceIte, Nat.reduceEqDiff, List.map_cons, List.map_nil, Int.reduceEq, Int.lt_irrefl, F_ref2_ahead]
  refine blk_of (box_agg _ (arrCells a)) ?_
  intro w1 k1 b1 z1
  simp (disch := first | with_reducible assumption | omega) only [push_cast, x_blk, x_cd, ↓reduceIte, Nat.reduceEqDiff, List.map_cons, List.map_nil, Int.reduceEq, Int.lt_irrefl]
  refine blk_of (box_agg _ (arrCells b)) ?_
  intro w2 k2 b2 z2
  have bb : Below w.heap.size w w2 := b1.trans (b2.mono b1.size)
  have k3 := k1.below b2 (by omega)
  have al : a.lt b ↔ a.frm < b.frm ∨ (a.frm = b.frm ∧ (a.evt < b.evt ∨ (a.evt = b.evt ∧ a.to_ < b.to_))) := Iff.rfl
  by_cases c1 : a.frm = b.frm
  · by_cases c2 : a.evt = b.evt
    · have r : decide (a.lt b) = decide (a.to_ < b.to_) := decide_eq_decide.2 (by rw [al]; omega)
      simp (disch := first | with_reducible assumption | omega) only [push_cast, x_blk, x_cd, ↓reduceIte, Nat.reduceEqDiff, List.map_cons, List.map_nil, Int.reduceEq, Int.lt_irrefl, c1, c2, k2.a0 ty_ag_3, k2.a1 ty_ag_3, k2.a2 ty_ag_3, k3.a0 ty_ag_3, k3.a1 ty_ag_3, k3.a2 ty_ag_3]
      exact fin_1 (hQ _ _ ⟨(by simp only [push_cast, ↓reduceIte, Nat.reduceEqDiff, Int.reduceEq, r]), bb⟩)
    · have r : decide (a.lt b) = decide (a.evt < b.evt) := decide_eq_decide.2 (by rw [al]; omega)
      simp (disch := first | with_reducible assumption | omega) only [push_cast, x_blk, x_cd, ↓reduceIte, Nat.reduceEqDiff, List.map_cons, List.map_nil, Int.reduceEq, Int.lt_irrefl, c1, c2, k2.a0 ty_ag_3, k2.a1 ty_ag_3, k2.a2 ty_ag_3, k3.a0 ty_ag_3, k3.a1 ty_ag_3, k3.a2 ty_ag_3]
      exact fin_1 (hQ _ _ ⟨(by simp only [push_cast, ↓reduceIte, Nat.reduceEqDiff, Int.reduceEq, r]), bb⟩)
  · have r : decide (a.lt b) = decide (a.frm < b.frm) := decide_eq_decide.2 (by rw [al]; omega)
    simp (disch := first | with_reducible assumption | omega) only [push_cast, x_blk, x_cd, ↓reduceIte, Nat.reduceEqDiff, List.map_cons, List.map_nil, Int.reduceEq, Int.lt_irrefl, c1, k2.a0 ty_ag_3, k2.a1 ty_ag_3, k2.a2 ty_ag_3, k3.a0 ty_ag_3, k3.a1 ty_ag_3, k3.a2 ty_ag_3]
    exact fin_1 (hQ _ _ ⟨(by simp only [push_cast, ↓reduceIte, Nat.reduceEqDiff, Int.reduceEq, r]), bb⟩)

theorem ref2_May {w : World} {a : MV} {m : Mach} (h : IsM (· < w.heap.size) w a m) (hf : m.Fits) :
    Cal Tryd.prog 22 [a.val m] w fun v w' => v = .bool (decide m.May) ∧ Below w.heap.size w w' := by
  have mm : m.May ↔ 1 ≤ m.states ∧ m.states ≤ 256 ∧ 0 ≤ m.events ∧ m.events ≤ 8 ∧ m.arrows.length ≤ 4096 ∧ IsRow m.starts m.states ∧ IsRow m.ends m.states ∧ ∀ i, i < m.arrows.length → m.At i := Iff.rfl
  refine cal_ref2_May (by simp) 100000 fun Q hQ => ?_
  simp (disch := first | with_reducible assumption | omega) only [push_cast, x_blk, x_cd, ↓reduceIte, Nat.reduceEqDiff, List.map_cons, List.map_nil, Int.reduceEq, Int.lt_irrefl, F_ref2_May]
  refine blk_of (box_agg _ (a.cells m)) ?_
  intro w1 k1 b1 z1
  have h1 := h.below b1
  by_cases c1 : m.states < 1
  · have r : decide m.May = false := decide_eq_false fun hm => by rw [mm] at hm; omega
    simp (disch := first | with_reducible assumption | omega) only [push_cast, x_blk, x_cd, ↓reduceIte, Nat.reduceEqDiff, List.map_cons, List.map_nil, Int.reduceEq, Int.lt_irrefl, c1, k1.m0 ty_ag_3, k1.m1 ty_ag_3, k1.m3 ty_ag_23]
    exact fin_1 (hQ _ _ ⟨(by simp only [push_cast, ↓reduceIte, Nat.reduceEqDiff, Int.reduceEq, r]), b1⟩)
  by_cases c2 : 256 < m.states
  · have r : decide m.May = false := decide_eq_false fun hm => by rw [mm] at hm; omega
    simp (disch := first | with_reducible assumption | omega) only [push_cast, x_blk, x_cd, ↓reduceIte, Nat.reduceEqDiff, List.map_cons, List.map_nil, Int.reduceEq, Int.lt_irrefl, c1, c2, k1.m0 ty_ag_3, k1.m1 ty_ag_3, k1.m3 ty_ag_23]
    exact fin_1 (hQ _ _ ⟨(by simp only [push_cast, ↓reduceIte, Nat.reduceEqDiff, Int.reduceEq, r]), b1⟩)
  by_cases c3 : m.events < 0
  · have r : decide m.May = false := decide_eq_false fun hm => by rw [mm] at hm; omega
    simp (disch := first | with_reducible assumption | omega) only [push_cast, x_blk, x_cd, ↓reduceIte, Nat.reduceEqDiff, List.map_cons, List.map_nil, Int.reduceEq, Int.lt_irrefl, c1, c2, c3, k1.m0 ty_ag_3, k1.m1 ty_ag_3, k1.m3 ty_ag_23]
    exact fin_1 (hQ _ _ ⟨(by simp only [push_cast, ↓reduceIte, Nat.reduceEqDiff, Int.reduceEq, r]), b1⟩)
  by_cases c4 : 8 < m.events
  · have r : decide m.May = false := decide_eq_false fun hm => by rw [mm] at hm; omega
    simp (disch := first | with_reducible assumption | omega) only [push_cast, x_blk, x_cd, ↓reduceIte, Nat.reduceEqDiff, List.map_cons, List.map_nil, Int.reduceEq, Int.lt_irrefl, c1, c2, c3, c4, k1.m0 ty_ag_3, k1.m1 ty_ag_3, k1.m3 ty_ag_23]
    exact fin_1 (hQ _ _ ⟨(by simp only [push_cast, ↓reduceIte, Nat.reduceEqDiff, Int.reduceEq, r]), b1⟩)
  by_cases c5 : (4096 : Int) < (m.arrows.length : Int)
  · have r : decide m.May = false := decide_eq_false fun hm => by rw [mm] at hm; omega
    simp (disch := first | with_reducible assumption | omega) only [push_cast, x_blk, x_cd, ↓reduceIte, Nat.reduceEqDiff, List.map_cons, List.map_nil, Int.reduceEq, Int.lt_irrefl, c1, c2, c3, c4, c5, k1.m0 ty_ag_3, k1.m1 ty_ag_3, k1.m3 ty_ag_23]
    exact fin_1 (hQ _ _ ⟨(by simp only [push_cast, ↓reduceIte, Nat.reduceEqDiff, Int.reduceEq, r]), b1⟩)
  have nS := hf.lenS
  have nE := hf.lenE
  simp (disch := first | with_reducible assumption | omega) only [push_cast, x_blk, x_cd, ↓reduceIte, Nat.reduceEqDiff, List.map_cons, List.map_nil, Int.reduceEq, Int.lt_irrefl, c1, c2, c3, c4, c5, k1.m0 ty_ag_3, k1.m1 ty_ag_3, k1.m2 ty_ag_22, k1.m3 ty_ag_23, k1.m4 ty_ag_22]
  refine call_of (ref1_Is h1.starts a.cs m.states (by omega)) ?_
  rintro v w2 ⟨rfl, s2⟩
  have k2 := k1.same s2
  have h2 := h1.same s2
  by_cases c6 : IsRow m.starts m.states
  case neg =>
    have r : decide m.May = false := decide_eq_false fun hm => c6 (mm.1 hm).2.2.2.2.2.1
    simp (disch := first | with_reducible assumption | omega) only [push_cast, x_blk, x_cd, ↓reduceIte, Nat.reduceEqDiff, List.map_cons, List.map_nil, Int.reduceEq, Int.lt_irrefl, c6]
    exact fin_1 (hQ _ _ ⟨(by simp only [push_cast, ↓reduceIte, Nat.reduceEqDiff, Int.reduceEq, r]), b1.trans (s2.below _)⟩)
  simp (disch := first | with_reducible assumption | omega) only [push_cast, x_blk, x_cd, ↓reduceIte, Nat.reduceEqDiff, List.map_cons, List.map_nil, Int.reduceEq, Int.lt_irrefl, c6, k2.m0 ty_ag_3, k2.m4 ty_ag_22]
  refine call_of (ref1_Is h2.ends a.ce m.states (by omega)) ?_
  rintro v w3 ⟨rfl, s3⟩
  have b3 : Below w.heap.size w w3 := b1.trans ((s2.trans s3).below _)
  by_cases c7 : IsRow m.ends m.states
  case neg =>
    have r : decide m.May = false := decide_eq_false fun hm => c7 (mm.1 hm).2.2.2.2.2.2.1
    simp (disch := first | with_reducible assumption | omega) only [push_cast, x_blk, x_cd, ↓reduceIte, Nat.reduceEqDiff, List.map_cons, List.map_nil, Int.reduceEq, Int.lt_irrefl, c7]
    exact fin_1 (hQ _ _ ⟨(by simp only [push_cast, ↓reduceIte, Nat.reduceEqDiff, Int.reduceEq, r]), b3⟩)
  have k3 := k2.same s3
  simp (disch := first | with_reducible assumption | omega) only [push_cast, x_blk, x_cd, ↓reduceIte, Nat.reduceEqDiff, List.map_cons, List.map_nil, Int.reduceEq, Int.lt_irrefl, c7]
  refine loop_rule (fun f w' => ∃ k : Nat, k ≤ m.arrows.length ∧ f 1 = .pointer (some ⟨w.heap.size, 0, none⟩) ∧ f 3 = .int .i64 k ∧ (∀ i, i < k → m.At i) ∧ Blk w' w.heap.size 25 (a.cells m) ∧ Below w.heap.size w w')
    (fun f _ => m.arrows.length - (intOf (f 3)).toNat) ⟨0, Nat.zero_le _, rfl, rfl, fun i hi => absurd hi (by omega), k3, b3⟩ ?_
  clear k3 b3 s3 s2 h2 k2 h1 k1 b1 z1
  rintro f w1 ⟨k, hk, g1, g3, hp, k1, b1⟩ J hJ
  have h1 := (h.below b1).arrows
  by_cases hlt : k < m.arrows.length
  case neg =>
    have r : decide m.May = true := decide_eq_true (mm.2 ⟨by omega, by omega, by omega, by omega, by omega, c6, c7, fun i hi => hp i (by omega)⟩)
    simp (disch := first | with_reducible assumption | omega) only [push_cast, x_blk, x_cd, ↓reduceIte, Nat.reduceEqDiff, List.map_cons, List.map_nil, Int.reduceEq, Int.lt_irrefl, L_ref2_May_0, g1, g3, hlt, k1.m3 ty_ag_23]
    exact fin_1 (hQ _ _ ⟨(by simp only [push_cast, ↓reduceIte, Nat.reduceEqDiff, Int.reduceEq, r]), b1⟩)
  have hA := h1.isSome (by omega)
  simp (disch := first | with_reducible assumption | omega) only [push_cast, x_blk, x_cd, ↓reduceIte, Nat.reduceEqDiff, List.map_cons, List.map_nil, Int.reduceEq, Int.lt_irrefl, L_ref2_May_0, g1, g3, hlt, k1.m3 ty_ag_23, h1.ldA ty_ag_85 ty_sz_85]
  refine blk_of al_85 ?_
  intro w2 k2 b2 z2
  simp (disch := first | with_reducible assumption | omega) only [push_cast, x_blk, x_cd, ↓reduceIte, Nat.reduceEqDiff, List.map_cons, List.map_nil, Int.reduceEq, Int.lt_irrefl]
  refine sto_blk k2 (cs := arrCells (m.arrows.getD k default)) ty_sz_85 rfl (by simp [arrCells, Value.oneCell']) ?_
  intro w3 k3 q3 z3
  generalize hy : m.arrows.getD k default = y at *
  have hz : w.heap.size < w1.heap.size := k1.lt
  have b13 : Below w1.heap.size w1 w3 := q3.below b2 (by omega) (by intro a ha; injection ha with ha; subst ha; exact Nat.le_refl _)
  have k5 := k1.below b13 hz
  have b5 := b1.trans (b13.mono b1.size)
  have h5 := (h.below b5).arrows
  have bad : ¬ m.ArrOk y → decide m.May = false := fun hn => decide_eq_false fun hm => by
    have := ((mm.1 hm).2.2.2.2.2.2.2 k hlt).1
    rw [hy] at this
    exact hn this
  have ok : m.ArrOk y ↔ (0 ≤ y.frm ∧ y.frm < m.states) ∧ (0 ≤ y.to_ ∧ y.to_ < m.states) ∧ (0 ≤ y.evt ∧ y.evt < m.events) := Iff.rfl
  by_cases d1 : y.frm < 0
  · have r := bad (by rw [ok]; omega)
    simp (disch := first | with_reducible assumption | omega) only [push_cast, x_blk, x_cd, ↓reduceIte, Nat.reduceEqDiff, List.map_cons, List.map_nil, Int.reduceEq, Int.lt_irrefl, d1, g1, k3.a0 ty_ag_3, k3.a1 ty_ag_3, k3.a2 ty_ag_3, k5.m0 ty_ag_3, k5.m1 ty_ag_3]
    exact fin_1 (hQ _ _ ⟨(by simp only [push_cast, ↓reduceIte, Nat.reduceEqDiff, Int.reduceEq, r]), b5⟩)
  by_cases d2 : m.states ≤ y.frm
  · have r := bad (by rw [ok]; omega)
    simp (disch := first | with_reducible assumption | omega) only [push_cast, x_blk, x_cd, ↓reduceIte, Nat.reduceEqDiff, List.map_cons, List.map_nil, Int.reduceEq, Int.lt_irrefl, d1, d2, g1, k3.a0 ty_ag_3, k3.a1 ty_ag_3, k3.a2 ty_ag_3, k5.m0 ty_ag_3, k5.m1 ty_ag_3]
    exact fin_1 (hQ _ _ ⟨(by simp only [push_cast, ↓reduceIte, Nat.reduceEqDiff, Int.reduceEq, r]), b5⟩)
  by_cases d3 : y.to_ < 0
  · have r := bad (by rw [ok]; omega)
    simp (disch := first | with_reducible assumption | omega) only [push_cast, x_blk, x_cd, ↓reduceIte, Nat.reduceEqDiff, List.map_cons, List.map_nil, Int.reduceEq, Int.lt_irrefl, d1, d2, d3, g1, k3.a0 ty_ag_3, k3.a1 ty_ag_3, k3.a2 ty_ag_3, k5.m0 ty_ag_3, k5.m1 ty_ag_3]
    exact fin_1 (hQ _ _ ⟨(by simp only [push_cast, ↓reduceIte, Nat.reduceEqDiff, Int.reduceEq, r]), b5⟩)
  by_cases d4 : m.states ≤ y.to_
  · have r := bad (by rw [ok]; omega)
    simp (disch := first | with_reducible assumption | omega) only [push_cast, x_blk, x_cd, ↓reduceIte, Nat.reduceEqDiff, List.map_cons, List.map_nil, Int.reduceEq, Int.lt_irrefl, d1, d2, d3, d4, g1, k3.a0 ty_ag_3, k3.a1 ty_ag_3, k3.a2 ty_ag_3, k5.m0 ty_ag_3, k5.m1 ty_ag_3]
    exact fin_1 (hQ _ _ ⟨(by simp only [push_cast, ↓reduceIte, Nat.reduceEqDiff, Int.reduceEq, r]), b5⟩)
  by_cases d5 : y.evt < 0
  · have r := bad (by rw [ok]; omega)
    simp (disch := first | with_reducible assumption | omega) only [push_cast, x_blk, x_cd, ↓reduceIte, Nat.reduceEqDiff, List.map_cons, List.map_nil, Int.reduceEq, Int.lt_irrefl, d1, d2, d3, d4, d5, g1, k3.a0 ty_ag_3, k3.a1 ty_ag_3, k3.a2 ty_ag_3, k5.m0 ty_ag_3, k5.m1 ty_ag_3]
    exact fin_1 (hQ _ _ ⟨(by simp only [push_cast, ↓reduceIte, Nat.reduceEqDiff, Int.reduceEq, r]), b5⟩)
  by_cases d6 : m.events ≤ y.evt
  · have r := bad (by rw [ok]; omega)
    simp (disch := first | with_reducible assumption | omega) only [push_cast, x_blk, x_cd, ↓reduceIte, Nat.reduceEqDiff, List.map_cons, List.map_nil, Int.reduceEq, Int.lt_irrefl, d1, d2, d3, d4, d5, d6, g1, k3.a0 ty_ag_3, k3.a1 ty_ag_3, k3.a2 ty_ag_3, k5.m0 ty_ag_3, k5.m1 ty_ag_3]
    exact fin_1 (hQ _ _ ⟨(by simp only [push_cast, ↓reduceIte, Nat.reduceEqDiff, Int.reduceEq, r]), b5⟩)
  have hok : m.ArrOk y := ok.2 (by omega)
  by_cases d7 : (0 : Int) < (k : Int)
  case neg =>
    have hat : m.At k := ⟨by rw [hy]; exact hok, fun h0 => absurd h0 (by omega)⟩
    simp (disch := first | with_reducible assumption | omega) only [push_cast, x_blk, x_cd, ↓reduceIte, Nat.reduceEqDiff, List.map_cons, List.map_nil, Int.reduceEq, Int.lt_irrefl, g1, g3, d1, d2, d3, d4, d5, d6, d7, k3.a0 ty_ag_3, k3.a1 ty_ag_3, k3.a2 ty_ag_3, k5.m0 ty_ag_3, k5.m1 ty_ag_3]
    exact hJ _ _ ⟨k + 1, hlt, (by simp only [push_cast, ↓reduceIte, Nat.reduceEqDiff, Int.reduceEq, g1]), (by simp only [push_cast, ↓reduceIte, Nat.reduceEqDiff, Int.reduceEq]), fun i hi => if e : i = k then e ▸ hat else hp i (by omega), k5.drew, drawn b5⟩ (by simp only [push_cast, ↓reduceIte, Nat.reduceEqDiff, g3, intOf]; omega)
  have e1 : ((k : Int) - 1).toNat = k - 1 := by omega
  simp (disch := first | with_reducible assumption | omega) only [push_cast, x_blk, x_cd, ↓reduceIte, Nat.reduceEqDiff, List.map_cons, List.map_nil, Int.reduceEq, Int.lt_irrefl, g1, g3, d1, d2, d3, d4, d5, d6, d7, e1, k3.a0 ty_ag_3, k3.a1 ty_ag_3, k3.a2 ty_ag_3, k5.m0 ty_ag_3, k5.m1 ty_ag_3, k5.drew.m3 ty_ag_23, k3.drew.aA ty_ag_85 ty_sz_85, h5.drew.ldA ty_ag_85 ty_sz_85]
  refine call_of (ref2_ahead _ _ _) ?_
  rintro v w4 ⟨rfl, b4⟩
  have b6 := (drawn b5).trans (b4.mono (Nat.le_of_lt k5.drew.lt))
  have k6 := k5.drew.below b4 k5.drew.lt
  by_cases d8 : (m.arrows.getD (k - 1) default).lt y
  · have hat : m.At k := ⟨by rw [hy]; exact hok, fun _ => by rw [hy]; exact d8⟩
    simp (disch := first | with_reducible assumption | omega) only [push_cast, x_blk, x_cd, ↓reduceIte, Nat.reduceEqDiff, List.map_cons, List.map_nil, Int.reduceEq, Int.lt_irrefl, d8, g3]
    exact hJ _ _ ⟨k + 1, hlt, (by simp only [push_cast, ↓reduceIte, Nat.reduceEqDiff, Int.reduceEq, g1]), (by simp only [push_cast, ↓reduceIte, Nat.reduceEqDiff, Int.reduceEq]), fun i hi => if e : i = k then e ▸ hat else hp i (by omega), k6, b6⟩ (by simp only [push_cast, ↓reduceIte, Nat.reduceEqDiff, g3, intOf]; omega)
  · have r : decide m.May = false := decide_eq_false fun hm => by
      have := ((mm.1 hm).2.2.2.2.2.2.2 k hlt).2 (by omega)
      rw [hy] at this
      exact d8 this
    simp (disch := first | with_reducible assumption | omega) only [push_cast, x_blk, x_cd, ↓reduceIte, Nat.reduceEqDiff, List.map_cons, List.map_nil, Int.reduceEq, Int.lt_irrefl, d8]
    exact fin_1 (hQ _ _ ⟨(by simp only [push_cast, ↓reduceIte, Nat.reduceEqDiff, Int.reduceEq, r]), b6⟩)
end

section
open Go.RowKit

theorem cmp_isNaN (a : Int) (w : World) : Cal Tryd.prog 127 [.int .i64 a] w fun v w' => v = .bool false ∧ Same w w' := by
  refine cal_cmp_isNaN (by simp) 100000 fun Q hQ => ?_
  simp (disch := first | with_reducible assumption | omega) only [push_cast, x_blk, x_cd, ↓reduceIte, Nat.reduceEqDiff, List.map_cons, List.map_nil, Int.reduceEq, Int.lt_irrefl, F_cmp_isNaN, eq_self]
  exact fin_1 (hQ _ _ ⟨(by simp only [push_cast, ↓reduceIte, Nat.reduceEqDiff, Int.reduceEq]), Same.refl _⟩)
def cmpI (x y : Int) : Int := if x < y then -1 else if y < x then 1 else 0
theorem cmp_Compare (x y : Int) (w : World) : Cal Tryd.prog 121 [.int .i64 x, .int .i64 y] w fun v w' => v = .int .i64 (cmpI x y) ∧ Same w w' := by
  refine cal_cmp_Compare (by simp) 100000 fun Q hQ => ?_
  simp (disch := first | with_reducible assumption | omega) only [push_cast, x_blk, x_cd, ↓reduceIte, Nat.reduceEqDiff, List.map_cons, List.map_nil, Int.reduceEq, Int.lt_irrefl, F_cmp_Compare]
  refine call_of (cmp_isNaN x w) ?_
  rintro v w1 ⟨rfl, s1⟩
  simp (disch := first | with_reducible assumption | omega) only [push_cast, x_blk, x_cd, ↓reduceIte, Nat.reduceEqDiff, List.map_cons, List.map_nil, Int.reduceEq, Int.lt_irrefl]
  refine call_of (cmp_isNaN y w1) ?_
  rintro v w2 ⟨rfl, s2⟩
  by_cases c1 : x < y
  · have r : cmpI x y = -1 := if_pos c1
    simp (disch := first | with_reducible assumption | omega) only [push_cast, x_blk, x_cd, ↓reduceIte, Nat.reduceEqDiff, List.map_cons, List.map_nil, Int.reduceEq, Int.lt_irrefl, c1]
    exact fin_1 (hQ _ _ ⟨(by simp only [push_cast, ↓reduceIte, Nat.reduceEqDiff, Int.reduceEq, r]), s1.trans s2⟩)
  by_cases c2 : y < x
  · have r : cmpI x y = 1 := by unfold cmpI; rw [if_neg c1, if_pos c2]
    simp (disch := first | with_reducible assumption | omega) only [push_cast, x_blk, x_cd, ↓reduceIte, Nat.reduceEqDiff, List.map_cons, List.map_nil, Int.reduceEq, Int.lt_irrefl, c1, c2]
    exact fin_1 (hQ _ _ ⟨(by simp only [push_cast, ↓reduceIte, Nat.reduceEqDiff, Int.reduceEq, r]), s1.trans s2⟩)
  · have r : cmpI x y = 0 := by unfold cmpI; rw [if_neg c1, if_neg c2]
    simp (disch := first | with_reducible assumption | omega) only [push_cast, x_blk, x_cd, ↓reduceIte, Nat.reduceEqDiff, List.map_cons, List.map_nil, Int.reduceEq, Int.lt_irrefl, c1, c2]
    exact fin_1 (hQ _ _ ⟨(by simp only [push_cast, ↓reduceIte, Nat.reduceEqDiff, Int.reduceEq, r]), s1.trans s2⟩)
def orL : List Int → Int
  | [] => 0
  | x :: l => if x = 0 then orL l else x
theorem orL_at : ∀ (l : List Int) (k : Nat), (∀ i, i < k → l.getD i 0 = 0) → orL l = orL (l.drop k)
  | _, 0, _ => rfl
  | [], _ + 1, _ => rfl
  | x :: l, k + 1, h => by
    have h0 := h 0 (by omega)
    simp only [List.getD_cons_zero] at h0
    rw [orL, if_pos h0, orL_at l k fun i hi => by simpa using h (i + 1) (by omega), List.drop_succ_cons]
theorem orL_here (l : List Int) (k : Nat) (hk : k < l.length) (h : ∀ i, i < k → l.getD i 0 = 0) (hn : ¬ l.getD k 0 = 0) : orL l = l.getD k 0 := by
  rw [orL_at l k h, List.drop_eq_getElem_cons hk, orL]
  have e : l[k] = l.getD k 0 := by simp [List.getD_eq_getElem?_getD, hk]
  rw [e, if_neg hn]
theorem cmp_Or {ok : Nat → Prop} {w : World} {A : Option Addr} {l : List Int} (h : Ints ok w A l) (c : Nat) (hl : l.length ≤ 9223372036854775807) :
    Cal Tryd.prog 120 [.slice A l.length c] w fun v w' => v = .int .i64 (orL l) ∧ Same w w' := by
  refine cal_cmp_Or (by simp) 100000 fun Q hQ => ?_
  simp (disch := first | with_reducible assumption | omega) only [push_cast, x_blk, x_cd, ↓reduceIte, Nat.reduceEqDiff, List.map_cons, List.map_nil, Int.reduceEq, Int.lt_irrefl, F_cmp_Or]
  refine loop_rule (fun f w' => ∃ k : Nat, k ≤ l.length ∧ f 3 = .int .i64 0 ∧ f 6 = .slice A l.length c ∧ f 7 = .int .i64 l.length ∧ f 8 = .int .i64 k ∧ (∀ i, i < k → l.getD i 0 = 0) ∧ Same w w')
    (fun f _ => l.length - (intOf (f 8)).toNat) ⟨0, Nat.zero_le _, rfl, rfl, rfl, rfl, fun i hi => absurd hi (by omega), Same.refl w⟩ ?_
  rintro f w1 ⟨k, hk, h3, h6, h7, h8, hp, hs⟩ J hJ
  have hI := h.same hs
  by_cases hlt : k < l.length
  · have hA := h.isSome (by omega)
    by_cases c1 : l.getD k 0 = 0
    · simp (disch := first | with_reducible assumption | omega) only [push_cast, x_blk, x_cd, ↓reduceIte, Nat.reduceEqDiff, List.map_cons, List.map_nil, Int.reduceEq, Int.lt_irrefl, L_cmp_Or_0, h3, h6, h7, h8, hlt, c1, hI.ld ty_ag_3]
      exact hJ _ _ ⟨k + 1, hlt, (by simp only [push_cast, ↓reduceIte, Nat.reduceEqDiff, Int.reduceEq, h3]), (by simp only [push_cast, ↓reduceIte, Nat.reduceEqDiff, Int.reduceEq, h6]), (by simp only [push_cast, ↓reduceIte, Nat.reduceEqDiff, Int.reduceEq, h7]), (by simp only [push_cast, ↓reduceIte, Nat.reduceEqDiff, Int.reduceEq]), fun i hi => if e : i = k then e ▸ c1 else hp i (by omega), hs⟩ (by simp only [push_cast, ↓reduceIte, Nat.reduceEqDiff, h8, intOf]; omega)
    · have r := orL_here l k hlt hp c1
      simp (disch := first | with_reducible assumption | omega) only [push_cast, x_blk, x_cd, ↓reduceIte, Nat.reduceEqDiff, List.map_cons, List.map_nil, Int.reduceEq, Int.lt_irrefl, L_cmp_Or_0, h3, h6, h7, h8, hlt, c1, hI.ld ty_ag_3]
      exact fin_1 (hQ _ _ ⟨(by simp only [push_cast, ↓reduceIte, Nat.reduceEqDiff, Int.reduceEq, r]), hs⟩)
  · have r : orL l = 0 := by rw [orL_at l k hp, List.drop_eq_nil_of_le (by omega)]; rfl
    simp (disch := first | with_reducible assumption | omega) only [push_cast, x_blk, x_cd, ↓reduceIte, Nat.reduceEqDiff, List.map_cons, List.map_nil, Int.reduceEq, Int.lt_irrefl, L_cmp_Or_0, h3, h6, h7, h8, hlt]
    exact fin_1 (hQ _ _ ⟨(by simp only [push_cast, ↓reduceIte, Nat.reduceEqDiff, Int.reduceEq, r]), hs⟩)

def ordA (a b : Arr) : Int := orL [cmpI a.frm b.frm, cmpI a.evt b.evt, cmpI a.to_ b.to_]
theorem ordA_lt (a b : Arr) : 0 ≤ ordA a b ↔ ¬ a.lt b := by
  unfold ordA Arr.lt cmpI
  simp only [orL]
  repeat' split
  all_goals omega
theorem ints_blk {w : World} {g t : Nat} {l : List Int} (h : Blk w g t (iv l)) : Ints (· < w.heap.size) w (some ⟨g, 0, none⟩) l :=
  ⟨fun _ => rfl, fun _ => h.lt, fun i hi => by rw [eA_zero, h.cell]; simp [List.getD_eq_getElem?_getD, hi]⟩

theorem machine_order (a b : Arr) (w : World) :
    Cal Tryd.prog 94 [arrVal a, arrVal b] w fun v w' => v = .int .i64 (ordA a b) ∧ Below w.heap.size w w' := by
  refine cal_machine_order (by simp) 100000 fun Q hQ => ?_
  simp (disch := first | with_reducible assumption | omega) only [push_cast, x_blk, x_cd, ↓reduceIte, Nat.reduceEqDiff, List.map_cons, List.map_nil, Int.reduceEq, Int.lt_irrefl, F_machine_order]
  refine blk_of (box_agg _ (arrCells a)) ?_
  intro w1 k1 b1 z1
  simp (disch := first | with_reducible assumption | omega) only [push_cast, x_blk, x_cd, ↓reduceIte, Nat.reduceEqDiff, List.map_cons, List.map_nil, Int.reduceEq, Int.lt_irrefl]
  refine blk_of (box_agg _ (arrCells b)) ?_
  intro w2 k2 b2 z2
  have bb : Below w.heap.size w w2 := b1.trans (b2.mono b1.size)
  have k3 := (k1.below b2 (by omega)).drew
  have k4 := k2.drew
  simp (disch := first | with_reducible assumption | omega) only [push_cast, x_blk, x_cd, ↓reduceIte, Nat.reduceEqDiff, List.map_cons, List.map_nil, Int.reduceEq, Int.lt_irrefl, k4.a0 ty_ag_3, k4.a1 ty_ag_3, k4.a2 ty_ag_3, k3.a0 ty_ag_3, k3.a1 ty_ag_3, k3.a2 ty_ag_3]
  refine call_of (cmp_Compare _ _ _) ?_
  rintro v w3 ⟨rfl, s3⟩
  have q3 := s3.below w2.drew.heap.size
  simp (disch := first | with_reducible assumption | omega) only [push_cast, x_blk, x_cd, ↓reduceIte, Nat.reduceEqDiff, List.map_cons, List.map_nil, Int.reduceEq, Int.lt_irrefl]
  refine ⟨q3, ?_⟩
  refine call_of (cmp_Compare _ _ _) ?_
  rintro v w4 ⟨rfl, s4⟩
  have q4 := (s3.trans s4).below w2.drew.heap.size
  simp (disch := first | with_reducible assumption | omega) only [push_cast, x_blk, x_cd, ↓reduceIte, Nat.reduceEqDiff, List.map_cons, List.map_nil, Int.reduceEq, Int.lt_irrefl]
  refine ⟨q4, ?_⟩
  refine call_of (cmp_Compare _ _ _) ?_
  rintro v w5 ⟨rfl, s5⟩
  have q5 := ((s3.trans s4).trans s5).below w2.drew.heap.size
  simp (disch := first | with_reducible assumption | omega) only [push_cast, x_blk, x_cd, ↓reduceIte, Nat.reduceEqDiff, List.map_cons, List.map_nil, Int.reduceEq, Int.lt_irrefl]
  refine ⟨q5, ?_⟩
  refine blk_of (bsl3_eq slT_22 _ _ _) ?_
  intro w6 k6 b6 z6
  have q6 := q5.trans (b6.mono q5.size)
  simp (disch := first | with_reducible assumption | omega) only [push_cast, x_blk, x_cd, ↓reduceIte, Nat.reduceEqDiff, List.map_cons, List.map_nil, Int.reduceEq, Int.lt_irrefl]
  refine ⟨q6, ?_⟩
  refine call_of (cmp_Or (l := [cmpI a.frm b.frm, cmpI a.evt b.evt, cmpI a.to_ b.to_]) (ints_blk k6) 3 (by simp)) ?_
  rintro v w7 ⟨rfl, s7⟩
  have q7 := q6.trans (s7.below w2.drew.heap.size)
  simp (disch := first | with_reducible assumption | omega) only [push_cast, x_blk, x_cd, ↓reduceIte, Nat.reduceEqDiff, List.map_cons, List.map_nil, Int.reduceEq, Int.lt_irrefl]
  refine ⟨q7, ?_⟩
  exact fin_1 (hQ _ _ ⟨(by simp only [push_cast, ↓reduceIte, Nat.reduceEqDiff, Int.reduceEq, ordA]), (drawn bb).trans (q7.mono bb.size)⟩)

theorem machine_in (n b : Int) (w : World) : Cal Tryd.prog 93 [.int .i64 n, .int .i64 b] w fun v w' => v = .bool (decide (0 ≤ n ∧ n < b)) ∧ Same w w' := by
  refine cal_machine_May_1 (by simp) 100000 fun Q hQ => ?_
  by_cases c1 : 0 ≤ n
  · have r : decide (0 ≤ n ∧ n < b) = decide (n < b) := decide_eq_decide.2 (by omega)
    simp (disch := first | with_reducible assumption | omega) only [push_cast, x_blk, x_cd, ↓reduceIte, Nat.reduceEqDiff, List.map_cons, List.map_nil, Int.reduceEq, Int.lt_irrefl, F_machine_May_1, c1]
    exact fin_1 (hQ _ _ ⟨(by simp only [push_cast, ↓reduceIte, Nat.reduceEqDiff, Int.reduceEq, r]), Same.refl _⟩)
  · have r : decide (0 ≤ n ∧ n < b) = false := decide_eq_false (by omega)
    simp (disch := first | with_reducible assumption | omega) only [push_cast, x_blk, x_cd, ↓reduceIte, Nat.reduceEqDiff, List.map_cons, List.map_nil, Int.reduceEq, Int.lt_irrefl, F_machine_May_1, c1]
    exact fin_1 (hQ _ _ ⟨(by simp only [push_cast, ↓reduceIte, Nat.reduceEqDiff, Int.reduceEq, r]), Same.refl _⟩)
end

section
open Go.RowKit

theorem machine_May {w : World} {a : MV} {m : Mach} (h : IsM (· < w.heap.size) w a m) (hf : m.Fits) :
    Cal Tryd.prog 48 [a.val m] w fun v w' => v = .bool (decide m.May) ∧ Below w.heap.size w w' := by
  have mm : m.May ↔ 1 ≤ m.states ∧ m.states ≤ 256 ∧ 0 ≤ m.events ∧ m.events ≤ 8 ∧ m.arrows.length ≤ 4096 ∧ IsRow m.starts m.states ∧ IsRow m.ends m.states ∧ ∀ i, i < m.arrows.length → m.At i := Iff.rfl
  refine cal_machine_May (by simp) 100000 fun Q hQ => ?_
  simp (disch := first | with_reducible assumption | omega) only [push_cast, x_blk, x_cd, ↓reduceIte, Nat.reduceEqDiff, List.map_cons, List.map_nil, Int.reduceEq, Int.lt_irrefl, F_machine_May]
  refine blk_of (box_agg _ (a.cells m)) ?_
  intro w1 k1 b1 z1
  have h1 := h.below b1
  have nS := hf.lenS
  have nE := hf.lenE
  by_cases c1 : m.states < 1
  · have r : decide m.May = false := decide_eq_false fun hm => by rw [mm] at hm; omega
    simp (disch := first | with_reducible assumption | omega) only [push_cast, x_blk, x_cd, ↓reduceIte, Nat.reduceEqDiff, List.map_cons, List.map_nil, Int.reduceEq, Int.lt_irrefl, c1, k1.m0 ty_ag_3, k1.m1 ty_ag_3]
    exact fin_1 (hQ _ _ ⟨(by simp only [push_cast, ↓reduceIte, Nat.reduceEqDiff, Int.reduceEq, r]), b1⟩)
  by_cases c2 : 256 < m.states
  · have r : decide m.May = false := decide_eq_false fun hm => by rw [mm] at hm; omega
    simp (disch := first | with_reducible assumption | omega) only [push_cast, x_blk, x_cd, ↓reduceIte, Nat.reduceEqDiff, List.map_cons, List.map_nil, Int.reduceEq, Int.lt_irrefl, c1, c2, k1.m0 ty_ag_3, k1.m1 ty_ag_3]
    exact fin_1 (hQ _ _ ⟨(by simp only [push_cast, ↓reduceIte, Nat.reduceEqDiff, Int.reduceEq, r]), b1⟩)
  by_cases c3 : m.events < 0
  · have r : decide m.May = false := decide_eq_false fun hm => by rw [mm] at hm; omega
    simp (disch := first | with_reducible assumption | omega) only [push_cast, x_blk, x_cd, ↓reduceIte, Nat.reduceEqDiff, List.map_cons, List.map_nil, Int.reduceEq, Int.lt_irrefl, c1, c2, c3, k1.m0 ty_ag_3, k1.m1 ty_ag_3]
    exact fin_1 (hQ _ _ ⟨(by simp only [push_cast, ↓reduceIte, Nat.reduceEqDiff, Int.reduceEq, r]), b1⟩)
  by_cases c4 : 8 < m.events
  · have r : decide m.May = false := decide_eq_false fun hm => by rw [mm] at hm; omega
    simp (disch := first | with_reducible assumption | omega) only [push_cast, x_blk, x_cd, ↓reduceIte, Nat.reduceEqDiff, List.map_cons, List.map_nil, Int.reduceEq, Int.lt_irrefl, c1, c2, c3, c4, k1.m0 ty_ag_3, k1.m1 ty_ag_3]
    exact fin_1 (hQ _ _ ⟨(by simp only [push_cast, ↓reduceIte, Nat.reduceEqDiff, Int.reduceEq, r]), b1⟩)
  simp (disch := first | with_reducible assumption | omega) only [push_cast, x_blk, x_cd, ↓reduceIte, Nat.reduceEqDiff, List.map_cons, List.map_nil, Int.reduceEq, Int.lt_irrefl, c1, c2, c3, c4, k1.m0 ty_ag_3, k1.m1 ty_ag_3, k1.m2 ty_ag_22]
  refine call_of (row_Is h1.starts a.cs m.states (by omega)) ?_
  rintro v w2 ⟨rfl, s2⟩
  have k2 := k1.same s2
  have h2 := h1.same s2
  by_cases c6 : IsRow m.starts m.states
  case neg =>
    have r : decide m.May = false := decide_eq_false fun hm => c6 (mm.1 hm).2.2.2.2.2.1
    simp (disch := first | with_reducible assumption | omega) only [push_cast, x_blk, x_cd, ↓reduceIte, Nat.reduceEqDiff, List.map_cons, List.map_nil, Int.reduceEq, Int.lt_irrefl, c6]
    exact fin_1 (hQ _ _ ⟨(by simp only [push_cast, ↓reduceIte, Nat.reduceEqDiff, Int.reduceEq, r]), b1.trans (s2.below _)⟩)
  simp (disch := first | with_reducible assumption | omega) only [push_cast, x_blk, x_cd, ↓reduceIte, Nat.reduceEqDiff, List.map_cons, List.map_nil, Int.reduceEq, Int.lt_irrefl, c6, k2.m0 ty_ag_3, k2.m4 ty_ag_22]
  refine call_of (row_Is h2.ends a.ce m.states (by omega)) ?_
  rintro v w3 ⟨rfl, s3⟩
  have b3 : Below w.heap.size w w3 := b1.trans ((s2.trans s3).below _)
  by_cases c7 : IsRow m.ends m.states
  case neg =>
    have r : decide m.May = false := decide_eq_false fun hm => c7 (mm.1 hm).2.2.2.2.2.2.1
    simp (disch := first | with_reducible assumption | omega) only [push_cast, x_blk, x_cd, ↓reduceIte, Nat.reduceEqDiff, List.map_cons, List.map_nil, Int.reduceEq, Int.lt_irrefl, c7]
    exact fin_1 (hQ _ _ ⟨(by simp only [push_cast, ↓reduceIte, Nat.reduceEqDiff, Int.reduceEq, r]), b3⟩)
  have k3 := k2.same s3
  by_cases c5 : (4096 : Int) < (m.arrows.length : Int)
  · have r : decide m.May = false := decide_eq_false fun hm => by rw [mm] at hm; omega
    simp (disch := first | with_reducible assumption | omega) only [push_cast, x_blk, x_cd, ↓reduceIte, Nat.reduceEqDiff, List.map_cons, List.map_nil, Int.reduceEq, Int.lt_irrefl, c7, c5, k3.m3 ty_ag_23]
    exact fin_1 (hQ _ _ ⟨(by simp only [push_cast, ↓reduceIte, Nat.reduceEqDiff, Int.reduceEq, r]), b3⟩)
  simp (disch := first | with_reducible assumption | omega) only [push_cast, x_blk, x_cd, ↓reduceIte, Nat.reduceEqDiff, List.map_cons, List.map_nil, Int.reduceEq, Int.lt_irrefl, c7, c5, k3.m3 ty_ag_23]
  refine loop_rule (fun f w' => ∃ k : Nat, k ≤ m.arrows.length ∧ f 1 = .pointer (some ⟨w.heap.size, 0, none⟩) ∧ f 3 = .func (.func 93) #[] #[] ∧ f 47 = .slice a.Aa m.arrows.length a.ca ∧ f 48 = .int .i64 m.arrows.length ∧ f 49 = .int .i64 k ∧
      (∀ i, i < k → m.At i) ∧ Blk w' w.heap.size 25 (a.cells m) ∧ Below w.heap.size w w')
    (fun f _ => m.arrows.length - (intOf (f 49)).toNat) ⟨0, Nat.zero_le _, rfl, rfl, rfl, rfl, rfl, fun i hi => absurd hi (by omega), k3, b3⟩ ?_
  clear k3 b3 s3 s2 h2 k2 h1 k1 b1 z1
  rintro f w1 ⟨k, hk, g1, g3, g47, g48, g49, hp, k1, b1⟩ J hJ
  have h1 := (h.below b1).arrows
  by_cases hlt : k < m.arrows.length
  case neg =>
    have r : decide m.May = true := decide_eq_true (mm.2 ⟨by omega, by omega, by omega, by omega, by omega, c6, c7, fun i hi => hp i (by omega)⟩)
    simp (disch := first | with_reducible assumption | omega) only [push_cast, x_blk, x_cd, ↓reduceIte, Nat.reduceEqDiff, List.map_cons, List.map_nil, Int.reduceEq, Int.lt_irrefl, L_machine_May_0, g1, g47, g48, g49, hlt]
    exact fin_1 (hQ _ _ ⟨(by simp only [push_cast, ↓reduceIte, Nat.reduceEqDiff, Int.reduceEq, r]), b1⟩)
  have hA := h1.isSome (by omega)
  simp (disch := first | with_reducible assumption | omega) only [push_cast, x_blk, x_cd, ↓reduceIte, Nat.reduceEqDiff, List.map_cons, List.map_nil, Int.reduceEq, Int.lt_irrefl, L_machine_May_0, g1, g47, g48, g49, hlt, h1.ldA ty_ag_85 ty_sz_85]
  refine blk_of al_85 ?_
  intro w2 k2 b2 z2
  simp (disch := first | with_reducible assumption | omega) only [push_cast, x_blk, x_cd, ↓reduceIte, Nat.reduceEqDiff, List.map_cons, List.map_nil, Int.reduceEq, Int.lt_irrefl]
  refine sto_blk k2 (cs := arrCells (m.arrows.getD k default)) ty_sz_85 rfl (by simp [arrCells, Value.oneCell']) ?_
  intro w3 k3 q3 z3
  generalize hy : m.arrows.getD k default = y at *
  have hz : w.heap.size < w1.heap.size := k1.lt
  have b13 : Below w1.heap.size w1 w3 := q3.below b2 (by omega) (by intro a ha; injection ha with ha; subst ha; exact Nat.le_refl _)
  have k5 := (k1.below b13 hz).drew
  have b5 := drawn (b1.trans (b13.mono b1.size))
  have h5 := (h.below b5).arrows
  have k3' := k3.drew
  have bad : ¬ m.ArrOk y → decide m.May = false := fun hn => decide_eq_false fun hm => by
    have := ((mm.1 hm).2.2.2.2.2.2.2 k hlt).1
    rw [hy] at this
    exact hn this
  have ok : m.ArrOk y ↔ (0 ≤ y.frm ∧ y.frm < m.states) ∧ (0 ≤ y.to_ ∧ y.to_ < m.states) ∧ (0 ≤ y.evt ∧ y.evt < m.events) := Iff.rfl
  generalize hw3 : w3.drew = u at *
  have q4 := @Same.below
  simp (disch := first | with_reducible assumption | omega) only [push_cast, x_blk, x_cd, ↓reduceIte, Nat.reduceEqDiff, List.map_cons, List.map_nil, Int.reduceEq, Int.lt_irrefl, hw3, g1, g3, k3'.a0 ty_ag_3, k3'.a1 ty_ag_3, k3'.a2 ty_ag_3, k5.m0 ty_ag_3, k5.m1 ty_ag_3, callv_func, List.map_cons, List.map_nil, List.nil_append, List.append_nil]
  refine call_of (machine_in _ _ _) ?_
  rintro v w4 ⟨rfl, s4⟩
  have q4 := s4.below u.heap.size
  by_cases d1 : 0 ≤ y.frm ∧ y.frm < m.states
  case neg =>
    have r := bad fun hh => d1 (ok.1 hh).1
    simp (disch := first | with_reducible assumption | omega) only [push_cast, x_blk, x_cd, ↓reduceIte, Nat.reduceEqDiff, List.map_cons, List.map_nil, Int.reduceEq, Int.lt_irrefl, decide_eq_false d1]
    refine ⟨q4, q4, q4, q4, ?_⟩
    exact fin_1 (hQ _ _ ⟨(by simp only [push_cast, ↓reduceIte, Nat.reduceEqDiff, Int.reduceEq, r]), b5.trans (q4.mono b5.size)⟩)
  simp (disch := first | with_reducible assumption | omega) only [push_cast, x_blk, x_cd, ↓reduceIte, Nat.reduceEqDiff, List.map_cons, List.map_nil, Int.reduceEq, Int.lt_irrefl, decide_eq_true d1, g1, g3, k3'.a0 ty_ag_3, k3'.a1 ty_ag_3, k3'.a2 ty_ag_3, k5.m0 ty_ag_3, k5.m1 ty_ag_3, callv_func, List.map_cons, List.map_nil, List.nil_append, List.append_nil]
  refine ⟨q4, ?_⟩
  refine call_of (machine_in _ _ _) ?_
  rintro v w5 ⟨rfl, s5⟩
  have q5 := (s4.trans s5).below u.heap.size
  by_cases d2 : 0 ≤ y.to_ ∧ y.to_ < m.states
  case neg =>
    have r := bad fun hh => d2 (ok.1 hh).2.1
    simp (disch := first | with_reducible assumption | omega) only [push_cast, x_blk, x_cd, ↓reduceIte, Nat.reduceEqDiff, List.map_cons, List.map_nil, Int.reduceEq, Int.lt_irrefl, decide_eq_false d2]
    refine ⟨q5, q5, q5, ?_⟩
    exact fin_1 (hQ _ _ ⟨(by simp only [push_cast, ↓reduceIte, Nat.reduceEqDiff, Int.reduceEq, r]), b5.trans (q5.mono b5.size)⟩)
  simp (disch := first | with_reducible assumption | omega) only [push_cast, x_blk, x_cd, ↓reduceIte, Nat.reduceEqDiff, List.map_cons, List.map_nil, Int.reduceEq, Int.lt_irrefl, decide_eq_true d2, g1, g3, k3'.a0 ty_ag_3, k3'.a1 ty_ag_3, k3'.a2 ty_ag_3, k5.m0 ty_ag_3, k5.m1 ty_ag_3, callv_func, List.map_cons, List.map_nil, List.nil_append, List.append_nil]
  refine ⟨q5, ?_⟩
  refine call_of (machine_in _ _ _) ?_
  rintro v w6 ⟨rfl, s6⟩
  have q6 := ((s4.trans s5).trans s6).below u.heap.size
  have k6 := k5.same ((s4.trans s5).trans s6)
  have b6 := b5.trans (q6.mono b5.size)
  by_cases d3 : 0 ≤ y.evt ∧ y.evt < m.events
  case neg =>
    have r := bad fun hh => d3 (ok.1 hh).2.2
    simp (disch := first | with_reducible assumption | omega) only [push_cast, x_blk, x_cd, ↓reduceIte, Nat.reduceEqDiff, List.map_cons, List.map_nil, Int.reduceEq, Int.lt_irrefl, decide_eq_false d3]
    refine ⟨q6, q6, ?_⟩
    exact fin_1 (hQ _ _ ⟨(by simp only [push_cast, ↓reduceIte, Nat.reduceEqDiff, Int.reduceEq, r]), b6⟩)
  have hok : m.ArrOk y := ok.2 ⟨d1, d2, d3⟩
  by_cases d7 : (0 : Int) < (k : Int)
  case neg =>
    have hat : m.At k := ⟨by rw [hy]; exact hok, fun h0 => absurd h0 (by omega)⟩
    simp (disch := first | with_reducible assumption | omega) only [push_cast, x_blk, x_cd, ↓reduceIte, Nat.reduceEqDiff, List.map_cons, List.map_nil, Int.reduceEq, Int.lt_irrefl, decide_eq_true d3, d7, g1, g3, g47, g48, g49]
    refine ⟨q6, q6, ?_⟩
    exact hJ _ _ ⟨k + 1, hlt, (by simp only [push_cast, ↓reduceIte, Nat.reduceEqDiff, Int.reduceEq, g1]), (by simp only [push_cast, ↓reduceIte, Nat.reduceEqDiff, Int.reduceEq, g3]), (by simp only [push_cast, ↓reduceIte, Nat.reduceEqDiff, Int.reduceEq, g47]), (by simp only [push_cast, ↓reduceIte, Nat.reduceEqDiff, Int.reduceEq, g48]), (by simp only [push_cast, ↓reduceIte, Nat.reduceEqDiff, Int.reduceEq]), fun i hi => if e : i = k then e ▸ hat else hp i (by omega), k6, b6⟩ (by simp only [push_cast, ↓reduceIte, Nat.reduceEqDiff, g49, intOf]; omega)
  have e1 : ((k : Int) - 1).toNat = k - 1 := by omega
  simp (disch := first | with_reducible assumption | omega) only [push_cast, x_blk, x_cd, ↓reduceIte, Nat.reduceEqDiff, List.map_cons, List.map_nil, Int.reduceEq, Int.lt_irrefl, decide_eq_true d3, g1, g3, g49, d7, e1, k5.m3 ty_ag_23, k3'.aA ty_ag_85 ty_sz_85, h5.ldA ty_ag_85 ty_sz_85]
  refine ⟨q6, ?_⟩
  refine call_of (machine_order _ _ _) ?_
  rintro v w7 ⟨rfl, b7⟩
  have q7 : Below u.heap.size u w7 := q6.trans (b7.mono q6.size)
  have b8 := b5.trans (q7.mono b5.size)
  have k8 := k5.below q7 k5.lt
  by_cases d8 : (m.arrows.getD (k - 1) default).lt y
  · have hat : m.At k := ⟨by rw [hy]; exact hok, fun _ => by rw [hy]; exact d8⟩
    have d9 : ¬ 0 ≤ ordA (m.arrows.getD (k - 1) default) y := by rw [ordA_lt]; exact fun hn => hn d8
    simp (disch := first | with_reducible assumption | omega) only [push_cast, x_blk, x_cd, ↓reduceIte, Nat.reduceEqDiff, List.map_cons, List.map_nil, Int.reduceEq, Int.lt_irrefl, d9, g49]
    refine ⟨q7, ?_⟩
    exact hJ _ _ ⟨k + 1, hlt, (by simp only [push_cast, ↓reduceIte, Nat.reduceEqDiff, Int.reduceEq, g1]), (by simp only [push_cast, ↓reduceIte, Nat.reduceEqDiff, Int.reduceEq, g3]), (by simp only [push_cast, ↓reduceIte, Nat.reduceEqDiff, Int.reduceEq, g47]), (by simp only [push_cast, ↓reduceIte, Nat.reduceEqDiff, Int.reduceEq, g48]), (by simp only [push_cast, ↓reduceIte, Nat.reduceEqDiff, Int.reduceEq]), fun i hi => if e : i = k then e ▸ hat else hp i (by omega), k8, b8⟩ (by simp only [push_cast, ↓reduceIte, Nat.reduceEqDiff, g49, intOf]; omega)
  · have r : decide m.May = false := decide_eq_false fun hm => by
      have := ((mm.1 hm).2.2.2.2.2.2.2 k hlt).2 (by omega)
      rw [hy] at this
      exact d8 this
    have d9 : 0 ≤ ordA (m.arrows.getD (k - 1) default) y := by rw [ordA_lt]; exact d8
    simp (disch := first | with_reducible assumption | omega) only [push_cast, x_blk, x_cd, ↓reduceIte, Nat.reduceEqDiff, List.map_cons, List.map_nil, Int.reduceEq, Int.lt_irrefl, d9]
    refine ⟨q7, ?_⟩
    exact fin_1 (hQ _ _ ⟨(by simp only [push_cast, ↓reduceIte, Nat.reduceEqDiff, Int.reduceEq, r]), b8⟩)
end
end Go.Proofs.YtcjedgiglimipaaDoor

/-
  Chapter 2: the program's sets of states: Of, Add, Has: by their contracts.
  Chapter 2: the value of a set of states as a function of a list of its numbers; the program's Of, Has, Add over it.
  Chapter 2: where states lead to, at an event: the program's Step and the reference's, by their contracts.
  Chapter 2: whether two sets meet; the reference's Step, Word: by their contracts.
-/
namespace Go.Proofs.YtcjedgiglimipaaDoor
set_option linter.unusedSimpArgs false
set_option linter.unusedVariables false
set_option linter.unusedSectionVars false
section
open Go.RowKit

def setCells (ws : List Nat) : List Value := ws.map fun (x : Nat) => .int .u64 (x : Int)
abbrev setVal (ws : List Nat) : Value := .agg (setCells ws).toArray
/-- Four words. -/
def Words (ws : List Nat) : Prop := ws.length = 4 ∧ ∀ i, ws.getD i 0 < 2 ^ 64
def setHas (ws : List Nat) (n : Nat) : Bool := (ws.getD (n / 64) 0).testBit (n % 64)
def setAdd (ws : List Nat) (n : Nat) : List Nat := ws.set (n / 64) (ws.getD (n / 64) 0 ||| 2 ^ (n % 64))
theorem setCells_len (ws : List Nat) : (setCells ws).length = ws.length := by simp [setCells]
theorem Words.add {ws : List Nat} (h : Words ws) {n : Nat} (hn : n < 256) : Words (setAdd ws n) := by
  refine ⟨by simp [setAdd, h.1], fun i => ?_⟩
  unfold setAdd
  rw [getD_set _ _ _ _ _ (by rw [h.1]; omega)]
  split
  · exact Nat.or_lt_two_pow (h.2 _) (Nat.pow_lt_pow_right (by decide) (Nat.mod_lt _ (by decide)))
  · exact h.2 i
theorem setHas_add {ws : List Nat} (h : Words ws) {n : Nat} (hn : n < 256) (k : Nat) : setHas (setAdd ws n) k = (setHas ws k || decide (k = n)) := by
  unfold setHas setAdd
  rw [getD_set _ _ _ _ _ (by rw [h.1]; omega)]
  split
  · rename_i e
    rw [Nat.testBit_or, Nat.testBit_two_pow, e]
    congr 1
    exact decide_eq_decide.2 ⟨fun h => by omega, fun h => by omega⟩
  · rename_i e
    have : ¬ k = n := fun h => e (by rw [h])
    simp [this]
theorem setHas_nil (n : Nat) : setHas [0, 0, 0, 0] n = false := by
  unfold setHas
  have : ([0, 0, 0, 0] : List Nat).getD (n / 64) 0 = 0 := by
    match n / 64 with
    | 0 => rfl
    | 1 => rfl
    | 2 => rfl
    | 3 => rfl
    | k + 4 => simp [List.getD_eq_getElem?_getD]
  rw [this, Nat.zero_testBit]
section
variable {P : Program} {K : Fr → World → Prop} {u w w' : World} {f : Fr} {d : Option Nat} {g t ty : Nat} {ws : List Nat}
theorem Blk.word (h : Blk u g t (setCells ws)) (hw : Words ws) (ht : tyAgg P ty = some false) (j : Nat) (hj : j < 4) :
    Val1 P K (Instr.loadAt ty (.pointer (some ⟨g, j, none⟩))) u f d w = K (updO f d (.int .u64 (ws.getD j 0 : Nat))) w := by
  have hl : j < (setCells ws).length := by rw [setCells_len, hw.1]; exact hj
  have := h.ld (P := P) (K := K) (f := f) (d := d) (w := w) ht j hl
  have e : (setCells ws).getD j undef = .int .u64 ((ws.getD j 0 : Nat) : Int) := getD_map _ _ _ _ _ (by rw [hw.1]; exact hj)
  rw [e] at this
  exact this
theorem Blk.word' (h : Blk u g t (setCells ws)) (hw : Words ws) (ht : tyAgg P ty = some false) (j : Nat) (hj : j < 4) {x : Nat} (hx : ws.getD j 0 = x) :
    Val1 P K (Instr.loadAt ty (.pointer (some ⟨g, j, none⟩))) u f d w = K (updO f d (.int .u64 x)) w := hx ▸ h.word hw ht j hj
theorem Blk.setA (h : Blk u g t (setCells ws)) (hw : Words ws) (ht : tyAgg P ty = some true) (hs : tySize P ty = some 4) : Val1 P K (Instr.loadAt ty (.pointer (some ⟨g, 0, none⟩))) u f d w = K (updO f d (setVal ws)) w :=
  h.ldAll ht (by rw [setCells_len, hw.1]; exact hs)
end

theorem ty_sz_u64 : tySize Tryd.prog 74 = some 1 := by kernel_rfl
theorem set_Has (ws : List Nat) (hw : Words ws) (n : Nat) (hn : n < 256) (w : World) :
    Cal Tryd.prog 61 [setVal ws, .int .i64 n] w fun v w' => v = .bool (setHas ws n) ∧ Below w.heap.size w w' := by
  refine cal_machine_Set_Has (by simp) 100000 fun Q hQ => ?_
  simp (disch := first | with_reducible assumption | omega) only [push_cast, x_blk, x_cd, ↓reduceIte, Nat.reduceEqDiff, List.map_cons, List.map_nil, Int.reduceEq, Int.lt_irrefl, F_machine_Set_Has]
  refine blk_of (box_agg _ (setCells ws)) ?_
  intro w1 k1 b1 z1
  have hd : n / 64 < 4 := by omega
  have hm : n % 64 < 64 := Nat.mod_lt _ (by decide)
  have hx := hw.2 (n / 64)
  have hs : ws.getD (n / 64) 0 >>> (n % 64) < 2 ^ 64 := Nat.lt_of_le_of_lt (Nat.shiftRight_le _ _) hx
  have r : decide (((ws.getD (n / 64) 0 >>> (n % 64) &&& 1 : Nat) : Int) = 1) = setHas ws n := by
    unfold setHas Nat.testBit
    rw [Nat.and_comm 1]
    have : ws.getD (n / 64) 0 >>> (n % 64) &&& 1 < 2 := Nat.and_lt_two_pow (n := 1) _ (by decide)
    generalize ws.getD (n / 64) 0 >>> (n % 64) &&& 1 = z at *
    match z, this with
    | 0, _ => rfl
    | 1, _ => rfl
  generalize hq : n / 64 = q at *
  generalize hr : n % 64 = s at *
  generalize hv : ws.getD q 0 = v at *
  generalize hy : v >>> s = y at *
  generalize hz : y &&& 1 = z at *
  have r' : decide (z = 1) = setHas ws n := by rw [← r]; exact decide_eq_decide.2 (by omega)
  simp (disch := first | with_reducible assumption | omega) only [push_cast, x_blk, x_cd, ↓reduceIte, Nat.reduceEqDiff, List.map_cons, List.map_nil, Int.reduceEq, Int.lt_irrefl, bin_quo64' hq (by omega), bin_rem64' hr, bin_shr' hy hm, bin_and1' hz hs, Int.natCast_nonneg, k1.word' hw ty_ag_74 q hd hv]
  exact fin_1 (hQ _ _ ⟨(by simp only [push_cast, ↓reduceIte, Nat.reduceEqDiff, Int.reduceEq, r, r']), b1⟩)

theorem set_Add {ws : List Nat} (hw : Words ws) (n : Nat) (hn : n < 256) {w : World} {g : Nat} (hk : Blk w g 76 (setCells ws)) :
    Cal Tryd.prog 95 [.pointer (some ⟨g, 0, none⟩), .int .i64 n] w fun v w' => v = .tuple #[] ∧ Blk w' g 76 (setCells (setAdd ws n)) ∧ Grew w w' (some ⟨g, 0, none⟩) ∧ w'.heap.size = w.heap.size := by
  refine cal_machine_Set_Add (by simp) 100000 fun Q hQ => ?_
  have hd : n / 64 < 4 := by omega
  have hm : n % 64 < 64 := Nat.mod_lt _ (by decide)
  have hx := hw.2 (n / 64)
  have hy : 2 ^ (n % 64) < 2 ^ 64 := Nat.pow_lt_pow_right (by decide) hm
  have e : (setCells ws).set (n / 64) (.int .u64 ((ws.getD (n / 64) 0 ||| 2 ^ (n % 64) : Nat) : Int)) = setCells (setAdd ws n) := by simp [setCells, setAdd, List.map_set]
  generalize hq : n / 64 = q at *
  generalize hr : n % 64 = s at *
  generalize hv : ws.getD q 0 = v at *
  generalize hp : 2 ^ s = y at *
  generalize hz : v ||| y = z at *
  have hk2 := hk.drew
  simp (disch := first | with_reducible assumption | omega) only [push_cast, x_blk, x_cd, ↓reduceIte, Nat.reduceEqDiff, List.map_cons, List.map_nil, Int.reduceEq, Int.lt_irrefl, F_machine_Set_Add, bin_quo64' hq (by omega), bin_rem64' hr, bin_shl1' hp hm, bin_or' hz hx hy, Int.natCast_nonneg, hk2.word' hw ty_ag_74 q hd hv]
  refine sto_cell hk2 ty_sz_u64 q (by rw [setCells_len, hw.1]; exact hd) _ _ ?_
  intro w2 k2 g2 z2
  simp (disch := first | with_reducible assumption | omega) only [push_cast, x_blk, x_cd, ↓reduceIte, Nat.reduceEqDiff, List.map_cons, List.map_nil, Int.reduceEq, Int.lt_irrefl]
  rw [e] at k2
  exact fin_0 (hQ _ _ ⟨rfl, k2, ⟨⟨g2.by_.os, g2.by_.tape, g2.by_.output, g2.by_.size, g2.by_.block⟩⟩, z2⟩)

theorem fin_cell {P : Program} {Rc : Value → World → Prop} {a t t' g : Nat} {cs : List Value} {f : Fr} {w : World} (hk : Blk w g t' cs) (ht : tyAgg P t = some true) (hs : tySize P t = some cs.length)
    (hf : f a = .pointer (some ⟨g, 0, none⟩)) (h : Rc (.agg cs.toArray) w) : FinX P #[.cell a t] Rc f w := by
  refine ⟨.agg cs.toArray, fun fn tmps hr hf' => ?_, h⟩
  have e : tmps.getD a undef = .pointer (some ⟨g, 0, none⟩) := by rw [hf', hf]
  have e2 : tmps[a]?.getD undef = .pointer (some ⟨g, 0, none⟩) := by simpa using e
  unfold tyAgg at ht
  unfold tySize at hs
  cases hu : P.underlying t with
  | none => simp [hu] at ht
  | some de =>
    cases hi : P.info? t with
    | none => simp [hi] at hs
    | some ie =>
      simp only [hi, Option.map_some, Option.some.injEq] at hs
      simp only [hu, Option.map_some, Option.some.injEq] at ht
      have hr' := run_loadCells_list (P := P) w ⟨g, 0, none⟩ cs (fun j v hv => by rw [addr_add, Nat.zero_add, hk.cell, hv])
      cases de <;> simp at ht <;> simp [results, hr, e2, asAddr, loadVar, isAgg, run_underlying hu, sizeOf, typeInfo, hi, hs, hr']

theorem machine_Of {w : World} {A : Option Addr} {l : List Int} (h : Ints (· < w.heap.size) w A l) (c : Nat) (hl : l.length ≤ 17592186043904) (hr : ∀ x ∈ l, 0 ≤ x ∧ x < 256) :
    Cal Tryd.prog 52 [.slice A l.length c] w fun v w' => ∃ ws, v = setVal ws ∧ Words ws ∧ (∀ n : Nat, n < 256 → setHas ws n = decide ((n : Int) ∈ l)) ∧ Below w.heap.size w w' := by
  refine cal_machine_Of (by simp) 100000 fun Q hQ => ?_
  simp (disch := first | with_reducible assumption | omega) only [push_cast, x_blk, x_cd, ↓reduceIte, Nat.reduceEqDiff, List.map_cons, List.map_nil, Int.reduceEq, Int.lt_irrefl, F_machine_Of]
  refine blk_of (cs := setCells [0, 0, 0, 0]) al_76 ?_
  intro w1 k1 b1 z1
  simp (disch := first | with_reducible assumption | omega) only [push_cast, x_blk, x_cd, ↓reduceIte, Nat.reduceEqDiff, List.map_cons, List.map_nil, Int.reduceEq, Int.lt_irrefl]
  refine blk_of (cs := setCells [0, 0, 0, 0]) al_76 ?_
  intro w2 k2 b2 z2
  have k1' := k1.below b2 (by omega)
  have bb : Below w.heap.size w w2 := b1.trans (b2.mono b1.size)
  simp (disch := first | with_reducible assumption | omega) only [push_cast, x_blk, x_cd, ↓reduceIte, Nat.reduceEqDiff, List.map_cons, List.map_nil, Int.reduceEq, Int.lt_irrefl]
  refine loop_rule (fun f w' => ∃ k : Nat, ∃ ws, k ≤ l.length ∧ f 2 = .pointer (some ⟨w.heap.size, 0, none⟩) ∧ f 3 = .pointer (some ⟨w1.heap.size, 0, none⟩) ∧ f 6 = .slice A l.length c ∧ f 7 = .int .i64 l.length ∧ f 8 = .int .i64 k ∧
      Words ws ∧ (∀ n : Nat, n < 256 → setHas ws n = decide ((n : Int) ∈ l.take k)) ∧ Blk w' w1.heap.size 76 (setCells ws) ∧ Blk w' w.heap.size 76 (setCells [0, 0, 0, 0]) ∧ Below w.heap.size w w')
    (fun f _ => l.length - (intOf (f 8)).toNat) ⟨0, [0, 0, 0, 0], Nat.zero_le _, rfl, rfl, rfl, rfl, rfl, ⟨rfl, fun i => by match i with | 0 => decide | 1 => decide | 2 => decide | 3 => decide | j + 4 => simp [List.getD_eq_getElem?_getD]⟩, fun n _ => by simp [setHas_nil], k2, k1', bb⟩ ?_
  rintro f w3 ⟨k, ws, hk, h2, h3, h6, h7, h8, hw, hs, kk, kr, b3⟩ J hJ
  have hI := h.below b3
  by_cases hlt : k < l.length
  · have hA := h.isSome (by omega)
    have hx := hr _ (getD_mem l 0 k hlt)
    have hsn := take_snoc l 0 k hlt
    generalize hy : l.getD k 0 = y at *
    obtain ⟨n, rfl⟩ : ∃ n : Nat, y = n := ⟨y.toNat, by omega⟩
    have hn : n < 256 := by omega
    simp (disch := first | with_reducible assumption | omega) only [push_cast, x_blk, x_cd, ↓reduceIte, Nat.reduceEqDiff, List.map_cons, List.map_nil, Int.reduceEq, Int.lt_irrefl, L_machine_Of_0, h2, h3, h6, h7, h8, hlt, hI.ld ty_ag_3, hy, List.map_cons, List.map_nil]
    refine call_of (set_Add hw n hn kk) ?_
    rintro v w4 ⟨rfl, k4, g4, z4⟩
    have b4 := g4.below b3 b3.size (by intro a ha; injection ha with ha; subst ha; show w.heap.size ≤ w1.heap.size; omega)
    have kr4 := kr.grown g4.by_ (by simp; omega)
    simp (disch := first | with_reducible assumption | omega) only [push_cast, x_blk, x_cd, ↓reduceIte, Nat.reduceEqDiff, List.map_cons, List.map_nil, Int.reduceEq, Int.lt_irrefl, h8]
    exact hJ _ _ ⟨k + 1, _, hlt, (by simp only [push_cast, ↓reduceIte, Nat.reduceEqDiff, Int.reduceEq, h2]), (by simp only [push_cast, ↓reduceIte, Nat.reduceEqDiff, Int.reduceEq, h3]), (by simp only [push_cast, ↓reduceIte, Nat.reduceEqDiff, Int.reduceEq, h6]), (by simp only [push_cast, ↓reduceIte, Nat.reduceEqDiff, Int.reduceEq, h7]), (by simp only [push_cast, ↓reduceIte, Nat.reduceEqDiff, Int.reduceEq]), hw.add hn, fun m hm => by
      rw [setHas_add hw hn, hs m hm, hsn]
      by_cases e : m = n
      · subst e; simp
      · have e' : ¬ ((m : Int) = (n : Int)) := by omega
        simp [e, e'], k4, kr4, b4⟩ (by simp only [push_cast, ↓reduceIte, Nat.reduceEqDiff, h8, intOf]; omega)
  · obtain rfl : k = l.length := by omega
    rw [List.take_length] at hs
    simp (disch := first | with_reducible assumption | omega) only [push_cast, x_blk, x_cd, ↓reduceIte, Nat.reduceEqDiff, List.map_cons, List.map_nil, Int.reduceEq, Int.lt_irrefl, L_machine_Of_0, h2, h3, h6, h7, h8, Nat.lt_irrefl, kk.setA hw ty_ag_76 ty_sz_76]
    have e4 : tySize Tryd.prog 76 = some (setCells ws).length := by rw [setCells_len, hw.1]; exact ty_sz_76
    refine sto_blk kr e4 (by rw [setCells_len, setCells_len, hw.1]; rfl) (by simp [setCells, Value.oneCell']) ?_
    intro w4 k4 g4 z4
    simp (disch := first | with_reducible assumption | omega) only [push_cast, x_blk, x_cd, ↓reduceIte, Nat.reduceEqDiff, List.map_cons, List.map_nil, Int.reduceEq, Int.lt_irrefl]
    exact fin_cell k4 ty_ag_76 e4 (by simp only [push_cast, ↓reduceIte, Nat.reduceEqDiff, Int.reduceEq, h2]) (hQ _ _ ⟨ws, rfl, hw, hs, g4.below b3 b3.size (by intro a ha; injection ha with ha; subst ha; exact Nat.le_refl _)⟩)
end

section
open Go.RowKit

/-- The four words of a list's numbers (those below 256). -/
def wordsOf (l : List Int) : List Nat := l.foldr (fun x ws => if 0 ≤ x ∧ x < 256 then setAdd ws x.toNat else ws) [0, 0, 0, 0]
abbrev setV (l : List Int) : Value := setVal (wordsOf l)
theorem words0 : Words [0, 0, 0, 0] := ⟨rfl, fun i => by match i with | 0 => decide | 1 => decide | 2 => decide | 3 => decide | j + 4 => simp [List.getD_eq_getElem?_getD]⟩
theorem wordsOf_words : ∀ l : List Int, Words (wordsOf l)
  | [] => words0
  | x :: l => by
    have ih := wordsOf_words l
    show Words (if 0 ≤ x ∧ x < 256 then setAdd (wordsOf l) x.toNat else wordsOf l)
    split
    · exact ih.add (by omega)
    · exact ih
theorem wordsOf_has : ∀ (l : List Int) (n : Nat), n < 256 → setHas (wordsOf l) n = decide ((n : Int) ∈ l)
  | [], n, _ => by rw [show wordsOf [] = [0, 0, 0, 0] from rfl, setHas_nil]; simp
  | x :: l, n, hn => by
    have ih := wordsOf_has l n hn
    show setHas (if 0 ≤ x ∧ x < 256 then setAdd (wordsOf l) x.toNat else wordsOf l) n = _
    split
    · rename_i h
      rw [setHas_add (wordsOf_words l) (by omega), ih]
      by_cases e : n = x.toNat
      · have q : (n : Int) = x := by omega
        rw [decide_eq_true e, Bool.or_true]
        exact (decide_eq_true (q ▸ List.mem_cons_self ..)).symm
      · have : ¬ (n : Int) = x := by omega
        simp [e, this]
    · rename_i h
      have : ¬ (n : Int) = x := by omega
      rw [ih]; simp [this]
theorem words_ext {ws ws' : List Nat} (h : Words ws) (h' : Words ws') (he : ∀ n, n < 256 → setHas ws n = setHas ws' n) : ws = ws' := by
  refine ext_getD 0 (h.1.trans h'.1.symm) fun k hk => ?_
  rw [h.1] at hk
  refine Nat.eq_of_testBit_eq fun i => ?_
  by_cases hi : i < 64
  · have := he (64 * k + i) (by omega)
    unfold setHas at this
    rwa [show (64 * k + i) / 64 = k by omega, show (64 * k + i) % 64 = i by omega] at this
  · have p : 2 ^ 64 ≤ 2 ^ i := Nat.pow_le_pow_right (by decide) (by omega)
    rw [Nat.testBit_lt_two_pow (Nat.lt_of_lt_of_le (h.2 k) p), Nat.testBit_lt_two_pow (Nat.lt_of_lt_of_le (h'.2 k) p)]
theorem words_eq {ws : List Nat} (h : Words ws) {l : List Int} (he : ∀ n : Nat, n < 256 → setHas ws n = decide ((n : Int) ∈ l)) : ws = wordsOf l :=
  words_ext h (wordsOf_words l) fun n hn => by rw [he n hn, wordsOf_has l n hn]
theorem wordsOf_ext {l l' : List Int} (h : ∀ x : Int, 0 ≤ x → x < 256 → (x ∈ l ↔ x ∈ l')) : wordsOf l = wordsOf l' :=
  words_ext (wordsOf_words l) (wordsOf_words l') fun n hn => by
    rw [wordsOf_has l n hn, wordsOf_has l' n hn]
    exact decide_eq_decide.2 (h n (by omega) (by omega))
theorem wordsOf_mem {l l' : List Int} (h : wordsOf l = wordsOf l') {x : Int} (h0 : 0 ≤ x) (h1 : x < 256) : x ∈ l ↔ x ∈ l' := by
  have e1 := wordsOf_has l x.toNat (by omega)
  have e2 := wordsOf_has l' x.toNat (by omega)
  rw [h] at e1
  rw [show ((x.toNat : Nat) : Int) = x by omega] at e1 e2
  rw [e1] at e2
  exact decide_eq_decide.1 e2
/-- Numbers of states. -/
def Small (l : List Int) : Prop := ∀ x ∈ l, 0 ≤ x ∧ x < 256
theorem Small.nil : Small [] := fun x h => absurd h (by simp)
theorem Small.snoc {l : List Int} (h : Small l) {x : Int} (hx : 0 ≤ x ∧ x < 256) : Small (l ++ [x]) := fun y hy => by
  rcases List.mem_append.1 hy with e | e
  · exact h y e
  · rw [List.mem_singleton.1 e]; exact hx
theorem wordsOf_inj {l l' : List Int} (hl : Strict l) (hl' : Strict l') (h : Small l) (h' : Small l') (e : wordsOf l = wordsOf l') : l = l' :=
  hl.ext hl' fun x => ⟨fun hx => (wordsOf_mem e (h x hx).1 (h x hx).2).1 hx, fun hx => (wordsOf_mem e (h' x hx).1 (h' x hx).2).2 hx⟩
theorem wordsOf_sorted (l : List Int) : wordsOf (sortedL l) = wordsOf l := wordsOf_ext fun x _ _ => (sortedL_spec l).2 x
theorem wordsOf_snoc (l : List Int) {n : Nat} (hn : n < 256) : setAdd (wordsOf l) n = wordsOf (l ++ [(n : Int)]) :=
  words_eq ((wordsOf_words l).add hn) fun k hk => by
    rw [setHas_add (wordsOf_words l) hn, wordsOf_has l k hk]
    by_cases e : k = n
    · subst e; simp
    · have : ¬ (k : Int) = (n : Int) := by omega
      simp [e, this]
theorem Small.sorted {l : List Int} (h : Small l) : Small (sortedL l) := fun x hx => h x (((sortedL_spec l).2 x).1 hx)
theorem IsRow.small {l : List Int} {b : Int} (h : IsRow l b) (hb : b ≤ 256) : Small l := fun x hx => by have := h.mem hx; omega

theorem set_Has' (l : List Int) (x : Int) (h0 : 0 ≤ x) (h1 : x < 256) (w : World) :
    Cal Tryd.prog 61 [setV l, .int .i64 x] w fun v w' => v = .bool (decide (x ∈ l)) ∧ Below w.heap.size w w' := by
  obtain ⟨n, rfl⟩ : ∃ n : Nat, x = n := ⟨x.toNat, by omega⟩
  have := set_Has (wordsOf l) (wordsOf_words l) n (by omega) w
  rwa [wordsOf_has l n (by omega)] at this
theorem set_Add' {l : List Int} (x : Int) (h0 : 0 ≤ x) (h1 : x < 256) {w : World} {g : Nat} (hk : Blk w g 76 (setCells (wordsOf l))) :
    Cal Tryd.prog 95 [.pointer (some ⟨g, 0, none⟩), .int .i64 x] w fun v w' => v = .tuple #[] ∧ Blk w' g 76 (setCells (wordsOf (l ++ [x]))) ∧ Grew w w' (some ⟨g, 0, none⟩) ∧ w'.heap.size = w.heap.size := by
  obtain ⟨n, rfl⟩ : ∃ n : Nat, x = n := ⟨x.toNat, by omega⟩
  have := set_Add (wordsOf_words l) n (by omega) hk
  rwa [wordsOf_snoc l (by omega)] at this
theorem machine_Of' {w : World} {A : Option Addr} {l : List Int} (h : Ints (· < w.heap.size) w A l) (c : Nat) (hl : l.length ≤ 17592186043904) (hr : Small l) :
    Cal Tryd.prog 52 [.slice A l.length c] w fun v w' => v = setV l ∧ Below w.heap.size w w' :=
  (machine_Of h c hl hr).mono fun _ _ ⟨_, e, hw, hh, hb⟩ => ⟨e.trans (by rw [words_eq hw hh]), hb⟩
theorem setCells_4 (l : List Int) : (setCells (wordsOf l)).length = 4 := by rw [setCells_len, (wordsOf_words l).1]
theorem setCells_one (l : List Int) : (setCells (wordsOf l)).all (·.oneCell') = true := by simp [setCells, Value.oneCell']
end

section
open Go.RowKit

/-- Where states lead to, at an event, as the arrows stand. -/
def stepT (m : Mach) (l : List Int) (e : Int) : List Int := (m.arrows.filter fun a => decide (a.evt = e) && decide (a.frm ∈ l)).map (·.to_)
def stepK (m : Mach) (l : List Int) (e : Int) (k : Nat) : List Int := ((m.arrows.take k).filter fun a => decide (a.evt = e) && decide (a.frm ∈ l)).map (·.to_)
theorem stepK_all (m : Mach) (l : List Int) (e : Int) : stepK m l e m.arrows.length = stepT m l e := by unfold stepK stepT; rw [List.take_length]
theorem stepK_snoc (m : Mach) (l : List Int) (e : Int) (k : Nat) (h : k < m.arrows.length) :
    stepK m l e (k + 1) = stepK m l e k ++ (if (m.arrows.getD k default).evt = e ∧ (m.arrows.getD k default).frm ∈ l then [(m.arrows.getD k default).to_] else []) := by
  unfold stepK
  rw [take_snoc _ default k h, List.filter_append, List.map_append]
  congr 1
  generalize m.arrows.getD k default = y
  by_cases h1 : y.evt = e <;> by_cases h2 : y.frm ∈ l <;> simp [h1, h2]
theorem stepK_le (m : Mach) (l : List Int) (e : Int) (k : Nat) : (stepK m l e k).length ≤ k := by
  unfold stepK
  rw [List.length_map]
  have := List.length_filter_le (fun a : Arr => decide (a.evt = e) && decide (a.frm ∈ l)) (m.arrows.take k)
  have := List.length_take_le k m.arrows
  omega
theorem May.arr {m : Mach} (hm : m.May) {y : Arr} (h : y ∈ m.arrows) : m.ArrOk y := by
  obtain ⟨i, hi, rfl⟩ := (mem_iff_getD m.arrows default y).1 h
  exact (hm.2.2.2.2.2.2.2 i hi).1
theorem stepT_small {m : Mach} (hm : m.May) (l : List Int) (e : Int) : ∀ x ∈ stepT m l e, 0 ≤ x ∧ x < m.states := by
  intro x hx
  obtain ⟨y, hy, rfl⟩ := List.mem_map.1 hx
  exact (May.arr hm (List.mem_filter.1 hy).1).2.1
/-- The row of where states lead to. -/
def stepL (m : Mach) (l : List Int) (e : Int) : List Int := sortedL (stepT m l e)
theorem stepL_row {m : Mach} (hm : m.May) (l : List Int) (e : Int) : IsRow (stepL m l e) m.states :=
  IsRow.of_strict (sortedL_spec _).1 fun x hx => by
    have := stepT_small hm l e x (((sortedL_spec _).2 x).1 hx)
    have : m.states ≤ 256 := hm.2.1
    omega
theorem setV_step (m : Mach) (l : List Int) (e : Int) : setV (stepT m l e) = setV (stepL m l e) := by unfold setV stepL; rw [wordsOf_sorted]

theorem machine_Step {w : World} {a : MV} {m : Mach} (h : IsM (· < w.heap.size) w a m) (hm : m.May) (l : List Int) (e : Int) :
    Cal Tryd.prog 54 [a.val m, setV l, .int .i64 e] w fun v w' => v = setV (stepL m l e) ∧ Below w.heap.size w w' := by
  have hst : m.states ≤ 256 := hm.2.1
  have nA := hm.2.2.2.2.1
  refine cal_machine_Step (by simp) 100000 fun Q hQ => ?_
  simp (disch := first | with_reducible assumption | omega) only [push_cast, x_blk, x_cd, ↓reduceIte, Nat.reduceEqDiff, List.map_cons, List.map_nil, Int.reduceEq, Int.lt_irrefl, F_machine_Step]
  refine blk_of (box_agg _ (a.cells m)) ?_
  intro w1 k1 b1 z1
  simp (disch := first | with_reducible assumption | omega) only [push_cast, x_blk, x_cd, ↓reduceIte, Nat.reduceEqDiff, List.map_cons, List.map_nil, Int.reduceEq, Int.lt_irrefl]
  refine blk_of (box_agg _ (setCells (wordsOf l))) ?_
  intro w2 k2 b2 z2
  have k1 := k1.below b2 (by omega)
  have b2 := b1.trans (b2.mono b1.size)
  simp (disch := first | with_reducible assumption | omega) only [push_cast, x_blk, x_cd, ↓reduceIte, Nat.reduceEqDiff, List.map_cons, List.map_nil, Int.reduceEq, Int.lt_irrefl]
  refine blk_of (cs := setCells (wordsOf [])) al_76 ?_
  intro w3 k3 b3 z3
  have k1 := k1.below b3 (by omega)
  have k2 := k2.below b3 (by omega)
  have b3 := b2.trans (b3.mono b2.size)
  simp (disch := first | with_reducible assumption | omega) only [push_cast, x_blk, x_cd, ↓reduceIte, Nat.reduceEqDiff, List.map_cons, List.map_nil, Int.reduceEq, Int.lt_irrefl]
  refine blk_of (cs := setCells (wordsOf [])) al_76 ?_
  intro w4 k4 b4 z4
  have k1' := k1.below b4 (by omega)
  have h3 := h.below b3
  simp (disch := first | with_reducible assumption | omega) only [push_cast, x_blk, x_cd, ↓reduceIte, Nat.reduceEqDiff, List.map_cons, List.map_nil, Int.reduceEq, Int.lt_irrefl, k1'.m3 ty_ag_23]
  refine loop_rule (fun f w' => ∃ k : Nat, k ≤ m.arrows.length ∧ (f 2 = .int .i64 e ∧ f 4 = .pointer (some ⟨w1.heap.size, 0, none⟩) ∧ f 6 = .pointer (some ⟨w2.heap.size, 0, none⟩) ∧ f 7 = .pointer (some ⟨w3.heap.size, 0, none⟩) ∧ f 11 = .slice a.Aa m.arrows.length a.ca ∧ f 12 = .int .i64 m.arrows.length ∧ f 13 = .int .i64 k) ∧
      Blk w' w3.heap.size 76 (setCells (wordsOf (stepK m l e k))) ∧ Below w3.heap.size w3 w')
    (fun f _ => m.arrows.length - (intOf (f 13)).toNat) ⟨0, Nat.zero_le _, ⟨rfl, rfl, rfl, rfl, rfl, rfl, rfl⟩, k4, b4⟩ ?_
  clear k4 b4 k1'
  rintro f w5 ⟨k, hk, fr, k5, b5⟩ J hJ
  have z5 := b5.size
  have kl := k2.below b5 (by omega)
  have kr := k3.below b5 (by omega)
  have hA' := (h.below (b3.trans (b5.mono b3.size))).arrows
  by_cases hlt : k < m.arrows.length
  case neg =>
    obtain rfl : k = m.arrows.length := by omega
    rw [stepK_all] at k5
    simp (disch := first | with_reducible assumption | omega) only [push_cast, x_blk, x_cd, ↓reduceIte, Nat.reduceEqDiff, List.map_cons, List.map_nil, Int.reduceEq, Int.lt_irrefl, L_machine_Step_0, fr, Nat.lt_irrefl, k5.setA (wordsOf_words _) ty_ag_76 ty_sz_76]
    have e4 : tySize Tryd.prog 76 = some (setCells (wordsOf (stepT m l e))).length := by rw [setCells_4]; exact ty_sz_76
    refine sto_blk kr e4 (by rw [setCells_4, setCells_4]) (setCells_one _) ?_
    intro w6 k6 g6 z6
    simp (disch := first | with_reducible assumption | omega) only [push_cast, x_blk, x_cd, ↓reduceIte, Nat.reduceEqDiff, List.map_cons, List.map_nil, Int.reduceEq, Int.lt_irrefl]
    exact fin_cell k6 ty_ag_76 e4 (by simp only [push_cast, ↓reduceIte, Nat.reduceEqDiff, true_and, and_true, and_self, eq_self, fr]) (hQ _ _ ⟨setV_step m l e, g6.below (b3.trans (b5.mono b3.size)) (by omega) (by intro a ha; injection ha with ha; subst ha; show w.heap.size ≤ w2.heap.size; omega)⟩)
  have hA := hA'.isSome (by omega)
  simp (disch := first | with_reducible assumption | omega) only [push_cast, x_blk, x_cd, ↓reduceIte, Nat.reduceEqDiff, List.map_cons, List.map_nil, Int.reduceEq, Int.lt_irrefl, L_machine_Step_0, fr, hlt, hA'.ldA ty_ag_85 ty_sz_85]
  refine blk_of al_85 ?_
  intro w6 k6 b6 z6
  simp (disch := first | with_reducible assumption | omega) only [push_cast, x_blk, x_cd, ↓reduceIte, Nat.reduceEqDiff, List.map_cons, List.map_nil, Int.reduceEq, Int.lt_irrefl]
  refine sto_blk k6 (cs := arrCells (m.arrows.getD k default)) ty_sz_85 rfl (by simp [arrCells, Value.oneCell']) ?_
  intro w7 k7 q7 z7
  have hsn := stepK_snoc m l e k hlt
  have hym := getD_mem m.arrows default k hlt
  generalize hy : m.arrows.getD k default = y at *
  obtain ⟨hyf, hyt, hye⟩ := May.arr hm hym
  have k5lt := k5.lt
  have b57 : Below w5.heap.size w5 w7 := q7.below b6 (by omega) (by intro a ha; injection ha with ha; subst ha; exact Nat.le_refl _)
  have k5 := k5.below b57 k5lt
  have kl := kl.below b57 (by omega)
  have b7 := b5.trans (b57.mono z5)
  by_cases c1 : y.evt = e
  case neg =>
    rw [if_neg (fun hh => c1 hh.1), List.append_nil] at hsn
    simp (disch := first | with_reducible assumption | omega) only [push_cast, x_blk, x_cd, ↓reduceIte, Nat.reduceEqDiff, List.map_cons, List.map_nil, Int.reduceEq, Int.lt_irrefl, fr, c1, k7.a1 ty_ag_3]
    exact hJ _ _ ⟨k + 1, hlt, (by simp only [push_cast, ↓reduceIte, Nat.reduceEqDiff, true_and, and_true, and_self, eq_self, fr]), hsn ▸ k5, b7⟩ (by simp only [push_cast, ↓reduceIte, Nat.reduceEqDiff, intOf, fr]; omega)
  simp (disch := first | with_reducible assumption | omega) only [push_cast, x_blk, x_cd, ↓reduceIte, Nat.reduceEqDiff, List.map_cons, List.map_nil, Int.reduceEq, Int.lt_irrefl, fr, c1, eq_self, k7.a0 ty_ag_3, k7.a1 ty_ag_3, kl.setA (wordsOf_words _) ty_ag_76 ty_sz_76]
  refine call_of (set_Has' l y.frm hyf.1 (by omega) _) ?_
  rintro v w8 ⟨rfl, b8⟩
  have z7' : w7.heap.size = w5.heap.size + 1 := by omega
  have k5 := k5.below b8 (by omega)
  have k7 := k7.below b8 (by omega)
  have b8 := b7.trans (b8.mono (by omega))
  by_cases c2 : y.frm ∈ l
  case neg =>
    rw [if_neg (fun hh => c2 hh.2), List.append_nil] at hsn
    simp (disch := first | with_reducible assumption | omega) only [push_cast, x_blk, x_cd, ↓reduceIte, Nat.reduceEqDiff, List.map_cons, List.map_nil, Int.reduceEq, Int.lt_irrefl, fr, c2]
    exact hJ _ _ ⟨k + 1, hlt, (by simp only [push_cast, ↓reduceIte, Nat.reduceEqDiff, true_and, and_true, and_self, eq_self, fr]), hsn ▸ k5, b8⟩ (by simp only [push_cast, ↓reduceIte, Nat.reduceEqDiff, intOf, fr]; omega)
  rw [if_pos ⟨c1, c2⟩] at hsn
  simp (disch := first | with_reducible assumption | omega) only [push_cast, x_blk, x_cd, ↓reduceIte, Nat.reduceEqDiff, List.map_cons, List.map_nil, Int.reduceEq, Int.lt_irrefl, fr, c2, k7.a2 ty_ag_3]
  refine call_of (set_Add' y.to_ hyt.1 (by omega) k5) ?_
  rintro v w9 ⟨rfl, k9, g9, z9⟩
  simp (disch := first | with_reducible assumption | omega) only [push_cast, x_blk, x_cd, ↓reduceIte, Nat.reduceEqDiff, List.map_cons, List.map_nil, Int.reduceEq, Int.lt_irrefl, fr]
  exact hJ _ _ ⟨k + 1, hlt, (by simp only [push_cast, ↓reduceIte, Nat.reduceEqDiff, true_and, and_true, and_self, eq_self, fr]), by rw [hsn]; exact k9, g9.below b8 b8.size (by intro a ha; injection ha with ha; subst ha; exact Nat.le_refl _)⟩ (by simp only [push_cast, ↓reduceIte, Nat.reduceEqDiff, intOf, fr]; omega)
end

section
open Go.RowKit

def MeetL (a b : List Int) : Prop := ∃ x ∈ a, x ∈ b
instance (a b : List Int) : Decidable (MeetL a b) := by unfold MeetL; exact inferInstance
theorem ref2_Step {w : World} {a : MV} {m : Mach} (h : IsM (· < w.heap.size) w a m) (hf : m.Fits) {A1 : Option Addr} {c1 : Nat} {l : List Int} (h1 : Ints (· < w.heap.size) w A1 l) (n1 : l.length ≤ 17592186043904) (e : Int) :
    Cal Tryd.prog 38 [a.val m, .slice A1 l.length c1, .int .i64 e] w fun v w' => ∃ A c, v = .slice A (stepL m l e).length c ∧ OwnI w.heap.size 3 w' A c (stepL m l e) ∧ Below w.heap.size w w' := by
  have nA := hf.lenA
  refine cal_ref2_Step (by simp) 100000 fun Q hQ => ?_
  simp (disch := first | with_reducible assumption | omega) only [push_cast, x_blk, x_cd, ↓reduceIte, Nat.reduceEqDiff, List.map_cons, List.map_nil, Int.reduceEq, Int.lt_irrefl, F_ref2_Step]
  refine blk_of (box_agg _ (a.cells m)) ?_
  intro w1 k1 b1 z1
  simp (disch := first | with_reducible assumption | omega) only [push_cast, x_blk, x_cd, ↓reduceIte, Nat.reduceEqDiff, List.map_cons, List.map_nil, Int.reduceEq, Int.lt_irrefl]
  refine loop_rule (fun f w' => ∃ k : Nat, ∃ O co, k ≤ m.arrows.length ∧ (f 1 = .slice A1 l.length c1 ∧ f 2 = .int .i64 e ∧ f 3 = .pointer (some ⟨w.heap.size, 0, none⟩) ∧ f 7 = .slice O (stepK m l e k).length co ∧ f 8 = .int .i64 k) ∧
      OwnI w1.heap.size 3 w' O co (stepK m l e k) ∧ Below w1.heap.size w1 w')
    (fun f _ => m.arrows.length - (intOf (f 8)).toNat) ⟨0, none, 0, Nat.zero_le _, ⟨rfl, rfl, rfl, rfl, rfl⟩, Own.nil _ _ _ _, Below.refl _ _⟩ ?_
  rintro f w2 ⟨k, O, co, hk, fr, ho, b2⟩ J hJ
  have kM := k1.below b2 (by omega)
  have bb := b1.trans (b2.mono b1.size)
  by_cases hlt : k < m.arrows.length
  case neg =>
    obtain rfl : k = m.arrows.length := by omega
    rw [stepK_all] at fr ho
    have hle := stepK_le m l e m.arrows.length
    rw [stepK_all] at hle
    simp (disch := first | with_reducible assumption | omega) only [push_cast, x_blk, x_cd, ↓reduceIte, Nat.reduceEqDiff, List.map_cons, List.map_nil, Int.reduceEq, Int.lt_irrefl, L_ref2_Step_0, fr, Nat.lt_irrefl, kM.m3 ty_ag_23]
    refine call_of (ref1_Sorted (Ints.lt (OwnI.ints ho)) co (by omega)) ?_
    rintro v w3 ⟨A4, c4, rfl, o4, b4⟩
    simp (disch := first | with_reducible assumption | omega) only [push_cast, x_blk, x_cd, ↓reduceIte, Nat.reduceEqDiff, List.map_cons, List.map_nil, Int.reduceEq, Int.lt_irrefl]
    exact fin_1 (hQ _ _ ⟨A4, c4, rfl, o4.base bb.size, bb.trans (b4.mono bb.size)⟩)
  have hI := (h.below bb).arrows
  have hA := hI.isSome (by omega)
  have hsn := stepK_snoc m l e k hlt
  have hle := stepK_le m l e k
  by_cases c1' : (m.arrows.getD k default).evt = e
  case neg =>
    rw [if_neg (fun hh => c1' hh.1), List.append_nil] at hsn
    simp (disch := first | with_reducible assumption | omega) only [push_cast, x_blk, x_cd, ↓reduceIte, Nat.reduceEqDiff, List.map_cons, List.map_nil, Int.reduceEq, Int.lt_irrefl, L_ref2_Step_0, fr, hlt, kM.m3 ty_ag_23, hI.ld1 ty_ag_3, c1']
    exact hJ _ _ ⟨k + 1, O, co, hlt, (by simp only [push_cast, ↓reduceIte, Nat.reduceEqDiff, true_and, and_true, and_self, eq_self, fr, hsn]), by rw [hsn]; exact ho, b2⟩ (by simp only [push_cast, ↓reduceIte, Nat.reduceEqDiff, intOf, fr]; omega)
  simp (disch := first | with_reducible assumption | omega) only [push_cast, x_blk, x_cd, ↓reduceIte, Nat.reduceEqDiff, List.map_cons, List.map_nil, Int.reduceEq, Int.lt_irrefl, L_ref2_Step_0, fr, hlt, kM.m3 ty_ag_23, Nat.add_zero, hI.ld0 ty_ag_3, hI.ld1 ty_ag_3, c1', eq_self]
  refine call_of (ref1_Has (h1.below bb) c1 _ (by omega)) ?_
  rintro v w3 ⟨rfl, s3⟩
  have kM3 := kM.same s3
  have hI3 := hI.same s3
  have ho3 := ho.same s3
  have b3 := b2.trans (s3.below _)
  by_cases c2 : (m.arrows.getD k default).frm ∈ l
  case neg =>
    rw [if_neg (fun hh => c2 hh.2), List.append_nil] at hsn
    simp (disch := first | with_reducible assumption | omega) only [push_cast, x_blk, x_cd, ↓reduceIte, Nat.reduceEqDiff, List.map_cons, List.map_nil, Int.reduceEq, Int.lt_irrefl, fr, c2]
    exact hJ _ _ ⟨k + 1, O, co, hlt, (by simp only [push_cast, ↓reduceIte, Nat.reduceEqDiff, true_and, and_true, and_self, eq_self, fr, hsn]), by rw [hsn]; exact ho3, b3⟩ (by simp only [push_cast, ↓reduceIte, Nat.reduceEqDiff, intOf, fr]; omega)
  rw [if_pos ⟨c1', c2⟩] at hsn
  simp (disch := first | with_reducible assumption | omega) only [push_cast, x_blk, x_cd, ↓reduceIte, Nat.reduceEqDiff, List.map_cons, List.map_nil, Int.reduceEq, Int.lt_irrefl, fr, c2, hlt, kM3.m3 ty_ag_23, hI3.ld2 ty_ag_3]
  refine app_int slT_22 ho3 _ (by omega) b3.size ?_
  intro A' c' w4 ho4 hg4 hA4 hs4 hz4
  simp (disch := first | with_reducible assumption | omega) only [push_cast, x_blk, x_cd, ↓reduceIte, Nat.reduceEqDiff, List.map_cons, List.map_nil, Int.reduceEq, Int.lt_irrefl, fr]
  exact hJ _ _ ⟨k + 1, A', c', hlt, (by simp only [push_cast, ↓reduceIte, Nat.reduceEqDiff, true_and, and_true, and_self, eq_self, fr, hsn, List.length_append, List.length_cons, List.length_nil]), by rw [hsn]; exact ho4, hg4.below b3 b3.size ho3.geB⟩ (by simp only [push_cast, ↓reduceIte, Nat.reduceEqDiff, intOf, fr]; omega)
end
section
open Go.RowKit
def codeR (l : List Int) : Nat := (wordsOf l).getD 0 0
theorem codeR_lt {l : List Int} (h : IsRow l 6) : codeR l < 64 := by
  refine Nat.lt_pow_two_of_testBit (n := 6) _ fun i hi => ?_
  by_cases h64 : i < 64
  · have := wordsOf_has l i (by omega)
    unfold setHas at this
    rw [show i / 64 = 0 by omega, show i % 64 = i by omega] at this
    rw [show codeR l = (wordsOf l).getD 0 0 from rfl, this]
    exact decide_eq_false fun hm => by have := h.mem hm; omega
  · have p : 2 ^ 64 ≤ 2 ^ i := Nat.pow_le_pow_right (by decide) (by omega)
    exact Nat.testBit_lt_two_pow (Nat.lt_of_lt_of_le ((wordsOf_words l).2 0) p)
theorem codeR_inj {l m : List Int} (h : IsRow l 6) (h' : IsRow m 6) (e : codeR l = codeR m) : l = m := by
  refine h.strict.ext h'.strict fun x => ?_
  have key : ∀ {l : List Int}, IsRow l 6 → (x ∈ l ↔ 0 ≤ x ∧ x < 6 ∧ (codeR l).testBit x.toNat = true) := fun {l} hl => by
    constructor
    · intro hx
      have hb := hl.mem hx
      have := wordsOf_has l x.toNat (by omega)
      unfold setHas at this
      rw [show x.toNat / 64 = 0 by omega, show x.toNat % 64 = x.toNat by omega, show ((x.toNat : Nat) : Int) = x by omega] at this
      exact ⟨hb.1, hb.2.1, by rw [show codeR l = (wordsOf l).getD 0 0 from rfl, this]; exact decide_eq_true hx⟩
    · rintro ⟨h0, h6, ht⟩
      have := wordsOf_has l x.toNat (by omega)
      unfold setHas at this
      rw [show x.toNat / 64 = 0 by omega, show x.toNat % 64 = x.toNat by omega, show ((x.toNat : Nat) : Int) = x by omega] at this
      rw [show codeR l = (wordsOf l).getD 0 0 from rfl, this] at ht
      exact of_decide_eq_true ht
  rw [key h, key h', e]
theorem IsRow.more {l : List Int} {a b : Int} (h : IsRow l a) (hab : a ≤ b) : IsRow l b := fun i hi => by
  have := h i hi
  exact ⟨this.1, by have := this.2.1; omega, this.2.2.1, this.2.2.2⟩
end
end Go.Proofs.YtcjedgiglimipaaDoor

/-
  The number of the lowest bit that is set: the library's TrailingZeros64, by its contract, where its table reads as it is laid.
  Chapter 2: the program's All goes over a set's numbers, rising: by its contract.
  Chapter 2: the program's Row: by its contract; After, Accepts.
  Chapter 2: which words are accepted: the program's Accepts, the reference's Word, After, Accepts: by their contracts.
-/
namespace Go.Proofs.YtcjedgiglimipaaDoor
set_option linter.unusedSimpArgs false
set_option linter.unusedVariables false
set_option linter.unusedSectionVars false
section
open Go.RowKit

def tzTab : List Nat := [0, 1, 56, 2, 57, 49, 28, 3, 61, 58, 42, 50, 38, 29, 17, 4, 62, 47, 59, 36, 45, 43, 51, 22, 53, 39, 33, 30, 24, 18, 12, 5, 63, 55, 48, 27, 60, 41, 37, 16, 46, 35, 44, 21, 52, 32, 23, 11, 54, 26, 40, 15, 34, 20, 31, 10, 25, 14, 19, 9, 13, 8, 7, 6]
/-- The library's table lies in memory. -/
structure Tab (w : World) : Prop where
  cell : ∀ i, i < 64 → w.cell? ⟨0, i, none⟩ = some (.int .u8 (tzTab.getD i 0 : Nat))
theorem Tab.lt {w : World} (h : Tab w) : 0 < w.heap.size := World.block_lt_of_cell? w _ (h.cell 0 (by decide))
theorem Tab.below {B : Nat} {w w' : World} (h : Tab w) (hb : Below B w w') (hB : 0 < B) : Tab w' := ⟨fun i hi => (hb.cell (p := ⟨0, i, none⟩) hB).trans (h.cell i hi)⟩
theorem Tab.on {w w' : World} (h : Tab w) (hb : Below w.heap.size w w') : Tab w' := h.below hb h.lt
theorem Tab.same {w w' : World} (h : Tab w) (hs : Same w w') : Tab w' := h.on (hs.below _)

theorem low_split : ∀ x : Nat, 0 < x → ∃ k q, x = 2 ^ k * (2 * q + 1)
  | x, hx => by
    by_cases h : x % 2 = 1
    · exact ⟨0, x / 2, by omega⟩
    · obtain ⟨k, q, e⟩ := low_split (x / 2) (by omega)
      exact ⟨k + 1, q, by rw [Nat.pow_succ, Nat.mul_comm (2 ^ k) 2, Nat.mul_assoc, ← e]; omega⟩
termination_by x => x
theorem bit_x (k q i : Nat) : (2 ^ k * (2 * q + 1)).testBit i = if i < k then false else if i = k then true else q.testBit (i - k - 1) := by
  have := Nat.testBit_two_pow_mul_add (2 * q + 1) (b := 0) (i := k) (Nat.two_pow_pos k) i
  rw [Nat.add_zero] at this
  rw [this]
  split
  · simp
  · split
    · rename_i h; subst h; simp
    · rename_i h1 h2
      obtain ⟨j, hj⟩ : ∃ j, i - k = j + 1 := ⟨i - k - 1, by omega⟩
      rw [hj, Nat.testBit_succ]
      congr 1
      omega
theorem bit_x1 (k q i : Nat) : (2 ^ k * (2 * q + 1) - 1).testBit i = if i < k then true else if i = k then false else q.testBit (i - k - 1) := by
  have hp := Nat.two_pow_pos k
  have e : 2 ^ k * (2 * q + 1) - 1 = 2 ^ k * (2 * q) + (2 ^ k - 1) := by rw [Nat.mul_add]; omega
  rw [e, Nat.testBit_two_pow_mul_add (2 * q) (b := 2 ^ k - 1) (i := k) (by omega) i]
  split
  · rename_i h
    rw [Nat.testBit_two_pow_sub_one]; simp [h]
  · split
    · rename_i h; subst h; simp
    · rename_i h1 h2
      obtain ⟨j, hj⟩ : ∃ j, i - k = j + 1 := ⟨i - k - 1, by omega⟩
      rw [hj, Nat.testBit_succ]
      congr 1
      omega
theorem low_and {x k q : Nat} (h : x = 2 ^ k * (2 * q + 1)) (hx : x < 2 ^ 64) : x &&& (2 ^ 64 - x) = 2 ^ k := by
  have h0 : 0 < x := by rw [h]; exact Nat.mul_pos (Nat.two_pow_pos k) (by omega)
  refine Nat.eq_of_testBit_eq fun i => ?_
  have e : 2 ^ 64 - x = 2 ^ 64 - ((x - 1) + 1) := by omega
  rw [Nat.testBit_and, e, Nat.testBit_two_pow_sub_succ (by omega), Nat.testBit_two_pow, h, bit_x, bit_x1]
  have hk : k < 64 := by
    rcases Nat.lt_or_ge k 64 with h1 | h1
    · exact h1
    · have := Nat.pow_le_pow_right (n := 2) (by decide) h1
      have := Nat.le_mul_of_pos_right (2 ^ k) (show 0 < 2 * q + 1 by omega)
      omega
  by_cases h1 : i < k
  · rw [if_pos h1, Bool.false_and]; exact (decide_eq_false (by omega)).symm
  · rw [if_neg h1, if_neg h1]
    by_cases h2 : i = k
    · subst h2; simp [hk]
    · rw [if_neg h2, if_neg h2]
      have : decide (k = i) = false := decide_eq_false (fun h => h2 h.symm)
      rw [this]
      cases q.testBit (i - k - 1) <;> simp
/-- Behind 'w &= w - 1' the lowest bit is gone. -/
theorem low_off {x k q : Nat} (h : x = 2 ^ k * (2 * q + 1)) (i : Nat) : (x &&& (x - 1)).testBit i = (decide (k < i) && x.testBit i) := by
  rw [Nat.testBit_and, h, bit_x, bit_x1]
  by_cases h1 : i < k
  · simp [h1]
  · by_cases h2 : i = k
    · subst h2; simp
    · have : k < i := by omega
      simp [h1, h2, this]
theorem low_lt {x k q : Nat} (h : x = 2 ^ k * (2 * q + 1)) (hx : x < 2 ^ 64) : k < 64 := by
  rcases Nat.lt_or_ge k 64 with h1 | h1
  · exact h1
  · have := Nat.pow_le_pow_right (n := 2) (by decide) h1
    have := Nat.le_mul_of_pos_right (2 ^ k) (show 0 < 2 * q + 1 by omega)
    omega
theorem tz_tab : ∀ k : Fin 64, tzTab.getD ((2 ^ k.val * 285870213051353865 % 2 ^ 64) >>> 58) 0 = k.val := by decide +kernel
theorem tz_idx (y : Nat) : (y % 2 ^ 64) >>> 58 < 64 := by
  rw [Nat.shiftRight_eq_div_pow]
  have := Nat.mod_lt y (show 0 < 2 ^ 64 by decide)
  omega

section
variable {P : Program} {K : Fr → World → Prop} {u : World} {f : Fr} {d : Option Nat} {w : World} {t ty : Nat} {xo yo : Operand}
theorem wrap_u64_mod (n : Nat) : IntKind.u64.wrap (n : Int) = ((n % 2 ^ 64 : Nat) : Int) := by
  have hb : IntKind.u64.bits = 64 := rfl
  have hs : IntKind.u64.signed = false := rfl
  simp only [IntKind.wrap, hb, hs, Bool.false_and, Bool.false_eq_true, if_false]
  exact (Int.natCast_emod n (2 ^ 64)).symm
theorem bin_mulu {x y z : Nat} (h : x * y % 2 ^ 64 = z) : Val1 P K (binS .mul t xo yo (.int .u64 x) (.int .u64 y)) u f d w = K (updO f d (.int .u64 z)) w :=
  val1_of u f d w fun w' _ => by
    show Result.ok (Value.int .u64 (IntKind.u64.wrap ((x : Int) * (y : Int)))) w' = _
    rw [show (x : Int) * (y : Int) = ((x * y : Nat) : Int) by simp, wrap_u64_mod, h]
theorem un_negu {x z : Nat} (h0 : 0 < x) (hx : x < 2 ^ 64) (h : 2 ^ 64 - x = z) : Val1 P K (Op.unary .neg (.int .u64 x)) u f d w = K (updO f d (.int .u64 z)) w :=
  val1_of u f d w fun w' _ => by
    show Result.ok (Value.int .u64 (IntKind.u64.wrap (0 - (x : Int)))) w' = _
    have hb : IntKind.u64.bits = 64 := rfl
    have hs : IntKind.u64.signed = false := rfl
    have : IntKind.u64.wrap (0 - (x : Int)) = (z : Int) := by
      simp only [IntKind.wrap, hb, hs, Bool.false_and, Bool.false_eq_true, if_false]
      omega
    rw [this]
theorem bin_shru {x k z : Nat} (h : x >>> k = z) (hk : k < 64) : Val1 P K (binS .shr t xo yo (.int .u64 x) (.int .u64 k)) u f d w = K (updO f d (.int .u64 z)) w :=
  val1_of u f d w fun w' _ => by
    have h0 : ¬ ((k : Int) < 0) := by omega
    have h1 : min k 64 = k := by omega
    have h2 : (x : Int).fdiv (2 ^ k) = ((x >>> k : Nat) : Int) := by
      have e : (2 : Int) ^ k = ((2 ^ k : Nat) : Int) := by simp
      rw [e, Nat.shiftRight_eq_div_pow, Int.fdiv_eq_ediv_of_nonneg _ (Int.natCast_nonneg _)]
      rfl
    show (Op.shift .shr .u64 x .u64 k : Sem Value).run P w' = _
    unfold Op.shift
    rw [if_neg h0]
    show Result.ok (Value.int .u64 ((x : Int).fdiv (2 ^ (min (k : Int).toNat 64)))) w' = _
    rw [Int.toNat_natCast, h1, h2, h]
theorem e_conv (s : TypeId) (o : Operand) : EffX P K (.convert s t o) ty f d w = Eff1 P K (convert s t (ev f o)) f d w := propext Iff.rfl
end

def Hid (p : Prop) : Prop := p
theorem bits_TrailingZeros64 {w : World} (hT : Tab w) {x k q : Nat} (h : x = 2 ^ k * (2 * q + 1)) (hx : x < 2 ^ 64) :
    Cal Tryd.prog 98 [.int .u64 x] w fun v w' => v = .int .i64 k ∧ Same w w' := by
  refine cal_math_bits_TrailingZeros64 (by simp) 100000 fun Q hQ => ?_
  have h0 : 0 < x := by rw [h]; exact Nat.mul_pos (Nat.two_pow_pos k) (by omega)
  have hk := low_lt h hx
  have ha := low_and h hx
  have hi := tz_idx (2 ^ k * 285870213051353865)
  have ht := tz_tab ⟨k, hk⟩
  have hc := hT.cell _ hi
  simp only at ht
  rw [ht] at hc
  have hp : 2 ^ k < 2 ^ 64 := Nat.pow_lt_pow_right (by decide) hk
  have hn' : 2 ^ 64 - x < 2 ^ 64 := Nat.sub_lt (by decide) h0
  clear h ht
  obtain ⟨p, hp0⟩ : ∃ p, 2 ^ k = p := ⟨_, rfl⟩
  obtain ⟨n, hn⟩ : ∃ n, 2 ^ 64 - x = n := ⟨_, rfl⟩
  rw [hp0] at ha hi hc hp
  rw [hn] at ha hn'
  obtain ⟨m, hm⟩ : ∃ m, p * 285870213051353865 % 2 ^ 64 = m := ⟨_, rfl⟩
  rw [hm] at hi hc
  obtain ⟨j, hj⟩ : ∃ j, m >>> 58 = j := ⟨_, rfl⟩
  rw [hj] at hi hc
  have hmm : m < 2 ^ 64 := hm ▸ Nat.mod_lt _ (by decide)
  replace hx : Hid (x < 2 ^ 64) := hx
  replace ha : Hid (x &&& n = p) := ha
  replace hn : Hid (2 ^ 64 - x = n) := hn
  replace hn' : Hid (n < 2 ^ 64) := hn'
  replace hp : Hid (p < 2 ^ 64) := hp
  replace hm : Hid (p * 285870213051353865 % 2 ^ 64 = m) := hm
  replace hj : Hid (m >>> 58 = j) := hj
  replace hmm : Hid (m < 2 ^ 64) := hmm
  have hx0 : ¬ ((x : Int) = 0) := by omega
  have hi' : (j : Int) < 64 := by omega
  clear hp0
  have r3 : ∀ {K : Fr → World → Prop} {u : World} {f : Fr} {d : Option Nat} {w : World} {t : Nat} {xo yo : Operand}, Val1 Tryd.prog K (binS .mul t xo yo (.int .u64 p) (.int .u64 285870213051353865)) u f d w = K (updO f d (.int .u64 m)) w := fun {_ _ _ _ _ _ _ _} => bin_mulu (y := 285870213051353865) hm
  have r4 : ∀ {K : Fr → World → Prop} {u : World} {f : Fr} {d : Option Nat} {w : World} {t : Nat} {xo yo : Operand}, Val1 Tryd.prog K (binS .shr t xo yo (.int .u64 m) (.int .u64 58)) u f d w = K (updO f d (.int .u64 j)) w := fun {_ _ _ _ _ _ _ _} => bin_shru (k := 58) hj (by decide)
  simp (disch := first | with_reducible assumption | omega) only [push_cast, x_blk, x_cd, ↓reduceIte, Nat.reduceEqDiff, List.map_cons, List.map_nil, Int.reduceEq, Int.lt_irrefl, F_math_bits_TrailingZeros64, hx0, un_negu h0 hx hn, bin_and' ha hx hn', r3, r4, e_conv, Int.natCast_nonneg, hi', load_one_of _ _ _ _ ty_ag_5 hc]
  rw [eff1_of (v := .int .i64 k) (w' := w) (by simp [convert, run_underlying Tryd.underlying5, run_underlying Tryd.underlying3, Conv.intToInt, wrap_i64 (k : Int) (by omega) (by omega)])]
  simp (disch := first | with_reducible assumption | omega) only [push_cast, x_blk, x_cd, ↓reduceIte, Nat.reduceEqDiff, List.map_cons, List.map_nil, Int.reduceEq, Int.lt_irrefl]
  exact fin_1 (hQ _ _ ⟨(by simp only [push_cast, ↓reduceIte, Nat.reduceEqDiff, Int.reduceEq]), Same.refl w⟩)
end

section
open Go.RowKit Go.Shelf

attribute [local go_sem] Oper.semAt_some

/-- The numbers below b that a list has, rising. -/
def rowUpto (S : List Int) (b : Nat) : List Int := ((List.range b).filter fun (n : Nat) => decide ((n : Int) ∈ S)).map fun (n : Nat) => (n : Int)
abbrev rowS (S : List Int) : List Int := rowUpto S 256
theorem rowUpto_succ (S : List Int) (b : Nat) : rowUpto S (b + 1) = rowUpto S b ++ (if (b : Int) ∈ S then [(b : Int)] else []) := by
  unfold rowUpto
  rw [List.range_succ, List.filter_append, List.map_append]
  congr 1
  by_cases h : (b : Int) ∈ S <;> simp [h]
theorem rowUpto_gap (S : List Int) (b c : Nat) (hbc : b ≤ c) (h : ∀ j, b ≤ j → j < c → (j : Int) ∉ S) : rowUpto S c = rowUpto S b := by
  obtain ⟨d, rfl⟩ := Nat.le.dest hbc
  clear hbc
  induction d with
  | zero => rfl
  | succ d ih =>
    rw [← Nat.add_assoc, rowUpto_succ, if_neg (h (b + d) (by omega) (by omega)), List.append_nil]
    exact ih fun j h1 h2 => h j h1 (by omega)
theorem rowUpto_le (S : List Int) (b : Nat) : (rowUpto S b).length ≤ b := by
  unfold rowUpto
  have := List.length_filter_le (fun n : Nat => decide ((n : Int) ∈ S)) (List.range b)
  simpa using this
theorem rowUpto_lt (S : List Int) {b c : Nat} (h : b < c) (hb : (b : Int) ∈ S) : (rowUpto S b).length < (rowUpto S c).length := by
  have h1 : (rowUpto S (b + 1)).length = (rowUpto S b).length + 1 := by rw [rowUpto_succ, if_pos hb]; simp
  have h2 : ∀ d, (rowUpto S (b + 1)).length ≤ (rowUpto S (b + 1 + d)).length := by
    intro d
    induction d with
    | zero => exact Nat.le_refl _
    | succ d ih => rw [← Nat.add_assoc, rowUpto_succ S (b + 1 + d), List.length_append]; omega
  have := h2 (c - (b + 1))
  rw [show b + 1 + (c - (b + 1)) = c by omega] at this
  omega
theorem rowS_row {S : List Int} (h : Strict S) (hs : Small S) : rowS S = S := by
  refine Strict.ext ?_ h fun x => ?_
  · unfold rowS rowUpto Strict
    rw [List.pairwise_map]
    refine List.Pairwise.imp (fun h => Int.ofNat_lt.2 h) (List.Pairwise.filter _ List.pairwise_lt_range)
  · unfold rowS rowUpto
    simp only [List.mem_map, List.mem_filter, List.mem_range, decide_eq_true_eq]
    constructor
    · rintro ⟨n, ⟨_, h⟩, rfl⟩; exact h
    · intro hx
      have := hs x hx
      exact ⟨x.toNat, ⟨by omega, by rw [show ((x.toNat : Nat) : Int) = x by omega]; exact hx⟩, by omega⟩
theorem setHas_word (S : List Int) (i k : Nat) (hi : i < 4) (hk : k < 64) : ((wordsOf S).getD i 0).testBit k = decide (((64 * i + k : Nat) : Int) ∈ S) := by
  have := wordsOf_has S (64 * i + k) (by omega)
  unfold setHas at this
  rwa [show (64 * i + k) / 64 = i by omega, show (64 * i + k) % 64 = k by omega] at this

theorem Same.grown {w w' : World} (h : Same w w') : w.grownBy w' none := ⟨h.os, h.tape, h.output, by rw [h.heap]; exact Nat.le_refl _, fun k _ _ => by rw [h.heap]⟩

set_option maxRecDepth 100000 in
set_option maxHeartbeats 4000000 in
theorem set_All1 (n l Bn n₀ : Nat) (S : List Int) (J Jx : List {x : Int // x ∈ S} → World → Prop)
    (W : World) (hJ : AbidesFrom W.heap.size J)
    (hY : ∀ pre x W, J pre W → pre.length < (rowS S).length → YieldAt Fence.wide (n - 1) Tryd.prog l #[.int .i64 x.1] W fun e W' =>
      (e = .returned (.bool true) ∧ J (pre ++ [x]) W' ∧ Below n₀ W W') ∨ (e = .returned (.bool false) ∧ Jx (pre ++ [x]) W'))
    (hT : Tab W) (hg : 0 < n₀) (hS : Blk W Bn 76 (setCells (wordsOf S))) (h0 : J [] W) :
    CallsIn Fence.wide n Tryd.prog 97 #[.func (.yield l) #[] #[], .pointer (some ⟨Bn, 0, none⟩)] W fun e W' => (∃ v, e = .returned v) ∧
      ((∃ ys : List {x : Int // x ∈ S}, ys.map (·.1) = rowS S ∧ J ys W') ∨ (∃ pre, Jx pre W')) := by
  refine callsIn_of_wp Tryd.func97 rfl trivial ?_ rfl
  simp only [Tryd.ntmps97, List.size_toArray, List.length_cons, List.length_nil, Nat.reduceAdd, Nat.reduceSub, Array.replicate_succ, Array.replicate_zero, List.push_toArray, List.append_toArray, List.nil_append, List.cons_append]
  have hc0 := hS.cell 0
  have hc1 := hS.cell 1
  have hc2 := hS.cell 2
  have hc3 := hS.cell 3
  have hWs := wordsOf_words S
  have hbits := setHas_word S
  generalize wordsOf S = ws at *
  match ws, hWs.1 with
  | [w0, w1, w2, w3], _ =>
  simp only [setCells, List.map_cons, List.map_nil, List.getElem?_cons_zero, List.getElem?_cons_succ] at hc0 hc1 hc2 hc3
  gi_wp2
  gi_loopw [6] (fun v wr => ∃ (i : Nat) (pre : List {x : Int // x ∈ S}), v = .int .i64 (i : Int) ∧ i ≤ 4 ∧ pre.map (·.1) = rowUpto S (64 * i) ∧ J pre wr ∧ Tab wr) (fun v _ => 4 - (intOf v).toNat)
  case atStart => exact ⟨0, [], rfl, by omega, rfl, h0, hT⟩
  case round =>
    obtain ⟨i, pre, rfl, hi, hp, hJp, hTp⟩ := hrel
    by_cases hi4 : i < 4
    case neg =>
      obtain rfl : i = 4 := by omega
      gi_wp2
      go_end0
      exact ⟨⟨_, rfl⟩, .inl ⟨pre, hp, hJp⟩⟩
    case pos =>
      have hix : ∀ W', (Instr.index 76 (.agg #[.int .u64 (w0 : Int), .int .u64 (w1 : Int), .int .u64 (w2 : Int), .int .u64 (w3 : Int)]) (.int .i64 (i : Int))).run Tryd.prog W' = .ok (.int .u64 (([w0, w1, w2, w3].getD i 0 : Nat) : Int)) W' := by
        intro W'
        have hu : Tryd.prog.underlying 76 = some (.array 4 74) := Tryd.underlying76
        have ha : (isAgg 74).run Tryd.prog W' = .ok false W' := by simp [isAgg, run_underlying Tryd.underlying74]
        have hz : (sizeOf 74).run Tryd.prog W' = .ok 1 W' := by
          have := ty_sz_u64
          unfold tySize at this
          cases hi : Tryd.prog.info? 74 with
          | none => simp [hi] at this
          | some ie => simp only [hi, Option.map_some, Option.some.injEq] at this; simp [sizeOf, typeInfo, hi, this]
        match i, hi4 with
        | 0, _ => simp [Instr.index, asIntOf, run_underlying hu, part, ha, hz]
        | 1, _ => simp [Instr.index, asIntOf, run_underlying hu, part, ha, hz]
        | 2, _ => simp [Instr.index, asIntOf, run_underlying hu, part, ha, hz]
        | 3, _ => simp [Instr.index, asIntOf, run_underlying hu, part, ha, hz]
      have hb := fun k => hbits i k hi4
      have hx64 := hWs.2 i
      generalize [w0, w1, w2, w3].getD i 0 = x at *
      have hi4' : (i : Int) < 4 := by omega
      gi_wp2
      gi_loopw [4] (fun v4 wr => ∃ (y b : Nat) (pre : List {x : Int // x ∈ S}), v4 = .int .u64 (y : Int) ∧ y < 2 ^ 64 ∧ b ≤ 64 ∧ (∀ j, y.testBit j = (decide (b ≤ j) && x.testBit j)) ∧ pre.map (·.1) = rowUpto S (64 * i + b) ∧ J pre wr ∧ Tab wr) (fun v _ => (intOf v).toNat)
      case atStart => exact ⟨x, 0, pre, rfl, hx64, by omega, fun j => by simp, hp, hJp, hTp⟩
      case round =>
        obtain ⟨y, b, pre, rfl, hy64, hb64, hyb, hpp, hJp, hTp⟩ := hrel
        by_cases hy0 : y = 0
        · subst hy0
          gi_wp2
          refine ⟨⟨i + 1, pre, by simp, by omega, ?_, hJp, hTp⟩, by simp [intOf]; omega⟩
          rw [hpp]
          refine (rowUpto_gap S (64 * i + b) (64 * (i + 1)) (by omega) fun j h1 h2 => ?_).symm
          have h3 := hyb (j - 64 * i)
          rw [Nat.zero_testBit, decide_eq_true (show b ≤ j - 64 * i by omega), Bool.true_and, hb (j - 64 * i) (by omega), show 64 * i + (j - 64 * i) = j by omega] at h3
          exact of_decide_eq_false h3.symm
        · obtain ⟨k, q, hkq⟩ := low_split y (by omega)
          have hk := low_lt hkq hy64
          have hyk : y.testBit k = true := by rw [hkq, bit_x]; simp
          have hbk := hyk
          rw [hyb, Bool.and_eq_true, decide_eq_true_eq, hb k hk, decide_eq_true_eq] at hbk
          obtain ⟨hbk, hin⟩ := hbk
          have hgap : rowUpto S (64 * i + k) = rowUpto S (64 * i + b) := rowUpto_gap S _ _ (by omega) fun j h1 h2 => by
            have h3 := hyb (j - 64 * i)
            rw [hkq, bit_x, if_pos (by omega), decide_eq_true (show b ≤ j - 64 * i by omega), Bool.true_and, hb (j - 64 * i) (by omega), show 64 * i + (j - 64 * i) = j by omega] at h3
            exact of_decide_eq_false h3.symm
          have hlen : pre.length < (rowS S).length := by
            have : pre.length = (rowUpto S (64 * i + k)).length := by rw [hgap, ← hpp]; simp
            rw [this]
            exact rowUpto_lt S (by omega) hin
          have hsn : rowUpto S (64 * i + (k + 1)) = rowUpto S (64 * i + k) ++ [((64 * i + k : Nat) : Int)] := by rw [← Nat.add_assoc, rowUpto_succ, if_pos hin]
          have hbits2 := bits_TrailingZeros64 hTp hkq hy64
          replace hkq : Hid (y = 2 ^ k * (2 * q + 1)) := hkq
          have hy0' : ((y : Int) != 0) = true := by simp; omega
          gi_wp2
          refine ⟨trivial, fun h => (by cases h), ?_⟩
          refine (callsIn_wide.2 hbits2.calls).mono ?_
          rintro e w2 ⟨v, rfl, rfl, hs⟩
          have hT2 := hTp.same hs
          have hJ2 := hJ _ _ _ none hJp hs.grown (fun _ h => by cases h)
          obtain ⟨fn, tmps, assign, body, hy, hR⟩ := hY pre ⟨_, hin⟩ w2 hJ2 hlen
          simp only [Int.natCast_add, Int.natCast_mul, Int.cast_ofNat_Int] at hy
          gi_wp2
          refine ⟨fun h => (by cases h), ?_⟩
          refine hR.mono ?_
          rintro e W3 (⟨rfl, hJ3, hk3⟩ | ⟨rfl, hJx3⟩)
          · have hT3 := hT2.below hk3 hg
            have hand : bits .and .u64 (y : Int) ((y : Int) - 1) = ((y &&& (y - 1) : Nat) : Int) := by
              have h1 : (BitVec.ofInt 64 (y : Int) &&& BitVec.ofInt 64 ((y : Int) - 1)).toNat = y &&& (y - 1) := by
                rw [show (y : Int) - 1 = ((y - 1 : Nat) : Int) by omega, BitVec.toNat_and]
                simp [BitVec.toNat_ofInt, Nat.mod_eq_of_lt hy64, Nat.mod_eq_of_lt (show y - 1 < 2 ^ 64 by omega)]
              have h2 : y &&& (y - 1) < 2 ^ 64 := Nat.and_lt_two_pow y (by omega)
              show IntKind.u64.wrap ((BitVec.ofInt 64 (y : Int) &&& BitVec.ofInt 64 ((y : Int) - 1)).toNat : Int) = _
              rw [h1, wrap_u64 _ h2]
            have hle : y &&& (y - 1) < y := Nat.lt_of_le_of_lt Nat.and_le_right (by omega)
            gi_wp2
            go_roundw
            case rel =>
              refine ⟨y &&& (y - 1), k + 1, pre ++ [⟨_, hin⟩], rfl, by omega, by omega, fun j => ?_, ?_, hJ3, hT3⟩
              · rw [low_off hkq, hyb]
                by_cases h1 : k < j
                · rw [decide_eq_true h1, decide_eq_true (show b ≤ j by omega), decide_eq_true (show k + 1 ≤ j by omega), Bool.true_and, Bool.true_and]
                · rw [decide_eq_false h1, decide_eq_false (show ¬ k + 1 ≤ j by omega), Bool.false_and, Bool.false_and]
              · rw [List.map_append, hsn, hgap, hpp]; rfl
            case measure => simp only [intOf, Int.toNat_natCast]; exact hle
          · gi_wp2
            refine bodyPost_ret (results_none rfl _ _ _) rfl ?_
            exact ⟨⟨_, rfl⟩, .inr ⟨_, hJx3⟩⟩

theorem set_All (S : List Int) (w : World) : Cal Tryd.prog 55 [setV S] w fun v w' => v = .func (.func 97) #[] #[.pointer (some ⟨w.heap.size, 0, none⟩)] ∧ Blk w' w.heap.size 76 (setCells (wordsOf S)) ∧ Below w.heap.size w w' ∧ w'.heap.size = w.heap.size + 1 := by
  refine cal_machine_Set_All (by simp) 100000 fun Q hQ => ?_
  simp (disch := first | with_reducible assumption | omega) only [push_cast, x_blk, x_cd, ↓reduceIte, Nat.reduceEqDiff, List.map_cons, List.map_nil, Int.reduceEq, Int.lt_irrefl, F_machine_Set_All]
  refine blk_of (box_agg _ (setCells (wordsOf S))) ?_
  intro w1 k1 b1 z1
  simp (disch := first | with_reducible assumption | omega) only [push_cast, x_blk, x_cd, ↓reduceIte, Nat.reduceEqDiff, List.map_cons, List.map_nil, Int.reduceEq, Int.lt_irrefl]
  exact fin_1 (hQ _ _ ⟨rfl, k1, b1, z1⟩)

/-- What a range over a set's numbers is handed. -/
theorem set_All_stops (n Bn n₀ : Nat) (S : List Int) (w : World) (hT : Tab w) (hg : 0 < n₀) (hS : Blk w Bn 76 (setCells (wordsOf S))) :
    SeqStopsK Fence.wide n Tryd.prog 97 #[.pointer (some ⟨Bn, 0, none⟩)] (fun x : {x : Int // x ∈ S} => #[Value.int .i64 x.1]) (Below n₀) (fun ys => ys.map (·.1) = rowS S) (fun _ => True) (rowS S).length w := fun l J Jx W hW hJ _ hY h0 =>
  CallsIn.mono (set_All1 n l Bn n₀ S J Jx W hJ hY (hT.on hW) hg (hS.below hW hS.lt) h0) fun _ _ ⟨h1, h2⟩ => ⟨h1, h2.elim .inl fun ⟨pre, h⟩ => .inr ⟨pre, trivial, h⟩⟩

theorem infoInt : (Tryd.prog.info? 3).map (fun i => (i.zero, i.size, i.bytes)) = some (some (.int .i64 0), 1, 8) := by kernel_rfl
set_option maxRecDepth 100000 in
set_option maxHeartbeats 4000000 in
theorem set_Row_in (S : List Int) (w : World) (hT : Tab w) :
    CallsIn Fence.wide 4 Tryd.prog 53 #[setV S] w fun e W' => ∃ v, e = .returned v ∧ W'.ownsRow w.heap.size 3 1 v (rowS S).length ((rowS S).map (Value.int .i64)) ∧ Below w.heap.size w W' := by
  obtain ⟨i0, hi, hz0, hz1, hz2⟩ := info_parts infoInt
  have hlen : (rowS S).length ≤ 256 := rowUpto_le S 256
  refine callsIn_of_wp_marks Tryd.func53 rfl trivial ?_ rfl
  simp only [Tryd.ntmps53, List.size_toArray, List.length_cons, List.length_nil, Nat.reduceAdd, Nat.reduceSub, Array.replicate_succ, Array.replicate_zero, List.push_toArray, List.append_toArray, List.nil_append, List.cons_append]
  have hWs := wordsOf_words S
  obtain ⟨ws, hws⟩ : ∃ ws, wordsOf S = ws := ⟨_, rfl⟩
  unfold setV
  rw [hws] at hWs ⊢
  match ws, hWs.1 with
  | [w0, w1, w2, w3], _ =>
  have hall := set_All S
  have hst := fun n Bn n₀ w => set_All_stops n Bn n₀ S w
  unfold setV at hall
  rw [hws] at hall hst
  simp only [setVal, setCells, List.map_cons, List.map_nil] at hall hst ⊢
  gi_wp2
  refine ⟨trivial, ?_⟩
  refine (callsIn_wide.2 (hall _).calls).mono ?_
  have hb2 : Below w.heap.size w ((w.alloc (.cells #[.int .u64 (w0 : Int), .int .u64 (w1 : Int), .int .u64 (w2 : Int), .int .u64 (w3 : Int)] 76)).alloc (.cells #[.slice none 0 0] 22)) := ((Below.refl _ w).alloc (Nat.le_refl _) _).alloc (by simp) _
  have bO := Boxed.new (w.alloc (.cells #[.int .u64 (w0 : Int), .int .u64 (w1 : Int), .int .u64 (w2 : Int), .int .u64 (w3 : Int)] 76)) 22 (.slice none 0 0)
  rw [World.size_alloc] at bO
  have z2 : ((w.alloc (.cells #[.int .u64 (w0 : Int), .int .u64 (w1 : Int), .int .u64 (w2 : Int), .int .u64 (w3 : Int)] 76)).alloc (.cells #[.slice none 0 0] 22)).heap.size = w.heap.size + 2 := by simp
  generalize (w.alloc (.cells #[.int .u64 (w0 : Int), .int .u64 (w1 : Int), .int .u64 (w2 : Int), .int .u64 (w3 : Int)] 76)).alloc (.cells #[.slice none 0 0] 22) = wa at *
  rintro e wb ⟨v, rfl, rfl, hSb, hbb, zb⟩
  rw [z2] at hSb
  have hB0 := hb2.trans (hbb.mono hb2.size)
  have bO1 : Boxed wb (w.heap.size + 1) 22 (.slice none 0 0) := (hbb.block _ (by omega)).trans bO
  gi_wp2
  refine wpIn_rangeFunc_ownG rfl (by decide) (gf := 97) (lb := #[.pointer (some ⟨w.heap.size + 2, 0, none⟩)]) rfl trivial (enters_of Tryd.func97 (by kernel_rfl) rfl)
    (hst 3 (w.heap.size + 2) w.heap.size wb (hT.below hB0 hT.lt) hT.lt hSb) belowK_t (belowK_b (by omega)) (Below.refl _ _) (fun _ => rfl)
    (fun (pre : List {x : Int // x ∈ S}) W => (∃ v, Boxed W (w.heap.size + 1) 22 v ∧ W.ownsRow w.heap.size 3 1 v pre.length (pre.map fun x => Value.int .i64 x.1) ∧ True) ∧ Below w.heap.size w W)
    (fun _ _ _ => False)
    (OwnFrom.and (Own.from (holdsRow_own w.heap.size (w.heap.size + 1) 22 3 1 (fun (pre : List {x : Int // x ∈ S}) => pre.length) (fun pre => pre.map fun x => Value.int .i64 x.1) (fun _ _ => True)) _) (ownFrom_below (Nat.le_refl _) (by omega)))
    (fun _ _ _ _ _ hs _ _ => hs)
    ⟨⟨_, bO1, World.ownsRow_nil _ _ _ _, trivial⟩, hB0⟩
    (fun x => { tmps := #[.agg #[.int .u64 (w0 : Int), .int .u64 (w1 : Int), .int .u64 (w2 : Int), .int .u64 (w3 : Int)], .pointer (some ⟨w.heap.size, 0, none⟩), .slice none 0 0, .pointer (some ⟨w.heap.size + 1, 0, none⟩), .int .i64 x.1, .agg #[.int .u64 (w0 : Int), .int .u64 (w1 : Int), .int .u64 (w2 : Int), .int .u64 (w3 : Int)], .func (.func 97) #[] #[.pointer (some ⟨w.heap.size + 2, 0, none⟩)], .int .i64 x.1, undef, undef, undef, undef, undef], defers := [] }) ?assign ?body ?done ?stop
  case assign =>
    intro l x W K hK
    gi_wp2
    exact hK
  case body =>
    rintro l pre x W ⟨⟨v, hv, hrow, _⟩, hB⟩ hlt
    have hc := hv.cell
    have hm : pre.length + 1 ≤ maxLen := by unfold maxLen; omega
    gi_wp2_with (gi_at_builtin; refine wpListIn_append_own _ rfl _ _ 22 rfl w.heap.size 3 i0 (.int .i64 0) 1 8 Tryd.underlying22 hi hz0 hz1 hz2 rfl (by decide) _ _ _ rfl (hrow.alloc _) ⟨W.heap.size, 0, none⟩ 1 1 [.int .i64 x.1] rfl rfl (cell_one_new _ _ _) (by simp [Value.oneCell']) hm (by omega) (by have := hB.size; simp; omega) ?_; intro v' w1 hown' hgrow _; obtain ⟨g', cap', rfl⟩ := ownsRow_succ hown'; obtain ⟨hv1, hv2, hr2, hk2, hb2⟩ := hv.appended (by decide) hrow hB.size (by omega) hown' hgrow; have hc1 := hv1.cell; have hf1 := hv1.frozen)
    exact ⟨hk2.from _, hb2, ⟨_, hv2, by simpa using hr2, trivial⟩, hB.trans hb2⟩
  case done =>
    rintro D ys W hD hys ⟨⟨v, hv, hrow, _⟩, hB⟩ hK
    have hc := hv.cell
    gi_wp2
    refine ⟨by simp, .inl ⟨_, _, rfl, run_takeDeferred hK, ?_⟩⟩
    have e1 : (rowS S).length = ys.length := by rw [← hys]; simp
    have e2 : (rowS S).map (Value.int .i64) = ys.map fun x => Value.int .i64 x.1 := by rw [← hys]; simp
    rw [e1, e2]
    exact ⟨_, results_tmp rfl _ _ _, v, rfl, ownsRow_putObj hrow _ hK rfl, hB.trans (belowK_b (w := w) (Nat.le_refl _) W D _ _ (by omega) hK rfl rfl)⟩
  case stop =>
    rintro D c pre W _ _ h _
    exact h.elim
end

section
open Go.RowKit

theorem set_Row (S : List Int) {w : World} (hT : Tab w) : Cal Tryd.prog 53 [setV S] w fun v w' =>
    ∃ A c, v = .slice A (rowS S).length c ∧ OwnI w.heap.size 3 w' A c (rowS S) ∧ Below w.heap.size w w' :=
  ⟨k_machine_Set_Row, (callsIn_wide.1 (set_Row_in S w hT)).mono fun e W' ⟨v, he, ho, hb⟩ => ⟨v, he, by
    rcases ho.2 with ⟨rfl, h0⟩ | ⟨g, cap, cur, rfl, h⟩
    · exact ⟨none, 0, by rw [h0], ⟨by rw [h0] at ho ⊢; exact ho⟩, hb⟩
    · exact ⟨_, _, rfl, ⟨ho⟩, hb⟩⟩⟩
theorem set_Row' {S : List Int} (h : Strict S) (hs : Small S) {w : World} (hT : Tab w) : Cal Tryd.prog 53 [setV S] w fun v w' =>
    ∃ A c, v = .slice A S.length c ∧ OwnI w.heap.size 3 w' A c S ∧ Below w.heap.size w w' := by
  have := set_Row S hT
  rwa [rowS_row h hs] at this

/-- A word. -/
def IsWord (m : Mach) (l : List Int) : Prop := ∀ i, i < l.length → 0 ≤ l.getD i 0 ∧ l.getD i 0 < m.events
instance (m : Mach) (l : List Int) : Decidable (IsWord m l) := by unfold IsWord; exact inferInstance
/-- Where runs of a word end. -/
def afterL (m : Mach) (l : List Int) (word : List Int) : List Int := word.foldl (stepL m) l
end

section
open Go.RowKit

def AcceptsL (m : Mach) (word : List Int) : Prop := MeetL (afterL m m.starts word) m.ends
instance (m : Mach) (word : List Int) : Decidable (AcceptsL m word) := by unfold AcceptsL; exact inferInstance
theorem may_starts {m : Mach} (hm : m.May) : IsRow m.starts m.states := hm.2.2.2.2.2.1
theorem may_ends {m : Mach} (hm : m.May) : IsRow m.ends m.states := hm.2.2.2.2.2.2.1
end
end Go.Proofs.YtcjedgiglimipaaDoor

/-
  What edges lead to: sets that are picked by a property, closures, passes over edges; equality of sets of states. Plain but for the last part.
  Chapter 3, in plain Lean: the machine of some states alone; it accepts what the machine accepts, if the states are those of use. No program in sight.
  Chapters 5 and 9, in plain Lean: what unseen events lead to; the machine of what is seen; what is seen of a word that is accepted is accepted by it. No program in sight.
-/
namespace Go.Proofs.YtcjedgiglimipaaDoor
set_option linter.unusedSimpArgs false
set_option linter.unusedVariables false
set_option linter.unusedSectionVars false
section
open Go.RowKit

/-- The row of the numbers below 256 with a property. -/
noncomputable def pick (p : Int → Prop) : List Int := ((List.range 256).filter fun (n : Nat) => @decide (p (n : Int)) (Classical.propDecidable _)).map fun (n : Nat) => (n : Int)
theorem mem_pick {p : Int → Prop} {x : Int} : x ∈ pick p ↔ (0 ≤ x ∧ x < 256) ∧ p x := by
  unfold pick
  simp only [List.mem_map, List.mem_filter, List.mem_range, decide_eq_true_eq]
  constructor
  · rintro ⟨n, ⟨hn, h⟩, rfl⟩; exact ⟨⟨by omega, by omega⟩, h⟩
  · rintro ⟨⟨h0, h1⟩, h⟩
    exact ⟨x.toNat, ⟨by omega, by rw [show ((x.toNat : Nat) : Int) = x by omega]; exact h⟩, by omega⟩
theorem pick_strict (p : Int → Prop) : Strict (pick p) := by
  unfold pick Strict
  rw [List.pairwise_map]
  exact List.Pairwise.imp (fun h => Int.ofNat_lt.2 h) (List.Pairwise.filter _ List.pairwise_lt_range)
theorem pick_eq {p : Int → Prop} {l : List Int} (h : Strict l) (hs : Small l) (hp : ∀ x, x ∈ l ↔ p x) : l = pick p :=
  h.ext (pick_strict p) fun x => ⟨fun hx => mem_pick.2 ⟨hs x hx, (hp x).1 hx⟩, fun hx => (hp x).2 (mem_pick.1 hx).2⟩
theorem words_pick {p : Int → Prop} {l : List Int} (h : ∀ x, 0 ≤ x → x < 256 → (x ∈ l ↔ p x)) : wordsOf l = wordsOf (pick p) :=
  wordsOf_ext fun x h0 h1 => by rw [h x h0 h1, mem_pick]; exact ⟨fun hp => ⟨⟨h0, h1⟩, hp⟩, fun hp => hp.2⟩
theorem setV_pick {p : Int → Prop} {l : List Int} (h : ∀ x, 0 ≤ x → x < 256 → (x ∈ l ↔ p x)) : setV l = setV (pick p) := by unfold setV; rw [words_pick h]
theorem pick_row {p : Int → Prop} {b : Int} (h : ∀ x, p x → x < b) : IsRow (pick p) b :=
  IsRow.of_strict (pick_strict p) fun x hx => by have := mem_pick.1 hx; have := h x this.2; omega

/-- How many of the states are not in the list. -/
def miss (l : List Int) : Nat := (List.range 256).countP fun (n : Nat) => !decide ((n : Int) ∈ l)
theorem countP_lt {α : Type} {p q : α → Bool} : ∀ {l : List α}, (∀ x ∈ l, q x = true → p x = true) → (∃ x ∈ l, p x = true ∧ q x = false) → l.countP q < l.countP p
  | [], _, ⟨x, hx, _⟩ => absurd hx (by simp)
  | a :: l, h, ⟨x, hx, h1, h2⟩ => by
    have hle : l.countP q ≤ l.countP p := List.countP_mono_left fun y hy => h y (List.mem_cons_of_mem _ hy)
    rw [List.countP_cons, List.countP_cons]
    rcases List.mem_cons.1 hx with rfl | hx
    · rw [h1, h2]; simp; omega
    · have ih := countP_lt (l := l) (fun y hy => h y (List.mem_cons_of_mem _ hy)) ⟨x, hx, h1, h2⟩
      have ha := h a (List.mem_cons_self ..)
      cases hq : q a <;> cases hp : p a <;> simp_all <;> omega
theorem miss_lt {l l' : List Int} (hs : ∀ x ∈ l, x ∈ l') {x : Int} (h0 : 0 ≤ x) (h1 : x < 256) (hx : x ∈ l') (hn : x ∉ l) : miss l' < miss l := by
  unfold miss
  refine countP_lt (fun n _ hn => ?_) ⟨x.toNat, List.mem_range.2 (by omega), ?_, ?_⟩
  · simp only [Bool.not_eq_true', decide_eq_false_iff_not] at hn ⊢
    exact fun h => hn (hs _ h)
  · rw [show ((x.toNat : Nat) : Int) = x by omega]; simpa using hn
  · rw [show ((x.toNat : Nat) : Int) = x by omega]; simpa using hx

/-- What edges lead to. -/
inductive Clos (es : List (Int × Int)) (l : List Int) : Int → Prop
  | base (x : Int) (h : x ∈ l) : Clos es l x
  | step (p : Int × Int) (hp : p ∈ es) (h : Clos es l p.1) : Clos es l p.2
theorem Clos.trans {es : List (Int × Int)} {l m : List Int} (h : ∀ x ∈ m, Clos es l x) {x : Int} (hx : Clos es m x) : Clos es l x := by
  induction hx with
  | base x hm => exact h x hm
  | step p hp _ ih => exact .step p hp ih
theorem Clos.mono {es : List (Int × Int)} {l m : List Int} (h : ∀ x ∈ l, x ∈ m) {x : Int} (hx : Clos es l x) : Clos es m x := Clos.trans (fun x hx => .base x (h x hx)) hx
theorem Clos.within {es : List (Int × Int)} {l m : List Int} (h0 : ∀ x ∈ l, x ∈ m) (h : ∀ p ∈ es, p.1 ∈ m → p.2 ∈ m) {x : Int} (hx : Clos es l x) : x ∈ m := by
  induction hx with
  | base x hl => exact h0 x hl
  | step p hp _ ih => exact h p hp ih
theorem Clos.all {es : List (Int × Int)} {l : List Int} {p : Int → Prop} (h0 : ∀ x ∈ l, p x) (h : ∀ e ∈ es, p e.1 → p e.2) {x : Int} (hx : Clos es l x) : p x := by
  induction hx with
  | base x hl => exact h0 x hl
  | step e he _ ih => exact h e he ih
/-- One pass over the edges. -/
def passL (es : List (Int × Int)) (l : List Int) : List Int := es.foldl (fun l p => if p.1 ∈ l then l ++ [p.2] else l) l
theorem passL_append (es fs : List (Int × Int)) (l : List Int) : passL (es ++ fs) l = passL fs (passL es l) := by unfold passL; rw [List.foldl_append]
theorem passL_sub : ∀ (es : List (Int × Int)) (l : List Int), ∀ x ∈ l, x ∈ passL es l
  | [], _, _, h => h
  | p :: es, l, x, h => by
    show x ∈ passL es (if p.1 ∈ l then l ++ [p.2] else l)
    refine passL_sub es _ x ?_
    split
    · exact List.mem_append_left _ h
    · exact h
theorem passL_clos : ∀ (es : List (Int × Int)) (l : List Int), ∀ x ∈ passL es l, Clos es l x
  | [], _, x, h => .base x h
  | p :: es, l, x, h => by
    have ih := passL_clos es _ x h
    have hm : ∀ {l : List Int} {y : Int}, Clos es l y → Clos (p :: es) l y := fun {l y} hy => by
      induction hy with
      | base x h => exact .base x h
      | step q hq _ ih => exact .step q (List.mem_cons_of_mem _ hq) ih
    refine Clos.trans (fun y hy => ?_) (hm ih)
    replace hy : y ∈ (if p.1 ∈ l then l ++ [p.2] else l) := hy
    split at hy
    · rename_i h1
      rcases List.mem_append.1 hy with hy | hy
      · exact .base y hy
      · rw [List.mem_singleton.1 hy]; exact .step p (List.mem_cons_self ..) (.base _ h1)
    · exact .base y hy
theorem passL_closed {es : List (Int × Int)} {l : List Int} (h : ∀ x ∈ passL es l, x ∈ l) : ∀ p ∈ es, p.1 ∈ l → p.2 ∈ l := by
  intro p hp h1
  obtain ⟨a, b, rfl⟩ := List.append_of_mem hp
  refine h _ ?_
  rw [passL_append]
  show p.2 ∈ passL b (if p.1 ∈ passL a l then passL a l ++ [p.2] else passL a l)
  rw [if_pos (passL_sub a l _ h1)]
  exact passL_sub b _ _ (by simp)
theorem passL_small {es : List (Int × Int)} (he : ∀ p ∈ es, 0 ≤ p.2 ∧ p.2 < 256) : ∀ {l : List Int}, Small l → Small (passL es l) := by
  intro l hl x hx
  exact (passL_clos es l x hx).all hl fun e h _ => he e h
/-- The edges of some arrows, forward or backward. -/
def eds (p : Arr → Bool) (rev : Bool) (ar : List Arr) : List (Int × Int) := (ar.filter p).map fun a => if rev then (a.to_, a.frm) else (a.frm, a.to_)
theorem eds_snoc (p : Arr → Bool) (rev : Bool) (ar : List Arr) (k : Nat) (h : k < ar.length) :
    eds p rev (ar.take (k + 1)) = eds p rev (ar.take k) ++ (if p (ar.getD k default) = true then [if rev then ((ar.getD k default).to_, (ar.getD k default).frm) else ((ar.getD k default).frm, (ar.getD k default).to_)] else []) := by
  unfold eds
  rw [take_snoc _ default k h, List.filter_append, List.map_append]
  congr 1
  generalize ar.getD k default = y
  by_cases h1 : p y = true <;> simp [h1]
theorem mem_eds {p : Arr → Bool} {rev : Bool} {ar : List Arr} {e : Int × Int} : e ∈ eds p rev ar ↔ ∃ a ∈ ar, p a = true ∧ e = (if rev then (a.to_, a.frm) else (a.frm, a.to_)) := by
  unfold eds
  simp only [List.mem_map, List.mem_filter]
  exact ⟨fun ⟨a, ⟨h1, h2⟩, h3⟩ => ⟨a, h1, h2, h3.symm⟩, fun ⟨a, h1, h2, h3⟩ => ⟨a, ⟨h1, h2⟩, h3.symm⟩⟩
/-- One pass, as far as the k-th arrow. -/
def passK (p : Arr → Bool) (rev : Bool) (ar : List Arr) (l : List Int) (k : Nat) : List Int := passL (eds p rev (ar.take k)) l
theorem passK_all (p : Arr → Bool) (rev : Bool) (ar : List Arr) (l : List Int) : passK p rev ar l ar.length = passL (eds p rev ar) l := by unfold passK; rw [List.take_length]
theorem passK_succ (p : Arr → Bool) (rev : Bool) (ar : List Arr) (l : List Int) (k : Nat) (h : k < ar.length) :
    passK p rev ar l (k + 1) = if p (ar.getD k default) = true ∧ (if rev then (ar.getD k default).to_ else (ar.getD k default).frm) ∈ passK p rev ar l k then passK p rev ar l k ++ [if rev then (ar.getD k default).frm else (ar.getD k default).to_] else passK p rev ar l k := by
  unfold passK
  rw [eds_snoc p rev ar k h, passL_append]
  generalize passL (eds p rev (ar.take k)) l = m
  generalize ar.getD k default = y
  by_cases h1 : p y = true
  · rw [if_pos h1]
    cases rev
    · show (if y.frm ∈ m then m ++ [y.to_] else m) = _
      simp [h1]
    · show (if y.to_ ∈ m then m ++ [y.frm] else m) = _
      simp [h1]
  · rw [if_neg h1, if_neg fun hh => h1 hh.1]; rfl
/-- What passes come to: the state of the loops 'until nothing new comes'. -/
structure Spread (es : List (Int × Int)) (l0 was l : List Int) : Prop where
  small : Small l
  sub : ∀ x ∈ l0, x ∈ l
  clos : ∀ x ∈ l, Clos es l0 x
  closed : wordsOf was = wordsOf l → ∀ p ∈ es, p.1 ∈ l → p.2 ∈ l
theorem small_sub {was l : List Int} (h : wordsOf was = wordsOf l) (hl : Small l) : ∀ x ∈ l, x ∈ was := fun x hx => (wordsOf_mem h (hl x hx).1 (hl x hx).2).2 hx
theorem Spread.start (es : List (Int × Int)) {l : List Int} (hl : Small l) : Spread es l [] l :=
  ⟨hl, fun _ h => h, fun x h => .base x h, fun h p _ hp => absurd (small_sub h hl _ hp) (by simp)⟩
theorem Spread.next {es : List (Int × Int)} {l0 was l : List Int} (h : Spread es l0 was l) (he : ∀ p ∈ es, 0 ≤ p.2 ∧ p.2 < 256) : Spread es l0 l (passL es l) := by
  have hs := passL_small he h.small
  refine ⟨hs, fun x hx => passL_sub es l x (h.sub x hx), fun x hx => Clos.trans h.clos (passL_clos es l x hx), fun hw p hp h1 => ?_⟩
  have hsub := small_sub hw hs
  exact passL_sub es l _ (passL_closed hsub p hp (hsub _ h1))
theorem Spread.done {es : List (Int × Int)} {l0 was l : List Int} (h : Spread es l0 was l) (hw : wordsOf was = wordsOf l) : setV l = setV (pick (Clos es l0)) :=
  setV_pick fun x _ _ => ⟨h.clos x, fun hc => Clos.within h.sub (h.closed hw) hc⟩
/-- How many rounds are left, at most. -/
def left (was l : List Int) : Nat := 2 * miss l + if wordsOf was = wordsOf l then 0 else 1
theorem left_lt {es : List (Int × Int)} {was l : List Int} (hl : Small l) (he : ∀ p ∈ es, 0 ≤ p.2 ∧ p.2 < 256) (hw : wordsOf was ≠ wordsOf l) : left l (passL es l) < left was l := by
  unfold left
  rw [if_neg hw]
  by_cases h : wordsOf l = wordsOf (passL es l)
  · rw [if_pos h]
    have : miss (passL es l) ≤ miss l := by
      unfold miss
      refine List.countP_mono_left fun n _ hn => ?_
      simp only [Bool.not_eq_true', decide_eq_false_iff_not] at hn ⊢
      exact fun hh => hn (passL_sub es l _ hh)
    omega
  · rw [if_neg h]
    have hs := passL_small he hl
    have hx : ∃ x ∈ passL es l, x ∉ l := by
      refine Classical.byContradiction fun hno => h (wordsOf_ext fun x _ _ => ⟨passL_sub es l x, fun hx => Classical.byContradiction fun hn => hno ⟨x, hx, hn⟩⟩)
    obtain ⟨x, hx, hn⟩ := hx
    have := miss_lt (passL_sub es l) (hs x hx).1 (hs x hx).2 hx hn
    omega

theorem wordsOf_iff (a b : List Int) : wordsOf a = wordsOf b ↔ ∀ i, i < 4 → (wordsOf a).getD i 0 = (wordsOf b).getD i 0 := by
  refine ⟨fun h i _ => by rw [h], fun h => ext_getD 0 ((wordsOf_words a).1.trans (wordsOf_words b).1.symm) fun k hk => h k (by rw [(wordsOf_words a).1] at hk; exact hk)⟩
theorem run_part_word (w : World) (l : List Int) (i : Nat) (hi : i < 4) : (part 74 (setCells (wordsOf l)).toArray (i * 1)).run Tryd.prog w = .ok (.int .u64 (((wordsOf l).getD i 0 : Nat) : Int)) w :=
  run_part_plain w (by kernel_rfl) (by
    have hl : i < (wordsOf l).length := by rw [(wordsOf_words l).1]; exact hi
    simp [setCells, List.getD_eq_getElem?_getD, hl])
theorem equal_set (w : World) (a b : List Int) : (Op.equalIn 10000 76 (setV a) (setV b)).run Tryd.prog w = .ok (decide (wordsOf a = wordsOf b)) w := by
  have hu : Tryd.prog.underlying 76 = some (.array 4 74) := Tryd.underlying76
  have hc1 : Tryd.prog.cellsOf 74 = 1 := by kernel_rfl
  have hi : ∃ i, Tryd.prog.info? 74 = some i := by
    have := ty_sz_u64
    unfold tySize at this
    cases h : Tryd.prog.info? 74 with
    | none => simp [h] at this
    | some i => exact ⟨i, rfl⟩
  obtain ⟨i, hi⟩ := hi
  have key : ∀ is : List Nat, (∀ i ∈ is, i < 4) → (Op.eqItems 9999 74 1 (setCells (wordsOf a)).toArray (setCells (wordsOf b)).toArray is).run Tryd.prog w = .ok (decide (∀ i ∈ is, (wordsOf a).getD i 0 = (wordsOf b).getD i 0)) w := by
    intro is
    induction is with
    | nil => intro _; simp [Op.eqItems]
    | cons j is ih =>
      intro hj
      have ih := ih fun i hi => hj i (List.mem_cons_of_mem _ hi)
      have hj4 := hj j (List.mem_cons_self ..)
      unfold Op.eqItems
      simp only [Sem.run_bind, run_part_word w a j hj4, run_part_word w b j hj4, Result.andThen_ok, run_equalIn_int w 9998 74 .u64 .u64 _ _ Tryd.underlying74]
      by_cases e : (wordsOf a).getD j 0 = (wordsOf b).getD j 0
      · rw [e]
        simp only [beq_self_eq_true, Bool.not_true, Bool.false_eq_true, if_false, ih]
        rw [show decide (∀ i ∈ j :: is, (wordsOf a).getD i 0 = (wordsOf b).getD i 0) = decide (∀ i ∈ is, (wordsOf a).getD i 0 = (wordsOf b).getD i 0) from decide_eq_decide.2 ⟨fun h i hi => h i (List.mem_cons_of_mem _ hi), fun h i hi => (List.mem_cons.1 hi).elim (fun q => by rw [q]; exact e) (h i)⟩]
      · have e' : ((((wordsOf a).getD j 0 : Nat) : Int) == (((wordsOf b).getD j 0 : Nat) : Int)) = false := by simpa using (by omega : ¬ (((wordsOf a).getD j 0 : Nat) : Int) = (((wordsOf b).getD j 0 : Nat) : Int))
        rw [e']
        simp only [Bool.not_false, if_true, Sem.run_pure]
        rw [decide_eq_false fun h => e (h j (List.mem_cons_self ..))]
  rw [run_equalIn_array (P := Tryd.prog) w 9999 _ _ hu hi, hc1, key _ fun i hi => List.mem_range.1 hi]
  rw [show decide (wordsOf a = wordsOf b) = decide (∀ i ∈ List.range 4, (wordsOf a).getD i 0 = (wordsOf b).getD i 0) from decide_eq_decide.2 ((wordsOf_iff a b).trans ⟨fun h i hi => h i (List.mem_range.1 hi), fun h i hi => h i (List.mem_range.2 hi)⟩)]
theorem eqg_set (w : World) (op : BinOp) (xo yo : Operand) (xs ys : Array Value) : (eqGuard op 76 xo yo (.agg xs) (.agg ys)).run Tryd.prog w = .ok () w := run_eqGuard_agg w op 76 xo yo _ _ (by kernel_rfl)
theorem neq_run (w : World) (xo yo : Operand) (xs ys : Array Value) (b : Bool) (h : (Op.equalIn 10000 76 (.agg xs) (.agg ys)).run Tryd.prog w = .ok b w) : (binS .neq 76 xo yo (.agg xs) (.agg ys)).run Tryd.prog w = .ok (.bool (!b)) w := by
  unfold binS
  rw [Sem.run_bind, eqg_set, Result.andThen_ok, run_neq_struct w, h]; rfl
theorem eql_run (w : World) (xo yo : Operand) (xs ys : Array Value) (b : Bool) (h : (Op.equalIn 10000 76 (.agg xs) (.agg ys)).run Tryd.prog w = .ok b w) : (binS .eql 76 xo yo (.agg xs) (.agg ys)).run Tryd.prog w = .ok (.bool b) w := by
  unfold binS
  rw [Sem.run_bind, eqg_set, Result.andThen_ok, run_eql_struct w, h]; rfl
section
variable {K : Fr → World → Prop} {u w : World} {f : Fr} {d : Option Nat} {xo yo : Operand}
theorem neq_set (a b : List Int) : Val1 Tryd.prog K (binS .neq 76 xo yo (setV a) (setV b)) u f d w = K (updO f d (.bool (!decide (wordsOf a = wordsOf b)))) w :=
  val1_of u f d w fun w' _ => neq_run w' xo yo _ _ _ (equal_set w' a b)
theorem eql_set (a b : List Int) : Val1 Tryd.prog K (binS .eql 76 xo yo (setV a) (setV b)) u f d w = K (updO f d (.bool (decide (wordsOf a = wordsOf b)))) w :=
  val1_of u f d w fun w' _ => eql_run w' xo yo _ _ _ (equal_set w' a b)
end
end

section
open Go.RowKit

/-- A number's place in a list. -/
def ix (x : Int) : List Int → Nat
  | [] => 0
  | y :: l => if y = x then 0 else ix x l + 1
theorem ix_at {x : Int} : ∀ {l : List Int}, x ∈ l → l.getD (ix x l) 0 = x
  | [], h => absurd h (by simp)
  | y :: l, h => by
    unfold ix
    by_cases e : y = x
    · rw [if_pos e]; exact e
    · rw [if_neg e, List.getD_cons_succ]
      exact ix_at (l := l) ((List.mem_cons.1 h).resolve_left fun h => e h.symm)
theorem ix_inj {l : List Int} {x y : Int} (hx : x ∈ l) (hy : y ∈ l) (h : ix x l = ix y l) : x = y := by rw [← ix_at hx, ← ix_at hy, h]
/-- Those of a list's numbers that stand in a row, by their places. -/
def numL (B l : List Int) : List Int := (l.filter fun x => decide (x ∈ B)).map fun x => (ix x B : Int)
/-- The arrows between some states, by their places. -/
def trimA (B : List Int) (ar : List Arr) : List Arr := (ar.filter fun a => decide (a.frm ∈ B) && decide (a.to_ ∈ B)).map fun a => ⟨ix a.frm B, a.evt, ix a.to_ B⟩
theorem mem_trimA {B : List Int} {ar : List Arr} {b : Arr} : b ∈ trimA B ar ↔ ∃ a ∈ ar, a.frm ∈ B ∧ a.to_ ∈ B ∧ b = ⟨ix a.frm B, a.evt, ix a.to_ B⟩ := by
  unfold trimA
  simp only [List.mem_map, List.mem_filter, Bool.and_eq_true, decide_eq_true_eq]
  exact ⟨fun ⟨a, ⟨h1, h2, h3⟩, h4⟩ => ⟨a, h1, h2, h3, h4.symm⟩, fun ⟨a, h1, h2, h3, h4⟩ => ⟨a, ⟨h1, h2, h3⟩, h4.symm⟩⟩
/-- Arrows in order. -/
def OrdA (l : List Arr) : Prop := l.Pairwise Arr.lt
theorem Arr.lt_trans {a b c : Arr} (h : a.lt b) (k : b.lt c) : a.lt c := by unfold Arr.lt at *; omega
theorem OrdA.of_step : ∀ {l : List Arr}, (∀ i, i < l.length → 0 < i → (l.getD (i - 1) default).lt (l.getD i default)) → OrdA l
  | [], _ => List.Pairwise.nil
  | [a], _ => by simp [OrdA]
  | a :: b :: l, h => by
    have ih : OrdA (b :: l) := OrdA.of_step fun i hi h0 => by
      have := h (i + 1) (by simpa using hi) (by omega)
      rw [Nat.add_sub_cancel] at this
      match i, h0 with
      | i + 1, _ => simpa using this
    have hab : a.lt b := by have := h 1 (by simp) (by omega); simpa using this
    refine List.Pairwise.cons (fun c hc => ?_) ih
    rcases List.mem_cons.1 hc with rfl | hc
    · exact hab
    · exact Arr.lt_trans hab ((List.pairwise_cons.1 ih).1 c hc)
theorem May.ord {m : Mach} (h : m.May) : OrdA m.arrows := OrdA.of_step fun i hi h0 => (h.2.2.2.2.2.2.2 i hi).2 h0
theorem OrdA.at_ {l : List Arr} (h : OrdA l) {i j : Nat} (hij : i < j) (hj : j < l.length) : (l.getD i default).lt (l.getD j default) := by
  have := List.pairwise_iff_getElem.1 h i j (by omega) hj hij
  simpa [List.getD_eq_getElem?_getD, hj, show i < l.length by omega] using this
/-- The machine of some states alone. -/
def trimM (m : Mach) (B : List Int) : Mach := ⟨max (B.length : Int) 1, m.events, numL B m.starts, trimA B m.arrows, numL B m.ends⟩
abbrev allA : Arr → Bool := fun _ => true
def ReachP (m : Mach) (x : Int) : Prop := Clos (eds allA false m.arrows) m.starts x
def LiveP (m : Mach) (x : Int) : Prop := Clos (eds allA true m.arrows) m.ends x
theorem ReachP.step {m : Mach} {a : Arr} (ha : a ∈ m.arrows) (h : ReachP m a.frm) : ReachP m a.to_ := Clos.step (a.frm, a.to_) (mem_eds.2 ⟨a, ha, rfl, rfl⟩) h
theorem LiveP.step {m : Mach} {a : Arr} (ha : a ∈ m.arrows) (h : LiveP m a.to_) : LiveP m a.frm := Clos.step (a.to_, a.frm) (mem_eds.2 ⟨a, ha, rfl, rfl⟩) h
theorem ReachP.lt {m : Mach} (hm : m.May) {x : Int} (h : ReachP m x) : 0 ≤ x ∧ x < m.states := by
  refine Clos.all (p := fun x => 0 ≤ x ∧ x < m.states) (fun x hx => by have := (may_starts hm).mem hx; exact ⟨this.1, this.2.1⟩) (fun e he _ => ?_) h
  obtain ⟨a, ha, _, rfl⟩ := mem_eds.1 he
  exact (May.arr hm ha).2.1
theorem LiveP.lt {m : Mach} (hm : m.May) {x : Int} (h : LiveP m x) : 0 ≤ x ∧ x < m.states := by
  refine Clos.all (p := fun x => 0 ≤ x ∧ x < m.states) (fun x hx => by have := (may_ends hm).mem hx; exact ⟨this.1, this.2.1⟩) (fun e he _ => ?_) h
  obtain ⟨a, ha, _, rfl⟩ := mem_eds.1 he
  exact (May.arr hm ha).1
noncomputable def reachL (m : Mach) : List Int := pick (ReachP m)
noncomputable def liveL (m : Mach) : List Int := pick (LiveP m)
noncomputable def bothL (m : Mach) : List Int := onlyL (reachL m) (liveL m) true
theorem mem_onlyT {l k : List Int} {x : Int} : x ∈ onlyL l k true ↔ x ∈ l ∧ x ∈ k := by unfold onlyL; simp [List.mem_filter]
theorem mem_both {m : Mach} (hm : m.May) {x : Int} : x ∈ bothL m ↔ ReachP m x ∧ LiveP m x := by
  have h256 : m.states ≤ 256 := hm.2.1
  unfold bothL
  rw [mem_onlyT, reachL, liveL, mem_pick, mem_pick]
  exact ⟨fun h => ⟨h.1.2, h.2.2⟩, fun h => by have := h.1.lt hm; exact ⟨⟨⟨by omega, by omega⟩, h.1⟩, ⟨⟨by omega, by omega⟩, h.2⟩⟩⟩
theorem mem_stepL {m : Mach} {l : List Int} {e x : Int} : x ∈ stepL m l e ↔ ∃ a ∈ m.arrows, a.evt = e ∧ a.frm ∈ l ∧ a.to_ = x := by
  unfold stepL stepT
  rw [(sortedL_spec _).2]
  simp only [List.mem_map, List.mem_filter, Bool.and_eq_true, decide_eq_true_eq]
  exact ⟨fun ⟨a, ⟨h1, h2, h3⟩, h4⟩ => ⟨a, h1, h2, h3, h4⟩, fun ⟨a, h1, h2, h3, h4⟩ => ⟨a, ⟨h1, h2, h3⟩, h4⟩⟩
/-- Two places of the two machines. -/
def TrimR (m : Mach) (l l' : List Int) : Prop := (∀ x ∈ l, ReachP m x) ∧ ∀ i, i ∈ l' ↔ ∃ x ∈ l, x ∈ bothL m ∧ (ix x (bothL m) : Int) = i
theorem TrimR.step {m : Mach} (hm : m.May) {l l' : List Int} (h : TrimR m l l') (e : Int) : TrimR m (stepL m l e) (stepL (trimM m (bothL m)) l' e) := by
  refine ⟨fun x hx => ?_, fun i => ?_⟩
  · obtain ⟨a, ha, _, hf, rfl⟩ := mem_stepL.1 hx
    exact (h.1 _ hf).step ha
  · rw [mem_stepL]
    constructor
    · rintro ⟨b, hb, he, hf, rfl⟩
      obtain ⟨a, ha, h1, h2, rfl⟩ := mem_trimA.1 hb
      obtain ⟨x, hx, hxb, hix⟩ := (h.2 _).1 hf
      obtain rfl := ix_inj hxb h1 (Int.ofNat.inj hix)
      exact ⟨a.to_, mem_stepL.2 ⟨a, ha, he, hx, rfl⟩, h2, rfl⟩
    · rintro ⟨x, hx, hxb, rfl⟩
      obtain ⟨a, ha, he, hf, rfl⟩ := mem_stepL.1 hx
      have hfb : a.frm ∈ bothL m := (mem_both hm).2 ⟨h.1 _ hf, ((mem_both hm).1 hxb).2.step ha⟩
      exact ⟨_, mem_trimA.2 ⟨a, ha, hfb, hxb, rfl⟩, he, (h.2 _).2 ⟨_, hf, hfb, rfl⟩, rfl⟩
theorem TrimR.after {m : Mach} (hm : m.May) : ∀ (word : List Int) {l l' : List Int}, TrimR m l l' → TrimR m (afterL m l word) (afterL (trimM m (bothL m)) l' word)
  | [], _, _, h => h
  | e :: word, _, _, h => TrimR.after hm word (h.step hm e)
end

section
open Go.RowKit

def unA (seen : List Int) : Arr → Bool := fun a => !decide (a.evt ∈ seen)
abbrev unE (m : Mach) (seen : List Int) : List (Int × Int) := eds (unA seen) false m.arrows
/-- States, and what unseen events lead to from them. -/
noncomputable def wideL (m : Mach) (seen l : List Int) : List Int := pick (Clos (unE m seen) l)
theorem unE_lt {m : Mach} (hm : m.May) {seen : List Int} : ∀ p ∈ unE m seen, 0 ≤ p.2 ∧ p.2 < m.states := fun p hp => by
  obtain ⟨a, ha, _, rfl⟩ := mem_eds.1 hp
  exact (May.arr hm ha).2.1
theorem mem_wideL {m : Mach} (hm : m.May) {seen l : List Int} (hl : ∀ x ∈ l, 0 ≤ x ∧ x < m.states) {x : Int} : x ∈ wideL m seen l ↔ Clos (unE m seen) l x := by
  unfold wideL
  rw [mem_pick]
  refine ⟨fun h => h.2, fun h => ⟨?_, h⟩⟩
  have := Clos.all (p := fun x => 0 ≤ x ∧ x < m.states) hl (fun e he _ => unE_lt hm e he) h
  have : m.states ≤ 256 := hm.2.1
  omega
theorem wideL_row {m : Mach} (hm : m.May) {seen l : List Int} (hl : ∀ x ∈ l, 0 ≤ x ∧ x < m.states) : IsRow (wideL m seen l) m.states :=
  pick_row fun x hx => (Clos.all (p := fun x => 0 ≤ x ∧ x < m.states) hl (fun e he _ => unE_lt hm e he) hx).2
theorem wideL_strict (m : Mach) (seen l : List Int) : Strict (wideL m seen l) := pick_strict _
theorem row_range {l : List Int} {b : Int} (h : IsRow l b) : ∀ x ∈ l, 0 ≤ x ∧ x < b := fun x hx => by have := h.mem hx; exact ⟨this.1, this.2.1⟩
theorem stepL_range {m : Mach} (hm : m.May) (l : List Int) (e : Int) : ∀ x ∈ stepL m l e, 0 ≤ x ∧ x < m.states := row_range (stepL_row hm l e)
/-- Where a machine may be when one more event was seen. -/
noncomputable def seeL (m : Mach) (seen l : List Int) (e : Int) : List Int := wideL m seen (stepL m l e)
theorem seeL_row {m : Mach} (hm : m.May) (seen l : List Int) (e : Int) : IsRow (seeL m seen l e) m.states := wideL_row hm (stepL_range hm l e)

/-- Closed under what is not seen. -/
def UnClosed (m : Mach) (seen l : List Int) : Prop := ∀ a ∈ m.arrows, a.evt ∉ seen → a.frm ∈ l → a.to_ ∈ l
end
end Go.Proofs.YtcjedgiglimipaaDoor
