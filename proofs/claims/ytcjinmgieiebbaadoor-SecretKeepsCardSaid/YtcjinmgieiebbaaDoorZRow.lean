/-
  Chapter 1's questions on rows: row.Is, row.Has and the reference's, by their contracts.
  Chapter 1: row.Is, row.Has, the reference's Has, Same: by their contracts.
  Chapter 1: the reference's Only, Sorted, Join: by their contracts.
  Chapter 1: two rows gone over at once (merge), and the three functions made of it: by their contracts.
  Chapter 1: Join, Meet, Less of the program, Join of the reference, and the keep's has: by their contracts.
  Chapter 1, in plain Lean: a merge of two rows is the row of what both have, and so on. No program in sight.
-/
import Derived.Test.YtcjinmgieiebbaaDoorZLaws
import Derived.Test.YtcjinmgieiebbaaDoorZIr
import Derived.Test.YtcjinmgieiebbaaDoorZTy
import Derived.Test.YtcjinmgieiebbaaDoorZOwn
namespace Go.Proofs.YtcjinmgieiebbaaDoor
set_option linter.unusedSimpArgs false
set_option linter.unusedVariables false
set_option linter.unusedSectionVars false
section
open Go.RowKit

def RowAt (l : List Int) (b : Int) (i : Nat) : Prop := 0 ≤ l.getD i 0 ∧ l.getD i 0 < b ∧ l.getD i 0 < 2147483648 ∧ (0 < i → l.getD (i - 1) 0 < l.getD i 0)
instance (l : List Int) (b : Int) (i : Nat) : Decidable (RowAt l b i) := by unfold RowAt; exact inferInstance
/-- A row below a number. -/
def IsRow (l : List Int) (b : Int) : Prop := ∀ i, i < l.length → RowAt l b i
instance (l : List Int) (b : Int) : Decidable (IsRow l b) := by unfold IsRow; exact inferInstance

theorem ref1_Is {ok : Nat → Prop} {w : World} {A : Option Addr} {l : List Int} (h : Ints ok w A l) (c : Nat) (b : Int) (hl : l.length ≤ 9223372036854775807) :
    Cal Tryd.prog 26 [.slice A l.length c, .int .i64 b] w fun v w' => v = .bool (decide (IsRow l b)) ∧ Same w w' := by
  refine cal_ref1_Is (by simp) 100000 fun Q hQ => ?_
  simp only [F_ref1_Is, push_cast]
  refine loop_rule (fun f w' => ∃ k : Nat, k ≤ l.length ∧ f 0 = .slice A l.length c ∧ f 1 = .int .i64 b ∧ f 5 = .int .i64 k ∧ (∀ i, i < k → RowAt l b i) ∧ Same w w')
    (fun f _ => l.length - (intOf (f 5)).toNat) ⟨0, Nat.zero_le _, rfl, rfl, rfl, fun i hi => absurd hi (by omega), Same.refl w⟩ ?_
  rintro f w1 ⟨k, hk, h0, h1, h5, hpre, hs⟩ J hJ
  have hI := (h.same hs).drew
  by_cases hlt : k < l.length
  · have hA := h.isSome (by omega)
    have bad : ¬ RowAt l b k → decide (IsRow l b) = false := fun h1 => decide_eq_false fun h2 => h1 (h2 k hlt)
    have e1 : ((k : Int) - 1).toNat = k - 1 := by omega
    have good : RowAt l b k → ∀ i, i < k + 1 → RowAt l b i := fun h1 i hi => if e : i = k then e ▸ h1 else hpre i (by omega)
    by_cases c1 : l.getD k 0 < 0
    · have B := bad fun h => by have := h.1; omega
      simp (disch := first | with_reducible assumption | omega) only [push_cast, x_blk, x_cd, ↓reduceIte, Nat.reduceEqDiff, List.map_cons, List.map_nil, Int.reduceEq, Int.lt_irrefl, L_ref1_Is_0, h0, h1, h5, hlt, c1, hI.ld ty_ag_3]
      exact fin_1 (hQ _ _ ⟨(by simp only [push_cast, ↓reduceIte, Nat.reduceEqDiff, Int.reduceEq, B]), hs.drew⟩)
    by_cases c2 : b ≤ l.getD k 0
    · have B := bad fun h => by have := h.2.1; omega
      simp (disch := first | with_reducible assumption | omega) only [push_cast, x_blk, x_cd, ↓reduceIte, Nat.reduceEqDiff, List.map_cons, List.map_nil, Int.reduceEq, Int.lt_irrefl, L_ref1_Is_0, h0, h1, h5, hlt, c1, c2, hI.ld ty_ag_3]
      exact fin_1 (hQ _ _ ⟨(by simp only [push_cast, ↓reduceIte, Nat.reduceEqDiff, Int.reduceEq, B]), hs.drew⟩)
    by_cases c3 : 2147483648 ≤ l.getD k 0
    · have B := bad fun h => by have := h.2.2.1; omega
      simp (disch := first | with_reducible assumption | omega) only [push_cast, x_blk, x_cd, ↓reduceIte, Nat.reduceEqDiff, List.map_cons, List.map_nil, Int.reduceEq, Int.lt_irrefl, L_ref1_Is_0, h0, h1, h5, hlt, c1, c2, c3, hI.ld ty_ag_3]
      exact fin_1 (hQ _ _ ⟨(by simp only [push_cast, ↓reduceIte, Nat.reduceEqDiff, Int.reduceEq, B]), hs.drew⟩)
    by_cases c4 : (0 : Int) < k
    · by_cases c5 : l.getD k 0 ≤ l.getD (k - 1) 0
      · have B := bad fun h => by have := h.2.2.2 (by omega); omega
        simp (disch := first | with_reducible assumption | omega) only [push_cast, x_blk, x_cd, ↓reduceIte, Nat.reduceEqDiff, List.map_cons, List.map_nil, Int.reduceEq, Int.lt_irrefl, L_ref1_Is_0, h0, h1, h5, hlt, c1, c2, c3, c4, c5, e1, hI.ld ty_ag_3]
        exact fin_1 (hQ _ _ ⟨(by simp only [push_cast, ↓reduceIte, Nat.reduceEqDiff, Int.reduceEq, B]), hs.drew⟩)
      · have G := good ⟨by omega, by omega, by omega, fun _ => by omega⟩
        simp (disch := first | with_reducible assumption | omega) only [push_cast, x_blk, x_cd, ↓reduceIte, Nat.reduceEqDiff, List.map_cons, List.map_nil, Int.reduceEq, Int.lt_irrefl, L_ref1_Is_0, h0, h1, h5, hlt, c1, c2, c3, c4, c5, e1, hI.ld ty_ag_3]
        exact hJ _ _ ⟨k + 1, hlt, (by simp only [push_cast, ↓reduceIte, Nat.reduceEqDiff, Int.reduceEq, h0]), (by simp only [push_cast, ↓reduceIte, Nat.reduceEqDiff, Int.reduceEq, h1]), (by simp only [push_cast, ↓reduceIte, Nat.reduceEqDiff, Int.reduceEq]), G, hs.drew⟩ (by simp only [push_cast, ↓reduceIte, Nat.reduceEqDiff, h5, intOf]; omega)
    · have G := good ⟨by omega, by omega, by omega, fun _ => by omega⟩
      simp (disch := first | with_reducible assumption | omega) only [push_cast, x_blk, x_cd, ↓reduceIte, Nat.reduceEqDiff, List.map_cons, List.map_nil, Int.reduceEq, Int.lt_irrefl, L_ref1_Is_0, h0, h1, h5, hlt, c1, c2, c3, c4, hI.ld ty_ag_3]
      exact hJ _ _ ⟨k + 1, hlt, (by simp only [push_cast, ↓reduceIte, Nat.reduceEqDiff, Int.reduceEq, h0]), (by simp only [push_cast, ↓reduceIte, Nat.reduceEqDiff, Int.reduceEq, h1]), (by simp only [push_cast, ↓reduceIte, Nat.reduceEqDiff, Int.reduceEq]), G, hs.drew⟩ (by simp only [push_cast, ↓reduceIte, Nat.reduceEqDiff, h5, intOf]; omega)
  · have B : decide (IsRow l b) = true := decide_eq_true fun i hi => hpre i (by omega)
    simp (disch := first | with_reducible assumption | omega) only [push_cast, x_blk, x_cd, ↓reduceIte, Nat.reduceEqDiff, List.map_cons, List.map_nil, Int.reduceEq, Int.lt_irrefl, L_ref1_Is_0, h0, h1, h5, hlt]
    exact fin_1 (hQ _ _ ⟨(by simp only [push_cast, ↓reduceIte, Nat.reduceEqDiff, Int.reduceEq, B]), hs⟩)
end

section
open Go.RowKit

theorem row_Is {ok : Nat → Prop} {w : World} {A : Option Addr} {l : List Int} (h : Ints ok w A l) (c : Nat) (b : Int) (hl : l.length ≤ 9223372036854775807) :
    Cal Tryd.prog 43 [.slice A l.length c, .int .i64 b] w fun v w' => v = .bool (decide (IsRow l b)) ∧ Same w w' := by
  refine cal_row_Is (by simp) 100000 fun Q hQ => ?_
  simp (disch := first | with_reducible assumption | omega) only [push_cast, x_blk, x_cd, ↓reduceIte, Nat.reduceEqDiff, List.map_cons, List.map_nil, Int.reduceEq, Int.lt_irrefl, F_row_Is]
  refine loop_rule (fun f w' => ∃ k : Nat, k ≤ l.length ∧ f 1 = .int .i64 b ∧ f 5 = .int .i64 (if k = 0 then -1 else l.getD (k - 1) 0) ∧ f 8 = .slice A l.length c ∧ f 9 = .int .i64 l.length ∧ f 10 = .int .i64 k ∧ (∀ i, i < k → RowAt l b i) ∧ Same w w')
    (fun f _ => l.length - (intOf (f 10)).toNat) ⟨0, Nat.zero_le _, rfl, rfl, rfl, rfl, rfl, fun i hi => absurd hi (by omega), Same.refl w⟩ ?_
  rintro f w1 ⟨k, hk, h1, h5, h8, h9, h10, hpre, hs⟩ J hJ
  have hI := h.same hs
  by_cases hlt : k < l.length
  · have hA := h.isSome (by omega)
    have bad : ¬ RowAt l b k → decide (IsRow l b) = false := fun h1 => decide_eq_false fun h2 => h1 (h2 k hlt)
    have good : RowAt l b k → ∀ i, i < k + 1 → RowAt l b i := fun h1 i hi => if e : i = k then e ▸ h1 else hpre i (by omega)
    have hlast : (if k = 0 then -1 else l.getD (k - 1) 0) < l.getD k 0 ↔ 0 ≤ l.getD k 0 ∧ (0 < k → l.getD (k - 1) 0 < l.getD k 0) := by
      by_cases h0 : k = 0
      · rw [if_pos h0]; exact ⟨fun h => ⟨by omega, fun h1 => absurd h1 (by omega)⟩, fun h => by have := h.1; omega⟩
      · have h2 := (hpre (k - 1) (by omega)).1
        rw [if_neg h0]; exact ⟨fun h => ⟨by omega, fun _ => h⟩, fun h => h.2 (by omega)⟩
    generalize (if k = 0 then -1 else l.getD (k - 1) 0) = last at *
    by_cases c1 : l.getD k 0 ≤ last
    · have B := bad fun h => by have := hlast.2 ⟨h.1, h.2.2.2⟩; omega
      simp (disch := first | with_reducible assumption | omega) only [push_cast, x_blk, x_cd, ↓reduceIte, Nat.reduceEqDiff, List.map_cons, List.map_nil, Int.reduceEq, Int.lt_irrefl, L_row_Is_0, h1, h5, h8, h9, h10, hlt, c1, hI.ld ty_ag_3]
      exact fin_1 (hQ _ _ ⟨(by simp only [push_cast, ↓reduceIte, Nat.reduceEqDiff, Int.reduceEq, B]), hs⟩)
    have hl := hlast.1 (by omega)
    by_cases c2 : min b 2147483648 ≤ l.getD k 0
    · have B := bad fun h => by have := h.2; omega
      simp (disch := first | with_reducible assumption | omega) only [push_cast, x_blk, x_cd, ↓reduceIte, Nat.reduceEqDiff, List.map_cons, List.map_nil, Int.reduceEq, Int.lt_irrefl, L_row_Is_0, h1, h5, h8, h9, h10, hlt, c1, c2, hI.ld ty_ag_3]
      exact fin_1 (hQ _ _ ⟨(by simp only [push_cast, ↓reduceIte, Nat.reduceEqDiff, Int.reduceEq, B]), hs⟩)
    · have G := good ⟨hl.1, by omega, by omega, hl.2⟩
      simp (disch := first | with_reducible assumption | omega) only [push_cast, x_blk, x_cd, ↓reduceIte, Nat.reduceEqDiff, List.map_cons, List.map_nil, Int.reduceEq, Int.lt_irrefl, L_row_Is_0, h1, h5, h8, h9, h10, hlt, c1, c2, hI.ld ty_ag_3]
      exact hJ _ _ ⟨k + 1, hlt, (by simp only [push_cast, ↓reduceIte, Nat.reduceEqDiff, Int.reduceEq, h1]), (by simp only [push_cast, ↓reduceIte, Nat.reduceEqDiff, Int.reduceEq, Nat.add_one_ne_zero, Nat.add_sub_cancel]), (by simp only [push_cast, ↓reduceIte, Nat.reduceEqDiff, Int.reduceEq, h8]), (by simp only [push_cast, ↓reduceIte, Nat.reduceEqDiff, Int.reduceEq, h9]), (by simp only [push_cast, ↓reduceIte, Nat.reduceEqDiff, Int.reduceEq]), G, hs⟩ (by simp only [push_cast, ↓reduceIte, Nat.reduceEqDiff, h10, intOf]; omega)
  · have B : decide (IsRow l b) = true := decide_eq_true fun i hi => hpre i (by omega)
    simp (disch := first | with_reducible assumption | omega) only [push_cast, x_blk, x_cd, ↓reduceIte, Nat.reduceEqDiff, List.map_cons, List.map_nil, Int.reduceEq, Int.lt_irrefl, L_row_Is_0, h1, h5, h8, h9, h10, hlt]
    exact fin_1 (hQ _ _ ⟨(by simp only [push_cast, ↓reduceIte, Nat.reduceEqDiff, Int.reduceEq, B]), hs⟩)

theorem slices_Index {ok : Nat → Prop} {w : World} {A : Option Addr} {l : List Int} (h : Ints ok w A l) (c : Nat) (b : Int) (hl : l.length ≤ 9223372036854775807) :
    Cal Tryd.prog 112 [.slice A l.length c, .int .i64 b] w fun v w' => (∃ k : Int, v = .int .i64 k ∧ (0 ≤ k ↔ b ∈ l)) ∧ Same w w' := by
  refine cal_slices_Index (by simp) 100000 fun Q hQ => ?_
  simp (disch := first | with_reducible assumption | omega) only [push_cast, x_blk, x_cd, ↓reduceIte, Nat.reduceEqDiff, List.map_cons, List.map_nil, Int.reduceEq, Int.lt_irrefl, F_slices_Index]
  refine loop_rule (fun f w' => ∃ k : Nat, k ≤ l.length ∧ f 0 = .slice A l.length c ∧ f 1 = .int .i64 b ∧ f 7 = .int .i64 l.length ∧ f 8 = .int .i64 k ∧ (∀ i, i < k → l.getD i 0 ≠ b) ∧ Same w w')
    (fun f _ => l.length - (intOf (f 8)).toNat) ⟨0, Nat.zero_le _, rfl, rfl, rfl, rfl, fun i hi => absurd hi (by omega), Same.refl w⟩ ?_
  rintro f w1 ⟨k, hk, h0, h1, h7, h8, hpre, hs⟩ J hJ
  have hI := h.same hs
  by_cases hlt : k < l.length
  · have hA := h.isSome (by omega)
    by_cases c1 : b = l.getD k 0
    · simp (disch := first | with_reducible assumption | omega) only [push_cast, x_blk, x_cd, ↓reduceIte, Nat.reduceEqDiff, List.map_cons, List.map_nil, Int.reduceEq, Int.lt_irrefl, L_slices_Index_0, h0, h1, h7, h8, hlt, c1, hI.ld ty_ag_3]
      exact fin_1 (hQ _ _ ⟨⟨k, (by simp only [push_cast, ↓reduceIte, Nat.reduceEqDiff, Int.reduceEq]), fun _ => c1 ▸ getD_mem l 0 k hlt, fun _ => by omega⟩, hs⟩)
    · simp (disch := first | with_reducible assumption | omega) only [push_cast, x_blk, x_cd, ↓reduceIte, Nat.reduceEqDiff, List.map_cons, List.map_nil, Int.reduceEq, Int.lt_irrefl, L_slices_Index_0, h0, h1, h7, h8, hlt, c1, hI.ld ty_ag_3]
      exact hJ _ _ ⟨k + 1, hlt, (by simp only [push_cast, ↓reduceIte, Nat.reduceEqDiff, Int.reduceEq, h0]), (by simp only [push_cast, ↓reduceIte, Nat.reduceEqDiff, Int.reduceEq, h1]), (by simp only [push_cast, ↓reduceIte, Nat.reduceEqDiff, Int.reduceEq, h7]), (by simp only [push_cast, ↓reduceIte, Nat.reduceEqDiff, Int.reduceEq]), fun i hi => if e : i = k then e ▸ fun h => c1 h.symm else hpre i (by omega), hs⟩ (by simp only [push_cast, ↓reduceIte, Nat.reduceEqDiff, h8, intOf]; omega)
  · simp (disch := first | with_reducible assumption | omega) only [push_cast, x_blk, x_cd, ↓reduceIte, Nat.reduceEqDiff, List.map_cons, List.map_nil, Int.reduceEq, Int.lt_irrefl, L_slices_Index_0, h0, h1, h7, h8, hlt]
    refine fin_1 (hQ _ _ ⟨⟨-1, (by simp only [push_cast, ↓reduceIte, Nat.reduceEqDiff, Int.reduceEq]), fun h => absurd h (by omega), fun h => ?_⟩, hs⟩)
    obtain ⟨i, hi, he⟩ := (mem_iff_getD l 0 b).1 h
    exact absurd he (hpre i (by omega))

theorem slices_Contains {ok : Nat → Prop} {w : World} {A : Option Addr} {l : List Int} (h : Ints ok w A l) (c : Nat) (b : Int) (hl : l.length ≤ 9223372036854775807) :
    Cal Tryd.prog 108 [.slice A l.length c, .int .i64 b] w fun v w' => v = .bool (decide (b ∈ l)) ∧ Same w w' := by
  refine cal_slices_Contains (by simp) 100000 fun Q hQ => ?_
  simp (disch := first | with_reducible assumption | omega) only [push_cast, x_blk, x_cd, ↓reduceIte, Nat.reduceEqDiff, List.map_cons, List.map_nil, Int.reduceEq, Int.lt_irrefl, F_slices_Contains]
  refine call_of (slices_Index h c b hl) ?_
  rintro v w' ⟨⟨k, rfl, hk⟩, hs⟩
  simp (disch := first | with_reducible assumption | omega) only [push_cast, x_blk, x_cd, ↓reduceIte, Nat.reduceEqDiff, List.map_cons, List.map_nil, Int.reduceEq, Int.lt_irrefl]
  exact fin_1 (hQ _ _ ⟨(by simp only [push_cast, ↓reduceIte, Nat.reduceEqDiff, Int.reduceEq, hk]), hs⟩)

theorem row_Has {ok : Nat → Prop} {w : World} {A : Option Addr} {l : List Int} (h : Ints ok w A l) (c : Nat) (b : Int) (hl : l.length ≤ 9223372036854775807) :
    Cal Tryd.prog 87 [.slice A l.length c, .int .i64 b] w fun v w' => v = .bool (decide (b ∈ l)) ∧ Same w w' := by
  refine cal_row_Has (by simp) 100000 fun Q hQ => ?_
  simp (disch := first | with_reducible assumption | omega) only [push_cast, x_blk, x_cd, ↓reduceIte, Nat.reduceEqDiff, List.map_cons, List.map_nil, Int.reduceEq, Int.lt_irrefl, F_row_Has]
  refine call_of (slices_Contains h c b hl) ?_
  rintro v w' ⟨rfl, hs⟩
  simp (disch := first | with_reducible assumption | omega) only [push_cast, x_blk, x_cd, ↓reduceIte, Nat.reduceEqDiff, List.map_cons, List.map_nil, Int.reduceEq, Int.lt_irrefl]
  exact fin_1 (hQ _ _ ⟨(by simp only [push_cast, ↓reduceIte, Nat.reduceEqDiff, Int.reduceEq]), hs⟩)

theorem ref1_Has {ok : Nat → Prop} {w : World} {A : Option Addr} {l : List Int} (h : Ints ok w A l) (c : Nat) (b : Int) (hl : l.length ≤ 9223372036854775807) :
    Cal Tryd.prog 69 [.slice A l.length c, .int .i64 b] w fun v w' => v = .bool (decide (b ∈ l)) ∧ Same w w' := by
  refine cal_ref1_Has (by simp) 100000 fun Q hQ => ?_
  simp (disch := first | with_reducible assumption | omega) only [push_cast, x_blk, x_cd, ↓reduceIte, Nat.reduceEqDiff, List.map_cons, List.map_nil, Int.reduceEq, Int.lt_irrefl, F_ref1_Has]
  refine loop_rule (fun f w' => ∃ k : Nat, k ≤ l.length ∧ f 0 = .slice A l.length c ∧ f 1 = .int .i64 b ∧ f 5 = .int .i64 k ∧ (∀ i, i < k → l.getD i 0 ≠ b) ∧ Same w w')
    (fun f _ => l.length - (intOf (f 5)).toNat) ⟨0, Nat.zero_le _, rfl, rfl, rfl, fun i hi => absurd hi (by omega), Same.refl w⟩ ?_
  rintro f w1 ⟨k, hk, h0, h1, h5, hpre, hs⟩ J hJ
  have hI := h.same hs
  by_cases hlt : k < l.length
  · have hA := h.isSome (by omega)
    by_cases c1 : l.getD k 0 = b
    · have B : decide (b ∈ l) = true := decide_eq_true (c1 ▸ getD_mem l 0 k hlt)
      simp (disch := first | with_reducible assumption | omega) only [push_cast, x_blk, x_cd, ↓reduceIte, Nat.reduceEqDiff, List.map_cons, List.map_nil, Int.reduceEq, Int.lt_irrefl, L_ref1_Has_0, h0, h1, h5, hlt, c1, hI.ld ty_ag_3]
      exact fin_1 (hQ _ _ ⟨(by simp only [push_cast, ↓reduceIte, Nat.reduceEqDiff, Int.reduceEq, B]), hs⟩)
    · simp (disch := first | with_reducible assumption | omega) only [push_cast, x_blk, x_cd, ↓reduceIte, Nat.reduceEqDiff, List.map_cons, List.map_nil, Int.reduceEq, Int.lt_irrefl, L_ref1_Has_0, h0, h1, h5, hlt, c1, hI.ld ty_ag_3]
      exact hJ _ _ ⟨k + 1, hlt, (by simp only [push_cast, ↓reduceIte, Nat.reduceEqDiff, Int.reduceEq, h0]), (by simp only [push_cast, ↓reduceIte, Nat.reduceEqDiff, Int.reduceEq, h1]), (by simp only [push_cast, ↓reduceIte, Nat.reduceEqDiff, Int.reduceEq]), fun i hi => if e : i = k then e ▸ c1 else hpre i (by omega), hs⟩ (by simp only [push_cast, ↓reduceIte, Nat.reduceEqDiff, h5, intOf]; omega)
  · have B : decide (b ∈ l) = false := decide_eq_false fun h => by
      obtain ⟨i, hi, he⟩ := (mem_iff_getD l 0 b).1 h
      exact hpre i (by omega) he
    simp (disch := first | with_reducible assumption | omega) only [push_cast, x_blk, x_cd, ↓reduceIte, Nat.reduceEqDiff, List.map_cons, List.map_nil, Int.reduceEq, Int.lt_irrefl, L_ref1_Has_0, h0, h1, h5, hlt]
    exact fin_1 (hQ _ _ ⟨(by simp only [push_cast, ↓reduceIte, Nat.reduceEqDiff, Int.reduceEq, B]), hs⟩)

theorem ref1_Same {ok ok' : Nat → Prop} {w : World} {A A' : Option Addr} {l m : List Int} (h : Ints ok w A l) (h' : Ints ok' w A' m) (c c' : Nat) (hl : l.length ≤ 9223372036854775807) :
    Cal Tryd.prog 18 [.slice A l.length c, .slice A' m.length c'] w fun v w' => v = .bool (decide (l = m)) ∧ Same w w' := by
  refine cal_ref1_Same (by simp) 100000 fun Q hQ => ?_
  by_cases hlen : (l.length : Int) = (m.length : Int)
  · have hlen' : l.length = m.length := by omega
    simp (disch := first | with_reducible assumption | omega) only [push_cast, x_blk, x_cd, ↓reduceIte, Nat.reduceEqDiff, List.map_cons, List.map_nil, Int.reduceEq, Int.lt_irrefl, F_ref1_Same, hlen]
    refine loop_rule (fun f w' => ∃ k : Nat, k ≤ l.length ∧ f 0 = .slice A l.length c ∧ f 1 = .slice A' m.length c' ∧ f 5 = .int .i64 k ∧ (∀ i, i < k → l.getD i 0 = m.getD i 0) ∧ Same w w')
      (fun f _ => l.length - (intOf (f 5)).toNat) ⟨0, Nat.zero_le _, rfl, rfl, rfl, fun i hi => absurd hi (by omega), Same.refl w⟩ ?_
    rintro f w1 ⟨k, hk, h0, h1, h5, hpre, hs⟩ J hJ
    have hI := (h.same hs).drew
    have hI' := (h'.same hs).drew
    by_cases hlt : k < l.length
    · have hA := h.isSome (by omega)
      have hA' := h'.isSome (by omega)
      have hlt' : k < m.length := by omega
      by_cases c1 : l.getD k 0 = m.getD k 0
      · simp (disch := first | with_reducible assumption | omega) only [push_cast, x_blk, x_cd, ↓reduceIte, Nat.reduceEqDiff, List.map_cons, List.map_nil, Int.reduceEq, Int.lt_irrefl, L_ref1_Same_0, h0, h1, h5, hlt, c1, hI.ld ty_ag_3, hI'.ld ty_ag_3]
        exact hJ _ _ ⟨k + 1, hlt, (by simp only [push_cast, ↓reduceIte, Nat.reduceEqDiff, Int.reduceEq, h0]), (by simp only [push_cast, ↓reduceIte, Nat.reduceEqDiff, Int.reduceEq, h1]), (by simp only [push_cast, ↓reduceIte, Nat.reduceEqDiff, Int.reduceEq]), fun i hi => if e : i = k then e ▸ c1 else hpre i (by omega), hs.drew⟩ (by simp only [push_cast, ↓reduceIte, Nat.reduceEqDiff, h5, intOf]; omega)
      · have B : decide (l = m) = false := decide_eq_false fun e => c1 (by rw [e])
        simp (disch := first | with_reducible assumption | omega) only [push_cast, x_blk, x_cd, ↓reduceIte, Nat.reduceEqDiff, List.map_cons, List.map_nil, Int.reduceEq, Int.lt_irrefl, L_ref1_Same_0, h0, h1, h5, hlt, c1, hI.ld ty_ag_3, hI'.ld ty_ag_3]
        exact fin_1 (hQ _ _ ⟨(by simp only [push_cast, ↓reduceIte, Nat.reduceEqDiff, Int.reduceEq, B]), hs.drew⟩)
    · have B : decide (l = m) = true := decide_eq_true (ext_getD 0 hlen' fun i hi => hpre i (by omega))
      simp (disch := first | with_reducible assumption | omega) only [push_cast, x_blk, x_cd, ↓reduceIte, Nat.reduceEqDiff, List.map_cons, List.map_nil, Int.reduceEq, Int.lt_irrefl, L_ref1_Same_0, h0, h1, h5, hlt]
      exact fin_1 (hQ _ _ ⟨(by simp only [push_cast, ↓reduceIte, Nat.reduceEqDiff, Int.reduceEq, B]), hs⟩)
  · have B : decide (l = m) = false := decide_eq_false fun e => hlen (by rw [e])
    simp (disch := first | with_reducible assumption | omega) only [push_cast, x_blk, x_cd, ↓reduceIte, Nat.reduceEqDiff, List.map_cons, List.map_nil, Int.reduceEq, Int.lt_irrefl, F_ref1_Same, hlen]
    exact fin_1 (hQ _ _ ⟨(by simp only [push_cast, ↓reduceIte, Nat.reduceEqDiff, Int.reduceEq, B]), Same.refl w⟩)
end

section
open Go.RowKit

theorem Ints.lt {ok : Nat → Prop} {w : World} {A : Option Addr} {l : List Int} (h : Ints ok w A l) : Ints (· < w.heap.size) w A l :=
  ⟨h.isSome, fun hl => by have := World.block_lt_of_cell? w _ (h.cell 0 hl); rwa [eA_block] at this, h.cell⟩

/-- The numbers of a row that are (are not) in another one. -/
def onlyL (l m : List Int) (inn : Bool) : List Int := l.filter fun x => decide (x ∈ m) == inn
theorem onlyL_snoc (l m : List Int) (inn : Bool) (k : Nat) (h : k < l.length) : onlyL (l.take (k + 1)) m inn = onlyL (l.take k) m inn ++ (if (decide (l.getD k 0 ∈ m) == inn) = true then [l.getD k 0] else []) := by
  unfold onlyL
  rw [take_snoc l 0 k h, List.filter_append]
  congr 1
  simp only [List.filter_cons, List.filter_nil]
theorem onlyL_le (l m : List Int) (inn : Bool) (k : Nat) : (onlyL (l.take k) m inn).length ≤ k := by
  unfold onlyL
  have := List.length_filter_le (fun x => decide (x ∈ m) == inn) (l.take k)
  have := List.length_take_le k l
  omega

theorem ref1_Only {w : World} {A A1 : Option Addr} {l m : List Int} (h : Ints (· < w.heap.size) w A l) (h' : Ints (· < w.heap.size) w A1 m) (c c1 : Nat) (inn : Bool) (hl : l.length ≤ 17592186043904) (hm : m.length ≤ 9223372036854775807) :
    Cal Tryd.prog 68 [.slice A l.length c, .slice A1 m.length c1, .bool inn] w fun v w' =>
      ∃ A' c', v = .slice A' (onlyL l m inn).length c' ∧ OwnI w.heap.size 3 w' A' c' (onlyL l m inn) ∧ Below w.heap.size w w' := by
  refine cal_ref1_Only (by simp) 100000 fun Q hQ => ?_
  simp (disch := first | with_reducible assumption | omega) only [push_cast, x_blk, x_cd, ↓reduceIte, Nat.reduceEqDiff, List.map_cons, List.map_nil, Int.reduceEq, Int.lt_irrefl, F_ref1_Only]
  refine loop_rule (fun f w' => ∃ k : Nat, ∃ A' c', k ≤ l.length ∧ f 0 = .slice A l.length c ∧ f 1 = .slice A1 m.length c1 ∧ f 2 = .bool inn ∧ f 7 = .slice A' (onlyL (l.take k) m inn).length c' ∧ f 8 = .int .i64 k ∧
      OwnI w.heap.size 3 w' A' c' (onlyL (l.take k) m inn) ∧ Below w.heap.size w w')
    (fun f _ => l.length - (intOf (f 8)).toNat) ⟨0, none, 0, Nat.zero_le _, rfl, rfl, rfl, rfl, rfl, Own.nil _ _ _ _, Below.refl _ _⟩ ?_
  rintro f w1 ⟨k, A', c', hk, h0, h1, h2, h7, h8, ho, hb⟩ J hJ
  have hI := h.below hb
  by_cases hlt : k < l.length
  · have hA := h.isSome (by omega)
    simp (disch := first | with_reducible assumption | omega) only [push_cast, x_blk, x_cd, ↓reduceIte, Nat.reduceEqDiff, List.map_cons, List.map_nil, Int.reduceEq, Int.lt_irrefl, L_ref1_Only_0, h0, h1, h2, h7, h8, hlt, hI.ld ty_ag_3]
    refine call_of (ref1_Has (h'.below hb) c1 (l.getD k 0) hm) ?_
    rintro v w2 ⟨rfl, hs⟩
    have hI2 := hI.same hs
    have hle := onlyL_le l m inn k
    have hsn := onlyL_snoc l m inn k hlt
    by_cases hin : (decide (l.getD k 0 ∈ m) == inn) = true
    · rw [if_pos hin] at hsn
      simp (disch := first | with_reducible assumption | omega) only [push_cast, x_blk, x_cd, ↓reduceIte, Nat.reduceEqDiff, List.map_cons, List.map_nil, Int.reduceEq, Int.lt_irrefl, h0, h1, h2, h7, h8, hin, hI2.ld ty_ag_3]
      refine app_int slT_22 (ho.same hs) (l.getD k 0) (by omega) (by have := hb.size; rw [hs.heap]; exact this) ?_
      intro A2 c2 w3 ho3 hg hA3 hs3 hz
      simp (disch := first | with_reducible assumption | omega) only [push_cast, x_blk, x_cd, ↓reduceIte, Nat.reduceEqDiff, List.map_cons, List.map_nil, Int.reduceEq, Int.lt_irrefl, h8]
      exact hJ _ _ ⟨k + 1, A2, c2, hlt, (by simp only [push_cast, ↓reduceIte, Nat.reduceEqDiff, Int.reduceEq, h0]), (by simp only [push_cast, ↓reduceIte, Nat.reduceEqDiff, Int.reduceEq, h1]), (by simp only [push_cast, ↓reduceIte, Nat.reduceEqDiff, Int.reduceEq, h2]), (by simp only [push_cast, ↓reduceIte, Nat.reduceEqDiff, Int.reduceEq, hsn, List.length_append, List.length_cons, List.length_nil]), (by simp only [push_cast, ↓reduceIte, Nat.reduceEqDiff, Int.reduceEq]), by rw [hsn]; exact ho3,
        hg.below (hb.trans (hs.below _)) (by have := hb.size; rw [hs.heap]; exact this) ho.geB⟩ (by simp only [push_cast, ↓reduceIte, Nat.reduceEqDiff, h8, intOf]; omega)
    · rw [if_neg hin, List.append_nil] at hsn
      simp (disch := first | with_reducible assumption | omega) only [push_cast, x_blk, x_cd, ↓reduceIte, Nat.reduceEqDiff, List.map_cons, List.map_nil, Int.reduceEq, Int.lt_irrefl, h0, h1, h2, h7, h8, hin]
      exact hJ _ _ ⟨k + 1, A', c', hlt, (by simp only [push_cast, ↓reduceIte, Nat.reduceEqDiff, Int.reduceEq, h0]), (by simp only [push_cast, ↓reduceIte, Nat.reduceEqDiff, Int.reduceEq, h1]), (by simp only [push_cast, ↓reduceIte, Nat.reduceEqDiff, Int.reduceEq, h2]), (by simp only [push_cast, ↓reduceIte, Nat.reduceEqDiff, Int.reduceEq, h7, hsn]), (by simp only [push_cast, ↓reduceIte, Nat.reduceEqDiff, Int.reduceEq]), by rw [hsn]; exact ho.same hs, hb.trans (hs.below _)⟩ (by simp only [push_cast, ↓reduceIte, Nat.reduceEqDiff, h8, intOf]; omega)
  · obtain rfl : k = l.length := by omega
    rw [List.take_length] at h7 ho
    simp (disch := first | with_reducible assumption | omega) only [push_cast, x_blk, x_cd, ↓reduceIte, Nat.reduceEqDiff, List.map_cons, List.map_nil, Int.reduceEq, Int.lt_irrefl, L_ref1_Only_0, h0, h1, h2, h7, h8, Nat.lt_irrefl]
    exact fin_1 (hQ _ _ ⟨A', c', (by simp only [push_cast, ↓reduceIte, Nat.reduceEqDiff, Int.reduceEq, h7]), ho, hb⟩)

def ins (x : Int) : List Int → List Int
  | [] => [x]
  | y :: l => if y < x then y :: ins x l else if y = x then y :: l else x :: y :: l
/-- The row of a list's numbers. -/
def sortedL (l : List Int) : List Int := l.foldl (fun o x => ins x o) []
theorem ins_at (x : Int) : ∀ (o : List Int) (a : Nat), a ≤ o.length → (∀ j, j < a → o.getD j 0 < x) → (a < o.length → ¬ o.getD a 0 < x) →
    ins x o = if a < o.length ∧ o.getD a 0 = x then o else o.take a ++ x :: o.drop a
  | [], a, h, _, _ => by simp at h; subst h; rfl
  | y :: o, 0, _, _, h2 => by
    have h3 : ¬ y < x := by simpa using h2 (by simp)
    unfold ins
    rw [if_neg h3]
    simp only [List.length_cons, Nat.zero_lt_succ, true_and, List.take_zero, List.nil_append, List.drop_zero, List.getD_cons_zero]
  | y :: o, a + 1, h, h1, h2 => by
    have h3 : y < x := by simpa using h1 0 (by omega)
    unfold ins
    rw [if_pos h3, ins_at x o a (by simpa using h) (fun j hj => by simpa using h1 (j + 1) (by omega)) (fun hj => by simpa using h2 (by simpa using hj))]
    simp only [List.length_cons, Nat.add_lt_add_iff_right, List.getD_cons_succ, List.take_succ_cons, List.drop_succ_cons, List.cons_append]
    split <;> rfl
theorem ins_len (x : Int) (o : List Int) : (ins x o).length ≤ o.length + 1 := by
  induction o with
  | nil => simp [ins]
  | cons y o ih => unfold ins; split; · simpa using ih
                   · split <;> simp
theorem sortedL_len (l : List Int) : (sortedL l).length ≤ l.length := by
  have key : ∀ (l o : List Int), (l.foldl (fun o x => ins x o) o).length ≤ o.length + l.length := by
    intro l
    induction l with
    | nil => simp
    | cons x l ih => intro o; have := ih (ins x o); have := ins_len x o; simp only [List.foldl_cons, List.length_cons]; omega
  have := key l []
  simpa [sortedL] using this
theorem sortedL_snoc (l : List Int) (k : Nat) (h : k < l.length) : sortedL (l.take (k + 1)) = ins (l.getD k 0) (sortedL (l.take k)) := by
  unfold sortedL; rw [take_snoc l 0 k h, List.foldl_append]; rfl

theorem ref1_Sorted {w : World} {A : Option Addr} {l : List Int} (h : Ints (· < w.heap.size) w A l) (c : Nat) (hl : l.length ≤ 17592186043904) :
    Cal Tryd.prog 93 [.slice A l.length c] w fun v w' =>
      ∃ A' c', v = .slice A' (sortedL l).length c' ∧ OwnI w.heap.size 3 w' A' c' (sortedL l) ∧ Below w.heap.size w w' := by
  refine cal_ref1_Sorted (by simp) 100000 fun Q hQ => ?_
  simp (disch := first | with_reducible assumption | omega) only [push_cast, x_blk, x_cd, ↓reduceIte, Nat.reduceEqDiff, List.map_cons, List.map_nil, Int.reduceEq, Int.lt_irrefl, F_ref1_Sorted]
  refine loop_rule (fun f w' => ∃ k : Nat, ∃ A' c', k ≤ l.length ∧ f 0 = .slice A l.length c ∧ f 3 = .slice A' (sortedL (l.take k)).length c' ∧ f 4 = .int .i64 k ∧
      OwnI w.heap.size 3 w' A' c' (sortedL (l.take k)) ∧ Below w.heap.size w w')
    (fun f _ => l.length - (intOf (f 4)).toNat) ⟨0, none, 0, Nat.zero_le _, rfl, rfl, rfl, Own.nil _ _ _ _, Below.refl _ _⟩ ?_
  rintro f w1 ⟨k, A', c', hk, h0, h3, h4, ho, hb⟩ J hJ
  by_cases hlt : k < l.length
  · have hA := h.isSome (by omega)
    have hle := sortedL_len (l.take k)
    have hle2 := List.length_take_le k l
    have hsn := sortedL_snoc l k hlt
    generalize sortedL (l.take k) = o at *
    generalize hx : l.getD k 0 = y at *
    simp (disch := first | with_reducible assumption | omega) only [push_cast, x_cd, ↓reduceIte, Nat.reduceEqDiff, L_ref1_Sorted_2, h0, h3, h4, hlt]
    rw [x_blk]
    simp (disch := first | with_reducible assumption | omega) only [push_cast, x_cd, ↓reduceIte, Nat.reduceEqDiff, h0, h3, h4, hlt]
    refine cut (fun f' w' => ∃ a : Nat, a ≤ o.length ∧ (∀ j, j < a → o.getD j 0 < y) ∧ (a < o.length → ¬ o.getD a 0 < y) ∧ f' 0 = .slice A l.length c ∧ f' 3 = .slice A' o.length c' ∧ f' 4 = .int .i64 k ∧ f' 5 = .int .i64 a ∧ Same w1 w') 40000 40000 (by decide) ?_ ?_
    · intro E hE
      simp (disch := first | with_reducible assumption | omega) only [push_cast, x_blk, x_cd, ↓reduceIte, Nat.reduceEqDiff, List.map_cons, List.map_nil, Int.reduceEq, Int.lt_irrefl]
      refine loop_rule (fun f' w' => ∃ a : Nat, a ≤ o.length ∧ (∀ j, j < a → o.getD j 0 < y) ∧ f' 0 = .slice A l.length c ∧ f' 3 = .slice A' o.length c' ∧ f' 4 = .int .i64 k ∧ f' 5 = .int .i64 a ∧ Same w1 w')
        (fun f' _ => o.length - (intOf (f' 5)).toNat) ⟨0, Nat.zero_le _, fun j hj => absurd hj (by omega), (by simp only [push_cast, ↓reduceIte, Nat.reduceEqDiff, Int.reduceEq, h0]), (by simp only [push_cast, ↓reduceIte, Nat.reduceEqDiff, Int.reduceEq, h3]), (by simp only [push_cast, ↓reduceIte, Nat.reduceEqDiff, Int.reduceEq, h4]), (by simp only [push_cast, ↓reduceIte, Nat.reduceEqDiff, Int.reduceEq]), Same.refl _⟩ ?_
      rintro f2 w2 ⟨a, ha, hp, g0, g3, g4, g5, hs⟩ J2 hJ2
      have hI := ((h.below hb).same hs).drew
      have hO := (OwnI.ints (ho.same hs)).drew
      by_cases c1 : a < o.length
      · have hA' := ho.isSome (by omega)
        by_cases c2 : o.getD a 0 < y
        · simp (disch := first | with_reducible assumption | omega) only [push_cast, x_blk, x_cd, ↓reduceIte, Nat.reduceEqDiff, List.map_cons, List.map_nil, Int.reduceEq, Int.lt_irrefl, L_ref1_Sorted_1, g0, g3, g4, g5, c1, c2, hI.ld ty_ag_3, hO.ld ty_ag_3, hx]
          exact hJ2 _ _ ⟨a + 1, c1, fun j hj => if e : j = a then e ▸ c2 else hp j (by omega), (by simp only [push_cast, ↓reduceIte, Nat.reduceEqDiff, Int.reduceEq, g0]), (by simp only [push_cast, ↓reduceIte, Nat.reduceEqDiff, Int.reduceEq, g3]), (by simp only [push_cast, ↓reduceIte, Nat.reduceEqDiff, Int.reduceEq, g4]), (by simp only [push_cast, ↓reduceIte, Nat.reduceEqDiff, Int.reduceEq]), hs.drew⟩ (by simp only [push_cast, ↓reduceIte, Nat.reduceEqDiff, g5, intOf]; omega)
        · simp (disch := first | with_reducible assumption | omega) only [push_cast, x_blk, x_cd, ↓reduceIte, Nat.reduceEqDiff, List.map_cons, List.map_nil, Int.reduceEq, Int.lt_irrefl, L_ref1_Sorted_1, g0, g3, g4, g5, c1, c2, hI.ld ty_ag_3, hO.ld ty_ag_3, hx]
          exact hE _ _ ⟨a, ha, hp, fun _ => c2, (by simp only [push_cast, ↓reduceIte, Nat.reduceEqDiff, Int.reduceEq, g0]), (by simp only [push_cast, ↓reduceIte, Nat.reduceEqDiff, Int.reduceEq, g3]), (by simp only [push_cast, ↓reduceIte, Nat.reduceEqDiff, Int.reduceEq, g4]), (by simp only [push_cast, ↓reduceIte, Nat.reduceEqDiff, Int.reduceEq, g5]), hs.drew⟩
      · simp (disch := first | with_reducible assumption | omega) only [push_cast, x_blk, x_cd, ↓reduceIte, Nat.reduceEqDiff, List.map_cons, List.map_nil, Int.reduceEq, Int.lt_irrefl, L_ref1_Sorted_1, g0, g3, g4, g5, c1]
        exact hE _ _ ⟨a, ha, hp, fun hh => absurd hh c1, (by simp only [push_cast, ↓reduceIte, Nat.reduceEqDiff, Int.reduceEq, g0]), (by simp only [push_cast, ↓reduceIte, Nat.reduceEqDiff, Int.reduceEq, g3]), (by simp only [push_cast, ↓reduceIte, Nat.reduceEqDiff, Int.reduceEq, g4]), (by simp only [push_cast, ↓reduceIte, Nat.reduceEqDiff, Int.reduceEq, g5]), hs.drew⟩
    · rintro f2 w2 ⟨a, ha, hp, hq, g0, g3, g4, g5, hs⟩
      have hI := ((h.below hb).same hs).drew
      have ho2 := ho.same hs.drew
      have hb2 := hb.trans (hs.drew.below w.heap.size)
      have hO := OwnI.ints ho2
      rw [ins_at y o a ha hp hq] at hsn
      by_cases c3 : a < o.length ∧ o.getD a 0 = y
      · have hA' := ho.isSome (by omega)
        rw [if_pos c3] at hsn
        simp (disch := first | with_reducible assumption | omega) only [push_cast, x_blk, x_cd, ↓reduceIte, Nat.reduceEqDiff, List.map_cons, List.map_nil, Int.reduceEq, Int.lt_irrefl, g0, g3, g4, g5, c3.1, c3.2, hI.ld ty_ag_3, hO.ld ty_ag_3, hx]
        exact hJ _ _ ⟨k + 1, A', c', hlt, (by simp only [push_cast, ↓reduceIte, Nat.reduceEqDiff, Int.reduceEq, g0]), (by simp only [push_cast, ↓reduceIte, Nat.reduceEqDiff, Int.reduceEq, g3, hsn]), (by simp only [push_cast, ↓reduceIte, Nat.reduceEqDiff, Int.reduceEq]), by rw [hsn]; exact ho2, hb2⟩ (by simp only [push_cast, ↓reduceIte, Nat.reduceEqDiff, h4, intOf]; omega)
      · rw [if_neg c3] at hsn
        rw [x_sq]
        refine cut (fun f' w' => f' 0 = .slice A l.length c ∧ f' 3 = .slice A' o.length c' ∧ f' 4 = .int .i64 k ∧ f' 5 = .int .i64 a ∧ w' = w2.drew) 10000 20000 (by decide) ?_ ?_
        · intro E hE
          by_cases c1 : a < o.length
          · have hA' := ho.isSome (by omega)
            have c2 : ¬ o.getD a 0 = y := fun e => c3 ⟨c1, e⟩
            simp (disch := first | with_reducible assumption | omega) only [push_cast, x_blk, x_cd, ↓reduceIte, Nat.reduceEqDiff, List.map_cons, List.map_nil, Int.reduceEq, Int.lt_irrefl, g0, g3, g4, g5, c1, c2, hI.ld ty_ag_3, hO.ld ty_ag_3, hx]
            exact hE _ _ ⟨(by simp only [push_cast, ↓reduceIte, Nat.reduceEqDiff, Int.reduceEq, g0]), (by simp only [push_cast, ↓reduceIte, Nat.reduceEqDiff, Int.reduceEq, g3]), (by simp only [push_cast, ↓reduceIte, Nat.reduceEqDiff, Int.reduceEq, g4]), (by simp only [push_cast, ↓reduceIte, Nat.reduceEqDiff, Int.reduceEq, g5]), rfl⟩
          · simp (disch := first | with_reducible assumption | omega) only [push_cast, x_blk, x_cd, ↓reduceIte, Nat.reduceEqDiff, List.map_cons, List.map_nil, Int.reduceEq, Int.lt_irrefl, g0, g3, g4, g5, c1]
            exact hE _ _ ⟨(by simp only [push_cast, ↓reduceIte, Nat.reduceEqDiff, Int.reduceEq, g0]), (by simp only [push_cast, ↓reduceIte, Nat.reduceEqDiff, Int.reduceEq, g3]), (by simp only [push_cast, ↓reduceIte, Nat.reduceEqDiff, Int.reduceEq, g4]), (by simp only [push_cast, ↓reduceIte, Nat.reduceEqDiff, Int.reduceEq, g5]), rfl⟩
        · rintro f3 w3 ⟨e0, e3, e4, e5, rfl⟩
          simp (disch := first | with_reducible assumption | omega) only [push_cast, x_blk, x_cd, ↓reduceIte, Nat.reduceEqDiff, List.map_cons, List.map_nil, Int.reduceEq, Int.lt_irrefl, e0, e3, e4, e5]
          refine app_int slT_22 ho2 0 (by omega) hb2.size ?_
          intro A2 c2 w3 ho3 hg hA3 hs3 hz
          have hb3 := hg.below hb2 hb2.size ho2.geB
          clear ho ho2 hO hg hA3
          simp (disch := first | with_reducible assumption | omega) only [push_cast, x_blk, x_cd, ↓reduceIte, Nat.reduceEqDiff, List.map_cons, List.map_nil, Int.reduceEq, Int.lt_irrefl, e0, e3, e4, e5]
          refine loop_rule (fun f' w' => ∃ j : Nat, ∃ o', a ≤ j ∧ j ≤ o.length ∧ o'.length = o.length + 1 ∧ (∀ i, i ≤ o.length → o'.getD i 0 = if i ≤ j then (o ++ [0]).getD i 0 else o.getD (i - 1) 0) ∧
              f' 0 = .slice A l.length c ∧ f' 3 = .slice A2 (o.length + 1) c2 ∧ f' 4 = .int .i64 k ∧ f' 5 = .int .i64 a ∧ f' 6 = .int .i64 j ∧ OwnI w.heap.size 3 w' A2 c2 o' ∧ Below w.heap.size w w')
            (fun f' _ => (intOf (f' 6)).toNat) ⟨o.length, o ++ [0], ha, Nat.le_refl _, by simp, fun i hi => by rw [if_pos hi], (by simp only [push_cast, ↓reduceIte, Nat.reduceEqDiff, Int.reduceEq, e0]), (by simp only [push_cast, ↓reduceIte, Nat.reduceEqDiff, Int.reduceEq]), (by simp only [push_cast, ↓reduceIte, Nat.reduceEqDiff, Int.reduceEq, e4]), (by simp only [push_cast, ↓reduceIte, Nat.reduceEqDiff, Int.reduceEq, e5]), by simp only [push_cast, ↓reduceIte, Nat.reduceEqDiff]; congr 1; omega, ho3, hb3⟩ ?_
          rintro f4 w4 ⟨j, o', hj1, hj2, hlen, hv, e0, e3, e4, e5, e6, ho4, hb4⟩ J2 hJ2
          have hI4 := h.below hb4
          by_cases c4 : a < j
          · have e1 : ((j : Int) - 1).toNat = j - 1 := by omega
            have hO4 := OwnI.ints ho4
            rw [← hlen] at e3
            simp (disch := first | with_reducible assumption | omega) only [push_cast, x_blk, x_cd, ↓reduceIte, Nat.reduceEqDiff, List.map_cons, List.map_nil, Int.reduceEq, Int.lt_irrefl, L_ref1_Sorted_0, e0, e3, e4, e5, e6, c4, e1, hO4.ld ty_ag_3]
            refine sto_int ty_ag_3 ty_sz_int ho4 j (by omega) _ ?_
            intro w5 ho5 hg5 hz5
            simp (disch := first | with_reducible assumption | omega) only [push_cast, x_blk, x_cd, ↓reduceIte, Nat.reduceEqDiff, List.map_cons, List.map_nil, Int.reduceEq, Int.lt_irrefl, e6]
            refine hJ2 _ _ ⟨j - 1, _, by omega, by omega, by rw [List.length_set]; exact hlen, fun i hi => ?_, (by simp only [push_cast, ↓reduceIte, Nat.reduceEqDiff, Int.reduceEq, e0]), (by simp only [push_cast, ↓reduceIte, Nat.reduceEqDiff, Int.reduceEq, e3, hlen]), (by simp only [push_cast, ↓reduceIte, Nat.reduceEqDiff, Int.reduceEq, e4]), (by simp only [push_cast, ↓reduceIte, Nat.reduceEqDiff, Int.reduceEq, e5]), by simp only [push_cast, ↓reduceIte, Nat.reduceEqDiff]; congr 1; omega, ho5, hg5.below hb4 (by have := hb4.size; exact this) ho4.geB⟩ (by simp only [push_cast, ↓reduceIte, Nat.reduceEqDiff, e6, intOf]; omega)
            rw [getD_set _ _ _ _ _ (by omega)]
            by_cases ei : i = j
            · rw [if_pos ei, if_neg (by omega), hv (j - 1) (by omega), if_pos (by omega), getD_append_left _ _ _ _ (by omega), ei]
            · rw [if_neg ei, hv i hi]
              by_cases ej : i ≤ j
              · rw [if_pos ej, if_pos (by omega)]
              · rw [if_neg ej, if_neg (by omega)]
          · obtain rfl : j = a := by omega
            rw [← hlen] at e3
            have hfin : o'.set j y = o.take j ++ y :: o.drop j := by
              refine ext_getD 0 (by simp; omega) fun i hi => ?_
              rw [List.length_set] at hi
              rw [getD_set _ _ _ _ _ (by omega), hv i (by omega)]
              by_cases ei : i < j
              · rw [if_neg (by omega), if_pos (by omega), getD_append_left o _ _ _ (by omega), getD_append_left (o.take j) _ _ _ (by simp; omega)]
                simp [List.getD_eq_getElem?_getD, List.getElem?_take, ei]
              · rw [getD_append_right (o.take j) _ _ _ (by simp; omega)]
                have ht : (o.take j).length = j := by simp; omega
                rw [ht]
                by_cases ej : i = j
                · rw [if_pos ej]; subst ej; simp
                · rw [if_neg ej, if_neg (by omega), show i - j = (i - j - 1) + 1 by omega, List.getD_cons_succ]
                  simp only [List.getD_eq_getElem?_getD, List.getElem?_drop]
                  congr 2; omega
            simp (disch := first | with_reducible assumption | omega) only [push_cast, x_blk, x_cd, ↓reduceIte, Nat.reduceEqDiff, List.map_cons, List.map_nil, Int.reduceEq, Int.lt_irrefl, L_ref1_Sorted_0, e0, e3, e4, e5, e6, Nat.lt_irrefl, hI4.ld ty_ag_3, hx]
            refine sto_int ty_ag_3 ty_sz_int ho4 j (by omega) _ ?_
            intro w5 ho5 hg5 hz5
            rw [hfin, ← hsn] at ho5
            have hlen5 : (sortedL (l.take (k + 1))).length = o'.length := by rw [hsn]; simp; omega
            simp (disch := first | with_reducible assumption | omega) only [push_cast, x_blk, x_cd, ↓reduceIte, Nat.reduceEqDiff, List.map_cons, List.map_nil, Int.reduceEq, Int.lt_irrefl, e4]
            exact hJ _ _ ⟨k + 1, A2, c2, hlt, (by simp only [push_cast, ↓reduceIte, Nat.reduceEqDiff, Int.reduceEq, e0]), (by simp only [push_cast, ↓reduceIte, Nat.reduceEqDiff, Int.reduceEq, e3, hlen5]), (by simp only [push_cast, ↓reduceIte, Nat.reduceEqDiff, Int.reduceEq, e4]), ho5, hg5.below hb4 hb4.size ho4.geB⟩ (by simp only [push_cast, ↓reduceIte, Nat.reduceEqDiff, e4, h4, intOf]; omega)
  · obtain rfl : k = l.length := by omega
    rw [List.take_length] at h3 ho
    simp (disch := first | with_reducible assumption | omega) only [push_cast, x_blk, x_cd, ↓reduceIte, Nat.reduceEqDiff, List.map_cons, List.map_nil, Int.reduceEq, Int.lt_irrefl, L_ref1_Sorted_2, h0, h3, h4, Nat.lt_irrefl]
    exact fin_1 (hQ _ _ ⟨A', c', (by simp only [push_cast, ↓reduceIte, Nat.reduceEqDiff, Int.reduceEq, h3]), ho, hb⟩)
end

section
open Go.RowKit

theorem IsRow.len {l : List Int} {b : Int} (h : IsRow l b) : l.length ≤ 2147483648 := by
  have key : ∀ i : Nat, i < l.length → (i : Int) ≤ l.getD i 0 := by
    intro i
    induction i with
    | zero => intro hi; exact (h 0 hi).1
    | succ i ih => intro hi; have := ih (by omega); have := (h (i + 1) hi).2.2.2 (by omega); simp only [Nat.add_sub_cancel] at this; omega
  rcases Nat.eq_zero_or_pos l.length with h0 | h0
  · omega
  · have := key (l.length - 1) (by omega); have := (h (l.length - 1) (by omega)).2.2.1; omega

def lenOf : Value → Nat
  | .slice _ n _ => n
  | _ => 0
end

section
open Go.RowKit

end

section
open Go.RowKit

def Strict (l : List Int) : Prop := l.Pairwise (· < ·)
theorem Strict.ext : ∀ {l m : List Int}, Strict l → Strict m → (∀ x, x ∈ l ↔ x ∈ m) → l = m
  | [], [], _, _, _ => rfl
  | [], y :: m, _, _, h => absurd ((h y).2 (List.mem_cons_self ..)) (by simp)
  | x :: l, [], _, _, h => absurd ((h x).1 (List.mem_cons_self ..)) (by simp)
  | x :: l, y :: m, hl, hm, h => by
    have hl' := List.pairwise_cons.1 hl
    have hm' := List.pairwise_cons.1 hm
    have h1 : x = y := by
      have a1 := (h x).1 (List.mem_cons_self ..)
      have a2 := (h y).2 (List.mem_cons_self ..)
      rcases List.mem_cons.1 a1 with e | e
      · exact e
      · rcases List.mem_cons.1 a2 with e2 | e2
        · exact e2.symm
        · have := hm'.1 x e; have := hl'.1 y e2; omega
    subst h1
    rw [Strict.ext hl'.2 hm'.2 fun z => ⟨fun hz => ?_, fun hz => ?_⟩]
    · rcases List.mem_cons.1 ((h z).1 (List.mem_cons_of_mem _ hz)) with e | e
      · have := hl'.1 z hz; omega
      · exact e
    · rcases List.mem_cons.1 ((h z).2 (List.mem_cons_of_mem _ hz)) with e | e
      · have := hm'.1 z hz; omega
      · exact e
theorem IsRow.strict {l : List Int} {b : Int} (h : IsRow l b) : Strict l := by
  have key : ∀ j i : Nat, i < j → j < l.length → l.getD i 0 < l.getD j 0 := by
    intro j
    induction j with
    | zero => intro i hi; omega
    | succ j ih =>
      intro i hi hj
      have h1 := (h (j + 1) hj).2.2.2 (by omega)
      simp only [Nat.add_sub_cancel] at h1
      rcases Nat.lt_or_ge i j with hij | hij
      · have := ih i hij (by omega); omega
      · rw [show i = j by omega]; exact h1
  refine List.pairwise_iff_getElem.2 fun i j hi hj hij => ?_
  have := key j i hij hj
  simpa [List.getD_eq_getElem?_getD, hi, hj] using this
theorem IsRow.of_strict {l : List Int} {b : Int} (h : Strict l) (hb : ∀ x ∈ l, 0 ≤ x ∧ x < b ∧ x < 2147483648) : IsRow l b := fun i hi => by
  have h1 := hb _ (getD_mem l 0 i hi)
  refine ⟨h1.1, h1.2.1, h1.2.2, fun h0 => ?_⟩
  have := List.pairwise_iff_getElem.1 h (i - 1) i (by omega) hi (by omega)
  simpa [List.getD_eq_getElem?_getD, hi, show i - 1 < l.length by omega] using this
theorem IsRow.mem {l : List Int} {b : Int} (h : IsRow l b) {x : Int} (hx : x ∈ l) : 0 ≤ x ∧ x < b ∧ x < 2147483648 := by
  obtain ⟨k, hk, rfl⟩ := (mem_iff_getD l 0 x).1 hx
  have := h k hk
  exact ⟨this.1, this.2.1, this.2.2.1⟩

theorem mem_ins (x z : Int) : ∀ o : List Int, z ∈ ins x o ↔ z = x ∨ z ∈ o
  | [] => by simp [ins]
  | y :: o => by
    unfold ins
    split
    · rw [List.mem_cons, mem_ins x z o, List.mem_cons]; exact ⟨fun h => by rcases h with h | h | h <;> simp [h], fun h => by rcases h with h | h | h <;> simp [h]⟩
    · split
      · rename_i h; subst h; simp
      · simp
theorem strict_ins (x : Int) : ∀ o : List Int, Strict o → Strict (ins x o)
  | [], _ => by simp [ins, Strict]
  | y :: o, h => by
    have h' := List.pairwise_cons.1 h
    unfold ins
    split
    · rename_i hlt
      refine List.pairwise_cons.2 ⟨fun z hz => ?_, strict_ins x o h'.2⟩
      rcases (mem_ins x z o).1 hz with e | e
      · omega
      · exact h'.1 z e
    · split
      · exact h
      · refine List.pairwise_cons.2 ⟨fun z hz => ?_, h⟩
        rcases List.mem_cons.1 hz with e | e
        · omega
        · have := h'.1 z e; omega
theorem sortedL_spec (l : List Int) : Strict (sortedL l) ∧ ∀ z, z ∈ sortedL l ↔ z ∈ l := by
  have key : ∀ (l o : List Int), Strict o → Strict (l.foldl (fun o x => ins x o) o) ∧ ∀ z, z ∈ l.foldl (fun o x => ins x o) o ↔ z ∈ o ∨ z ∈ l := by
    intro l
    induction l with
    | nil => intro o h; simp [h]
    | cons x l ih =>
      intro o h
      obtain ⟨h1, h2⟩ := ih (ins x o) (strict_ins x o h)
      refine ⟨h1, fun z => ?_⟩
      rw [List.foldl_cons, h2, mem_ins, List.mem_cons]
      exact ⟨fun h => by rcases h with (h | h) | h <;> simp [h], fun h => by rcases h with h | h | h <;> simp [h]⟩
  have := key l [] (by simp [Strict])
  simpa [sortedL] using this

end
end Go.Proofs.YtcjinmgieiebbaaDoor
