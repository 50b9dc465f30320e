/-
  Chapter 1's questions on rows: row.Is, row.Has and the reference's, by their contracts.
  Chapter 1: row.Is, row.Has, the reference's Has, Same: by their contracts.
  Chapter 1: the reference's Only, Sorted, Join: by their contracts.
  Chapter 1: two rows gone over at once (merge), and the three functions made of it: by their contracts.
  Chapter 1: Join, Meet, Less of the program, Join of the reference, and the keep's has: by their contracts.
  Chapter 1, in plain Lean: a merge of two rows is the row of what both have, and so on. No program in sight.
-/
import Derived.Test.YtpinjiikiaakaaaZLaws
import Derived.Test.YtpinjiikiaakaaaZIr
import Derived.Test.YtpinjiikiaakaaaZTy
import Derived.Test.YtpinjiikiaakaaaZOwn
namespace Go.Proofs.Ytpinjiikiaakaaa
set_option linter.unusedSimpArgs false
set_option linter.unusedVariables false
set_option linter.unusedSectionVars false
section
open Go.RowKit

def RowAt (l : List Int) (b : Int) (i : Nat) : Prop := 0 ≤ l.getD i 0 ∧ l.getD i 0 < b ∧ l.getD i 0 < 2147483648 ∧ (0 < i → l.getD (i - 1) 0 < l.getD i 0)
instance (l : List Int) (b : Int) (i : Nat) : Decidable (RowAt l b i) := by unfold RowAt; exact inferInstance
/-- A row below a number. -/
def IsRow (l : List Int) (b : Int) : Prop := ∀ i, i < l.length → RowAt l b i
instance (l : List Int) (b : Int) : Decidable (IsRow l b) := by unfold IsRow; exact inferInstance

theorem ref1_Is {ok : Nat → Prop} {w : World} {A : Option Addr} {l : List Int} (h : Ints ok w A l) (c : Nat) (b : Int) (hl : l.length ≤ 9223372036854775807) :
    Cal Try.prog 20 [.slice A l.length c, .int .i64 b] w fun v w' => v = .bool (decide (IsRow l b)) ∧ Same w w' := by
  refine cal_ref1_Is (by simp) 100000 fun Q hQ => ?_
  simp only [F_ref1_Is, push_cast]
  refine loop_rule (fun f w' => ∃ k : Nat, k ≤ l.length ∧ f 0 = .slice A l.length c ∧ f 1 = .int .i64 b ∧ f 5 = .int .i64 k ∧ (∀ i, i < k → RowAt l b i) ∧ Same w w')
    (fun f _ => l.length - (intOf (f 5)).toNat) ⟨0, Nat.zero_le _, rfl, rfl, rfl, fun i hi => absurd hi (by omega), Same.refl w⟩ ?_
  rintro f w1 ⟨k, hk, h0, h1, h5, hpre, hs⟩ J hJ
  have hI := (h.same hs).drew
  by_cases hlt : k < l.length
  · have hA := h.isSome (by omega)
    have bad : ¬ RowAt l b k → decide (IsRow l b) = false := fun h1 => decide_eq_false fun h2 => h1 (h2 k hlt)
    have e1 : ((k : Int) - 1).toNat = k - 1 := by omega
    have good : RowAt l b k → ∀ i, i < k + 1 → RowAt l b i := fun h1 i hi => if e : i = k then e ▸ h1 else hpre i (by omega)
    by_cases c1 : l.getD k 0 < 0
    · have B := bad fun h => by have := h.1; omega
      simp (disch := first | with_reducible assumption | omega) only [push_cast, x_blk, x_cd, ↓reduceIte, Nat.reduceEqDiff, List.map_cons, List.map_nil, Int.reduceEq, Int.lt_irrefl, L_ref1_Is_0, h0, h1, h5, hlt, c1, hI.ld ty_ag_3]
      exact fin_1 (hQ _ _ ⟨(by simp only [push_cast, ↓reduceIte, Nat.reduceEqDiff, Int.reduceEq, B]), hs.drew⟩)
    by_cases c2 : b ≤ l.getD k 0
    · have B := bad fun h => by have := h.2.1; omega
      simp (disch := first | with_reducible assumption | omega) only [push_cast, x_blk, x_cd, ↓reduceIte, Nat.reduceEqDiff, List.map_cons, List.map_nil, Int.reduceEq, Int.lt_irrefl, L_ref1_Is_0, h0, h1, h5, hlt, c1, c2, hI.ld ty_ag_3]
      exact fin_1 (hQ _ _ ⟨(by simp only [push_cast, ↓reduceIte, Nat.reduceEqDiff, Int.reduceEq, B]), hs.drew⟩)
    by_cases c3 : 2147483648 ≤ l.getD k 0
    · have B := bad fun h => by have := h.2.2.1; omega
      simp (disch := first | with_reducible assumption | omega) only [push_cast, x_blk, x_cd, ↓reduceIte, Nat.reduceEqDiff, List.map_cons, List.map_nil, Int.reduceEq, Int.lt_irrefl, L_ref1_Is_0, h0, h1, h5, hlt, c1, c2, c3, hI.ld ty_ag_3]
      exact fin_1 (hQ _ _ ⟨(by simp only [push_cast, ↓reduceIte, Nat.reduceEqDiff, Int.reduceEq, B]), hs.drew⟩)
    by_cases c4 : (0 : Int) < k
    · by_cases c5 : l.getD k 0 ≤ l.getD (k - 1) 0
      · have B := bad fun h => by have := h.2.2.2 (by omega); omega
        simp (disch := first | with_reducible assumption | omega) only [push_cast, x_blk, x_cd, ↓reduceIte, Nat.reduceEqDiff, List.map_cons, List.map_nil, Int.reduceEq, Int.lt_irrefl, L_ref1_Is_0, h0, h1, h5, hlt, c1, c2, c3, c4, c5, e1, hI.ld ty_ag_3]
        exact fin_1 (hQ _ _ ⟨(by simp only [push_cast, ↓reduceIte, Nat.reduceEqDiff, Int.reduceEq, B]), hs.drew⟩)
      · have G := good ⟨by omega, by omega, by omega, fun _ => by omega⟩
        simp (disch := first | with_reducible assumption | omega) only [push_cast, x_blk, x_cd, ↓reduceIte, Nat.reduceEqDiff, List.map_cons, List.map_nil, Int.reduceEq, Int.lt_irrefl, L_ref1_Is_0, h0, h1, h5, hlt, c1, c2, c3, c4, c5, e1, hI.ld ty_ag_3]
        exact hJ _ _ ⟨k + 1, hlt, (by simp only [push_cast, ↓reduceIte, Nat.reduceEqDiff, Int.reduceEq, h0]), (by simp only [push_cast, ↓reduceIte, Nat.reduceEqDiff, Int.reduceEq, h1]), (by simp only [push_cast, ↓reduceIte, Nat.reduceEqDiff, Int.reduceEq]), G, hs.drew⟩ (by simp only [push_cast, ↓reduceIte, Nat.reduceEqDiff, h5, intOf]; omega)
    · have G := good ⟨by omega, by omega, by omega, fun _ => by omega⟩
      simp (disch := first | with_reducible assumption | omega) only [push_cast, x_blk, x_cd, ↓reduceIte, Nat.reduceEqDiff, List.map_cons, List.map_nil, Int.reduceEq, Int.lt_irrefl, L_ref1_Is_0, h0, h1, h5, hlt, c1, c2, c3, c4, hI.ld ty_ag_3]
      exact hJ _ _ ⟨k + 1, hlt, (by simp only [push_cast, ↓reduceIte, Nat.reduceEqDiff, Int.reduceEq, h0]), (by simp only [push_cast, ↓reduceIte, Nat.reduceEqDiff, Int.reduceEq, h1]), (by simp only [push_cast, ↓reduceIte, Nat.reduceEqDiff, Int.reduceEq]), G, hs.drew⟩ (by simp only [push_cast, ↓reduceIte, Nat.reduceEqDiff, h5, intOf]; omega)
  · have B : decide (IsRow l b) = true := decide_eq_true fun i hi => hpre i (by omega)
    simp (disch := first | with_reducible assumption | omega) only [push_cast, x_blk, x_cd, ↓reduceIte, Nat.reduceEqDiff, List.map_cons, List.map_nil, Int.reduceEq, Int.lt_irrefl, L_ref1_Is_0, h0, h1, h5, hlt]
    exact fin_1 (hQ _ _ ⟨(by simp only [push_cast, ↓reduceIte, Nat.reduceEqDiff, Int.reduceEq, B]), hs⟩)
end

section
open Go.RowKit

theorem row_Is {ok : Nat → Prop} {w : World} {A : Option Addr} {l : List Int} (h : Ints ok w A l) (c : Nat) (b : Int) (hl : l.length ≤ 9223372036854775807) :
    Cal Try.prog 14 [.slice A l.length c, .int .i64 b] w fun v w' => v = .bool (decide (IsRow l b)) ∧ Same w w' := by
  refine cal_row_Is (by simp) 100000 fun Q hQ => ?_
  simp (disch := first | with_reducible assumption | omega) only [push_cast, x_blk, x_cd, ↓reduceIte, Nat.reduceEqDiff, List.map_cons, List.map_nil, Int.reduceEq, Int.lt_irrefl, F_row_Is]
  refine loop_rule (fun f w' => ∃ k : Nat, k ≤ l.length ∧ f 1 = .int .i64 b ∧ f 5 = .int .i64 (if k = 0 then -1 else l.getD (k - 1) 0) ∧ f 8 = .slice A l.length c ∧ f 9 = .int .i64 l.length ∧ f 10 = .int .i64 k ∧ (∀ i, i < k → RowAt l b i) ∧ Same w w')
    (fun f _ => l.length - (intOf (f 10)).toNat) ⟨0, Nat.zero_le _, rfl, rfl, rfl, rfl, rfl, fun i hi => absurd hi (by omega), Same.refl w⟩ ?_
  rintro f w1 ⟨k, hk, h1, h5, h8, h9, h10, hpre, hs⟩ J hJ
  have hI := h.same hs
  by_cases hlt : k < l.length
  · have hA := h.isSome (by omega)
    have bad : ¬ RowAt l b k → decide (IsRow l b) = false := fun h1 => decide_eq_false fun h2 => h1 (h2 k hlt)
    have good : RowAt l b k → ∀ i, i < k + 1 → RowAt l b i := fun h1 i hi => if e : i = k then e ▸ h1 else hpre i (by omega)
    have hlast : (if k = 0 then -1 else l.getD (k - 1) 0) < l.getD k 0 ↔ 0 ≤ l.getD k 0 ∧ (0 < k → l.getD (k - 1) 0 < l.getD k 0) := by
      by_cases h0 : k = 0
      · rw [if_pos h0]; exact ⟨fun h => ⟨by omega, fun h1 => absurd h1 (by omega)⟩, fun h => by have := h.1; omega⟩
      · have h2 := (hpre (k - 1) (by omega)).1
        rw [if_neg h0]; exact ⟨fun h => ⟨by omega, fun _ => h⟩, fun h => h.2 (by omega)⟩
    generalize (if k = 0 then -1 else l.getD (k - 1) 0) = last at *
    by_cases c1 : l.getD k 0 ≤ last
    · have B := bad fun h => by have := hlast.2 ⟨h.1, h.2.2.2⟩; omega
      simp (disch := first | with_reducible assumption | omega) only [push_cast, x_blk, x_cd, ↓reduceIte, Nat.reduceEqDiff, List.map_cons, List.map_nil, Int.reduceEq, Int.lt_irrefl, L_row_Is_0, h1, h5, h8, h9, h10, hlt, c1, hI.ld ty_ag_3]
      exact fin_1 (hQ _ _ ⟨(by simp only [push_cast, ↓reduceIte, Nat.reduceEqDiff, Int.reduceEq, B]), hs⟩)
    have hl := hlast.1 (by omega)
    by_cases c2 : min b 2147483648 ≤ l.getD k 0
    · have B := bad fun h => by have := h.2; omega
      simp (disch := first | with_reducible assumption | omega) only [push_cast, x_blk, x_cd, ↓reduceIte, Nat.reduceEqDiff, List.map_cons, List.map_nil, Int.reduceEq, Int.lt_irrefl, L_row_Is_0, h1, h5, h8, h9, h10, hlt, c1, c2, hI.ld ty_ag_3]
      exact fin_1 (hQ _ _ ⟨(by simp only [push_cast, ↓reduceIte, Nat.reduceEqDiff, Int.reduceEq, B]), hs⟩)
    · have G := good ⟨hl.1, by omega, by omega, hl.2⟩
      simp (disch := first | with_reducible assumption | omega) only [push_cast, x_blk, x_cd, ↓reduceIte, Nat.reduceEqDiff, List.map_cons, List.map_nil, Int.reduceEq, Int.lt_irrefl, L_row_Is_0, h1, h5, h8, h9, h10, hlt, c1, c2, hI.ld ty_ag_3]
      exact hJ _ _ ⟨k + 1, hlt, (by simp only [push_cast, ↓reduceIte, Nat.reduceEqDiff, Int.reduceEq, h1]), (by simp only [push_cast, ↓reduceIte, Nat.reduceEqDiff, Int.reduceEq, Nat.add_one_ne_zero, Nat.add_sub_cancel]), (by simp only [push_cast, ↓reduceIte, Nat.reduceEqDiff, Int.reduceEq, h8]), (by simp only [push_cast, ↓reduceIte, Nat.reduceEqDiff, Int.reduceEq, h9]), (by simp only [push_cast, ↓reduceIte, Nat.reduceEqDiff, Int.reduceEq]), G, hs⟩ (by simp only [push_cast, ↓reduceIte, Nat.reduceEqDiff, h10, intOf]; omega)
  · have B : decide (IsRow l b) = true := decide_eq_true fun i hi => hpre i (by omega)
    simp (disch := first | with_reducible assumption | omega) only [push_cast, x_blk, x_cd, ↓reduceIte, Nat.reduceEqDiff, List.map_cons, List.map_nil, Int.reduceEq, Int.lt_irrefl, L_row_Is_0, h1, h5, h8, h9, h10, hlt]
    exact fin_1 (hQ _ _ ⟨(by simp only [push_cast, ↓reduceIte, Nat.reduceEqDiff, Int.reduceEq, B]), hs⟩)

end

section
open Go.RowKit

theorem Ints.lt {ok : Nat → Prop} {w : World} {A : Option Addr} {l : List Int} (h : Ints ok w A l) : Ints (· < w.heap.size) w A l :=
  ⟨h.isSome, fun hl => by have := World.block_lt_of_cell? w _ (h.cell 0 hl); rwa [eA_block] at this, h.cell⟩

def ins (x : Int) : List Int → List Int
  | [] => [x]
  | y :: l => if y < x then y :: ins x l else if y = x then y :: l else x :: y :: l
/-- The row of a list's numbers. -/
def sortedL (l : List Int) : List Int := l.foldl (fun o x => ins x o) []
end

section
open Go.RowKit

theorem IsRow.len {l : List Int} {b : Int} (h : IsRow l b) : l.length ≤ 2147483648 := by
  have key : ∀ i : Nat, i < l.length → (i : Int) ≤ l.getD i 0 := by
    intro i
    induction i with
    | zero => intro hi; exact (h 0 hi).1
    | succ i ih => intro hi; have := ih (by omega); have := (h (i + 1) hi).2.2.2 (by omega); simp only [Nat.add_sub_cancel] at this; omega
  rcases Nat.eq_zero_or_pos l.length with h0 | h0
  · omega
  · have := key (l.length - 1) (by omega); have := (h (l.length - 1) (by omega)).2.2.1; omega

def lenOf : Value → Nat
  | .slice _ n _ => n
  | _ => 0
end

section
open Go.RowKit

end

section
open Go.RowKit

def Strict (l : List Int) : Prop := l.Pairwise (· < ·)
theorem IsRow.mem {l : List Int} {b : Int} (h : IsRow l b) {x : Int} (hx : x ∈ l) : 0 ≤ x ∧ x < b ∧ x < 2147483648 := by
  obtain ⟨k, hk, rfl⟩ := (mem_iff_getD l 0 x).1 hx
  have := h k hk
  exact ⟨this.1, this.2.1, this.2.2.1⟩

theorem mem_ins (x z : Int) : ∀ o : List Int, z ∈ ins x o ↔ z = x ∨ z ∈ o
  | [] => by simp [ins]
  | y :: o => by
    unfold ins
    split
    · rw [List.mem_cons, mem_ins x z o, List.mem_cons]; exact ⟨fun h => by rcases h with h | h | h <;> simp [h], fun h => by rcases h with h | h | h <;> simp [h]⟩
    · split
      · rename_i h; subst h; simp
      · simp
theorem strict_ins (x : Int) : ∀ o : List Int, Strict o → Strict (ins x o)
  | [], _ => by simp [ins, Strict]
  | y :: o, h => by
    have h' := List.pairwise_cons.1 h
    unfold ins
    split
    · rename_i hlt
      refine List.pairwise_cons.2 ⟨fun z hz => ?_, strict_ins x o h'.2⟩
      rcases (mem_ins x z o).1 hz with e | e
      · omega
      · exact h'.1 z e
    · split
      · exact h
      · refine List.pairwise_cons.2 ⟨fun z hz => ?_, h⟩
        rcases List.mem_cons.1 hz with e | e
        · omega
        · have := h'.1 z e; omega
theorem sortedL_spec (l : List Int) : Strict (sortedL l) ∧ ∀ z, z ∈ sortedL l ↔ z ∈ l := by
  have key : ∀ (l o : List Int), Strict o → Strict (l.foldl (fun o x => ins x o) o) ∧ ∀ z, z ∈ l.foldl (fun o x => ins x o) o ↔ z ∈ o ∨ z ∈ l := by
    intro l
    induction l with
    | nil => intro o h; simp [h]
    | cons x l ih =>
      intro o h
      obtain ⟨h1, h2⟩ := ih (ins x o) (strict_ins x o h)
      refine ⟨h1, fun z => ?_⟩
      rw [List.foldl_cons, h2, mem_ins, List.mem_cons]
      exact ⟨fun h => by rcases h with (h | h) | h <;> simp [h], fun h => by rcases h with h | h | h <;> simp [h]⟩
  have := key l [] (by simp [Strict])
  simpa [sortedL] using this

end
end Go.Proofs.Ytpinjiikiaakaaa
