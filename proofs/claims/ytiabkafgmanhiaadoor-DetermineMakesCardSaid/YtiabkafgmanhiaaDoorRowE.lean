/-
  Chapter 1: Join, Meet, Less of the program, Join of the reference, and the keep's has: by their contracts.
-/
import Derived.Test.YtiabkafgmanhiaaDoorRowD
namespace Go.Proofs.YtiabkafgmanhiaaDoor
set_option linter.unusedSimpArgs false
set_option linter.unusedVariables false
set_option linter.unusedSectionVars false
open Go.RowKit

/-- What Join, Meet and Less answer with. -/
def MergeRes (g : Bool → Bool → Bool) (a b : List Int) (w : World) (v : Value) (w' : World) : Prop :=
  ∃ O co o e, v = .tuple #[.slice O o.length co, .int .i64 e] ∧ OwnI w.heap.size 3 w' O co o ∧ Below w.heap.size w w' ∧ (IsRow a 2147483648 ∧ IsRow b 2147483648 → e = 0 ∧ o = mergeL g a b) ∧ (¬ (IsRow a 2147483648 ∧ IsRow b 2147483648) → e = 2 ∧ o = [])

def gJoin (_ _ : Bool) : Bool := true
def gMeet (p q : Bool) : Bool := p && q
def gLess (_ q : Bool) : Bool := !q
theorem row_Meet_1 (p q : Bool) (w : World) : Cal Tryd.prog 110 [.bool p, .bool q] w fun v w1 => v = .bool (gMeet p q) ∧ Same w w1 := by
  refine cal_row_Meet_1 (by simp) 100000 fun Q hQ => ?_
  cases p <;> cases q <;> (simp (disch := first | with_reducible assumption | omega) only [push_cast, x_blk, x_cd, ↓reduceIte, Nat.reduceEqDiff, List.map_cons, List.map_nil, Int.reduceEq, Int.lt_irrefl, F_row_Meet_1]; exact fin_1 (hQ _ _ ⟨rfl, Same.refl _⟩))
theorem row_Meet {w : World} {A A1 : Option Addr} {a b : List Int} (h : Ints (· < w.heap.size) w A a) (h' : Ints (· < w.heap.size) w A1 b) {c c1 : Nat} (hc : a.length ≤ c) (hc1 : b.length ≤ c1) (ha : a.length ≤ 17592186043904) (hb : b.length ≤ 17592186043904) :
    Cal Tryd.prog 79 [.slice A a.length c, .slice A1 b.length c1] w (MergeRes gMeet a b w) := by
  refine cal_row_Meet (by simp) 100000 fun Q hQ => ?_
  simp (disch := first | with_reducible assumption | omega) only [push_cast, x_blk, x_cd, ↓reduceIte, Nat.reduceEqDiff, List.map_cons, List.map_nil, Int.reduceEq, Int.lt_irrefl, F_row_Meet]
  refine call_of (row_merge row_Meet_1 h h' hc hc1 ha hb) ?_
  rintro v w1 ⟨O, co, o, e, rfl, ho, hb, h1, h2⟩
  simp (disch := first | with_reducible assumption | omega) only [push_cast, x_blk, x_cd, ↓reduceIte, Nat.reduceEqDiff, List.map_cons, List.map_nil, Int.reduceEq, Int.lt_irrefl]
  exact fin_2 (hQ _ _ ⟨O, co, o, e, (by simp only [push_cast, ↓reduceIte, Nat.reduceEqDiff, Int.reduceEq]), ho, hb, h1, h2⟩)
theorem keep_has {ok : Nat → Prop} {w : World} {A : Option Addr} {l : List Int} (h : Ints ok w A l) (c : Nat) (b : Int) (hl : l.length ≤ 9223372036854775807) :
    Cal Tryd.prog 97 [.slice A l.length c, .int .i64 b] w fun v w' => v = .bool (decide (b ∈ l)) ∧ Same w w' := by
  refine cal_keep_has (by simp) 100000 fun Q hQ => ?_
  simp (disch := first | with_reducible assumption | omega) only [push_cast, x_blk, x_cd, ↓reduceIte, Nat.reduceEqDiff, List.map_cons, List.map_nil, Int.reduceEq, Int.lt_irrefl, F_keep_has]
  refine loop_rule (fun f w' => ∃ k : Nat, k ≤ l.length ∧ f 0 = .slice A l.length c ∧ f 1 = .int .i64 b ∧ f 5 = .int .i64 k ∧ (∀ i, i < k → l.getD i 0 ≠ b) ∧ Same w w')
    (fun f _ => l.length - (intOf (f 5)).toNat) ⟨0, Nat.zero_le _, rfl, rfl, rfl, fun i hi => absurd hi (by omega), Same.refl w⟩ ?_
  rintro f w1 ⟨k, hk, h0, h1, h5, hpre, hs⟩ J hJ
  have hI := h.same hs
  by_cases hlt : k < l.length
  · have hA := h.isSome (by omega)
    by_cases c1 : l.getD k 0 = b
    · have B : decide (b ∈ l) = true := decide_eq_true (c1 ▸ getD_mem l 0 k hlt)
      simp (disch := first | with_reducible assumption | omega) only [push_cast, x_blk, x_cd, ↓reduceIte, Nat.reduceEqDiff, List.map_cons, List.map_nil, Int.reduceEq, Int.lt_irrefl, L_keep_has_0, h0, h1, h5, hlt, c1, hI.ld ty_ag_3]
      exact fin_1 (hQ _ _ ⟨(by simp only [push_cast, ↓reduceIte, Nat.reduceEqDiff, Int.reduceEq, B]), hs⟩)
    · simp (disch := first | with_reducible assumption | omega) only [push_cast, x_blk, x_cd, ↓reduceIte, Nat.reduceEqDiff, List.map_cons, List.map_nil, Int.reduceEq, Int.lt_irrefl, L_keep_has_0, h0, h1, h5, hlt, c1, hI.ld ty_ag_3]
      exact hJ _ _ ⟨k + 1, hlt, (by simp only [push_cast, ↓reduceIte, Nat.reduceEqDiff, Int.reduceEq, h0]), (by simp only [push_cast, ↓reduceIte, Nat.reduceEqDiff, Int.reduceEq, h1]), (by simp only [push_cast, ↓reduceIte, Nat.reduceEqDiff, Int.reduceEq]), fun i hi => if e : i = k then e ▸ c1 else hpre i (by omega), hs⟩ (by simp only [push_cast, ↓reduceIte, Nat.reduceEqDiff, h5, intOf]; omega)
  · have B : decide (b ∈ l) = false := decide_eq_false fun h => by
      obtain ⟨i, hi, he⟩ := (mem_iff_getD l 0 b).1 h
      exact hpre i (by omega) he
    simp (disch := first | with_reducible assumption | omega) only [push_cast, x_blk, x_cd, ↓reduceIte, Nat.reduceEqDiff, List.map_cons, List.map_nil, Int.reduceEq, Int.lt_irrefl, L_keep_has_0, h0, h1, h5, hlt]
    exact fin_1 (hQ _ _ ⟨(by simp only [push_cast, ↓reduceIte, Nat.reduceEqDiff, Int.reduceEq, B]), hs⟩)
end Go.Proofs.YtiabkafgmanhiaaDoor
