/-
  The laws on sets of rows: they return true.
-/
import Derived.Test.YtkemapljhmoafaaRowL
namespace Go.Proofs.Ytkemapljhmoafaa
open Go.RowKit


theorem law_RowJoins {w : World} {A0 : Option Addr} {c0 : Nat} {l0 : List Int} (h0 : Ints (· < w.heap.size) w A0 l0) (_b0 : ∀ x ∈ l0, I64 x) (n0 : l0.length ≤ 17592186043904) (k0 : l0.length ≤ c0)
    {A1 : Option Addr} {c1 : Nat} {l1 : List Int} (h1 : Ints (· < w.heap.size) w A1 l1) (_b1 : ∀ x ∈ l1, I64 x) (n1 : l1.length ≤ 17592186043904) (k1 : l1.length ≤ c1) :
    Cal Try.prog 4 [.slice A0 l0.length c0, .slice A1 l1.length c1] w fun v w' => v = .bool true ∧ Below w.heap.size w w' := by
  refine cal_law_RowJoins (by simp) 100000 fun Q hQ => ?_
  simp (disch := first | with_reducible assumption | omega) only [push_cast, x_blk, x_cd, ↓reduceIte, Nat.reduceEqDiff, F_law_RowJoins]
  refine call_of (row_Join h0 h1 k0 k1 n0 n1) ?_
  rintro v w1 ⟨O1, d1, o1, e1, rfl, p1, b1, r1, s1⟩
  have g0 := (h0.below b1).lt
  have g1 := (h1.below b1).lt
  simp (disch := first | with_reducible assumption | omega) only [push_cast, x_blk, x_cd, ↓reduceIte, Nat.reduceEqDiff]
  refine call_of (row_Meet g0 g1 k0 k1 n0 n1) ?_
  rintro v w2 ⟨O2, d2, o2, e2, rfl, p2, b2, r2, s2⟩
  have g0' := (g0.below b2).lt
  have g1' := (g1.below b2).lt
  have p1' := p1.below b2 (Nat.le_refl _)
  simp (disch := first | with_reducible assumption | omega) only [push_cast, x_blk, x_cd, ↓reduceIte, Nat.reduceEqDiff]
  refine call_of (row_Less g0' g1' k0 k1 n0 n1) ?_
  rintro v w3 ⟨O3, d3, o3, e3, rfl, p3, b3, r3, s3⟩
  have q1 := p1'.below b3 (Nat.le_refl _)
  have q2 := p2.below b3 (Nat.le_refl _)
  have q0 := (g0'.below b3).lt
  have q1' := (g1'.below b3).lt
  have bb : Below w.heap.size w w3 := (b1.trans (b2.mono b1.size)).trans (b3.mono (Nat.le_trans b1.size b2.size))
  simp (disch := first | with_reducible assumption | omega) only [push_cast, x_blk, x_cd, ↓reduceIte, Nat.reduceEqDiff]
  refine call_of (ref1_Is q0 c0 2147483648 (by omega)) ?_
  rintro v w4 ⟨rfl, t4⟩
  by_cases ra : IsRow l0 2147483648
  · simp (disch := first | with_reducible assumption | omega) only [push_cast, x_blk, x_cd, ↓reduceIte, Nat.reduceEqDiff, ra]
    refine call_of (ref1_Is (q1'.same t4) c1 2147483648 (by omega)) ?_
    rintro v w5 ⟨rfl, t5⟩
    have t := t4.trans t5
    by_cases rb : IsRow l1 2147483648
    · obtain ⟨rfl, x1⟩ := r1 ⟨ra, rb⟩
      obtain ⟨rfl, x2⟩ := r2 ⟨ra, rb⟩
      obtain ⟨rfl, x3⟩ := r3 ⟨ra, rb⟩
      rw [join_eq ra.strict rb.strict] at x1
      rw [meet_eq ra.strict rb.strict] at x2
      rw [less_eq ra.strict rb.strict] at x3
      have na := ra.len
      have nb := rb.len
      simp (disch := first | with_reducible assumption | omega) only [push_cast, x_blk, x_cd, ↓reduceIte, Nat.reduceEqDiff, rb]
      have z0 := (q0.same t).lt
      have z1 := (q1'.same t).lt
      refine call_of (ref1_Join z0 z1 (by omega) (by omega)) ?_
      rintro v w6 ⟨X, cX, rfl, pX, b6⟩
      simp (disch := first | with_reducible assumption | omega) only [push_cast, x_blk, x_cd, ↓reduceIte, Nat.reduceEqDiff]
      refine call_of (ref1_Only (z0.below b6).lt (z1.below b6).lt c0 c1 true (by omega) (by omega)) ?_
      rintro v w7 ⟨Y, cY, rfl, pY, b7⟩
      simp (disch := first | with_reducible assumption | omega) only [push_cast, x_blk, x_cd, ↓reduceIte, Nat.reduceEqDiff]
      refine call_of (ref1_Only ((z0.below b6).lt.below b7).lt ((z1.below b6).lt.below b7).lt c0 c1 false (by omega) (by omega)) ?_
      rintro v w8 ⟨Z, cZ, rfl, pZ, b8⟩
      simp (disch := first | with_reducible assumption | omega) only [push_cast, x_blk, x_cd, ↓reduceIte, Nat.reduceEqDiff]
      have nX := sortedL_len (l0 ++ l1)
      have nY := onlyL_le l0 l1 true l0.length
      have nZ := onlyL_le l0 l1 false l0.length
      rw [List.take_length] at nY nZ
      rw [List.length_append] at nX
      have y1 := (((q1.same t).below b6 (Nat.le_refl _)).below b7 (Nat.le_refl _)).below b8 (Nat.le_refl _)
      have y2 := (((q2.same t).below b6 (Nat.le_refl _)).below b7 (Nat.le_refl _)).below b8 (Nat.le_refl _)
      have y3 := (((p3.same t).below b6 (Nat.le_refl _)).below b7 (Nat.le_refl _)).below b8 (Nat.le_refl _)
      have yX := (pX.below b7 (Nat.le_refl _)).below b8 (Nat.le_refl _)
      have yY := pY.below b8 (Nat.le_refl _)
      subst x1 x2 x3
      refine call_of (ref1_Same (OwnI.ints y1) (OwnI.ints yX) d1 cX (by omega)) ?_
      rintro v w9 ⟨rfl, t9⟩
      simp (disch := first | with_reducible assumption | omega) only [push_cast, x_blk, x_cd, ↓reduceIte, Nat.reduceEqDiff]
      refine call_of (ref1_Same (OwnI.ints (y2.same t9)) (OwnI.ints (yY.same t9)) d2 cY (by omega)) ?_
      rintro v w10 ⟨rfl, t10⟩
      simp (disch := first | with_reducible assumption | omega) only [push_cast, x_blk, x_cd, ↓reduceIte, Nat.reduceEqDiff]
      refine call_of (ref1_Same (OwnI.ints (y3.same (t9.trans t10))) (OwnI.ints (pZ.same (t9.trans t10))) d3 cZ (by omega)) ?_
      rintro v w11 ⟨rfl, t11⟩
      simp (disch := first | with_reducible assumption | omega) only [push_cast, x_blk, x_cd, ↓reduceIte, Nat.reduceEqDiff]
      refine fin_1 (hQ _ _ ⟨(by simp only [push_cast, ↓reduceIte, Nat.reduceEqDiff]), ?_⟩)
      have u5 := bb.trans (t.below _)
      have u6 := u5.trans (b6.mono u5.size)
      have u7 := u6.trans (b7.mono u6.size)
      have u8 := u7.trans (b8.mono u7.size)
      exact u8.trans (((t9.trans t10).trans t11).below _)
    · have rn : ¬ (IsRow l0 2147483648 ∧ IsRow l1 2147483648) := fun h => rb h.2
      obtain ⟨rfl, rfl⟩ := s1 rn
      obtain ⟨rfl, rfl⟩ := s2 rn
      obtain ⟨rfl, rfl⟩ := s3 rn
      simp (disch := first | with_reducible assumption | omega) only [push_cast, x_blk, x_cd, ↓reduceIte, Nat.reduceEqDiff, rb, List.length_nil]
      exact fin_1 (hQ _ _ ⟨(by simp only [push_cast, ↓reduceIte, Nat.reduceEqDiff, Int.add_zero, eq_self]), bb.trans (t.below _)⟩)
  · have rn : ¬ (IsRow l0 2147483648 ∧ IsRow l1 2147483648) := fun h => ra h.1
    obtain ⟨rfl, rfl⟩ := s1 rn
    obtain ⟨rfl, rfl⟩ := s2 rn
    obtain ⟨rfl, rfl⟩ := s3 rn
    simp (disch := first | with_reducible assumption | omega) only [push_cast, x_blk, x_cd, ↓reduceIte, Nat.reduceEqDiff, ra, List.length_nil]
    exact fin_1 (hQ _ _ ⟨(by simp only [push_cast, ↓reduceIte, Nat.reduceEqDiff, Int.add_zero, eq_self]), bb.trans (t4.below _)⟩)
end Go.Proofs.Ytkemapljhmoafaa
