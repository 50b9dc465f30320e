/-
  The laws on sets of rows: they return true.
-/
import Derived.Test.YtkemapljhmoafaaRowL
namespace Go.Proofs.Ytkemapljhmoafaa
set_option linter.unusedSimpArgs false
set_option linter.unusedVariables false
open Go.RowKit


theorem law_RowJoins {w : World} {A0 : Option Addr} {c0 : Nat} {l0 : List Int} (h0 : Ints (· < w.heap.size) w A0 l0) (_b0 : ∀ x ∈ l0, I64 x) (n0 : l0.length ≤ 17592186043904) (k0 : l0.length ≤ c0)
    {A1 : Option Addr} {c1 : Nat} {l1 : List Int} (h1 : Ints (· < w.heap.size) w A1 l1) (_b1 : ∀ x ∈ l1, I64 x) (n1 : l1.length ≤ 17592186043904) (k1 : l1.length ≤ c1) :
    Cal Try.prog 4 [.slice A0 l0.length c0, .slice A1 l1.length c1] w fun v w' => v = .bool true ∧ Below w.heap.size w w' := by
  refine cal_law_RowJoins (by simp) 100000 fun Q hQ => ?_
  simp (disch := first | with_reducible assumption | omega) only [push_cast, x_blk, x_cd, ↓reduceIte, Nat.reduceEqDiff, F_law_RowJoins]
  refine call_of (row_Join h0 h1 k0 k1 n0 n1) ?_
  rintro v w1 ⟨O1, d1, o1, e1, rfl, p1, b1, r1, s1⟩
  have g0 := (h0.below b1).lt
  have g1 := (h1.below b1).lt
  simp (disch := first | with_reducible assumption | omega) only [push_cast, x_blk, x_cd, ↓reduceIte, Nat.reduceEqDiff]
  refine call_of (row_Meet g0 g1 k0 k1 n0 n1) ?_
  rintro v w2 ⟨O2, d2, o2, e2, rfl, p2, b2, r2, s2⟩
  have g0' := (g0.below b2).lt
  have g1' := (g1.below b2).lt
  have p1' := p1.below b2 (Nat.le_refl _)
  simp (disch := first | with_reducible assumption | omega) only [push_cast, x_blk, x_cd, ↓reduceIte, Nat.reduceEqDiff]
  refine call_of (row_Less g0' g1' k0 k1 n0 n1) ?_
  rintro v w3 ⟨O3, d3, o3, e3, rfl, p3, b3, r3, s3⟩
  have q1 := p1'.below b3 (Nat.le_refl _)
  have q2 := p2.below b3 (Nat.le_refl _)
  have q0 := (g0'.below b3).lt
  have q1' := (g1'.below b3).lt
  have bb : Below w.heap.size w w3 := (b1.trans (b2.mono b1.size)).trans (b3.mono (Nat.le_trans b1.size b2.size))
  simp (disch := first | with_reducible assumption | omega) only [push_cast, x_blk, x_cd, ↓reduceIte, Nat.reduceEqDiff]
  refine call_of (ref1_Is q0 c0 2147483648 (by omega)) ?_
  rintro v w4 ⟨rfl, t4⟩
  by_cases ra : IsRow l0 2147483648
  · simp (disch := first | with_reducible assumption | omega) only [push_cast, x_blk, x_cd, ↓reduceIte, Nat.reduceEqDiff, ra]
    refine call_of (ref1_Is (q1'.same t4) c1 2147483648 (by omega)) ?_
    rintro v w5 ⟨rfl, t5⟩
    have t := t4.trans t5
    by_cases rb : IsRow l1 2147483648
    · obtain ⟨rfl, x1⟩ := r1 ⟨ra, rb⟩
      obtain ⟨rfl, x2⟩ := r2 ⟨ra, rb⟩
      obtain ⟨rfl, x3⟩ := r3 ⟨ra, rb⟩
      rw [join_eq ra.strict rb.strict] at x1
      rw [meet_eq ra.strict rb.strict] at x2
      rw [less_eq ra.strict rb.strict] at x3
      have na := ra.len
      have nb := rb.len
      simp (disch := first | with_reducible assumption | omega) only [push_cast, x_blk, x_cd, ↓reduceIte, Nat.reduceEqDiff, rb]
      have z0 := (q0.same t).lt
      have z1 := (q1'.same t).lt
      refine call_of (ref1_Join z0 z1 (by omega) (by omega)) ?_
      rintro v w6 ⟨X, cX, rfl, pX, b6⟩
      simp (disch := first | with_reducible assumption | omega) only [push_cast, x_blk, x_cd, ↓reduceIte, Nat.reduceEqDiff]
      refine call_of (ref1_Only (z0.below b6).lt (z1.below b6).lt c0 c1 true (by omega) (by omega)) ?_
      rintro v w7 ⟨Y, cY, rfl, pY, b7⟩
      simp (disch := first | with_reducible assumption | omega) only [push_cast, x_blk, x_cd, ↓reduceIte, Nat.reduceEqDiff]
      refine call_of (ref1_Only ((z0.below b6).lt.below b7).lt ((z1.below b6).lt.below b7).lt c0 c1 false (by omega) (by omega)) ?_
      rintro v w8 ⟨Z, cZ, rfl, pZ, b8⟩
      simp (disch := first | with_reducible assumption | omega) only [push_cast, x_blk, x_cd, ↓reduceIte, Nat.reduceEqDiff]
      have nX := sortedL_len (l0 ++ l1)
      have nY := onlyL_le l0 l1 true l0.length
      have nZ := onlyL_le l0 l1 false l0.length
      rw [List.take_length] at nY nZ
      rw [List.length_append] at nX
      have y1 := (((q1.same t).below b6 (Nat.le_refl _)).below b7 (Nat.le_refl _)).below b8 (Nat.le_refl _)
      have y2 := (((q2.same t).below b6 (Nat.le_refl _)).below b7 (Nat.le_refl _)).below b8 (Nat.le_refl _)
      have y3 := (((p3.same t).below b6 (Nat.le_refl _)).below b7 (Nat.le_refl _)).below b8 (Nat.le_refl _)
      have yX := (pX.below b7 (Nat.le_refl _)).below b8 (Nat.le_refl _)
      have yY := pY.below b8 (Nat.le_refl _)
      subst x1 x2 x3
      refine call_of (ref1_Same (OwnI.ints y1) (OwnI.ints yX) d1 cX (by omega)) ?_
      rintro v w9 ⟨rfl, t9⟩
      simp (disch := first | with_reducible assumption | omega) only [push_cast, x_blk, x_cd, ↓reduceIte, Nat.reduceEqDiff]
      refine call_of (ref1_Same (OwnI.ints (y2.same t9)) (OwnI.ints (yY.same t9)) d2 cY (by omega)) ?_
      rintro v w10 ⟨rfl, t10⟩
      simp (disch := first | with_reducible assumption | omega) only [push_cast, x_blk, x_cd, ↓reduceIte, Nat.reduceEqDiff]
      refine call_of (ref1_Same (OwnI.ints (y3.same (t9.trans t10))) (OwnI.ints (pZ.same (t9.trans t10))) d3 cZ (by omega)) ?_
      rintro v w11 ⟨rfl, t11⟩
      simp (disch := first | with_reducible assumption | omega) only [push_cast, x_blk, x_cd, ↓reduceIte, Nat.reduceEqDiff]
      refine fin_1 (hQ _ _ ⟨(by simp only [push_cast, ↓reduceIte, Nat.reduceEqDiff]), ?_⟩)
      have u5 := bb.trans (t.below _)
      have u6 := u5.trans (b6.mono u5.size)
      have u7 := u6.trans (b7.mono u6.size)
      have u8 := u7.trans (b8.mono u7.size)
      exact u8.trans (((t9.trans t10).trans t11).below _)
    · have rn : ¬ (IsRow l0 2147483648 ∧ IsRow l1 2147483648) := fun h => rb h.2
      obtain ⟨rfl, rfl⟩ := s1 rn
      obtain ⟨rfl, rfl⟩ := s2 rn
      obtain ⟨rfl, rfl⟩ := s3 rn
      simp (disch := first | with_reducible assumption | omega) only [push_cast, x_blk, x_cd, ↓reduceIte, Nat.reduceEqDiff, rb, List.length_nil]
      exact fin_1 (hQ _ _ ⟨(by simp only [push_cast, ↓reduceIte, Nat.reduceEqDiff, Int.add_zero, eq_self]), bb.trans (t.below _)⟩)
  · have rn : ¬ (IsRow l0 2147483648 ∧ IsRow l1 2147483648) := fun h => ra h.1
    obtain ⟨rfl, rfl⟩ := s1 rn
    obtain ⟨rfl, rfl⟩ := s2 rn
    obtain ⟨rfl, rfl⟩ := s3 rn
    simp (disch := first | with_reducible assumption | omega) only [push_cast, x_blk, x_cd, ↓reduceIte, Nat.reduceEqDiff, ra, List.length_nil]
    exact fin_1 (hQ _ _ ⟨(by simp only [push_cast, ↓reduceIte, Nat.reduceEqDiff, Int.add_zero, eq_self]), bb.trans (t4.below _)⟩)

theorem keep_RowSets {w : World} {A0 : Option Addr} {c0 : Nat} {l0 : List Int} (h0 : Ints (· < w.heap.size) w A0 l0) (_b0 : ∀ x ∈ l0, I64 x) (n0 : l0.length ≤ 17592186043904) (k0 : l0.length ≤ c0)
    {A1 : Option Addr} {c1 : Nat} {l1 : List Int} (h1 : Ints (· < w.heap.size) w A1 l1) (_b1 : ∀ x ∈ l1, I64 x) (n1 : l1.length ≤ 17592186043904) (k1 : l1.length ≤ c1) {x2 : Int} (_b2 : I64 x2) :
    Cal Try.prog 5 [.slice A0 l0.length c0, .slice A1 l1.length c1, .int .i64 x2] w fun v w' => v = .bool true ∧ Below w.heap.size w w' := by
  refine cal_keep_RowSets (by simp) 100000 fun Q hQ => ?_
  simp (disch := first | with_reducible assumption | omega) only [push_cast, x_blk, x_cd, ↓reduceIte, Nat.reduceEqDiff, F_keep_RowSets]
  refine call_of (row_Join h0 h1 k0 k1 n0 n1) ?_
  rintro v w1 ⟨O1, d1, o1, e1, rfl, p1, b1, r1, s1⟩
  have g0 := (h0.below b1).lt
  have g1 := (h1.below b1).lt
  simp (disch := first | with_reducible assumption | omega) only [push_cast, x_blk, x_cd, ↓reduceIte, Nat.reduceEqDiff]
  refine call_of (row_Meet g0 g1 k0 k1 n0 n1) ?_
  rintro v w2 ⟨O2, d2, o2, e2, rfl, p2, b2, r2, s2⟩
  have g0' := (g0.below b2).lt
  have g1' := (g1.below b2).lt
  have p1' := p1.below b2 (Nat.le_refl _)
  simp (disch := first | with_reducible assumption | omega) only [push_cast, x_blk, x_cd, ↓reduceIte, Nat.reduceEqDiff]
  refine call_of (row_Less g0' g1' k0 k1 n0 n1) ?_
  rintro v w3 ⟨O3, d3, o3, e3, rfl, p3, b3, r3, s3⟩
  have q1 := OwnI.ints (p1'.below b3 (Nat.le_refl _))
  have q2 := OwnI.ints (p2.below b3 (Nat.le_refl _))
  have q3 := OwnI.ints p3
  have q0 := (g0'.below b3).lt
  have q1' := (g1'.below b3).lt
  have bb : Below w.heap.size w w3 := (b1.trans (b2.mono b1.size)).trans (b3.mono (Nat.le_trans b1.size b2.size))
  by_cases ra : IsRow l0 2147483648 ∧ IsRow l1 2147483648
  · obtain ⟨rfl, u1⟩ := r1 ra
    obtain ⟨rfl, u2⟩ := r2 ra
    obtain ⟨rfl, u3⟩ := r3 ra
    have na := ra.1.len
    have nb := ra.2.len
    have i1 : IsRow o1 2147483648 := u1 ▸ merge_row ra.1 ra.2
    have i2 : IsRow o2 2147483648 := u2 ▸ merge_row ra.1 ra.2
    have i3 : IsRow o3 2147483648 := u3 ▸ merge_row ra.1 ra.2
    have m1 := (mergeL_spec gJoin l0 l1 ra.1.strict ra.2.strict).2 x2
    have m2 := (mergeL_spec gMeet l0 l1 ra.1.strict ra.2.strict).2 x2
    have m3 := (mergeL_spec gLess l0 l1 ra.1.strict ra.2.strict).2 x2
    rw [← u1] at m1
    rw [← u2] at m2
    rw [← u3] at m3
    have z1 := i1.len
    have z2 := i2.len
    have z3 := i3.len
    have hlen : o1.length = o3.length + l1.length := by rw [u1, u3]; exact merge_len l0 l1
    have hle : (o1.length : Int) = (o2.length : Int) + o3.length + l1.length - o2.length := by omega
    simp (disch := first | with_reducible assumption | omega) only [push_cast, x_blk, x_cd, ↓reduceIte, Nat.reduceEqDiff, Int.lt_irrefl]
    refine call_of (row_Is q1 d1 2147483648 (by omega)) ?_
    rintro v w4 ⟨rfl, t4⟩
    simp (disch := first | with_reducible assumption | omega) only [push_cast, x_blk, x_cd, ↓reduceIte, Nat.reduceEqDiff, i1]
    refine call_of (row_Is (q2.same t4) d2 2147483648 (by omega)) ?_
    rintro v w5 ⟨rfl, t5⟩
    simp (disch := first | with_reducible assumption | omega) only [push_cast, x_blk, x_cd, ↓reduceIte, Nat.reduceEqDiff, i2]
    have t45 := t4.trans t5
    refine call_of (row_Is (q3.same t45) d3 2147483648 (by omega)) ?_
    rintro v w6 ⟨rfl, t6⟩
    have t := t45.trans t6
    have v0 := q0.same t
    have v1 := q1'.same t
    have w1' := q1.same t
    have w2' := q2.same t
    have w3' := q3.same t
    simp (disch := first | with_reducible assumption | omega) only [push_cast, x_blk, x_cd, ↓reduceIte, Nat.reduceEqDiff, i3, hle]
    refine call_of (keep_has v0 c0 x2 (by omega)) ?_
    rintro v w7 ⟨rfl, t7⟩
    simp (disch := first | with_reducible assumption | omega) only [push_cast, x_blk, x_cd, ↓reduceIte, Nat.reduceEqDiff]
    refine call_of (keep_has (v1.same t7) c1 x2 (by omega)) ?_
    rintro v w8 ⟨rfl, t8⟩
    have t78 := t7.trans t8
    by_cases hx : x2 ∈ l0 <;> by_cases hy : x2 ∈ l1
    all_goals
      simp only [hx, hy, gJoin, gMeet, gLess, decide_true, decide_false, Bool.and_true, Bool.and_false, Bool.not_true, Bool.not_false, or_true, or_false, true_and, and_true, false_and, and_false, Bool.false_eq_true, iff_true, iff_false] at m1 m2 m3
      simp (disch := first | with_reducible assumption | omega) only [push_cast, x_blk, x_cd, ↓reduceIte, Nat.reduceEqDiff, hx, hy]
      refine call_of (row_Has (w1'.same t78) d1 x2 (by omega)) ?_
      rintro v w9 ⟨rfl, t9⟩
      simp (disch := first | with_reducible assumption | omega) only [push_cast, x_blk, x_cd, ↓reduceIte, Nat.reduceEqDiff, m1]
      refine call_of (row_Has (w2'.same (t78.trans t9)) d2 x2 (by omega)) ?_
      rintro v w10 ⟨rfl, t10⟩
      simp (disch := first | with_reducible assumption | omega) only [push_cast, x_blk, x_cd, ↓reduceIte, Nat.reduceEqDiff, m2]
      refine call_of (row_Has (w3'.same ((t78.trans t9).trans t10)) d3 x2 (by omega)) ?_
      rintro v w11 ⟨rfl, t11⟩
      simp (disch := first | with_reducible assumption | omega) only [push_cast, x_blk, x_cd, ↓reduceIte, Nat.reduceEqDiff, m3]
      exact fin_1 (hQ _ _ ⟨(by simp only [push_cast, ↓reduceIte, Nat.reduceEqDiff, m3]), bb.trans ((t.trans ((((t7.trans t8).trans t9).trans t10).trans t11)).below _)⟩)
  · obtain ⟨rfl, rfl⟩ := s1 ra
    obtain ⟨rfl, rfl⟩ := s2 ra
    obtain ⟨rfl, rfl⟩ := s3 ra
    simp (disch := first | with_reducible assumption | omega) only [push_cast, x_blk, x_cd, ↓reduceIte, Nat.reduceEqDiff, List.length_nil, Int.add_zero, eq_self, Int.reduceEq]
    exact fin_1 (hQ _ _ ⟨(by simp only [push_cast, ↓reduceIte, Nat.reduceEqDiff, Int.add_zero, eq_self]), bb⟩)
end Go.Proofs.Ytkemapljhmoafaa
