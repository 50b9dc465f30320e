/-
  Chapter 16: the law TextPrints: by its contract.
-/
import Derived.Test.YtpinjiikiaakaaaZPrx
namespace Go.Proofs.Ytpinjiikiaakaaa
set_option linter.unusedSimpArgs false
set_option linter.unusedVariables false
set_option linter.unusedSectionVars false
open Go.RowKit

theorem prOut_is (p : Pj) : ∃ (s : ByteArray) (e : Int), prOut p = .tuple #[.string s, .int .i64 e] := by
  unfold prOut
  split
  · split
    · exact ⟨_, _, rfl⟩
    · exact ⟨_, _, rfl⟩
  · exact ⟨_, _, rfl⟩
theorem law_TextPrints {w : World} {a : JV} {p : Pj} (ha : IsJ (· < w.heap.size) w a p) (hf : p.Fits) (hc : a.Caps p) :
    Cal Try.prog 3 [a.val p] w fun v w' => v = .bool true ∧ Below w.heap.size w w' := by
  refine cal_law_TextPrints (by simp) 1000000 fun Q hQ => ?_
  simp (disch := first | with_reducible assumption | omega) only [push_cast, x_blk, x_cd, ↓reduceIte, Nat.reduceEqDiff, List.map_cons, List.map_nil, Int.reduceEq, Int.lt_irrefl, F_law_TextPrints]
  refine blk_of (box_agg _ (a.cells p)) ?_
  intro w1 k1 b1 z1
  simp (disch := first | with_reducible assumption | omega) only [push_cast, x_blk, x_cd, ↓reduceIte, Nat.reduceEqDiff, List.map_cons, List.map_nil, Int.reduceEq, Int.lt_irrefl, k1.jA]
  refine call_of (text_Print (ha.up b1) hf hc) ?_
  rintro v w2 ⟨rfl, b2⟩
  have bb2 := b1.trans (b2.mono b1.size)
  have k2 := k1.below b2 k1.lt
  obtain ⟨s, e, hpo⟩ := prOut_is p
  rw [hpo]
  simp (disch := first | with_reducible assumption | omega) only [push_cast, x_blk, x_cd, ↓reduceIte, Nat.reduceEqDiff, List.map_cons, List.map_nil, Int.reduceEq, Int.lt_irrefl, k2.jA]
  refine call_of (ref16_Print (ha.up bb2) hf hc) ?_
  rintro v w3 ⟨rfl, b3⟩
  have bb3 := bb2.trans (b3.mono bb2.size)
  rw [hpo]
  simp (disch := first | with_reducible assumption | omega) only [push_cast, x_blk, x_cd, ↓reduceIte, Nat.reduceEqDiff, List.map_cons, List.map_nil, Int.reduceEq, Int.lt_irrefl, eq_self, decide_true]
  exact fin_1 (hQ _ _ ⟨(by simp only [push_cast, ↓reduceIte, Nat.reduceEqDiff, Int.reduceEq]), bb3⟩)
end Go.Proofs.Ytpinjiikiaakaaa
