/-
  Chapter 2: the program's Join of two sets: by its contract.
-/
import Derived.Test.YtcjedgiglimipaaDoorZDet
namespace Go.Proofs.YtcjedgiglimipaaDoor
set_option linter.unusedSimpArgs false
set_option linter.unusedVariables false
set_option linter.unusedSectionVars false
open Go.RowKit

/-- The first i words of either. -/
structure OrAt (a b : List Nat) (i : Nat) (ws : List Nat) : Prop where
  len : ws.length = 4
  at_ : ∀ k, ws.getD k 0 = if k < i then a.getD k 0 ||| b.getD k 0 else a.getD k 0
theorem OrAt.start {a : List Nat} (ha : a.length = 4) (b : List Nat) : OrAt a b 0 a := ⟨ha, fun k => by rw [if_neg (by omega)]⟩
theorem OrAt.step {a b ws : List Nat} {i : Nat} (h : OrAt a b i ws) (hi : i < 4) : OrAt a b (i + 1) (ws.set i (ws.getD i 0 ||| b.getD i 0)) := by
  refine ⟨by rw [List.length_set]; exact h.len, fun k => ?_⟩
  rw [getD_set _ _ _ _ _ (by rw [h.len]; exact hi)]
  by_cases e : k = i
  · subst e
    rw [if_pos rfl, if_pos (by omega), h.at_, if_neg (by omega)]
  · rw [if_neg e, h.at_]
    by_cases c : k < i
    · rw [if_pos c, if_pos (by omega)]
    · rw [if_neg c, if_neg (by omega)]
theorem OrAt.words {s t : List Int} {i : Nat} {ws : List Nat} (h : OrAt (wordsOf s) (wordsOf t) i ws) : Words ws := ⟨h.len, fun k => by
  rw [h.at_]
  split
  · exact Nat.or_lt_two_pow ((wordsOf_words s).2 k) ((wordsOf_words t).2 k)
  · exact (wordsOf_words s).2 k⟩
theorem OrAt.done {s t : List Int} {ws : List Nat} (h : OrAt (wordsOf s) (wordsOf t) 4 ws) : ws = wordsOf (s ++ t) := by
  refine words_eq h.words fun n hn => ?_
  unfold setHas
  rw [h.at_, if_pos (by omega), Nat.testBit_or]
  have h1 := wordsOf_has s n hn
  have h2 := wordsOf_has t n hn
  unfold setHas at h1 h2
  rw [h1, h2, ← Bool.decide_or]
  exact decide_eq_decide.2 (by rw [List.mem_append])
end Go.Proofs.YtcjedgiglimipaaDoor
