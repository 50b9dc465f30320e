/-
  Chapter 5: what is seen of a word: the program and the reference: by their contracts.
-/
import Derived.Test.YtcjedgiglimipaaDoorZHideW
namespace Go.Proofs.YtcjedgiglimipaaDoor
set_option linter.unusedSimpArgs false
set_option linter.unusedVariables false
set_option linter.unusedSectionVars false
open Go.RowKit

theorem hide_Seen {w : World} {A : Option Addr} {l : List Int} (h : Ints (· < w.heap.size) w A l) (c : Nat) {A1 : Option Addr} {m : List Int} (h' : Ints (· < w.heap.size) w A1 m) (c1 : Nat) (hl : l.length ≤ 17592186043904) (hm : m.length ≤ 9223372036854775807) :
    Cal Tryd.prog 15 [.slice A l.length c, .slice A1 m.length c1] w fun v w' => ∃ O co, v = .slice O (onlyL l m true).length co ∧ OwnI w.heap.size 3 w' O co (onlyL l m true) ∧ Below w.heap.size w w' := by
  refine cal_hide_Seen (by simp) 100000 fun Q hQ => ?_
  simp (disch := first | with_reducible assumption | omega) only [push_cast, x_blk, x_cd, ↓reduceIte, Nat.reduceEqDiff, List.map_cons, List.map_nil, Int.reduceEq, Int.lt_irrefl, F_hide_Seen]
  refine loop_rule (fun f w' => ∃ k : Nat, ∃ A' c', k ≤ l.length ∧ (f 1 = .slice A1 m.length c1 ∧ f 5 = .slice A' (onlyL (l.take k) m true).length c' ∧ f 8 = .slice A l.length c ∧ f 9 = .int .i64 l.length ∧ f 10 = .int .i64 k) ∧
      OwnI w.heap.size 3 w' A' c' (onlyL (l.take k) m true) ∧ Below w.heap.size w w')
    (fun f _ => l.length - (intOf (f 10)).toNat) ⟨0, none, 0, Nat.zero_le _, ⟨rfl, rfl, rfl, rfl, rfl⟩, Own.nil _ _ _ _, Below.refl _ _⟩ ?_
  rintro f w1 ⟨k, A', c', hk, fr, ho, hb⟩ J hJ
  have hI := h.below hb
  by_cases hlt : k < l.length
  case neg =>
    obtain rfl : k = l.length := by omega
    rw [List.take_length] at fr ho
    simp (disch := first | with_reducible assumption | omega) only [push_cast, x_blk, x_cd, ↓reduceIte, Nat.reduceEqDiff, List.map_cons, List.map_nil, Int.reduceEq, Int.lt_irrefl, L_hide_Seen_0, fr, Int.lt_irrefl, Nat.lt_irrefl]
    exact fin_1 (hQ _ _ ⟨A', c', (by simp only [push_cast, ↓reduceIte, Nat.reduceEqDiff, Int.reduceEq, fr]), ho, hb⟩)
  have hA := h.isSome (by omega)
  simp (disch := first | with_reducible assumption | omega) only [push_cast, x_blk, x_cd, ↓reduceIte, Nat.reduceEqDiff, List.map_cons, List.map_nil, Int.reduceEq, Int.lt_irrefl, L_hide_Seen_0, fr, hlt, hA, hI.ld ty_ag_3 k hlt]
  refine call_of (row_Has (h'.below hb) c1 (l.getD k 0) hm) ?_
  rintro v w2 ⟨rfl, hs⟩
  have hle := onlyL_le l m true k
  have hsn := onlyL_snoc l m true k hlt
  by_cases hin : l.getD k 0 ∈ m
  · rw [if_pos (by simpa using hin)] at hsn
    simp (disch := first | with_reducible assumption | omega) only [push_cast, x_blk, x_cd, ↓reduceIte, Nat.reduceEqDiff, List.map_cons, List.map_nil, Int.reduceEq, Int.lt_irrefl, fr, hin]
    refine app_int slT_22 (ho.same hs) (l.getD k 0) (by omega) (by have := hb.size; rw [hs.heap]; exact this) ?_
    intro A2 c2 w3 ho3 hg hA3 hs3 hz
    simp (disch := first | with_reducible assumption | omega) only [push_cast, x_blk, x_cd, ↓reduceIte, Nat.reduceEqDiff, List.map_cons, List.map_nil, Int.reduceEq, Int.lt_irrefl, fr]
    exact hJ _ _ ⟨k + 1, A2, c2, hlt, (by simp only [push_cast, ↓reduceIte, Nat.reduceEqDiff, true_and, and_true, and_self, eq_self, fr, hsn, List.length_append, List.length_cons, List.length_nil]), by rw [hsn]; exact ho3,
      hg.below (hb.trans (hs.below _)) (by have := hb.size; rw [hs.heap]; exact this) ho.geB⟩ (by simp only [push_cast, ↓reduceIte, Nat.reduceEqDiff, intOf, fr]; omega)
  · rw [if_neg (by simpa using hin), List.append_nil] at hsn
    simp (disch := first | with_reducible assumption | omega) only [push_cast, x_blk, x_cd, ↓reduceIte, Nat.reduceEqDiff, List.map_cons, List.map_nil, Int.reduceEq, Int.lt_irrefl, fr, hin]
    exact hJ _ _ ⟨k + 1, A', c', hlt, (by simp only [push_cast, ↓reduceIte, Nat.reduceEqDiff, true_and, and_true, and_self, eq_self, fr, hsn]), by rw [hsn]; exact ho.same hs, hb.trans (hs.below _)⟩ (by simp only [push_cast, ↓reduceIte, Nat.reduceEqDiff, intOf, fr]; omega)
end Go.Proofs.YtcjedgiglimipaaDoor
