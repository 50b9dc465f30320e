/-
  Chapter 2: the program's Join of two sets: by its contract.
-/
import Derived.Test.YtcjinmgieiebbaaDoorZDet
namespace Go.Proofs.YtcjinmgieiebbaaDoor
set_option linter.unusedSimpArgs false
set_option linter.unusedVariables false
set_option linter.unusedSectionVars false
open Go.RowKit

theorem Grew.of_below {w w' : World} (b : Below w.heap.size w w') (A : Option Addr) : Grew w w' A := ⟨⟨b.os, b.tape, b.output, b.size, fun k hk _ => b.block k hk⟩⟩
theorem Grew.trans' {w w1 w2 : World} {A : Option Addr} (h : Grew w w1 A) (k : Grew w1 w2 A) : Grew w w2 A :=
  ⟨⟨k.by_.os.trans h.by_.os, k.by_.tape.trans h.by_.tape, k.by_.output.trans h.by_.output, Nat.le_trans h.by_.size k.by_.size, fun i hi hne => (k.by_.block i (Nat.lt_of_lt_of_le hi h.by_.size) hne).trans (h.by_.block i hi hne)⟩⟩
/-- The first i words of either. -/
structure OrAt (a b : List Nat) (i : Nat) (ws : List Nat) : Prop where
  len : ws.length = 4
  at_ : ∀ k, ws.getD k 0 = if k < i then a.getD k 0 ||| b.getD k 0 else a.getD k 0
theorem OrAt.start {a : List Nat} (ha : a.length = 4) (b : List Nat) : OrAt a b 0 a := ⟨ha, fun k => by rw [if_neg (by omega)]⟩
theorem OrAt.step {a b ws : List Nat} {i : Nat} (h : OrAt a b i ws) (hi : i < 4) : OrAt a b (i + 1) (ws.set i (ws.getD i 0 ||| b.getD i 0)) := by
  refine ⟨by rw [List.length_set]; exact h.len, fun k => ?_⟩
  rw [getD_set _ _ _ _ _ (by rw [h.len]; exact hi)]
  by_cases e : k = i
  · subst e
    rw [if_pos rfl, if_pos (by omega), h.at_, if_neg (by omega)]
  · rw [if_neg e, h.at_]
    by_cases c : k < i
    · rw [if_pos c, if_pos (by omega)]
    · rw [if_neg c, if_neg (by omega)]
theorem OrAt.words {s t : List Int} {i : Nat} {ws : List Nat} (h : OrAt (wordsOf s) (wordsOf t) i ws) : Words ws := ⟨h.len, fun k => by
  rw [h.at_]
  split
  · exact Nat.or_lt_two_pow ((wordsOf_words s).2 k) ((wordsOf_words t).2 k)
  · exact (wordsOf_words s).2 k⟩
theorem OrAt.done {s t : List Int} {ws : List Nat} (h : OrAt (wordsOf s) (wordsOf t) 4 ws) : ws = wordsOf (s ++ t) := by
  refine words_eq h.words fun n hn => ?_
  unfold setHas
  rw [h.at_, if_pos (by omega), Nat.testBit_or]
  have h1 := wordsOf_has s n hn
  have h2 := wordsOf_has t n hn
  unfold setHas at h1 h2
  rw [h1, h2, ← Bool.decide_or]
  exact decide_eq_decide.2 (by rw [List.mem_append])
theorem cells_set (ws : List Nat) (i z : Nat) : (setCells ws).set i (.int .u64 (z : Int)) = setCells (ws.set i z) := by
  unfold setCells
  rw [List.map_set]
theorem set_Join {l l2 : List Int} {w : World} {g : Nat} (hk : Blk w g 64 (setCells (wordsOf l))) :
    Cal Tryd.prog 97 [.pointer (some ⟨g, 0, none⟩), setV l2] w fun v w' => v = .tuple #[] ∧ Blk w' g 64 (setCells (wordsOf (l ++ l2))) ∧ Grew w w' (some ⟨g, 0, none⟩) := by
  refine cal_machine_Set_Join (by simp) 100000 fun Q hQ => ?_
  have hgl := hk.lt
  simp (disch := first | with_reducible assumption | omega) only [push_cast, x_blk, x_cd, ↓reduceIte, Nat.reduceEqDiff, List.map_cons, List.map_nil, Int.reduceEq, Int.lt_irrefl, F_machine_Set_Join]
  refine blk_of (box_agg _ (setCells (wordsOf l2))) ?_
  intro w1 k1 b1 z1
  have k0 := hk.below b1 hk.lt
  simp (disch := first | with_reducible assumption | omega) only [push_cast, x_blk, x_cd, ↓reduceIte, Nat.reduceEqDiff, List.map_cons, List.map_nil, Int.reduceEq, Int.lt_irrefl]
  refine loop_rule (fun f w' => ∃ (i : Nat) (ws : List Nat), i ≤ 4 ∧ (f 0 = .pointer (some ⟨g, 0, none⟩) ∧ f 3 = .pointer (some ⟨w.heap.size, 0, none⟩) ∧ f 5 = .int .i64 i) ∧ OrAt (wordsOf l) (wordsOf l2) i ws ∧
      Blk w' g 64 (setCells ws) ∧ Blk w' w.heap.size 64 (setCells (wordsOf l2)) ∧ Grew w w' (some ⟨g, 0, none⟩))
    (fun f _ => 4 - (intOf (f 5)).toNat) ⟨0, wordsOf l, by omega, ⟨rfl, rfl, rfl⟩, OrAt.start (wordsOf_words l).1 _, k0, k1, Grew.of_below b1 _⟩ ?_
  rintro f w2 ⟨i, ws, hi, fr, hw, kg, kb, gr⟩ J hJ
  by_cases hlt : (i : Int) < 4
  case neg =>
    have hie : i = 4 := by omega
    have hd := (hie ▸ hw : OrAt _ _ 4 ws).done
    subst hd
    simp (disch := first | with_reducible assumption | omega) only [push_cast, x_blk, x_cd, ↓reduceIte, Nat.reduceEqDiff, List.map_cons, List.map_nil, Int.reduceEq, Int.lt_irrefl, L_machine_Set_Join_0, fr, hlt]
    exact fin_0 (hQ _ _ ⟨rfl, kg, gr⟩)
  have hi4 : i < 4 := by omega
  have kgd := kg.drew
  have kbd := kb.drew
  have hx : ws.getD i 0 < 2 ^ 64 := hw.words.2 i
  have hy := (wordsOf_words l2).2 i
  have hstp := hw.step hi4
  have hww := hw.words
  generalize hu : ws.getD i 0 = x at *
  generalize hv : (wordsOf l2).getD i 0 = y at *
  generalize hz : x ||| y = z at *
  simp (disch := first | with_reducible assumption | omega) only [push_cast, x_blk, x_cd, ↓reduceIte, Nat.reduceEqDiff, List.map_cons, List.map_nil, Int.reduceEq, Int.lt_irrefl, L_machine_Set_Join_0, fr, hlt, Int.natCast_nonneg, bin_or' hz hx hy, kgd.word' hww ty_ag_62 i hi4 hu, kbd.word' (wordsOf_words l2) ty_ag_62 i hi4 hv]
  refine sto_cell kgd (by kernel_rfl) i (by rw [setCells_len, hw.len]; exact hi4) .u64 (z : Int) ?_
  intro w5 k5 g5 z5
  rw [cells_set] at k5
  simp (disch := first | with_reducible assumption | omega) only [push_cast, x_blk, x_cd, ↓reduceIte, Nat.reduceEqDiff, List.map_cons, List.map_nil, Int.reduceEq, Int.lt_irrefl, fr]
  exact hJ _ _ ⟨i + 1, _, by omega, (by simp only [push_cast, ↓reduceIte, Nat.reduceEqDiff, true_and, and_true, and_self, eq_self, fr]), hstp, k5, kbd.grown g5.by_ (by simp; omega), (gr.trans' (Grew.of_below ((Same.refl w2).drew.below _) _)).trans' g5⟩ (by simp only [push_cast, ↓reduceIte, Nat.reduceEqDiff, intOf, fr]; omega)
end Go.Proofs.YtcjinmgieiebbaaDoor
