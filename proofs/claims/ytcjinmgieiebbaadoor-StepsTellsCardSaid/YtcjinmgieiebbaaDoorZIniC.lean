/-
  Chapters 10 and 11: what two sets have both; the program's Leak (initial): by their contracts.
-/
import Derived.Test.YtcjinmgieiebbaaDoorZIniB
import Derived.Test.YtcjinmgieiebbaaDoorZCurD
namespace Go.Proofs.YtcjinmgieiebbaaDoor
set_option linter.unusedSimpArgs false
set_option linter.unusedVariables false
set_option linter.unusedSectionVars false
open Go.RowKit

/-- The first i words of both. -/
structure WAt (a b : List Nat) (i : Nat) (ws : List Nat) : Prop where
  len : ws.length = 4
  at_ : ∀ k, ws.getD k 0 = if k < i then a.getD k 0 &&& b.getD k 0 else a.getD k 0
theorem WAt.start {a : List Nat} (ha : a.length = 4) (b : List Nat) : WAt a b 0 a := ⟨ha, fun k => by rw [if_neg (by omega)]⟩
theorem WAt.step {a b ws : List Nat} {i : Nat} (h : WAt a b i ws) (hi : i < 4) : WAt a b (i + 1) (ws.set i (ws.getD i 0 &&& b.getD i 0)) := by
  refine ⟨by rw [List.length_set]; exact h.len, fun k => ?_⟩
  rw [getD_set _ _ _ _ _ (by rw [h.len]; exact hi)]
  by_cases e : k = i
  · subst e
    rw [if_pos rfl, if_pos (by omega), h.at_, if_neg (by omega)]
  · rw [if_neg e, h.at_]
    by_cases c : k < i
    · rw [if_pos c, if_pos (by omega)]
    · rw [if_neg c, if_neg (by omega)]
theorem WAt.done {s t : List Int} {ws : List Nat} (h : WAt (wordsOf s) (wordsOf t) 4 ws) : ws = wordsOf (onlyL s t true) := by
  refine words_eq ⟨h.len, fun i => ?_⟩ fun n hn => ?_
  · rw [h.at_]
    split
    · exact Nat.and_lt_two_pow _ ((wordsOf_words t).2 i)
    · exact (wordsOf_words s).2 i
  · unfold setHas
    rw [h.at_, if_pos (by omega), Nat.testBit_and]
    have h1 := wordsOf_has s n hn
    have h2 := wordsOf_has t n hn
    unfold setHas at h1 h2
    rw [h1, h2, ← Bool.decide_and]
    exact decide_eq_decide.2 (by rw [mem_onlyT])
theorem setCells_set (ws : List Nat) (i z : Nat) (tl : List Value) (hi : i < ws.length) : (setCells ws ++ tl).set i (.int .u64 (z : Int)) = setCells (ws.set i z) ++ tl := by
  rw [List.set_append_left _ _ (by rw [setCells_len]; exact hi)]
  unfold setCells
  rw [List.map_set]
theorem setCells_getD (ws : List Nat) (i : Nat) (tl : List Value) (hi : i < ws.length) : (setCells ws ++ tl).getD i undef = .int .u64 ((ws.getD i 0 : Nat) : Int) := by
  rw [List.getD_eq_getElem?_getD, List.getElem?_append_left (by rw [setCells_len]; exact hi)]
  unfold setCells
  simp [List.getD_eq_getElem?_getD, hi]
theorem steps_meet {w : World} (s t : List Int) :
    Cal Tryd.prog 78 [setV s, setV t] w fun v w' => v = setV (onlyL s t true) ∧ Below w.heap.size w w' := by
  refine cal_steps_meet (by simp) 100000 fun Q hQ => ?_
  simp (disch := first | with_reducible assumption | omega) only [push_cast, x_blk, x_cd, ↓reduceIte, Nat.reduceEqDiff, List.map_cons, List.map_nil, Int.reduceEq, Int.lt_irrefl, F_steps_meet]
  refine blk_of (box_agg _ (setCells (wordsOf s))) ?_
  intro w1 k1 b1 z1
  simp (disch := first | with_reducible assumption | omega) only [push_cast, x_blk, x_cd, ↓reduceIte, Nat.reduceEqDiff, List.map_cons, List.map_nil, Int.reduceEq, Int.lt_irrefl]
  refine blk_of (box_agg _ (setCells (wordsOf t))) ?_
  intro w2 k2 b2 z2
  replace k1 := k1.below b2 k1.lt
  have bb := b1.trans (b2.mono b1.size)
  simp (disch := first | with_reducible assumption | omega) only [push_cast, x_blk, x_cd, ↓reduceIte, Nat.reduceEqDiff, List.map_cons, List.map_nil, Int.reduceEq, Int.lt_irrefl]
  refine blk_of (cs := setCells (wordsOf [])) al_64 ?_
  intro w3 k3 b3 z3
  replace k1 := k1.below b3 k1.lt
  replace k2 := k2.below b3 k2.lt
  replace bb := bb.trans (b3.mono bb.size)
  simp (disch := first | with_reducible assumption | omega) only [push_cast, x_blk, x_cd, ↓reduceIte, Nat.reduceEqDiff, List.map_cons, List.map_nil, Int.reduceEq, Int.lt_irrefl]
  refine loop_rule (fun f w' => ∃ (i : Nat) (ws : List Nat), i ≤ 4 ∧ (f 2 = .pointer (some ⟨w.heap.size, 0, none⟩) ∧ f 3 = .pointer (some ⟨w1.heap.size, 0, none⟩) ∧ f 4 = .pointer (some ⟨w2.heap.size, 0, none⟩) ∧ f 6 = .int .i64 i) ∧ WAt (wordsOf s) (wordsOf t) i ws ∧
      Blk w' w.heap.size 64 (setCells ws ++ []) ∧ Blk w' w1.heap.size 64 (setCells (wordsOf t)) ∧ Blk w' w2.heap.size 64 (setCells (wordsOf [])) ∧ Below w.heap.size w w')
    (fun f _ => 4 - (intOf (f 6)).toNat) ⟨0, wordsOf s, by omega, ⟨rfl, rfl, rfl, rfl⟩, WAt.start (wordsOf_words s).1 _, by rw [List.append_nil]; exact k1, k2, k3, bb⟩ ?_
  clear k1 k2 k3 bb
  rintro f w4 ⟨i, ws, hi, fr, hw, k1, k2, k3, bb⟩ J hJ
  by_cases hlt : (i : Int) < 4
  case neg =>
    have hie : i = 4 := by omega
    have hd := (hie ▸ hw : WAt _ _ 4 ws).done
    subst hd
    rw [List.append_nil] at k1
    simp (disch := first | with_reducible assumption | omega) only [push_cast, x_blk, x_cd, ↓reduceIte, Nat.reduceEqDiff, List.map_cons, List.map_nil, Int.reduceEq, Int.lt_irrefl, L_steps_meet_0, fr, hlt, k1.setA (wordsOf_words _) ty_ag_64 ty_sz_64]
    refine sto_blk k3 (cs := setCells (wordsOf (onlyL s t true))) (e4_set _) (by rw [setCells_4, setCells_4]) (setCells_one _) ?_
    intro w5 k5 g5 z5
    simp (disch := first | with_reducible assumption | omega) only [push_cast, x_blk, x_cd, ↓reduceIte, Nat.reduceEqDiff, List.map_cons, List.map_nil, Int.reduceEq, Int.lt_irrefl]
    exact fin_cell k5 ty_ag_64 (e4_set _) (by simp only [push_cast, ↓reduceIte, Nat.reduceEqDiff, Int.reduceEq, fr]) (hQ _ _ ⟨rfl, g5.below bb bb.size (by intro a ha; injection ha with ha; subst ha; show w.heap.size ≤ w2.heap.size; omega)⟩)
  have hi4 : i < 4 := by omega
  have k1d := k1.drew
  have k2d := k2.drew
  have hx : ws.getD i 0 < 2 ^ 64 := by rw [hw.at_, if_neg (by omega)]; exact (wordsOf_words s).2 i
  have hy := (wordsOf_words t).2 i
  have hst := hw.step hi4
  have hl1 := fun {K : Fr → World → Prop} {f : Fr} {d : Option Nat} {w : World} => k1d.ld (P := Tryd.prog) (K := K) (f := f) (d := d) (w := w) ty_ag_62 i (by rw [List.length_append, setCells_len, hw.len]; simp; omega)
  rw [setCells_getD ws i [] (by rw [hw.len]; exact hi4)] at hl1
  generalize ws.getD i 0 = x at *
  generalize hu : (wordsOf t).getD i 0 = y at *
  generalize hz : x &&& y = z at *
  simp (disch := first | with_reducible assumption | omega) only [push_cast, x_blk, x_cd, ↓reduceIte, Nat.reduceEqDiff, List.map_cons, List.map_nil, Int.reduceEq, Int.lt_irrefl, L_steps_meet_0, fr, hlt, Int.natCast_nonneg, bin_and' hz hx hy, hl1, k2d.word' (wordsOf_words t) ty_ag_62 i hi4 hu]
  refine sto_cell k1d (by kernel_rfl) i (by rw [List.length_append, setCells_len, hw.len]; simp; omega) .u64 (z : Int) ?_
  intro w5 k5 g5 z5
  rw [setCells_set ws i z [] (by rw [hw.len]; exact hi4)] at k5
  simp (disch := first | with_reducible assumption | omega) only [push_cast, x_blk, x_cd, ↓reduceIte, Nat.reduceEqDiff, List.map_cons, List.map_nil, Int.reduceEq, Int.lt_irrefl, fr]
  exact hJ _ _ ⟨i + 1, _, by omega, (by simp only [push_cast, ↓reduceIte, Nat.reduceEqDiff, true_and, and_true, and_self, eq_self, fr]), hst, k5, k2d.grown g5.by_ (by simp; omega), k3.drew.grown g5.by_ (by simp; omega), g5.below (drawn bb) bb.size (by intro a ha; injection ha with ha; subst ha; exact Nat.le_refl _)⟩ (by simp only [push_cast, ↓reduceIte, Nat.reduceEqDiff, intOf, fr]; omega)

end Go.Proofs.YtcjinmgieiebbaaDoor
