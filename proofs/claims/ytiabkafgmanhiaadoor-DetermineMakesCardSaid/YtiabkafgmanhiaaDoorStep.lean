/-
  Chapter 2: where states lead to, at an event: the program's Step and the reference's, by their contracts.
-/
import Derived.Test.YtiabkafgmanhiaaDoorSetB
import Derived.Test.YtiabkafgmanhiaaDoorMachA
namespace Go.Proofs.YtiabkafgmanhiaaDoor
set_option linter.unusedSimpArgs false
set_option linter.unusedVariables false
set_option linter.unusedSectionVars false
open Go.RowKit

/-- Where states lead to, at an event, as the arrows stand. -/
def stepT (m : Mach) (l : List Int) (e : Int) : List Int := (m.arrows.filter fun a => decide (a.evt = e) && decide (a.frm ∈ l)).map (·.to_)
def stepK (m : Mach) (l : List Int) (e : Int) (k : Nat) : List Int := ((m.arrows.take k).filter fun a => decide (a.evt = e) && decide (a.frm ∈ l)).map (·.to_)
theorem stepK_all (m : Mach) (l : List Int) (e : Int) : stepK m l e m.arrows.length = stepT m l e := by unfold stepK stepT; rw [List.take_length]
theorem stepK_snoc (m : Mach) (l : List Int) (e : Int) (k : Nat) (h : k < m.arrows.length) :
    stepK m l e (k + 1) = stepK m l e k ++ (if (m.arrows.getD k default).evt = e ∧ (m.arrows.getD k default).frm ∈ l then [(m.arrows.getD k default).to_] else []) := by
  unfold stepK
  rw [take_snoc _ default k h, List.filter_append, List.map_append]
  congr 1
  generalize m.arrows.getD k default = y
  by_cases h1 : y.evt = e <;> by_cases h2 : y.frm ∈ l <;> simp [h1, h2]
theorem stepK_le (m : Mach) (l : List Int) (e : Int) (k : Nat) : (stepK m l e k).length ≤ k := by
  unfold stepK
  rw [List.length_map]
  have := List.length_filter_le (fun a : Arr => decide (a.evt = e) && decide (a.frm ∈ l)) (m.arrows.take k)
  have := List.length_take_le k m.arrows
  omega
theorem May.arr {m : Mach} (hm : m.May) {y : Arr} (h : y ∈ m.arrows) : m.ArrOk y := by
  obtain ⟨i, hi, rfl⟩ := (mem_iff_getD m.arrows default y).1 h
  exact (hm.2.2.2.2.2.2.2 i hi).1
theorem stepT_small {m : Mach} (hm : m.May) (l : List Int) (e : Int) : ∀ x ∈ stepT m l e, 0 ≤ x ∧ x < m.states := by
  intro x hx
  obtain ⟨y, hy, rfl⟩ := List.mem_map.1 hx
  exact (May.arr hm (List.mem_filter.1 hy).1).2.1
/-- The row of where states lead to. -/
def stepL (m : Mach) (l : List Int) (e : Int) : List Int := sortedL (stepT m l e)
theorem stepL_row {m : Mach} (hm : m.May) (l : List Int) (e : Int) : IsRow (stepL m l e) m.states :=
  IsRow.of_strict (sortedL_spec _).1 fun x hx => by
    have := stepT_small hm l e x (((sortedL_spec _).2 x).1 hx)
    have : m.states ≤ 256 := hm.2.1
    omega
theorem setV_step (m : Mach) (l : List Int) (e : Int) : setV (stepT m l e) = setV (stepL m l e) := by unfold setV stepL; rw [wordsOf_sorted]

theorem machine_Step {w : World} {a : MV} {m : Mach} (h : IsM (· < w.heap.size) w a m) (hm : m.May) (l : List Int) (e : Int) :
    Cal Tryd.prog 59 [a.val m, setV l, .int .i64 e] w fun v w' => v = setV (stepL m l e) ∧ Below w.heap.size w w' := by
  have hst : m.states ≤ 256 := hm.2.1
  have nA := hm.2.2.2.2.1
  refine cal_machine_Step (by simp) 100000 fun Q hQ => ?_
  simp (disch := first | with_reducible assumption | omega) only [push_cast, x_blk, x_cd, ↓reduceIte, Nat.reduceEqDiff, List.map_cons, List.map_nil, Int.reduceEq, Int.lt_irrefl, F_machine_Step]
  refine blk_of (box_agg _ (a.cells m)) ?_
  intro w1 k1 b1 z1
  simp (disch := first | with_reducible assumption | omega) only [push_cast, x_blk, x_cd, ↓reduceIte, Nat.reduceEqDiff, List.map_cons, List.map_nil, Int.reduceEq, Int.lt_irrefl]
  refine blk_of (box_agg _ (setCells (wordsOf l))) ?_
  intro w2 k2 b2 z2
  have k1 := k1.below b2 (by omega)
  have b2 := b1.trans (b2.mono b1.size)
  simp (disch := first | with_reducible assumption | omega) only [push_cast, x_blk, x_cd, ↓reduceIte, Nat.reduceEqDiff, List.map_cons, List.map_nil, Int.reduceEq, Int.lt_irrefl]
  refine blk_of (cs := setCells (wordsOf [])) al_69 ?_
  intro w3 k3 b3 z3
  have k1 := k1.below b3 (by omega)
  have k2 := k2.below b3 (by omega)
  have b3 := b2.trans (b3.mono b2.size)
  simp (disch := first | with_reducible assumption | omega) only [push_cast, x_blk, x_cd, ↓reduceIte, Nat.reduceEqDiff, List.map_cons, List.map_nil, Int.reduceEq, Int.lt_irrefl]
  refine blk_of (cs := setCells (wordsOf [])) al_69 ?_
  intro w4 k4 b4 z4
  have k1' := k1.below b4 (by omega)
  have h3 := h.below b3
  simp (disch := first | with_reducible assumption | omega) only [push_cast, x_blk, x_cd, ↓reduceIte, Nat.reduceEqDiff, List.map_cons, List.map_nil, Int.reduceEq, Int.lt_irrefl, k1'.m3 ty_ag_23]
  refine loop_rule (fun f w' => ∃ k : Nat, k ≤ m.arrows.length ∧ (f 2 = .int .i64 e ∧ f 4 = .pointer (some ⟨w1.heap.size, 0, none⟩) ∧ f 6 = .pointer (some ⟨w2.heap.size, 0, none⟩) ∧ f 7 = .pointer (some ⟨w3.heap.size, 0, none⟩) ∧ f 11 = .slice a.Aa m.arrows.length a.ca ∧ f 12 = .int .i64 m.arrows.length ∧ f 13 = .int .i64 k) ∧
      Blk w' w3.heap.size 69 (setCells (wordsOf (stepK m l e k))) ∧ Below w3.heap.size w3 w')
    (fun f _ => m.arrows.length - (intOf (f 13)).toNat) ⟨0, Nat.zero_le _, ⟨rfl, rfl, rfl, rfl, rfl, rfl, rfl⟩, k4, b4⟩ ?_
  clear k4 b4 k1'
  rintro f w5 ⟨k, hk, fr, k5, b5⟩ J hJ
  have z5 := b5.size
  have kl := k2.below b5 (by omega)
  have kr := k3.below b5 (by omega)
  have hA' := (h.below (b3.trans (b5.mono b3.size))).arrows
  by_cases hlt : k < m.arrows.length
  case neg =>
    obtain rfl : k = m.arrows.length := by omega
    rw [stepK_all] at k5
    simp (disch := first | with_reducible assumption | omega) only [push_cast, x_blk, x_cd, ↓reduceIte, Nat.reduceEqDiff, List.map_cons, List.map_nil, Int.reduceEq, Int.lt_irrefl, L_machine_Step_0, fr, Nat.lt_irrefl, k5.setA (wordsOf_words _) ty_ag_69 ty_sz_69]
    have e4 : tySize Tryd.prog 69 = some (setCells (wordsOf (stepT m l e))).length := by rw [setCells_4]; exact ty_sz_69
    refine sto_blk kr e4 (by rw [setCells_4, setCells_4]) (setCells_one _) ?_
    intro w6 k6 g6 z6
    simp (disch := first | with_reducible assumption | omega) only [push_cast, x_blk, x_cd, ↓reduceIte, Nat.reduceEqDiff, List.map_cons, List.map_nil, Int.reduceEq, Int.lt_irrefl]
    exact fin_cell k6 ty_ag_69 e4 (by simp only [push_cast, ↓reduceIte, Nat.reduceEqDiff, true_and, and_true, and_self, eq_self, fr]) (hQ _ _ ⟨setV_step m l e, g6.below (b3.trans (b5.mono b3.size)) (by omega) (by intro a ha; injection ha with ha; subst ha; show w.heap.size ≤ w2.heap.size; omega)⟩)
  have hA := hA'.isSome (by omega)
  simp (disch := first | with_reducible assumption | omega) only [push_cast, x_blk, x_cd, ↓reduceIte, Nat.reduceEqDiff, List.map_cons, List.map_nil, Int.reduceEq, Int.lt_irrefl, L_machine_Step_0, fr, hlt, hA'.ldA ty_ag_75 ty_sz_75]
  refine blk_of al_75 ?_
  intro w6 k6 b6 z6
  simp (disch := first | with_reducible assumption | omega) only [push_cast, x_blk, x_cd, ↓reduceIte, Nat.reduceEqDiff, List.map_cons, List.map_nil, Int.reduceEq, Int.lt_irrefl]
  refine sto_blk k6 (cs := arrCells (m.arrows.getD k default)) ty_sz_75 rfl (by simp [arrCells, Value.oneCell']) ?_
  intro w7 k7 q7 z7
  have hsn := stepK_snoc m l e k hlt
  have hym := getD_mem m.arrows default k hlt
  generalize hy : m.arrows.getD k default = y at *
  obtain ⟨hyf, hyt, hye⟩ := May.arr hm hym
  have k5lt := k5.lt
  have b57 : Below w5.heap.size w5 w7 := q7.below b6 (by omega) (by intro a ha; injection ha with ha; subst ha; exact Nat.le_refl _)
  have k5 := k5.below b57 k5lt
  have kl := kl.below b57 (by omega)
  have b7 := b5.trans (b57.mono z5)
  by_cases c1 : y.evt = e
  case neg =>
    rw [if_neg (fun hh => c1 hh.1), List.append_nil] at hsn
    simp (disch := first | with_reducible assumption | omega) only [push_cast, x_blk, x_cd, ↓reduceIte, Nat.reduceEqDiff, List.map_cons, List.map_nil, Int.reduceEq, Int.lt_irrefl, fr, c1, k7.a1 ty_ag_3]
    exact hJ _ _ ⟨k + 1, hlt, (by simp only [push_cast, ↓reduceIte, Nat.reduceEqDiff, true_and, and_true, and_self, eq_self, fr]), hsn ▸ k5, b7⟩ (by simp only [push_cast, ↓reduceIte, Nat.reduceEqDiff, intOf, fr]; omega)
  simp (disch := first | with_reducible assumption | omega) only [push_cast, x_blk, x_cd, ↓reduceIte, Nat.reduceEqDiff, List.map_cons, List.map_nil, Int.reduceEq, Int.lt_irrefl, fr, c1, eq_self, k7.a0 ty_ag_3, k7.a1 ty_ag_3, kl.setA (wordsOf_words _) ty_ag_69 ty_sz_69]
  refine call_of (set_Has' l y.frm hyf.1 (by omega) _) ?_
  rintro v w8 ⟨rfl, b8⟩
  have z7' : w7.heap.size = w5.heap.size + 1 := by omega
  have k5 := k5.below b8 (by omega)
  have k7 := k7.below b8 (by omega)
  have b8 := b7.trans (b8.mono (by omega))
  by_cases c2 : y.frm ∈ l
  case neg =>
    rw [if_neg (fun hh => c2 hh.2), List.append_nil] at hsn
    simp (disch := first | with_reducible assumption | omega) only [push_cast, x_blk, x_cd, ↓reduceIte, Nat.reduceEqDiff, List.map_cons, List.map_nil, Int.reduceEq, Int.lt_irrefl, fr, c2]
    exact hJ _ _ ⟨k + 1, hlt, (by simp only [push_cast, ↓reduceIte, Nat.reduceEqDiff, true_and, and_true, and_self, eq_self, fr]), hsn ▸ k5, b8⟩ (by simp only [push_cast, ↓reduceIte, Nat.reduceEqDiff, intOf, fr]; omega)
  rw [if_pos ⟨c1, c2⟩] at hsn
  simp (disch := first | with_reducible assumption | omega) only [push_cast, x_blk, x_cd, ↓reduceIte, Nat.reduceEqDiff, List.map_cons, List.map_nil, Int.reduceEq, Int.lt_irrefl, fr, c2, k7.a2 ty_ag_3]
  refine call_of (set_Add' y.to_ hyt.1 (by omega) k5) ?_
  rintro v w9 ⟨rfl, k9, g9, z9⟩
  simp (disch := first | with_reducible assumption | omega) only [push_cast, x_blk, x_cd, ↓reduceIte, Nat.reduceEqDiff, List.map_cons, List.map_nil, Int.reduceEq, Int.lt_irrefl, fr]
  exact hJ _ _ ⟨k + 1, hlt, (by simp only [push_cast, ↓reduceIte, Nat.reduceEqDiff, true_and, and_true, and_self, eq_self, fr]), by rw [hsn]; exact k9, g9.below b8 b8.size (by intro a ha; injection ha with ha; subst ha; exact Nat.le_refl _)⟩ (by simp only [push_cast, ↓reduceIte, Nat.reduceEqDiff, intOf, fr]; omega)
end Go.Proofs.YtiabkafgmanhiaaDoor
