/-
  Chapter 2: which machines may be: the program's May and the reference's: by their contracts.
-/
import Derived.Test.YtiabkafgmanhiaaDoorIr
import Derived.Test.YtiabkafgmanhiaaDoorRowB
import Derived.Test.YtiabkafgmanhiaaDoorBlk
namespace Go.Proofs.YtiabkafgmanhiaaDoor
set_option linter.unusedSimpArgs false
set_option linter.unusedVariables false
set_option linter.unusedSectionVars false
open Go.RowKit

def Arr.lt (a b : Arr) : Prop := a.frm < b.frm ∨ (a.frm = b.frm ∧ (a.evt < b.evt ∨ (a.evt = b.evt ∧ a.to_ < b.to_)))
instance (a b : Arr) : Decidable (a.lt b) := inferInstanceAs (Decidable (_ ∨ _))
def Mach.ArrOk (m : Mach) (a : Arr) : Prop := (0 ≤ a.frm ∧ a.frm < m.states) ∧ (0 ≤ a.to_ ∧ a.to_ < m.states) ∧ (0 ≤ a.evt ∧ a.evt < m.events)
instance (m : Mach) (a : Arr) : Decidable (m.ArrOk a) := inferInstanceAs (Decidable (_ ∧ _))
def Mach.At (m : Mach) (i : Nat) : Prop := m.ArrOk (m.arrows.getD i default) ∧ (0 < i → (m.arrows.getD (i - 1) default).lt (m.arrows.getD i default))
instance (m : Mach) (i : Nat) : Decidable (m.At i) := inferInstanceAs (Decidable (_ ∧ _))
def Mach.May (m : Mach) : Prop := 1 ≤ m.states ∧ m.states ≤ 256 ∧ 0 ≤ m.events ∧ m.events ≤ 8 ∧ m.arrows.length ≤ 4096 ∧ IsRow m.starts m.states ∧ IsRow m.ends m.states ∧ ∀ i, i < m.arrows.length → m.At i
instance (m : Mach) : Decidable m.May := inferInstanceAs (Decidable (_ ∧ _))

theorem ref2_ahead (a b : Arr) (w : World) :
    Cal Tryd.prog 63 [arrVal a, arrVal b] w fun v w' => v = .bool (decide (a.lt b)) ∧ Below w.heap.size w w' := by
  refine cal_ref2_ahead (by simp) 100000 fun Q hQ => ?_
  simp (disch := first | with_reducible assumption | omega) only [push_cast, x_blk, x_cd, ↓reduceIte, Nat.reduceEqDiff, List.map_cons, List.map_nil, Int.reduceEq, Int.lt_irrefl, F_ref2_ahead]
  refine blk_of (box_agg _ (arrCells a)) ?_
  intro w1 k1 b1 z1
  simp (disch := first | with_reducible assumption | omega) only [push_cast, x_blk, x_cd, ↓reduceIte, Nat.reduceEqDiff, List.map_cons, List.map_nil, Int.reduceEq, Int.lt_irrefl]
  refine blk_of (box_agg _ (arrCells b)) ?_
  intro w2 k2 b2 z2
  have bb : Below w.heap.size w w2 := b1.trans (b2.mono b1.size)
  have k3 := k1.below b2 (by omega)
  have al : a.lt b ↔ a.frm < b.frm ∨ (a.frm = b.frm ∧ (a.evt < b.evt ∨ (a.evt = b.evt ∧ a.to_ < b.to_))) := Iff.rfl
  by_cases c1 : a.frm = b.frm
  · by_cases c2 : a.evt = b.evt
    · have r : decide (a.lt b) = decide (a.to_ < b.to_) := decide_eq_decide.2 (by rw [al]; omega)
      simp (disch := first | with_reducible assumption | omega) only [push_cast, x_blk, x_cd, ↓reduceIte, Nat.reduceEqDiff, List.map_cons, List.map_nil, Int.reduceEq, Int.lt_irrefl, c1, c2, k2.a0 ty_ag_3, k2.a1 ty_ag_3, k2.a2 ty_ag_3, k3.a0 ty_ag_3, k3.a1 ty_ag_3, k3.a2 ty_ag_3]
      exact fin_1 (hQ _ _ ⟨(by simp only [push_cast, ↓reduceIte, Nat.reduceEqDiff, Int.reduceEq, r]), bb⟩)
    · have r : decide (a.lt b) = decide (a.evt < b.evt) := decide_eq_decide.2 (by rw [al]; omega)
      simp (disch := first | with_reducible assumption | omega) only [push_cast, x_blk, x_cd, ↓reduceIte, Nat.reduceEqDiff, List.map_cons, List.map_nil, Int.reduceEq, Int.lt_irrefl, c1, c2, k2.a0 ty_ag_3, k2.a1 ty_ag_3, k2.a2 ty_ag_3, k3.a0 ty_ag_3, k3.a1 ty_ag_3, k3.a2 ty_ag_3]
      exact fin_1 (hQ _ _ ⟨(by simp only [push_cast, ↓reduceIte, Nat.reduceEqDiff, Int.reduceEq, r]), bb⟩)
  · have r : decide (a.lt b) = decide (a.frm < b.frm) := decide_eq_decide.2 (by rw [al]; omega)
    simp (disch := first | with_reducible assumption | omega) only [push_cast, x_blk, x_cd, ↓reduceIte, Nat.reduceEqDiff, List.map_cons, List.map_nil, Int.reduceEq, Int.lt_irrefl, c1, k2.a0 ty_ag_3, k2.a1 ty_ag_3, k2.a2 ty_ag_3, k3.a0 ty_ag_3, k3.a1 ty_ag_3, k3.a2 ty_ag_3]
    exact fin_1 (hQ _ _ ⟨(by simp only [push_cast, ↓reduceIte, Nat.reduceEqDiff, Int.reduceEq, r]), bb⟩)

theorem ref2_May {w : World} {a : MV} {m : Mach} (h : IsM (· < w.heap.size) w a m) (hf : m.Fits) :
    Cal Tryd.prog 19 [a.val m] w fun v w' => v = .bool (decide m.May) ∧ Below w.heap.size w w' := by
  have mm : m.May ↔ 1 ≤ m.states ∧ m.states ≤ 256 ∧ 0 ≤ m.events ∧ m.events ≤ 8 ∧ m.arrows.length ≤ 4096 ∧ IsRow m.starts m.states ∧ IsRow m.ends m.states ∧ ∀ i, i < m.arrows.length → m.At i := Iff.rfl
  refine cal_ref2_May (by simp) 100000 fun Q hQ => ?_
  simp (disch := first | with_reducible assumption | omega) only [push_cast, x_blk, x_cd, ↓reduceIte, Nat.reduceEqDiff, List.map_cons, List.map_nil, Int.reduceEq, Int.lt_irrefl, F_ref2_May]
  refine blk_of (box_agg _ (a.cells m)) ?_
  intro w1 k1 b1 z1
  have h1 := h.below b1
  by_cases c1 : m.states < 1
  · have r : decide m.May = false := decide_eq_false fun hm => by rw [mm] at hm; omega
    simp (disch := first | with_reducible assumption | omega) only [push_cast, x_blk, x_cd, ↓reduceIte, Nat.reduceEqDiff, List.map_cons, List.map_nil, Int.reduceEq, Int.lt_irrefl, c1, k1.m0 ty_ag_3, k1.m1 ty_ag_3, k1.m3 ty_ag_23]
    exact fin_1 (hQ _ _ ⟨(by simp only [push_cast, ↓reduceIte, Nat.reduceEqDiff, Int.reduceEq, r]), b1⟩)
  by_cases c2 : 256 < m.states
  · have r : decide m.May = false := decide_eq_false fun hm => by rw [mm] at hm; omega
    simp (disch := first | with_reducible assumption | omega) only [push_cast, x_blk, x_cd, ↓reduceIte, Nat.reduceEqDiff, List.map_cons, List.map_nil, Int.reduceEq, Int.lt_irrefl, c1, c2, k1.m0 ty_ag_3, k1.m1 ty_ag_3, k1.m3 ty_ag_23]
    exact fin_1 (hQ _ _ ⟨(by simp only [push_cast, ↓reduceIte, Nat.reduceEqDiff, Int.reduceEq, r]), b1⟩)
  by_cases c3 : m.events < 0
  · have r : decide m.May = false := decide_eq_false fun hm => by rw [mm] at hm; omega
    simp (disch := first | with_reducible assumption | omega) only [push_cast, x_blk, x_cd, ↓reduceIte, Nat.reduceEqDiff, List.map_cons, List.map_nil, Int.reduceEq, Int.lt_irrefl, c1, c2, c3, k1.m0 ty_ag_3, k1.m1 ty_ag_3, k1.m3 ty_ag_23]
    exact fin_1 (hQ _ _ ⟨(by simp only [push_cast, ↓reduceIte, Nat.reduceEqDiff, Int.reduceEq, r]), b1⟩)
  by_cases c4 : 8 < m.events
  · have r : decide m.May = false := decide_eq_false fun hm => by rw [mm] at hm; omega
    simp (disch := first | with_reducible assumption | omega) only [push_cast, x_blk, x_cd, ↓reduceIte, Nat.reduceEqDiff, List.map_cons, List.map_nil, Int.reduceEq, Int.lt_irrefl, c1, c2, c3, c4, k1.m0 ty_ag_3, k1.m1 ty_ag_3, k1.m3 ty_ag_23]
    exact fin_1 (hQ _ _ ⟨(by simp only [push_cast, ↓reduceIte, Nat.reduceEqDiff, Int.reduceEq, r]), b1⟩)
  by_cases c5 : (4096 : Int) < (m.arrows.length : Int)
  · have r : decide m.May = false := decide_eq_false fun hm => by rw [mm] at hm; omega
    simp (disch := first | with_reducible assumption | omega) only [push_cast, x_blk, x_cd, ↓reduceIte, Nat.reduceEqDiff, List.map_cons, List.map_nil, Int.reduceEq, Int.lt_irrefl, c1, c2, c3, c4, c5, k1.m0 ty_ag_3, k1.m1 ty_ag_3, k1.m3 ty_ag_23]
    exact fin_1 (hQ _ _ ⟨(by simp only [push_cast, ↓reduceIte, Nat.reduceEqDiff, Int.reduceEq, r]), b1⟩)
  have nS := hf.lenS
  have nE := hf.lenE
  simp (disch := first | with_reducible assumption | omega) only [push_cast, x_blk, x_cd, ↓reduceIte, Nat.reduceEqDiff, List.map_cons, List.map_nil, Int.reduceEq, Int.lt_irrefl, c1, c2, c3, c4, c5, k1.m0 ty_ag_3, k1.m1 ty_ag_3, k1.m2 ty_ag_22, k1.m3 ty_ag_23, k1.m4 ty_ag_22]
  refine call_of (ref1_Is h1.starts a.cs m.states (by omega)) ?_
  rintro v w2 ⟨rfl, s2⟩
  have k2 := k1.same s2
  have h2 := h1.same s2
  by_cases c6 : IsRow m.starts m.states
  case neg =>
    have r : decide m.May = false := decide_eq_false fun hm => c6 (mm.1 hm).2.2.2.2.2.1
    simp (disch := first | with_reducible assumption | omega) only [push_cast, x_blk, x_cd, ↓reduceIte, Nat.reduceEqDiff, List.map_cons, List.map_nil, Int.reduceEq, Int.lt_irrefl, c6]
    exact fin_1 (hQ _ _ ⟨(by simp only [push_cast, ↓reduceIte, Nat.reduceEqDiff, Int.reduceEq, r]), b1.trans (s2.below _)⟩)
  simp (disch := first | with_reducible assumption | omega) only [push_cast, x_blk, x_cd, ↓reduceIte, Nat.reduceEqDiff, List.map_cons, List.map_nil, Int.reduceEq, Int.lt_irrefl, c6, k2.m0 ty_ag_3, k2.m4 ty_ag_22]
  refine call_of (ref1_Is h2.ends a.ce m.states (by omega)) ?_
  rintro v w3 ⟨rfl, s3⟩
  have b3 : Below w.heap.size w w3 := b1.trans ((s2.trans s3).below _)
  by_cases c7 : IsRow m.ends m.states
  case neg =>
    have r : decide m.May = false := decide_eq_false fun hm => c7 (mm.1 hm).2.2.2.2.2.2.1
    simp (disch := first | with_reducible assumption | omega) only [push_cast, x_blk, x_cd, ↓reduceIte, Nat.reduceEqDiff, List.map_cons, List.map_nil, Int.reduceEq, Int.lt_irrefl, c7]
    exact fin_1 (hQ _ _ ⟨(by simp only [push_cast, ↓reduceIte, Nat.reduceEqDiff, Int.reduceEq, r]), b3⟩)
  have k3 := k2.same s3
  simp (disch := first | with_reducible assumption | omega) only [push_cast, x_blk, x_cd, ↓reduceIte, Nat.reduceEqDiff, List.map_cons, List.map_nil, Int.reduceEq, Int.lt_irrefl, c7]
  refine loop_rule (fun f w' => ∃ k : Nat, k ≤ m.arrows.length ∧ f 1 = .pointer (some ⟨w.heap.size, 0, none⟩) ∧ f 3 = .int .i64 k ∧ (∀ i, i < k → m.At i) ∧ Blk w' w.heap.size 25 (a.cells m) ∧ Below w.heap.size w w')
    (fun f _ => m.arrows.length - (intOf (f 3)).toNat) ⟨0, Nat.zero_le _, rfl, rfl, fun i hi => absurd hi (by omega), k3, b3⟩ ?_
  clear k3 b3 s3 s2 h2 k2 h1 k1 b1 z1
  rintro f w1 ⟨k, hk, g1, g3, hp, k1, b1⟩ J hJ
  have h1 := (h.below b1).arrows
  by_cases hlt : k < m.arrows.length
  case neg =>
    have r : decide m.May = true := decide_eq_true (mm.2 ⟨by omega, by omega, by omega, by omega, by omega, c6, c7, fun i hi => hp i (by omega)⟩)
    simp (disch := first | with_reducible assumption | omega) only [push_cast, x_blk, x_cd, ↓reduceIte, Nat.reduceEqDiff, List.map_cons, List.map_nil, Int.reduceEq, Int.lt_irrefl, L_ref2_May_0, g1, g3, hlt, k1.m3 ty_ag_23]
    exact fin_1 (hQ _ _ ⟨(by simp only [push_cast, ↓reduceIte, Nat.reduceEqDiff, Int.reduceEq, r]), b1⟩)
  have hA := h1.isSome (by omega)
  simp (disch := first | with_reducible assumption | omega) only [push_cast, x_blk, x_cd, ↓reduceIte, Nat.reduceEqDiff, List.map_cons, List.map_nil, Int.reduceEq, Int.lt_irrefl, L_ref2_May_0, g1, g3, hlt, k1.m3 ty_ag_23, h1.ldA ty_ag_75 ty_sz_75]
  refine blk_of al_75 ?_
  intro w2 k2 b2 z2
  simp (disch := first | with_reducible assumption | omega) only [push_cast, x_blk, x_cd, ↓reduceIte, Nat.reduceEqDiff, List.map_cons, List.map_nil, Int.reduceEq, Int.lt_irrefl]
  refine sto_blk k2 (cs := arrCells (m.arrows.getD k default)) ty_sz_75 rfl (by simp [arrCells, Value.oneCell']) ?_
  intro w3 k3 q3 z3
  generalize hy : m.arrows.getD k default = y at *
  have hz : w.heap.size < w1.heap.size := k1.lt
  have b13 : Below w1.heap.size w1 w3 := q3.below b2 (by omega) (by intro a ha; injection ha with ha; subst ha; exact Nat.le_refl _)
  have k5 := k1.below b13 hz
  have b5 := b1.trans (b13.mono b1.size)
  have h5 := (h.below b5).arrows
  have bad : ¬ m.ArrOk y → decide m.May = false := fun hn => decide_eq_false fun hm => by
    have := ((mm.1 hm).2.2.2.2.2.2.2 k hlt).1
    rw [hy] at this
    exact hn this
  have ok : m.ArrOk y ↔ (0 ≤ y.frm ∧ y.frm < m.states) ∧ (0 ≤ y.to_ ∧ y.to_ < m.states) ∧ (0 ≤ y.evt ∧ y.evt < m.events) := Iff.rfl
  by_cases d1 : y.frm < 0
  · have r := bad (by rw [ok]; omega)
    simp (disch := first | with_reducible assumption | omega) only [push_cast, x_blk, x_cd, ↓reduceIte, Nat.reduceEqDiff, List.map_cons, List.map_nil, Int.reduceEq, Int.lt_irrefl, d1, g1, k3.a0 ty_ag_3, k3.a1 ty_ag_3, k3.a2 ty_ag_3, k5.m0 ty_ag_3, k5.m1 ty_ag_3]
    exact fin_1 (hQ _ _ ⟨(by simp only [push_cast, ↓reduceIte, Nat.reduceEqDiff, Int.reduceEq, r]), b5⟩)
  by_cases d2 : m.states ≤ y.frm
  · have r := bad (by rw [ok]; omega)
    simp (disch := first | with_reducible assumption | omega) only [push_cast, x_blk, x_cd, ↓reduceIte, Nat.reduceEqDiff, List.map_cons, List.map_nil, Int.reduceEq, Int.lt_irrefl, d1, d2, g1, k3.a0 ty_ag_3, k3.a1 ty_ag_3, k3.a2 ty_ag_3, k5.m0 ty_ag_3, k5.m1 ty_ag_3]
    exact fin_1 (hQ _ _ ⟨(by simp only [push_cast, ↓reduceIte, Nat.reduceEqDiff, Int.reduceEq, r]), b5⟩)
  by_cases d3 : y.to_ < 0
  · have r := bad (by rw [ok]; omega)
    simp (disch := first | with_reducible assumption | omega) only [push_cast, x_blk, x_cd, ↓reduceIte, Nat.reduceEqDiff, List.map_cons, List.map_nil, Int.reduceEq, Int.lt_irrefl, d1, d2, d3, g1, k3.a0 ty_ag_3, k3.a1 ty_ag_3, k3.a2 ty_ag_3, k5.m0 ty_ag_3, k5.m1 ty_ag_3]
    exact fin_1 (hQ _ _ ⟨(by simp only [push_cast, ↓reduceIte, Nat.reduceEqDiff, Int.reduceEq, r]), b5⟩)
  by_cases d4 : m.states ≤ y.to_
  · have r := bad (by rw [ok]; omega)
    simp (disch := first | with_reducible assumption | omega) only [push_cast, x_blk, x_cd, ↓reduceIte, Nat.reduceEqDiff, List.map_cons, List.map_nil, Int.reduceEq, Int.lt_irrefl, d1, d2, d3, d4, g1, k3.a0 ty_ag_3, k3.a1 ty_ag_3, k3.a2 ty_ag_3, k5.m0 ty_ag_3, k5.m1 ty_ag_3]
    exact fin_1 (hQ _ _ ⟨(by simp only [push_cast, ↓reduceIte, Nat.reduceEqDiff, Int.reduceEq, r]), b5⟩)
  by_cases d5 : y.evt < 0
  · have r := bad (by rw [ok]; omega)
    simp (disch := first | with_reducible assumption | omega) only [push_cast, x_blk, x_cd, ↓reduceIte, Nat.reduceEqDiff, List.map_cons, List.map_nil, Int.reduceEq, Int.lt_irrefl, d1, d2, d3, d4, d5, g1, k3.a0 ty_ag_3, k3.a1 ty_ag_3, k3.a2 ty_ag_3, k5.m0 ty_ag_3, k5.m1 ty_ag_3]
    exact fin_1 (hQ _ _ ⟨(by simp only [push_cast, ↓reduceIte, Nat.reduceEqDiff, Int.reduceEq, r]), b5⟩)
  by_cases d6 : m.events ≤ y.evt
  · have r := bad (by rw [ok]; omega)
    simp (disch := first | with_reducible assumption | omega) only [push_cast, x_blk, x_cd, ↓reduceIte, Nat.reduceEqDiff, List.map_cons, List.map_nil, Int.reduceEq, Int.lt_irrefl, d1, d2, d3, d4, d5, d6, g1, k3.a0 ty_ag_3, k3.a1 ty_ag_3, k3.a2 ty_ag_3, k5.m0 ty_ag_3, k5.m1 ty_ag_3]
    exact fin_1 (hQ _ _ ⟨(by simp only [push_cast, ↓reduceIte, Nat.reduceEqDiff, Int.reduceEq, r]), b5⟩)
  have hok : m.ArrOk y := ok.2 (by omega)
  by_cases d7 : (0 : Int) < (k : Int)
  case neg =>
    have hat : m.At k := ⟨by rw [hy]; exact hok, fun h0 => absurd h0 (by omega)⟩
    simp (disch := first | with_reducible assumption | omega) only [push_cast, x_blk, x_cd, ↓reduceIte, Nat.reduceEqDiff, List.map_cons, List.map_nil, Int.reduceEq, Int.lt_irrefl, g1, g3, d1, d2, d3, d4, d5, d6, d7, k3.a0 ty_ag_3, k3.a1 ty_ag_3, k3.a2 ty_ag_3, k5.m0 ty_ag_3, k5.m1 ty_ag_3]
    exact hJ _ _ ⟨k + 1, hlt, (by simp only [push_cast, ↓reduceIte, Nat.reduceEqDiff, Int.reduceEq, g1]), (by simp only [push_cast, ↓reduceIte, Nat.reduceEqDiff, Int.reduceEq]), fun i hi => if e : i = k then e ▸ hat else hp i (by omega), k5.drew, drawn b5⟩ (by simp only [push_cast, ↓reduceIte, Nat.reduceEqDiff, g3, intOf]; omega)
  have e1 : ((k : Int) - 1).toNat = k - 1 := by omega
  simp (disch := first | with_reducible assumption | omega) only [push_cast, x_blk, x_cd, ↓reduceIte, Nat.reduceEqDiff, List.map_cons, List.map_nil, Int.reduceEq, Int.lt_irrefl, g1, g3, d1, d2, d3, d4, d5, d6, d7, e1, k3.a0 ty_ag_3, k3.a1 ty_ag_3, k3.a2 ty_ag_3, k5.m0 ty_ag_3, k5.m1 ty_ag_3, k5.drew.m3 ty_ag_23, k3.drew.aA ty_ag_75 ty_sz_75, h5.drew.ldA ty_ag_75 ty_sz_75]
  refine call_of (ref2_ahead _ _ _) ?_
  rintro v w4 ⟨rfl, b4⟩
  have b6 := (drawn b5).trans (b4.mono (Nat.le_of_lt k5.drew.lt))
  have k6 := k5.drew.below b4 k5.drew.lt
  by_cases d8 : (m.arrows.getD (k - 1) default).lt y
  · have hat : m.At k := ⟨by rw [hy]; exact hok, fun _ => by rw [hy]; exact d8⟩
    simp (disch := first | with_reducible assumption | omega) only [push_cast, x_blk, x_cd, ↓reduceIte, Nat.reduceEqDiff, List.map_cons, List.map_nil, Int.reduceEq, Int.lt_irrefl, d8, g3]
    exact hJ _ _ ⟨k + 1, hlt, (by simp only [push_cast, ↓reduceIte, Nat.reduceEqDiff, Int.reduceEq, g1]), (by simp only [push_cast, ↓reduceIte, Nat.reduceEqDiff, Int.reduceEq]), fun i hi => if e : i = k then e ▸ hat else hp i (by omega), k6, b6⟩ (by simp only [push_cast, ↓reduceIte, Nat.reduceEqDiff, g3, intOf]; omega)
  · have r : decide m.May = false := decide_eq_false fun hm => by
      have := ((mm.1 hm).2.2.2.2.2.2.2 k hlt).2 (by omega)
      rw [hy] at this
      exact d8 this
    simp (disch := first | with_reducible assumption | omega) only [push_cast, x_blk, x_cd, ↓reduceIte, Nat.reduceEqDiff, List.map_cons, List.map_nil, Int.reduceEq, Int.lt_irrefl, d8]
    exact fin_1 (hQ _ _ ⟨(by simp only [push_cast, ↓reduceIte, Nat.reduceEqDiff, Int.reduceEq, r]), b6⟩)
end Go.Proofs.YtiabkafgmanhiaaDoor
