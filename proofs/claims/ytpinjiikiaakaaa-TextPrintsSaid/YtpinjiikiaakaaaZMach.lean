/-
  Chapter 2: which machines may be: the program's May and the reference's: by their contracts.
  Chapter 2: the program's order of arrows and its May: by their contracts.
  Chapter 2: the program's May: by its contract.
-/
import Derived.Test.YtpinjiikiaakaaaZIr
import Derived.Test.YtpinjiikiaakaaaZRow
import Derived.Test.YtpinjiikiaakaaaZOwn
namespace Go.Proofs.Ytpinjiikiaakaaa
set_option linter.unusedSimpArgs false
set_option linter.unusedVariables false
set_option linter.unusedSectionVars false
section
open Go.RowKit

def Arr.lt (a b : Arr) : Prop := a.frm < b.frm ∨ (a.frm = b.frm ∧ (a.evt < b.evt ∨ (a.evt = b.evt ∧ a.to_ < b.to_)))
instance (a b : Arr) : Decidable (a.lt b) := inferInstanceAs (Decidable (_ ∨ _))
def Mach.ArrOk (m : Mach) (a : Arr) : Prop := (0 ≤ a.frm ∧ a.frm < m.states) ∧ (0 ≤ a.to_ ∧ a.to_ < m.states) ∧ (0 ≤ a.evt ∧ a.evt < m.events)
instance (m : Mach) (a : Arr) : Decidable (m.ArrOk a) := inferInstanceAs (Decidable (_ ∧ _))
def Mach.At (m : Mach) (i : Nat) : Prop := m.ArrOk (m.arrows.getD i default) ∧ (0 < i → (m.arrows.getD (i - 1) default).lt (m.arrows.getD i default))
instance (m : Mach) (i : Nat) : Decidable (m.At i) := inferInstanceAs (Decidable (_ ∧ _))
def Mach.May (m : Mach) : Prop := 1 ≤ m.states ∧ m.states ≤ 256 ∧ 0 ≤ m.events ∧ m.events ≤ 8 ∧ m.arrows.length ≤ 4096 ∧ IsRow m.starts m.states ∧ IsRow m.ends m.states ∧ ∀ i, i < m.arrows.length → m.At i
instance (m : Mach) : Decidable m.May := inferInstanceAs (Decidable (_ ∧ _))

theorem ref2_ahead (a b : Arr) (w : World) :
    Cal Try.prog 30 [arrVal a, arrVal b] w fun v w' => v = .bool (decide (a.lt b)) ∧ Below w.heap.size w w' := by
  refine cal_ref2_ahead (by simp) 100000 fun Q hQ => ?_
  simp (disch := first | with_reducible assumption | omega) only [push_cast, x_blk, x_cd, ↓reduceIte, Nat.reduceEqDiff, List.map_cons, List.map_nil, Int.reduceEq, Int.lt_irrefl, F_ref2_ahead]
  refine blk_of (box_agg _ (arrCells a)) ?_
  intro w1 k1 b1 z1
  simp (disch := first | with_reducible assumption | omega) only [push_cast, x_blk, x_cd, ↓reduceIte, Nat.reduceEqDiff, List.map_cons, List.map_nil, Int.reduceEq, Int.lt_irrefl]
  refine blk_of (box_agg _ (arrCells b)) ?_
  intro w2 k2 b2 z2
  have bb : Below w.heap.size w w2 := b1.trans (b2.mono b1.size)
  have k3 := k1.below b2 (by omega)
  have al : a.lt b ↔ a.frm < b.frm ∨ (a.frm = b.frm ∧ (a.evt < b.evt ∨ (a.evt = b.evt ∧ a.to_ < b.to_))) := Iff.rfl
  by_cases c1 : a.frm = b.frm
  · by_cases c2 : a.evt = b.evt
    · have r : decide (a.lt b) = decide (a.to_ < b.to_) := decide_eq_decide.2 (by rw [al]; omega)
      simp (disch := first | with_reducible assumption | omega) only [push_cast, x_blk, x_cd, ↓reduceIte, Nat.reduceEqDiff, List.map_cons, List.map_nil, Int.reduceEq, Int.lt_irrefl, c1, c2, k2.a0 ty_ag_3, k2.a1 ty_ag_3, k2.a2 ty_ag_3, k3.a0 ty_ag_3, k3.a1 ty_ag_3, k3.a2 ty_ag_3]
      exact fin_1 (hQ _ _ ⟨(by simp only [push_cast, ↓reduceIte, Nat.reduceEqDiff, Int.reduceEq, r]), bb⟩)
    · have r : decide (a.lt b) = decide (a.evt < b.evt) := decide_eq_decide.2 (by rw [al]; omega)
      simp (disch := first | with_reducible assumption | omega) only [push_cast, x_blk, x_cd, ↓reduceIte, Nat.reduceEqDiff, List.map_cons, List.map_nil, Int.reduceEq, Int.lt_irrefl, c1, c2, k2.a0 ty_ag_3, k2.a1 ty_ag_3, k2.a2 ty_ag_3, k3.a0 ty_ag_3, k3.a1 ty_ag_3, k3.a2 ty_ag_3]
      exact fin_1 (hQ _ _ ⟨(by simp only [push_cast, ↓reduceIte, Nat.reduceEqDiff, Int.reduceEq, r]), bb⟩)
  · have r : decide (a.lt b) = decide (a.frm < b.frm) := decide_eq_decide.2 (by rw [al]; omega)
    simp (disch := first | with_reducible assumption | omega) only [push_cast, x_blk, x_cd, ↓reduceIte, Nat.reduceEqDiff, List.map_cons, List.map_nil, Int.reduceEq, Int.lt_irrefl, c1, k2.a0 ty_ag_3, k2.a1 ty_ag_3, k2.a2 ty_ag_3, k3.a0 ty_ag_3, k3.a1 ty_ag_3, k3.a2 ty_ag_3]
    exact fin_1 (hQ _ _ ⟨(by simp only [push_cast, ↓reduceIte, Nat.reduceEqDiff, Int.reduceEq, r]), bb⟩)

theorem ref2_May {w : World} {a : MV} {m : Mach} (h : IsM (· < w.heap.size) w a m) (hf : m.Fits) :
    Cal Try.prog 19 [a.val m] w fun v w' => v = .bool (decide m.May) ∧ Below w.heap.size w w' := by
  have mm : m.May ↔ 1 ≤ m.states ∧ m.states ≤ 256 ∧ 0 ≤ m.events ∧ m.events ≤ 8 ∧ m.arrows.length ≤ 4096 ∧ IsRow m.starts m.states ∧ IsRow m.ends m.states ∧ ∀ i, i < m.arrows.length → m.At i := Iff.rfl
  refine cal_ref2_May (by simp) 100000 fun Q hQ => ?_
  simp (disch := first | with_reducible assumption | omega) only [push_cast, x_blk, x_cd, ↓reduceIte, Nat.reduceEqDiff, List.map_cons, List.map_nil, Int.reduceEq, Int.lt_irrefl, F_ref2_May]
  refine blk_of (box_agg _ (a.cells m)) ?_
  intro w1 k1 b1 z1
  have h1 := h.below b1
  by_cases c1 : m.states < 1
  · have r : decide m.May = false := decide_eq_false fun hm => by rw [mm] at hm; omega
    simp (disch := first | with_reducible assumption | omega) only [push_cast, x_blk, x_cd, ↓reduceIte, Nat.reduceEqDiff, List.map_cons, List.map_nil, Int.reduceEq, Int.lt_irrefl, c1, k1.m0 ty_ag_3, k1.m1 ty_ag_3, k1.m3 ty_ag_24]
    exact fin_1 (hQ _ _ ⟨(by simp only [push_cast, ↓reduceIte, Nat.reduceEqDiff, Int.reduceEq, r]), b1⟩)
  by_cases c2 : 256 < m.states
  · have r : decide m.May = false := decide_eq_false fun hm => by rw [mm] at hm; omega
    simp (disch := first | with_reducible assumption | omega) only [push_cast, x_blk, x_cd, ↓reduceIte, Nat.reduceEqDiff, List.map_cons, List.map_nil, Int.reduceEq, Int.lt_irrefl, c1, c2, k1.m0 ty_ag_3, k1.m1 ty_ag_3, k1.m3 ty_ag_24]
    exact fin_1 (hQ _ _ ⟨(by simp only [push_cast, ↓reduceIte, Nat.reduceEqDiff, Int.reduceEq, r]), b1⟩)
  by_cases c3 : m.events < 0
  · have r : decide m.May = false := decide_eq_false fun hm => by rw [mm] at hm; omega
    simp (disch := first | with_reducible assumption | omega) only [push_cast, x_blk, x_cd, ↓reduceIte, Nat.reduceEqDiff, List.map_cons, List.map_nil, Int.reduceEq, Int.lt_irrefl, c1, c2, c3, k1.m0 ty_ag_3, k1.m1 ty_ag_3, k1.m3 ty_ag_24]
    exact fin_1 (hQ _ _ ⟨(by simp only [push_cast, ↓reduceIte, Nat.reduceEqDiff, Int.reduceEq, r]), b1⟩)
  by_cases c4 : 8 < m.events
  · have r : decide m.May = false := decide_eq_false fun hm => by rw [mm] at hm; omega
    simp (disch := first | with_reducible assumption | omega) only [push_cast, x_blk, x_cd, ↓reduceIte, Nat.reduceEqDiff, List.map_cons, List.map_nil, Int.reduceEq, Int.lt_irrefl, c1, c2, c3, c4, k1.m0 ty_ag_3, k1.m1 ty_ag_3, k1.m3 ty_ag_24]
    exact fin_1 (hQ _ _ ⟨(by simp only [push_cast, ↓reduceIte, Nat.reduceEqDiff, Int.reduceEq, r]), b1⟩)
  by_cases c5 : (4096 : Int) < (m.arrows.length : Int)
  · have r : decide m.May = false := decide_eq_false fun hm => by rw [mm] at hm; omega
    simp (disch := first | with_reducible assumption | omega) only [push_cast, x_blk, x_cd, ↓reduceIte, Nat.reduceEqDiff, List.map_cons, List.map_nil, Int.reduceEq, Int.lt_irrefl, c1, c2, c3, c4, c5, k1.m0 ty_ag_3, k1.m1 ty_ag_3, k1.m3 ty_ag_24]
    exact fin_1 (hQ _ _ ⟨(by simp only [push_cast, ↓reduceIte, Nat.reduceEqDiff, Int.reduceEq, r]), b1⟩)
  have nS := hf.lenS
  have nE := hf.lenE
  simp (disch := first | with_reducible assumption | omega) only [push_cast, x_blk, x_cd, ↓reduceIte, Nat.reduceEqDiff, List.map_cons, List.map_nil, Int.reduceEq, Int.lt_irrefl, c1, c2, c3, c4, c5, k1.m0 ty_ag_3, k1.m1 ty_ag_3, k1.m2 ty_ag_23, k1.m3 ty_ag_24, k1.m4 ty_ag_23]
  refine call_of (ref1_Is h1.starts a.cs m.states (by omega)) ?_
  rintro v w2 ⟨rfl, s2⟩
  have k2 := k1.same s2
  have h2 := h1.same s2
  by_cases c6 : IsRow m.starts m.states
  case neg =>
    have r : decide m.May = false := decide_eq_false fun hm => c6 (mm.1 hm).2.2.2.2.2.1
    simp (disch := first | with_reducible assumption | omega) only [push_cast, x_blk, x_cd, ↓reduceIte, Nat.reduceEqDiff, List.map_cons, List.map_nil, Int.reduceEq, Int.lt_irrefl, c6]
    exact fin_1 (hQ _ _ ⟨(by simp only [push_cast, ↓reduceIte, Nat.reduceEqDiff, Int.reduceEq, r]), b1.trans (s2.below _)⟩)
  simp (disch := first | with_reducible assumption | omega) only [push_cast, x_blk, x_cd, ↓reduceIte, Nat.reduceEqDiff, List.map_cons, List.map_nil, Int.reduceEq, Int.lt_irrefl, c6, k2.m0 ty_ag_3, k2.m4 ty_ag_23]
  refine call_of (ref1_Is h2.ends a.ce m.states (by omega)) ?_
  rintro v w3 ⟨rfl, s3⟩
  have b3 : Below w.heap.size w w3 := b1.trans ((s2.trans s3).below _)
  by_cases c7 : IsRow m.ends m.states
  case neg =>
    have r : decide m.May = false := decide_eq_false fun hm => c7 (mm.1 hm).2.2.2.2.2.2.1
    simp (disch := first | with_reducible assumption | omega) only [push_cast, x_blk, x_cd, ↓reduceIte, Nat.reduceEqDiff, List.map_cons, List.map_nil, Int.reduceEq, Int.lt_irrefl, c7]
    exact fin_1 (hQ _ _ ⟨(by simp only [push_cast, ↓reduceIte, Nat.reduceEqDiff, Int.reduceEq, r]), b3⟩)
  have k3 := k2.same s3
  simp (disch := first | with_reducible assumption | omega) only [push_cast, x_blk, x_cd, ↓reduceIte, Nat.reduceEqDiff, List.map_cons, List.map_nil, Int.reduceEq, Int.lt_irrefl, c7]
  refine loop_rule (fun f w' => ∃ k : Nat, k ≤ m.arrows.length ∧ f 1 = .pointer (some ⟨w.heap.size, 0, none⟩) ∧ f 3 = .int .i64 k ∧ (∀ i, i < k → m.At i) ∧ Blk w' w.heap.size 26 (a.cells m) ∧ Below w.heap.size w w')
    (fun f _ => m.arrows.length - (intOf (f 3)).toNat) ⟨0, Nat.zero_le _, rfl, rfl, fun i hi => absurd hi (by omega), k3, b3⟩ ?_
  clear k3 b3 s3 s2 h2 k2 h1 k1 b1 z1
  rintro f w1 ⟨k, hk, g1, g3, hp, k1, b1⟩ J hJ
  have h1 := (h.below b1).arrows
  by_cases hlt : k < m.arrows.length
  case neg =>
    have r : decide m.May = true := decide_eq_true (mm.2 ⟨by omega, by omega, by omega, by omega, by omega, c6, c7, fun i hi => hp i (by omega)⟩)
    simp (disch := first | with_reducible assumption | omega) only [push_cast, x_blk, x_cd, ↓reduceIte, Nat.reduceEqDiff, List.map_cons, List.map_nil, Int.reduceEq, Int.lt_irrefl, L_ref2_May_0, g1, g3, hlt, k1.m3 ty_ag_24]
    exact fin_1 (hQ _ _ ⟨(by simp only [push_cast, ↓reduceIte, Nat.reduceEqDiff, Int.reduceEq, r]), b1⟩)
  have hA := h1.isSome (by omega)
  simp (disch := first | with_reducible assumption | omega) only [push_cast, x_blk, x_cd, ↓reduceIte, Nat.reduceEqDiff, List.map_cons, List.map_nil, Int.reduceEq, Int.lt_irrefl, L_ref2_May_0, g1, g3, hlt, k1.m3 ty_ag_24, h1.ldA ty_ag_36 ty_sz_36]
  refine blk_of al_36 ?_
  intro w2 k2 b2 z2
  simp (disch := first | with_reducible assumption | omega) only [push_cast, x_blk, x_cd, ↓reduceIte, Nat.reduceEqDiff, List.map_cons, List.map_nil, Int.reduceEq, Int.lt_irrefl]
  refine sto_blk k2 (cs := arrCells (m.arrows.getD k default)) ty_sz_36 rfl (by simp [arrCells, Value.oneCell']) ?_
  intro w3 k3 q3 z3
  generalize hy : m.arrows.getD k default = y at *
  have hz : w.heap.size < w1.heap.size := k1.lt
  have b13 : Below w1.heap.size w1 w3 := q3.below b2 (by omega) (by intro a ha; injection ha with ha; subst ha; exact Nat.le_refl _)
  have k5 := k1.below b13 hz
  have b5 := b1.trans (b13.mono b1.size)
  have h5 := (h.below b5).arrows
  have bad : ¬ m.ArrOk y → decide m.May = false := fun hn => decide_eq_false fun hm => by
    have := ((mm.1 hm).2.2.2.2.2.2.2 k hlt).1
    rw [hy] at this
    exact hn this
  have ok : m.ArrOk y ↔ (0 ≤ y.frm ∧ y.frm < m.states) ∧ (0 ≤ y.to_ ∧ y.to_ < m.states) ∧ (0 ≤ y.evt ∧ y.evt < m.events) := Iff.rfl
  by_cases d1 : y.frm < 0
  · have r := bad (by rw [ok]; omega)
    simp (disch := first | with_reducible assumption | omega) only [push_cast, x_blk, x_cd, ↓reduceIte, Nat.reduceEqDiff, List.map_cons, List.map_nil, Int.reduceEq, Int.lt_irrefl, d1, g1, k3.a0 ty_ag_3, k3.a1 ty_ag_3, k3.a2 ty_ag_3, k5.m0 ty_ag_3, k5.m1 ty_ag_3]
    exact fin_1 (hQ _ _ ⟨(by simp only [push_cast, ↓reduceIte, Nat.reduceEqDiff, Int.reduceEq, r]), b5⟩)
  by_cases d2 : m.states ≤ y.frm
  · have r := bad (by rw [ok]; omega)
    simp (disch := first | with_reducible assumption | omega) only [push_cast, x_blk, x_cd, ↓reduceIte, Nat.reduceEqDiff, List.map_cons, List.map_nil, Int.reduceEq, Int.lt_irrefl, d1, d2, g1, k3.a0 ty_ag_3, k3.a1 ty_ag_3, k3.a2 ty_ag_3, k5.m0 ty_ag_3, k5.m1 ty_ag_3]
    exact fin_1 (hQ _ _ ⟨(by simp only [push_cast, ↓reduceIte, Nat.reduceEqDiff, Int.reduceEq, r]), b5⟩)
  by_cases d3 : y.to_ < 0
  · have r := bad (by rw [ok]; omega)
    simp (disch := first | with_reducible assumption | omega) only [push_cast, x_blk, x_cd, ↓reduceIte, Nat.reduceEqDiff, List.map_cons, List.map_nil, Int.reduceEq, Int.lt_irrefl, d1, d2, d3, g1, k3.a0 ty_ag_3, k3.a1 ty_ag_3, k3.a2 ty_ag_3, k5.m0 ty_ag_3, k5.m1 ty_ag_3]
    exact fin_1 (hQ _ _ ⟨(by simp only [push_cast, ↓reduceIte, Nat.reduceEqDiff, Int.reduceEq, r]), b5⟩)
  by_cases d4 : m.states ≤ y.to_
  · have r := bad (by rw [ok]; omega)
    simp (disch := first | with_reducible assumption | omega) only [push_cast, x_blk, x_cd, ↓reduceIte, Nat.reduceEqDiff, List.map_cons, List.map_nil, Int.reduceEq, Int.lt_irrefl, d1, d2, d3, d4, g1, k3.a0 ty_ag_3, k3.a1 ty_ag_3, k3.a2 ty_ag_3, k5.m0 ty_ag_3, k5.m1 ty_ag_3]
    exact fin_1 (hQ _ _ ⟨(by simp only [push_cast, ↓reduceIte, Nat.reduceEqDiff, Int.reduceEq, r]), b5⟩)
  by_cases d5 : y.evt < 0
  · have r := bad (by rw [ok]; omega)
    simp (disch := first | with_reducible assumption | omega) only [push_cast, x_blk, x_cd, ↓reduceIte, Nat.reduceEqDiff, List.map_cons, List.map_nil, Int.reduceEq, Int.lt_irrefl, d1, d2, d3, d4, d5, g1, k3.a0 ty_ag_3, k3.a1 ty_ag_3, k3.a2 ty_ag_3, k5.m0 ty_ag_3, k5.m1 ty_ag_3]
    exact fin_1 (hQ _ _ ⟨(by simp only [push_cast, ↓reduceIte, Nat.reduceEqDiff, Int.reduceEq, r]), b5⟩)
  by_cases d6 : m.events ≤ y.evt
  · have r := bad (by rw [ok]; omega)
    simp (disch := first | with_reducible assumption | omega) only [push_cast, x_blk, x_cd, ↓reduceIte, Nat.reduceEqDiff, List.map_cons, List.map_nil, Int.reduceEq, Int.lt_irrefl, d1, d2, d3, d4, d5, d6, g1, k3.a0 ty_ag_3, k3.a1 ty_ag_3, k3.a2 ty_ag_3, k5.m0 ty_ag_3, k5.m1 ty_ag_3]
    exact fin_1 (hQ _ _ ⟨(by simp only [push_cast, ↓reduceIte, Nat.reduceEqDiff, Int.reduceEq, r]), b5⟩)
  have hok : m.ArrOk y := ok.2 (by omega)
  by_cases d7 : (0 : Int) < (k : Int)
  case neg =>
    have hat : m.At k := ⟨by rw [hy]; exact hok, fun h0 => absurd h0 (by omega)⟩
    simp (disch := first | with_reducible assumption | omega) only [push_cast, x_blk, x_cd, ↓reduceIte, Nat.reduceEqDiff, List.map_cons, List.map_nil, Int.reduceEq, Int.lt_irrefl, g1, g3, d1, d2, d3, d4, d5, d6, d7, k3.a0 ty_ag_3, k3.a1 ty_ag_3, k3.a2 ty_ag_3, k5.m0 ty_ag_3, k5.m1 ty_ag_3]
    exact hJ _ _ ⟨k + 1, hlt, (by simp only [push_cast, ↓reduceIte, Nat.reduceEqDiff, Int.reduceEq, g1]), (by simp only [push_cast, ↓reduceIte, Nat.reduceEqDiff, Int.reduceEq]), fun i hi => if e : i = k then e ▸ hat else hp i (by omega), k5.drew, drawn b5⟩ (by simp only [push_cast, ↓reduceIte, Nat.reduceEqDiff, g3, intOf]; omega)
  have e1 : ((k : Int) - 1).toNat = k - 1 := by omega
  simp (disch := first | with_reducible assumption | omega) only [push_cast, x_blk, x_cd, ↓reduceIte, Nat.reduceEqDiff, List.map_cons, List.map_nil, Int.reduceEq, Int.lt_irrefl, g1, g3, d1, d2, d3, d4, d5, d6, d7, e1, k3.a0 ty_ag_3, k3.a1 ty_ag_3, k3.a2 ty_ag_3, k5.m0 ty_ag_3, k5.m1 ty_ag_3, k5.drew.m3 ty_ag_24, k3.drew.aA ty_ag_36 ty_sz_36, h5.drew.ldA ty_ag_36 ty_sz_36]
  refine call_of (ref2_ahead _ _ _) ?_
  rintro v w4 ⟨rfl, b4⟩
  have b6 := (drawn b5).trans (b4.mono (Nat.le_of_lt k5.drew.lt))
  have k6 := k5.drew.below b4 k5.drew.lt
  by_cases d8 : (m.arrows.getD (k - 1) default).lt y
  · have hat : m.At k := ⟨by rw [hy]; exact hok, fun _ => by rw [hy]; exact d8⟩
    simp (disch := first | with_reducible assumption | omega) only [push_cast, x_blk, x_cd, ↓reduceIte, Nat.reduceEqDiff, List.map_cons, List.map_nil, Int.reduceEq, Int.lt_irrefl, d8, g3]
    exact hJ _ _ ⟨k + 1, hlt, (by simp only [push_cast, ↓reduceIte, Nat.reduceEqDiff, Int.reduceEq, g1]), (by simp only [push_cast, ↓reduceIte, Nat.reduceEqDiff, Int.reduceEq]), fun i hi => if e : i = k then e ▸ hat else hp i (by omega), k6, b6⟩ (by simp only [push_cast, ↓reduceIte, Nat.reduceEqDiff, g3, intOf]; omega)
  · have r : decide m.May = false := decide_eq_false fun hm => by
      have := ((mm.1 hm).2.2.2.2.2.2.2 k hlt).2 (by omega)
      rw [hy] at this
      exact d8 this
    simp (disch := first | with_reducible assumption | omega) only [push_cast, x_blk, x_cd, ↓reduceIte, Nat.reduceEqDiff, List.map_cons, List.map_nil, Int.reduceEq, Int.lt_irrefl, d8]
    exact fin_1 (hQ _ _ ⟨(by simp only [push_cast, ↓reduceIte, Nat.reduceEqDiff, Int.reduceEq, r]), b6⟩)
end

section
open Go.RowKit

theorem cmp_isNaN (a : Int) (w : World) : Cal Try.prog 38 [.int .i64 a] w fun v w' => v = .bool false ∧ Same w w' := by
  refine cal_cmp_isNaN (by simp) 100000 fun Q hQ => ?_
  simp (disch := first | with_reducible assumption | omega) only [push_cast, x_blk, x_cd, ↓reduceIte, Nat.reduceEqDiff, List.map_cons, List.map_nil, Int.reduceEq, Int.lt_irrefl, F_cmp_isNaN, eq_self]
  exact fin_1 (hQ _ _ ⟨(by simp only [push_cast, ↓reduceIte, Nat.reduceEqDiff, Int.reduceEq]), Same.refl _⟩)
def cmpI (x y : Int) : Int := if x < y then -1 else if y < x then 1 else 0
theorem cmp_Compare (x y : Int) (w : World) : Cal Try.prog 35 [.int .i64 x, .int .i64 y] w fun v w' => v = .int .i64 (cmpI x y) ∧ Same w w' := by
  refine cal_cmp_Compare (by simp) 100000 fun Q hQ => ?_
  simp (disch := first | with_reducible assumption | omega) only [push_cast, x_blk, x_cd, ↓reduceIte, Nat.reduceEqDiff, List.map_cons, List.map_nil, Int.reduceEq, Int.lt_irrefl, F_cmp_Compare]
  refine call_of (cmp_isNaN x w) ?_
  rintro v w1 ⟨rfl, s1⟩
  simp (disch := first | with_reducible assumption | omega) only [push_cast, x_blk, x_cd, ↓reduceIte, Nat.reduceEqDiff, List.map_cons, List.map_nil, Int.reduceEq, Int.lt_irrefl]
  refine call_of (cmp_isNaN y w1) ?_
  rintro v w2 ⟨rfl, s2⟩
  by_cases c1 : x < y
  · have r : cmpI x y = -1 := if_pos c1
    simp (disch := first | with_reducible assumption | omega) only [push_cast, x_blk, x_cd, ↓reduceIte, Nat.reduceEqDiff, List.map_cons, List.map_nil, Int.reduceEq, Int.lt_irrefl, c1]
    exact fin_1 (hQ _ _ ⟨(by simp only [push_cast, ↓reduceIte, Nat.reduceEqDiff, Int.reduceEq, r]), s1.trans s2⟩)
  by_cases c2 : y < x
  · have r : cmpI x y = 1 := by unfold cmpI; rw [if_neg c1, if_pos c2]
    simp (disch := first | with_reducible assumption | omega) only [push_cast, x_blk, x_cd, ↓reduceIte, Nat.reduceEqDiff, List.map_cons, List.map_nil, Int.reduceEq, Int.lt_irrefl, c1, c2]
    exact fin_1 (hQ _ _ ⟨(by simp only [push_cast, ↓reduceIte, Nat.reduceEqDiff, Int.reduceEq, r]), s1.trans s2⟩)
  · have r : cmpI x y = 0 := by unfold cmpI; rw [if_neg c1, if_neg c2]
    simp (disch := first | with_reducible assumption | omega) only [push_cast, x_blk, x_cd, ↓reduceIte, Nat.reduceEqDiff, List.map_cons, List.map_nil, Int.reduceEq, Int.lt_irrefl, c1, c2]
    exact fin_1 (hQ _ _ ⟨(by simp only [push_cast, ↓reduceIte, Nat.reduceEqDiff, Int.reduceEq, r]), s1.trans s2⟩)
def orL : List Int → Int
  | [] => 0
  | x :: l => if x = 0 then orL l else x
theorem orL_at : ∀ (l : List Int) (k : Nat), (∀ i, i < k → l.getD i 0 = 0) → orL l = orL (l.drop k)
  | _, 0, _ => rfl
  | [], _ + 1, _ => rfl
  | x :: l, k + 1, h => by
    have h0 := h 0 (by omega)
    simp only [List.getD_cons_zero] at h0
    rw [orL, if_pos h0, orL_at l k fun i hi => by simpa using h (i + 1) (by omega), List.drop_succ_cons]
theorem orL_here (l : List Int) (k : Nat) (hk : k < l.length) (h : ∀ i, i < k → l.getD i 0 = 0) (hn : ¬ l.getD k 0 = 0) : orL l = l.getD k 0 := by
  rw [orL_at l k h, List.drop_eq_getElem_cons hk, orL]
  have e : l[k] = l.getD k 0 := by simp [List.getD_eq_getElem?_getD, hk]
  rw [e, if_neg hn]
theorem cmp_Or {ok : Nat → Prop} {w : World} {A : Option Addr} {l : List Int} (h : Ints ok w A l) (c : Nat) (hl : l.length ≤ 9223372036854775807) :
    Cal Try.prog 34 [.slice A l.length c] w fun v w' => v = .int .i64 (orL l) ∧ Same w w' := by
  refine cal_cmp_Or (by simp) 100000 fun Q hQ => ?_
  simp (disch := first | with_reducible assumption | omega) only [push_cast, x_blk, x_cd, ↓reduceIte, Nat.reduceEqDiff, List.map_cons, List.map_nil, Int.reduceEq, Int.lt_irrefl, F_cmp_Or]
  refine loop_rule (fun f w' => ∃ k : Nat, k ≤ l.length ∧ f 3 = .int .i64 0 ∧ f 6 = .slice A l.length c ∧ f 7 = .int .i64 l.length ∧ f 8 = .int .i64 k ∧ (∀ i, i < k → l.getD i 0 = 0) ∧ Same w w')
    (fun f _ => l.length - (intOf (f 8)).toNat) ⟨0, Nat.zero_le _, rfl, rfl, rfl, rfl, fun i hi => absurd hi (by omega), Same.refl w⟩ ?_
  rintro f w1 ⟨k, hk, h3, h6, h7, h8, hp, hs⟩ J hJ
  have hI := h.same hs
  by_cases hlt : k < l.length
  · have hA := h.isSome (by omega)
    by_cases c1 : l.getD k 0 = 0
    · simp (disch := first | with_reducible assumption | omega) only [push_cast, x_blk, x_cd, ↓reduceIte, Nat.reduceEqDiff, List.map_cons, List.map_nil, Int.reduceEq, Int.lt_irrefl, L_cmp_Or_0, h3, h6, h7, h8, hlt, c1, hI.ld ty_ag_3]
      exact hJ _ _ ⟨k + 1, hlt, (by simp only [push_cast, ↓reduceIte, Nat.reduceEqDiff, Int.reduceEq, h3]), (by simp only [push_cast, ↓reduceIte, Nat.reduceEqDiff, Int.reduceEq, h6]), (by simp only [push_cast, ↓reduceIte, Nat.reduceEqDiff, Int.reduceEq, h7]), (by simp only [push_cast, ↓reduceIte, Nat.reduceEqDiff, Int.reduceEq]), fun i hi => if e : i = k then e ▸ c1 else hp i (by omega), hs⟩ (by simp only [push_cast, ↓reduceIte, Nat.reduceEqDiff, h8, intOf]; omega)
    · have r := orL_here l k hlt hp c1
      simp (disch := first | with_reducible assumption | omega) only [push_cast, x_blk, x_cd, ↓reduceIte, Nat.reduceEqDiff, List.map_cons, List.map_nil, Int.reduceEq, Int.lt_irrefl, L_cmp_Or_0, h3, h6, h7, h8, hlt, c1, hI.ld ty_ag_3]
      exact fin_1 (hQ _ _ ⟨(by simp only [push_cast, ↓reduceIte, Nat.reduceEqDiff, Int.reduceEq, r]), hs⟩)
  · have r : orL l = 0 := by rw [orL_at l k hp, List.drop_eq_nil_of_le (by omega)]; rfl
    simp (disch := first | with_reducible assumption | omega) only [push_cast, x_blk, x_cd, ↓reduceIte, Nat.reduceEqDiff, List.map_cons, List.map_nil, Int.reduceEq, Int.lt_irrefl, L_cmp_Or_0, h3, h6, h7, h8, hlt]
    exact fin_1 (hQ _ _ ⟨(by simp only [push_cast, ↓reduceIte, Nat.reduceEqDiff, Int.reduceEq, r]), hs⟩)

def ordA (a b : Arr) : Int := orL [cmpI a.frm b.frm, cmpI a.evt b.evt, cmpI a.to_ b.to_]
theorem ordA_lt (a b : Arr) : 0 ≤ ordA a b ↔ ¬ a.lt b := by
  unfold ordA Arr.lt cmpI
  simp only [orL]
  repeat' split
  all_goals omega
theorem ints_blk {w : World} {g t : Nat} {l : List Int} (h : Blk w g t (iv l)) : Ints (· < w.heap.size) w (some ⟨g, 0, none⟩) l :=
  ⟨fun _ => rfl, fun _ => h.lt, fun i hi => by rw [eA_zero, h.cell]; simp [List.getD_eq_getElem?_getD, hi]⟩

theorem machine_order (a b : Arr) (w : World) :
    Cal Try.prog 24 [arrVal a, arrVal b] w fun v w' => v = .int .i64 (ordA a b) ∧ Below w.heap.size w w' := by
  refine cal_machine_order (by simp) 100000 fun Q hQ => ?_
  simp (disch := first | with_reducible assumption | omega) only [push_cast, x_blk, x_cd, ↓reduceIte, Nat.reduceEqDiff, List.map_cons, List.map_nil, Int.reduceEq, Int.lt_irrefl, F_machine_order]
  refine blk_of (box_agg _ (arrCells a)) ?_
  intro w1 k1 b1 z1
  simp (disch := first | with_reducible assumption | omega) only [push_cast, x_blk, x_cd, ↓reduceIte, Nat.reduceEqDiff, List.map_cons, List.map_nil, Int.reduceEq, Int.lt_irrefl]
  refine blk_of (box_agg _ (arrCells b)) ?_
  intro w2 k2 b2 z2
  have bb : Below w.heap.size w w2 := b1.trans (b2.mono b1.size)
  have k3 := (k1.below b2 (by omega)).drew
  have k4 := k2.drew
  simp (disch := first | with_reducible assumption | omega) only [push_cast, x_blk, x_cd, ↓reduceIte, Nat.reduceEqDiff, List.map_cons, List.map_nil, Int.reduceEq, Int.lt_irrefl, k4.a0 ty_ag_3, k4.a1 ty_ag_3, k4.a2 ty_ag_3, k3.a0 ty_ag_3, k3.a1 ty_ag_3, k3.a2 ty_ag_3]
  refine call_of (cmp_Compare _ _ _) ?_
  rintro v w3 ⟨rfl, s3⟩
  have q3 := s3.below w2.drew.heap.size
  simp (disch := first | with_reducible assumption | omega) only [push_cast, x_blk, x_cd, ↓reduceIte, Nat.reduceEqDiff, List.map_cons, List.map_nil, Int.reduceEq, Int.lt_irrefl]
  refine ⟨q3, ?_⟩
  refine call_of (cmp_Compare _ _ _) ?_
  rintro v w4 ⟨rfl, s4⟩
  have q4 := (s3.trans s4).below w2.drew.heap.size
  simp (disch := first | with_reducible assumption | omega) only [push_cast, x_blk, x_cd, ↓reduceIte, Nat.reduceEqDiff, List.map_cons, List.map_nil, Int.reduceEq, Int.lt_irrefl]
  refine ⟨q4, ?_⟩
  refine call_of (cmp_Compare _ _ _) ?_
  rintro v w5 ⟨rfl, s5⟩
  have q5 := ((s3.trans s4).trans s5).below w2.drew.heap.size
  simp (disch := first | with_reducible assumption | omega) only [push_cast, x_blk, x_cd, ↓reduceIte, Nat.reduceEqDiff, List.map_cons, List.map_nil, Int.reduceEq, Int.lt_irrefl]
  refine ⟨q5, ?_⟩
  refine blk_of (bsl3_eq slT_23 _ _ _) ?_
  intro w6 k6 b6 z6
  have q6 := q5.trans (b6.mono q5.size)
  simp (disch := first | with_reducible assumption | omega) only [push_cast, x_blk, x_cd, ↓reduceIte, Nat.reduceEqDiff, List.map_cons, List.map_nil, Int.reduceEq, Int.lt_irrefl]
  refine ⟨q6, ?_⟩
  refine call_of (cmp_Or (l := [cmpI a.frm b.frm, cmpI a.evt b.evt, cmpI a.to_ b.to_]) (ints_blk k6) 3 (by simp)) ?_
  rintro v w7 ⟨rfl, s7⟩
  have q7 := q6.trans (s7.below w2.drew.heap.size)
  simp (disch := first | with_reducible assumption | omega) only [push_cast, x_blk, x_cd, ↓reduceIte, Nat.reduceEqDiff, List.map_cons, List.map_nil, Int.reduceEq, Int.lt_irrefl]
  refine ⟨q7, ?_⟩
  exact fin_1 (hQ _ _ ⟨(by simp only [push_cast, ↓reduceIte, Nat.reduceEqDiff, Int.reduceEq, ordA]), (drawn bb).trans (q7.mono bb.size)⟩)

theorem machine_in (n b : Int) (w : World) : Cal Try.prog 23 [.int .i64 n, .int .i64 b] w fun v w' => v = .bool (decide (0 ≤ n ∧ n < b)) ∧ Same w w' := by
  refine cal_machine_May_1 (by simp) 100000 fun Q hQ => ?_
  by_cases c1 : 0 ≤ n
  · have r : decide (0 ≤ n ∧ n < b) = decide (n < b) := decide_eq_decide.2 (by omega)
    simp (disch := first | with_reducible assumption | omega) only [push_cast, x_blk, x_cd, ↓reduceIte, Nat.reduceEqDiff, List.map_cons, List.map_nil, Int.reduceEq, Int.lt_irrefl, F_machine_May_1, c1]
    exact fin_1 (hQ _ _ ⟨(by simp only [push_cast, ↓reduceIte, Nat.reduceEqDiff, Int.reduceEq, r]), Same.refl _⟩)
  · have r : decide (0 ≤ n ∧ n < b) = false := decide_eq_false (by omega)
    simp (disch := first | with_reducible assumption | omega) only [push_cast, x_blk, x_cd, ↓reduceIte, Nat.reduceEqDiff, List.map_cons, List.map_nil, Int.reduceEq, Int.lt_irrefl, F_machine_May_1, c1]
    exact fin_1 (hQ _ _ ⟨(by simp only [push_cast, ↓reduceIte, Nat.reduceEqDiff, Int.reduceEq, r]), Same.refl _⟩)
end

section
open Go.RowKit

theorem machine_May {w : World} {a : MV} {m : Mach} (h : IsM (· < w.heap.size) w a m) (hf : m.Fits) :
    Cal Try.prog 13 [a.val m] w fun v w' => v = .bool (decide m.May) ∧ Below w.heap.size w w' := by
  have mm : m.May ↔ 1 ≤ m.states ∧ m.states ≤ 256 ∧ 0 ≤ m.events ∧ m.events ≤ 8 ∧ m.arrows.length ≤ 4096 ∧ IsRow m.starts m.states ∧ IsRow m.ends m.states ∧ ∀ i, i < m.arrows.length → m.At i := Iff.rfl
  refine cal_machine_May (by simp) 100000 fun Q hQ => ?_
  simp (disch := first | with_reducible assumption | omega) only [push_cast, x_blk, x_cd, ↓reduceIte, Nat.reduceEqDiff, List.map_cons, List.map_nil, Int.reduceEq, Int.lt_irrefl, F_machine_May]
  refine blk_of (box_agg _ (a.cells m)) ?_
  intro w1 k1 b1 z1
  have h1 := h.below b1
  have nS := hf.lenS
  have nE := hf.lenE
  by_cases c1 : m.states < 1
  · have r : decide m.May = false := decide_eq_false fun hm => by rw [mm] at hm; omega
    simp (disch := first | with_reducible assumption | omega) only [push_cast, x_blk, x_cd, ↓reduceIte, Nat.reduceEqDiff, List.map_cons, List.map_nil, Int.reduceEq, Int.lt_irrefl, c1, k1.m0 ty_ag_3, k1.m1 ty_ag_3]
    exact fin_1 (hQ _ _ ⟨(by simp only [push_cast, ↓reduceIte, Nat.reduceEqDiff, Int.reduceEq, r]), b1⟩)
  by_cases c2 : 256 < m.states
  · have r : decide m.May = false := decide_eq_false fun hm => by rw [mm] at hm; omega
    simp (disch := first | with_reducible assumption | omega) only [push_cast, x_blk, x_cd, ↓reduceIte, Nat.reduceEqDiff, List.map_cons, List.map_nil, Int.reduceEq, Int.lt_irrefl, c1, c2, k1.m0 ty_ag_3, k1.m1 ty_ag_3]
    exact fin_1 (hQ _ _ ⟨(by simp only [push_cast, ↓reduceIte, Nat.reduceEqDiff, Int.reduceEq, r]), b1⟩)
  by_cases c3 : m.events < 0
  · have r : decide m.May = false := decide_eq_false fun hm => by rw [mm] at hm; omega
    simp (disch := first | with_reducible assumption | omega) only [push_cast, x_blk, x_cd, ↓reduceIte, Nat.reduceEqDiff, List.map_cons, List.map_nil, Int.reduceEq, Int.lt_irrefl, c1, c2, c3, k1.m0 ty_ag_3, k1.m1 ty_ag_3]
    exact fin_1 (hQ _ _ ⟨(by simp only [push_cast, ↓reduceIte, Nat.reduceEqDiff, Int.reduceEq, r]), b1⟩)
  by_cases c4 : 8 < m.events
  · have r : decide m.May = false := decide_eq_false fun hm => by rw [mm] at hm; omega
    simp (disch := first | with_reducible assumption | omega) only [push_cast, x_blk, x_cd, ↓reduceIte, Nat.reduceEqDiff, List.map_cons, List.map_nil, Int.reduceEq, Int.lt_irrefl, c1, c2, c3, c4, k1.m0 ty_ag_3, k1.m1 ty_ag_3]
    exact fin_1 (hQ _ _ ⟨(by simp only [push_cast, ↓reduceIte, Nat.reduceEqDiff, Int.reduceEq, r]), b1⟩)
  simp (disch := first | with_reducible assumption | omega) only [push_cast, x_blk, x_cd, ↓reduceIte, Nat.reduceEqDiff, List.map_cons, List.map_nil, Int.reduceEq, Int.lt_irrefl, c1, c2, c3, c4, k1.m0 ty_ag_3, k1.m1 ty_ag_3, k1.m2 ty_ag_23]
  refine call_of (row_Is h1.starts a.cs m.states (by omega)) ?_
  rintro v w2 ⟨rfl, s2⟩
  have k2 := k1.same s2
  have h2 := h1.same s2
  by_cases c6 : IsRow m.starts m.states
  case neg =>
    have r : decide m.May = false := decide_eq_false fun hm => c6 (mm.1 hm).2.2.2.2.2.1
    simp (disch := first | with_reducible assumption | omega) only [push_cast, x_blk, x_cd, ↓reduceIte, Nat.reduceEqDiff, List.map_cons, List.map_nil, Int.reduceEq, Int.lt_irrefl, c6]
    exact fin_1 (hQ _ _ ⟨(by simp only [push_cast, ↓reduceIte, Nat.reduceEqDiff, Int.reduceEq, r]), b1.trans (s2.below _)⟩)
  simp (disch := first | with_reducible assumption | omega) only [push_cast, x_blk, x_cd, ↓reduceIte, Nat.reduceEqDiff, List.map_cons, List.map_nil, Int.reduceEq, Int.lt_irrefl, c6, k2.m0 ty_ag_3, k2.m4 ty_ag_23]
  refine call_of (row_Is h2.ends a.ce m.states (by omega)) ?_
  rintro v w3 ⟨rfl, s3⟩
  have b3 : Below w.heap.size w w3 := b1.trans ((s2.trans s3).below _)
  by_cases c7 : IsRow m.ends m.states
  case neg =>
    have r : decide m.May = false := decide_eq_false fun hm => c7 (mm.1 hm).2.2.2.2.2.2.1
    simp (disch := first | with_reducible assumption | omega) only [push_cast, x_blk, x_cd, ↓reduceIte, Nat.reduceEqDiff, List.map_cons, List.map_nil, Int.reduceEq, Int.lt_irrefl, c7]
    exact fin_1 (hQ _ _ ⟨(by simp only [push_cast, ↓reduceIte, Nat.reduceEqDiff, Int.reduceEq, r]), b3⟩)
  have k3 := k2.same s3
  by_cases c5 : (4096 : Int) < (m.arrows.length : Int)
  · have r : decide m.May = false := decide_eq_false fun hm => by rw [mm] at hm; omega
    simp (disch := first | with_reducible assumption | omega) only [push_cast, x_blk, x_cd, ↓reduceIte, Nat.reduceEqDiff, List.map_cons, List.map_nil, Int.reduceEq, Int.lt_irrefl, c7, c5, k3.m3 ty_ag_24]
    exact fin_1 (hQ _ _ ⟨(by simp only [push_cast, ↓reduceIte, Nat.reduceEqDiff, Int.reduceEq, r]), b3⟩)
  simp (disch := first | with_reducible assumption | omega) only [push_cast, x_blk, x_cd, ↓reduceIte, Nat.reduceEqDiff, List.map_cons, List.map_nil, Int.reduceEq, Int.lt_irrefl, c7, c5, k3.m3 ty_ag_24]
  refine loop_rule (fun f w' => ∃ k : Nat, k ≤ m.arrows.length ∧ f 1 = .pointer (some ⟨w.heap.size, 0, none⟩) ∧ f 3 = .func (.func 23) #[] #[] ∧ f 47 = .slice a.Aa m.arrows.length a.ca ∧ f 48 = .int .i64 m.arrows.length ∧ f 49 = .int .i64 k ∧
      (∀ i, i < k → m.At i) ∧ Blk w' w.heap.size 26 (a.cells m) ∧ Below w.heap.size w w')
    (fun f _ => m.arrows.length - (intOf (f 49)).toNat) ⟨0, Nat.zero_le _, rfl, rfl, rfl, rfl, rfl, fun i hi => absurd hi (by omega), k3, b3⟩ ?_
  clear k3 b3 s3 s2 h2 k2 h1 k1 b1 z1
  rintro f w1 ⟨k, hk, g1, g3, g47, g48, g49, hp, k1, b1⟩ J hJ
  have h1 := (h.below b1).arrows
  by_cases hlt : k < m.arrows.length
  case neg =>
    have r : decide m.May = true := decide_eq_true (mm.2 ⟨by omega, by omega, by omega, by omega, by omega, c6, c7, fun i hi => hp i (by omega)⟩)
    simp (disch := first | with_reducible assumption | omega) only [push_cast, x_blk, x_cd, ↓reduceIte, Nat.reduceEqDiff, List.map_cons, List.map_nil, Int.reduceEq, Int.lt_irrefl, L_machine_May_0, g1, g47, g48, g49, hlt]
    exact fin_1 (hQ _ _ ⟨(by simp only [push_cast, ↓reduceIte, Nat.reduceEqDiff, Int.reduceEq, r]), b1⟩)
  have hA := h1.isSome (by omega)
  simp (disch := first | with_reducible assumption | omega) only [push_cast, x_blk, x_cd, ↓reduceIte, Nat.reduceEqDiff, List.map_cons, List.map_nil, Int.reduceEq, Int.lt_irrefl, L_machine_May_0, g1, g47, g48, g49, hlt, h1.ldA ty_ag_36 ty_sz_36]
  refine blk_of al_36 ?_
  intro w2 k2 b2 z2
  simp (disch := first | with_reducible assumption | omega) only [push_cast, x_blk, x_cd, ↓reduceIte, Nat.reduceEqDiff, List.map_cons, List.map_nil, Int.reduceEq, Int.lt_irrefl]
  refine sto_blk k2 (cs := arrCells (m.arrows.getD k default)) ty_sz_36 rfl (by simp [arrCells, Value.oneCell']) ?_
  intro w3 k3 q3 z3
  generalize hy : m.arrows.getD k default = y at *
  have hz : w.heap.size < w1.heap.size := k1.lt
  have b13 : Below w1.heap.size w1 w3 := q3.below b2 (by omega) (by intro a ha; injection ha with ha; subst ha; exact Nat.le_refl _)
  have k5 := (k1.below b13 hz).drew
  have b5 := drawn (b1.trans (b13.mono b1.size))
  have h5 := (h.below b5).arrows
  have k3' := k3.drew
  have bad : ¬ m.ArrOk y → decide m.May = false := fun hn => decide_eq_false fun hm => by
    have := ((mm.1 hm).2.2.2.2.2.2.2 k hlt).1
    rw [hy] at this
    exact hn this
  have ok : m.ArrOk y ↔ (0 ≤ y.frm ∧ y.frm < m.states) ∧ (0 ≤ y.to_ ∧ y.to_ < m.states) ∧ (0 ≤ y.evt ∧ y.evt < m.events) := Iff.rfl
  generalize hw3 : w3.drew = u at *
  have q4 := @Same.below
  simp (disch := first | with_reducible assumption | omega) only [push_cast, x_blk, x_cd, ↓reduceIte, Nat.reduceEqDiff, List.map_cons, List.map_nil, Int.reduceEq, Int.lt_irrefl, hw3, g1, g3, k3'.a0 ty_ag_3, k3'.a1 ty_ag_3, k3'.a2 ty_ag_3, k5.m0 ty_ag_3, k5.m1 ty_ag_3, callv_func, List.map_cons, List.map_nil, List.nil_append, List.append_nil]
  refine call_of (machine_in _ _ _) ?_
  rintro v w4 ⟨rfl, s4⟩
  have q4 := s4.below u.heap.size
  by_cases d1 : 0 ≤ y.frm ∧ y.frm < m.states
  case neg =>
    have r := bad fun hh => d1 (ok.1 hh).1
    simp (disch := first | with_reducible assumption | omega) only [push_cast, x_blk, x_cd, ↓reduceIte, Nat.reduceEqDiff, List.map_cons, List.map_nil, Int.reduceEq, Int.lt_irrefl, decide_eq_false d1]
    refine ⟨q4, q4, q4, q4, ?_⟩
    exact fin_1 (hQ _ _ ⟨(by simp only [push_cast, ↓reduceIte, Nat.reduceEqDiff, Int.reduceEq, r]), b5.trans (q4.mono b5.size)⟩)
  simp (disch := first | with_reducible assumption | omega) only [push_cast, x_blk, x_cd, ↓reduceIte, Nat.reduceEqDiff, List.map_cons, List.map_nil, Int.reduceEq, Int.lt_irrefl, decide_eq_true d1, g1, g3, k3'.a0 ty_ag_3, k3'.a1 ty_ag_3, k3'.a2 ty_ag_3, k5.m0 ty_ag_3, k5.m1 ty_ag_3, callv_func, List.map_cons, List.map_nil, List.nil_append, List.append_nil]
  refine ⟨q4, ?_⟩
  refine call_of (machine_in _ _ _) ?_
  rintro v w5 ⟨rfl, s5⟩
  have q5 := (s4.trans s5).below u.heap.size
  by_cases d2 : 0 ≤ y.to_ ∧ y.to_ < m.states
  case neg =>
    have r := bad fun hh => d2 (ok.1 hh).2.1
    simp (disch := first | with_reducible assumption | omega) only [push_cast, x_blk, x_cd, ↓reduceIte, Nat.reduceEqDiff, List.map_cons, List.map_nil, Int.reduceEq, Int.lt_irrefl, decide_eq_false d2]
    refine ⟨q5, q5, q5, ?_⟩
    exact fin_1 (hQ _ _ ⟨(by simp only [push_cast, ↓reduceIte, Nat.reduceEqDiff, Int.reduceEq, r]), b5.trans (q5.mono b5.size)⟩)
  simp (disch := first | with_reducible assumption | omega) only [push_cast, x_blk, x_cd, ↓reduceIte, Nat.reduceEqDiff, List.map_cons, List.map_nil, Int.reduceEq, Int.lt_irrefl, decide_eq_true d2, g1, g3, k3'.a0 ty_ag_3, k3'.a1 ty_ag_3, k3'.a2 ty_ag_3, k5.m0 ty_ag_3, k5.m1 ty_ag_3, callv_func, List.map_cons, List.map_nil, List.nil_append, List.append_nil]
  refine ⟨q5, ?_⟩
  refine call_of (machine_in _ _ _) ?_
  rintro v w6 ⟨rfl, s6⟩
  have q6 := ((s4.trans s5).trans s6).below u.heap.size
  have k6 := k5.same ((s4.trans s5).trans s6)
  have b6 := b5.trans (q6.mono b5.size)
  by_cases d3 : 0 ≤ y.evt ∧ y.evt < m.events
  case neg =>
    have r := bad fun hh => d3 (ok.1 hh).2.2
    simp (disch := first | with_reducible assumption | omega) only [push_cast, x_blk, x_cd, ↓reduceIte, Nat.reduceEqDiff, List.map_cons, List.map_nil, Int.reduceEq, Int.lt_irrefl, decide_eq_false d3]
    refine ⟨q6, q6, ?_⟩
    exact fin_1 (hQ _ _ ⟨(by simp only [push_cast, ↓reduceIte, Nat.reduceEqDiff, Int.reduceEq, r]), b6⟩)
  have hok : m.ArrOk y := ok.2 ⟨d1, d2, d3⟩
  by_cases d7 : (0 : Int) < (k : Int)
  case neg =>
    have hat : m.At k := ⟨by rw [hy]; exact hok, fun h0 => absurd h0 (by omega)⟩
    simp (disch := first | with_reducible assumption | omega) only [push_cast, x_blk, x_cd, ↓reduceIte, Nat.reduceEqDiff, List.map_cons, List.map_nil, Int.reduceEq, Int.lt_irrefl, decide_eq_true d3, d7, g1, g3, g47, g48, g49]
    refine ⟨q6, q6, ?_⟩
    exact hJ _ _ ⟨k + 1, hlt, (by simp only [push_cast, ↓reduceIte, Nat.reduceEqDiff, Int.reduceEq, g1]), (by simp only [push_cast, ↓reduceIte, Nat.reduceEqDiff, Int.reduceEq, g3]), (by simp only [push_cast, ↓reduceIte, Nat.reduceEqDiff, Int.reduceEq, g47]), (by simp only [push_cast, ↓reduceIte, Nat.reduceEqDiff, Int.reduceEq, g48]), (by simp only [push_cast, ↓reduceIte, Nat.reduceEqDiff, Int.reduceEq]), fun i hi => if e : i = k then e ▸ hat else hp i (by omega), k6, b6⟩ (by simp only [push_cast, ↓reduceIte, Nat.reduceEqDiff, g49, intOf]; omega)
  have e1 : ((k : Int) - 1).toNat = k - 1 := by omega
  simp (disch := first | with_reducible assumption | omega) only [push_cast, x_blk, x_cd, ↓reduceIte, Nat.reduceEqDiff, List.map_cons, List.map_nil, Int.reduceEq, Int.lt_irrefl, decide_eq_true d3, g1, g3, g49, d7, e1, k5.m3 ty_ag_24, k3'.aA ty_ag_36 ty_sz_36, h5.ldA ty_ag_36 ty_sz_36]
  refine ⟨q6, ?_⟩
  refine call_of (machine_order _ _ _) ?_
  rintro v w7 ⟨rfl, b7⟩
  have q7 : Below u.heap.size u w7 := q6.trans (b7.mono q6.size)
  have b8 := b5.trans (q7.mono b5.size)
  have k8 := k5.below q7 k5.lt
  by_cases d8 : (m.arrows.getD (k - 1) default).lt y
  · have hat : m.At k := ⟨by rw [hy]; exact hok, fun _ => by rw [hy]; exact d8⟩
    have d9 : ¬ 0 ≤ ordA (m.arrows.getD (k - 1) default) y := by rw [ordA_lt]; exact fun hn => hn d8
    simp (disch := first | with_reducible assumption | omega) only [push_cast, x_blk, x_cd, ↓reduceIte, Nat.reduceEqDiff, List.map_cons, List.map_nil, Int.reduceEq, Int.lt_irrefl, d9, g49]
    refine ⟨q7, ?_⟩
    exact hJ _ _ ⟨k + 1, hlt, (by simp only [push_cast, ↓reduceIte, Nat.reduceEqDiff, Int.reduceEq, g1]), (by simp only [push_cast, ↓reduceIte, Nat.reduceEqDiff, Int.reduceEq, g3]), (by simp only [push_cast, ↓reduceIte, Nat.reduceEqDiff, Int.reduceEq, g47]), (by simp only [push_cast, ↓reduceIte, Nat.reduceEqDiff, Int.reduceEq, g48]), (by simp only [push_cast, ↓reduceIte, Nat.reduceEqDiff, Int.reduceEq]), fun i hi => if e : i = k then e ▸ hat else hp i (by omega), k8, b8⟩ (by simp only [push_cast, ↓reduceIte, Nat.reduceEqDiff, g49, intOf]; omega)
  · have r : decide m.May = false := decide_eq_false fun hm => by
      have := ((mm.1 hm).2.2.2.2.2.2.2 k hlt).2 (by omega)
      rw [hy] at this
      exact d8 this
    have d9 : 0 ≤ ordA (m.arrows.getD (k - 1) default) y := by rw [ordA_lt]; exact d8
    simp (disch := first | with_reducible assumption | omega) only [push_cast, x_blk, x_cd, ↓reduceIte, Nat.reduceEqDiff, List.map_cons, List.map_nil, Int.reduceEq, Int.lt_irrefl, d9]
    refine ⟨q7, ?_⟩
    exact fin_1 (hQ _ _ ⟨(by simp only [push_cast, ↓reduceIte, Nat.reduceEqDiff, Int.reduceEq, r]), b8⟩)
end
end Go.Proofs.Ytpinjiikiaakaaa
