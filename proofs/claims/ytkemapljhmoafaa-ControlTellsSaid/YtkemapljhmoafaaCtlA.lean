/-
  Chapter 14: which rows are safe; which machines a law leaves out: by their contracts.
-/
import Derived.Test.YtkemapljhmoafaaMachC
import Derived.Test.YtkemapljhmoafaaSet
namespace Go.Proofs.Ytkemapljhmoafaa
set_option linter.unusedSimpArgs false
set_option linter.unusedVariables false
open Go.RowKit

def Mach.Great (m : Mach) : Prop := (40 < m.states ∧ m.states ≤ 256) ∨ (300 < (m.arrows.length : Int) ∧ (m.arrows.length : Int) ≤ 4096)
instance (m : Mach) : Decidable m.Great := inferInstanceAs (Decidable (_ ∨ _))
theorem law_great (a : MV) (m : Mach) (w : World) :
    Cal Try.prog 24 [a.val m] w fun v w' => v = .bool (decide m.Great) ∧ Below w.heap.size w w' := by
  have mg : m.Great ↔ (40 < m.states ∧ m.states ≤ 256) ∨ (300 < (m.arrows.length : Int) ∧ (m.arrows.length : Int) ≤ 4096) := Iff.rfl
  refine cal_law_great (by simp) 100000 fun Q hQ => ?_
  simp (disch := first | with_reducible assumption | omega) only [push_cast, x_blk, x_cd, ↓reduceIte, Nat.reduceEqDiff, F_law_great]
  refine blk_of (box_agg _ (a.cells m)) ?_
  intro w1 k1 b1 z1
  by_cases c1 : 40 < m.states <;> by_cases c2 : m.states ≤ 256 <;> by_cases c3 : (300 : Int) < (m.arrows.length : Int) <;> by_cases c4 : (m.arrows.length : Int) ≤ 4096
  all_goals
    by_cases hg : m.Great
    · have r := decide_eq_true hg
      rw [mg] at hg
      first
      | omega
      | (simp (disch := first | with_reducible assumption | omega) only [push_cast, x_blk, x_cd, ↓reduceIte, Nat.reduceEqDiff, c1, c2, c3, c4, k1.m0 ty_ag_3, k1.m3 ty_ag_31]; exact fin_1 (hQ _ _ ⟨(by simp only [push_cast, ↓reduceIte, Nat.reduceEqDiff, r]), b1⟩))
    · have r := decide_eq_false hg
      rw [mg] at hg
      first
      | omega
      | (simp (disch := first | with_reducible assumption | omega) only [push_cast, x_blk, x_cd, ↓reduceIte, Nat.reduceEqDiff, c1, c2, c3, c4, k1.m0 ty_ag_3, k1.m3 ty_ag_31]; exact fin_1 (hQ _ _ ⟨(by simp only [push_cast, ↓reduceIte, Nat.reduceEqDiff, r]), b1⟩))

def SafeL (m : Mach) (free bad l : List Int) : Prop := (∀ x ∈ l, x ∉ bad) ∧ ∀ a ∈ m.arrows, a.frm ∈ l → a.evt ∉ free → a.to_ ∈ l
instance (m : Mach) (free bad l : List Int) : Decidable (SafeL m free bad l) := inferInstanceAs (Decidable (_ ∧ _))

theorem ref14_Safe {w : World} {a : MV} {m : Mach} (h : IsM (· < w.heap.size) w a m) (hf : m.Fits)
    {A1 A2 A3 : Option Addr} {c1 c2 c3 : Nat} {free bad l : List Int} (h1 : Ints (· < w.heap.size) w A1 free) (h2 : Ints (· < w.heap.size) w A2 bad) (h3 : Ints (· < w.heap.size) w A3 l)
    (n1 : free.length ≤ 17592186043904) (n2 : bad.length ≤ 17592186043904) (n3 : l.length ≤ 17592186043904) :
    Cal Try.prog 28 [a.val m, .slice A1 free.length c1, .slice A2 bad.length c2, .slice A3 l.length c3] w fun v w' => v = .bool (decide (SafeL m free bad l)) ∧ Below w.heap.size w w' := by
  refine cal_ref14_Safe (by simp) 100000 fun Q hQ => ?_
  simp (disch := first | with_reducible assumption | omega) only [push_cast, x_blk, x_cd, ↓reduceIte, Nat.reduceEqDiff, F_ref14_Safe]
  refine blk_of (box_agg _ (a.cells m)) ?_
  intro w1 k1 b1 z1
  have nA := hf.lenA
  rw [x_mv, x_sq]
  refine cut (fun f' w' => f' 1 = .slice A1 free.length c1 ∧ f' 3 = .slice A3 l.length c3 ∧ f' 4 = .pointer (some ⟨w.heap.size, 0, none⟩) ∧ (∀ x ∈ l, x ∉ bad) ∧ Blk w' w.heap.size 33 (a.cells m) ∧ Below w.heap.size w w') 20000 40000 (by decide) ?_ ?_
  · intro E hE
    simp (disch := first | with_reducible assumption | omega) only [push_cast, x_blk, x_cd, ↓reduceIte, Nat.reduceEqDiff]
    refine loop_rule (fun f' w' => ∃ k : Nat, k ≤ l.length ∧ f' 1 = .slice A1 free.length c1 ∧ f' 2 = .slice A2 bad.length c2 ∧ f' 3 = .slice A3 l.length c3 ∧ f' 4 = .pointer (some ⟨w.heap.size, 0, none⟩) ∧ f' 9 = .int .i64 k ∧
        (∀ i, i < k → l.getD i 0 ∉ bad) ∧ Blk w' w.heap.size 33 (a.cells m) ∧ Below w.heap.size w w')
      (fun f' _ => l.length - (intOf (f' 9)).toNat) ⟨0, Nat.zero_le _, rfl, rfl, rfl, rfl, rfl, fun i hi => absurd hi (by omega), k1, b1⟩ ?_
    rintro f w2 ⟨k, hk, g1, g2, g3, g4, g9, hp, k2, b2⟩ J hJ
    have i3 := h3.below b2
    by_cases hlt : k < l.length
    case neg =>
      simp (disch := first | with_reducible assumption | omega) only [push_cast, x_blk, x_cd, ↓reduceIte, Nat.reduceEqDiff, L_ref14_Safe_1, g1, g2, g3, g4, g9, hlt]
      exact hE _ _ ⟨(by simp only [push_cast, ↓reduceIte, Nat.reduceEqDiff, g1]), (by simp only [push_cast, ↓reduceIte, Nat.reduceEqDiff, g3]), (by simp only [push_cast, ↓reduceIte, Nat.reduceEqDiff, g4]), fun x hx => by
        obtain ⟨i, hi, rfl⟩ := (mem_iff_getD l 0 x).1 hx
        exact hp i (by omega), k2, b2⟩
    have hA := i3.isSome (by omega)
    simp (disch := first | with_reducible assumption | omega) only [push_cast, x_blk, x_cd, ↓reduceIte, Nat.reduceEqDiff, L_ref14_Safe_1, g1, g2, g3, g4, g9, hlt, i3.ld ty_ag_3]
    refine call_of (ref1_Has (h2.below b2) c2 _ (by omega)) ?_
    rintro v w3 ⟨rfl, s3⟩
    have b3 := b2.trans (s3.below _)
    by_cases d : l.getD k 0 ∈ bad
    · have r : decide (SafeL m free bad l) = false := decide_eq_false fun hs => hs.1 _ (getD_mem l 0 k hlt) d
      simp (disch := first | with_reducible assumption | omega) only [push_cast, x_blk, x_cd, ↓reduceIte, Nat.reduceEqDiff, d]
      exact fin_1 (hQ _ _ ⟨(by simp only [push_cast, ↓reduceIte, Nat.reduceEqDiff, r]), b3⟩)
    · simp (disch := first | with_reducible assumption | omega) only [push_cast, x_blk, x_cd, ↓reduceIte, Nat.reduceEqDiff, d, g9]
      exact hJ _ _ ⟨k + 1, hlt, (by simp only [push_cast, ↓reduceIte, Nat.reduceEqDiff, g1]), (by simp only [push_cast, ↓reduceIte, Nat.reduceEqDiff, g2]), (by simp only [push_cast, ↓reduceIte, Nat.reduceEqDiff, g3]), (by simp only [push_cast, ↓reduceIte, Nat.reduceEqDiff, g4]), (by simp only [push_cast, ↓reduceIte, Nat.reduceEqDiff]), fun i hi => if e : i = k then e ▸ d else hp i (by omega), k2.same s3, b3⟩ (by simp only [push_cast, ↓reduceIte, Nat.reduceEqDiff, g9, intOf]; omega)
  · rintro f w2 ⟨g1, g3, g4, hbad, k2, b2⟩
    simp (disch := first | with_reducible assumption | omega) only [push_cast, x_blk, x_cd, ↓reduceIte, Nat.reduceEqDiff, g1, g3, g4]
    refine loop_rule (fun f' w' => ∃ k : Nat, k ≤ m.arrows.length ∧ f' 1 = .slice A1 free.length c1 ∧ f' 3 = .slice A3 l.length c3 ∧ f' 4 = .pointer (some ⟨w.heap.size, 0, none⟩) ∧ f' 10 = .int .i64 k ∧
        (∀ i, i < k → (m.arrows.getD i default).frm ∈ l → (m.arrows.getD i default).evt ∉ free → (m.arrows.getD i default).to_ ∈ l) ∧ Blk w' w.heap.size 33 (a.cells m) ∧ Below w.heap.size w w')
      (fun f' _ => m.arrows.length - (intOf (f' 10)).toNat) ⟨0, Nat.zero_le _, (by simp only [push_cast, ↓reduceIte, Nat.reduceEqDiff, g1]), (by simp only [push_cast, ↓reduceIte, Nat.reduceEqDiff, g3]), (by simp only [push_cast, ↓reduceIte, Nat.reduceEqDiff, g4]), (by simp only [push_cast, ↓reduceIte, Nat.reduceEqDiff]), fun i hi => absurd hi (by omega), k2, b2⟩ ?_
    clear k2 b2 g1 g3 g4
    rintro f w2 ⟨k, hk, g1, g3, g4, g10, hp, k2, b2⟩ J hJ
    have i2 := (h.below b2).arrows
    by_cases hlt : k < m.arrows.length
    case neg =>
      have r : decide (SafeL m free bad l) = true := decide_eq_true ⟨hbad, fun x hx => by
        obtain ⟨i, hi, rfl⟩ := (mem_iff_getD m.arrows default x).1 hx
        exact hp i (by omega)⟩
      simp (disch := first | with_reducible assumption | omega) only [push_cast, x_blk, x_cd, ↓reduceIte, Nat.reduceEqDiff, L_ref14_Safe_0, g1, g3, g4, g10, hlt, k2.m3 ty_ag_31]
      exact fin_1 (hQ _ _ ⟨(by simp only [push_cast, ↓reduceIte, Nat.reduceEqDiff, r]), b2⟩)
    have hA := i2.isSome (by omega)
    simp (disch := first | with_reducible assumption | omega) only [push_cast, x_blk, x_cd, ↓reduceIte, Nat.reduceEqDiff, L_ref14_Safe_0, g1, g3, g4, g10, hlt, k2.m3 ty_ag_31, i2.ldA ty_ag_54 ty_sz_54]
    refine blk_of al_54 ?_
    intro w3 k3 b3 z3
    simp (disch := first | with_reducible assumption | omega) only [push_cast, x_blk, x_cd, ↓reduceIte, Nat.reduceEqDiff]
    refine sto_blk k3 (cs := arrCells (m.arrows.getD k default)) ty_sz_54 rfl (by simp [arrCells, Value.oneCell']) ?_
    intro w4 k4 q4 z4
    have hm := getD_mem m.arrows default k hlt
    generalize hy : m.arrows.getD k default = y at *
    have b24 : Below w2.heap.size w2 w4 := q4.below b3 (by omega) (by intro a ha; injection ha with ha; subst ha; exact Nat.le_refl _)
    have b4 := b2.trans (b24.mono b2.size)
    have kM := k2.below b24 k2.lt
    simp (disch := first | with_reducible assumption | omega) only [push_cast, x_blk, x_cd, ↓reduceIte, Nat.reduceEqDiff, g1, g3, g4, k4.a0 ty_ag_3]
    refine call_of (ref1_Has (h3.below b4) c3 _ (by omega)) ?_
    rintro v w5 ⟨rfl, s5⟩
    have k5 := k4.same s5
    have b5 := b4.trans (s5.below _)
    by_cases d1 : y.frm ∈ l
    case neg =>
      simp (disch := first | with_reducible assumption | omega) only [push_cast, x_blk, x_cd, ↓reduceIte, Nat.reduceEqDiff, d1, g10]
      exact hJ _ _ ⟨k + 1, hlt, (by simp only [push_cast, ↓reduceIte, Nat.reduceEqDiff, g1]), (by simp only [push_cast, ↓reduceIte, Nat.reduceEqDiff, g3]), (by simp only [push_cast, ↓reduceIte, Nat.reduceEqDiff, g4]), (by simp only [push_cast, ↓reduceIte, Nat.reduceEqDiff]), fun i hi => if e : i = k then (by subst e; rw [hy]; exact fun h => absurd h d1) else hp i (by omega), kM.same s5, b5⟩ (by simp only [push_cast, ↓reduceIte, Nat.reduceEqDiff, g10, intOf]; omega)
    simp (disch := first | with_reducible assumption | omega) only [push_cast, x_blk, x_cd, ↓reduceIte, Nat.reduceEqDiff, d1, g1, g3, g4, k5.a1 ty_ag_3]
    refine call_of (ref1_Has (h1.below b5) c1 _ (by omega)) ?_
    rintro v w6 ⟨rfl, s6⟩
    have k6 := k5.same s6
    have b6 := b5.trans (s6.below _)
    by_cases d2 : y.evt ∈ free
    · simp (disch := first | with_reducible assumption | omega) only [push_cast, x_blk, x_cd, ↓reduceIte, Nat.reduceEqDiff, d2, g10]
      exact hJ _ _ ⟨k + 1, hlt, (by simp only [push_cast, ↓reduceIte, Nat.reduceEqDiff, g1]), (by simp only [push_cast, ↓reduceIte, Nat.reduceEqDiff, g3]), (by simp only [push_cast, ↓reduceIte, Nat.reduceEqDiff, g4]), (by simp only [push_cast, ↓reduceIte, Nat.reduceEqDiff]), fun i hi => if e : i = k then (by subst e; rw [hy]; exact fun _ h => absurd d2 h) else hp i (by omega), kM.same (s5.trans s6), b6⟩ (by simp only [push_cast, ↓reduceIte, Nat.reduceEqDiff, g10, intOf]; omega)
    simp (disch := first | with_reducible assumption | omega) only [push_cast, x_blk, x_cd, ↓reduceIte, Nat.reduceEqDiff, d2, g1, g3, g4, k6.a2 ty_ag_3]
    refine call_of (ref1_Has (h3.below b6) c3 _ (by omega)) ?_
    rintro v w7 ⟨rfl, s7⟩
    have b7 := b6.trans (s7.below _)
    by_cases d3 : y.to_ ∈ l
    · simp (disch := first | with_reducible assumption | omega) only [push_cast, x_blk, x_cd, ↓reduceIte, Nat.reduceEqDiff, d3, g10]
      exact hJ _ _ ⟨k + 1, hlt, (by simp only [push_cast, ↓reduceIte, Nat.reduceEqDiff, g1]), (by simp only [push_cast, ↓reduceIte, Nat.reduceEqDiff, g3]), (by simp only [push_cast, ↓reduceIte, Nat.reduceEqDiff, g4]), (by simp only [push_cast, ↓reduceIte, Nat.reduceEqDiff]), fun i hi => if e : i = k then (by subst e; rw [hy]; exact fun _ _ => d3) else hp i (by omega), kM.same ((s5.trans s6).trans s7), b7⟩ (by simp only [push_cast, ↓reduceIte, Nat.reduceEqDiff, g10, intOf]; omega)
    · have r : decide (SafeL m free bad l) = false := decide_eq_false fun hs => d3 (hs.2 y hm d1 d2)
      simp (disch := first | with_reducible assumption | omega) only [push_cast, x_blk, x_cd, ↓reduceIte, Nat.reduceEqDiff, d3]
      exact fin_1 (hQ _ _ ⟨(by simp only [push_cast, ↓reduceIte, Nat.reduceEqDiff, r]), b7⟩)
end Go.Proofs.Ytkemapljhmoafaa
