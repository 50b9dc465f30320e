/-
  The number of the lowest bit that is set: the library's TrailingZeros64, by its contract, where its table reads as it is laid.
  Chapter 2: the program's All goes over a set's numbers, rising: by its contract.
  Chapter 2: the program's Row: by its contract; After, Accepts.
  Chapter 2: which words are accepted: the program's Accepts, the reference's Word, After, Accepts: by their contracts.
-/
import Derived.Test.YtfckamjbeplceaaZSet
import Derived.Test.YtfckamjbeplceaaZOwn
import Derived.RangeFuncNested
import Derived.RangeFuncBox
import Derived.RangeFuncBound
import Derived.RangeFuncCalls
import Derived.RangeFuncLeaves
import Derived.Shelf.Abstract
import Derived.WalkKit
import Derived.OwnWalkIn
import Derived.TacticsInMore
import Derived.LoopNIn
import Derived.LoopIn
import Derived.Test.YtfckamjbeplceaaZMach
namespace Go.Proofs.Ytfckamjbeplceaa
set_option linter.unusedSimpArgs false
set_option linter.unusedVariables false
set_option linter.unusedSectionVars false
section
open Go.RowKit

section
variable {P : Program} {K : Fr → World → Prop} {u : World} {f : Fr} {d : Option Nat} {w : World} {t ty : Nat} {xo yo : Operand}
end

end

section
open Go.RowKit Go.Shelf

attribute [local go_sem] Oper.semAt_some

theorem Same.grown {w w' : World} (h : Same w w') : w.grownBy w' none := ⟨h.os, h.tape, h.output, by rw [h.heap]; exact Nat.le_refl _, fun k _ _ => by rw [h.heap]⟩

end

section
open Go.RowKit

/-- A word. -/
def IsWord (m : Mach) (l : List Int) : Prop := ∀ i, i < l.length → 0 ≤ l.getD i 0 ∧ l.getD i 0 < m.events
instance (m : Mach) (l : List Int) : Decidable (IsWord m l) := by unfold IsWord; exact inferInstance
/-- Where runs of a word end. -/
def afterL (m : Mach) (l : List Int) (word : List Int) : List Int := word.foldl (stepL m) l
theorem afterL_snoc (m : Mach) (l word : List Int) (k : Nat) (h : k < word.length) : afterL m l (word.take (k + 1)) = stepL m (afterL m l (word.take k)) (word.getD k 0) := by
  unfold afterL
  rw [take_snoc _ 0 k h, List.foldl_append]
  rfl
theorem afterL_row {m : Mach} (hm : m.May) {l : List Int} (hl : IsRow l m.states) : ∀ word : List Int, IsRow (afterL m l word) m.states := by
  intro word
  unfold afterL
  induction word generalizing l with
  | nil => exact hl
  | cons e word ih => exact ih (stepL_row hm l e)
end

section
open Go.RowKit

def AcceptsL (m : Mach) (word : List Int) : Prop := MeetL (afterL m m.starts word) m.ends
instance (m : Mach) (word : List Int) : Decidable (AcceptsL m word) := by unfold AcceptsL; exact inferInstance
theorem may_starts {m : Mach} (hm : m.May) : IsRow m.starts m.states := hm.2.2.2.2.2.1
theorem may_ends {m : Mach} (hm : m.May) : IsRow m.ends m.states := hm.2.2.2.2.2.2.1
theorem ref2_Word {w : World} {a : MV} {m : Mach} {A : Option Addr} {l : List Int} (h : Ints (· < w.heap.size) w A l) (c : Nat) (hl : l.length ≤ 17592186043904) :
    Cal Try.prog 10 [a.val m, .slice A l.length c] w fun v w' => v = .bool (decide (IsWord m l)) ∧ Below w.heap.size w w' := by
  refine cal_ref2_Word (by simp) 100000 fun Q hQ => ?_
  simp (disch := first | with_reducible assumption | omega) only [push_cast, x_blk, x_cd, ↓reduceIte, Nat.reduceEqDiff, List.map_cons, List.map_nil, Int.reduceEq, Int.lt_irrefl, F_ref2_Word]
  refine blk_of (box_agg _ (a.cells m)) ?_
  intro w1 k1 b1 z1
  simp (disch := first | with_reducible assumption | omega) only [push_cast, x_blk, x_cd, ↓reduceIte, Nat.reduceEqDiff, List.map_cons, List.map_nil, Int.reduceEq, Int.lt_irrefl]
  refine loop_rule (fun f w' => ∃ k : Nat, k ≤ l.length ∧ (f 1 = .slice A l.length c ∧ f 2 = .pointer (some ⟨w.heap.size, 0, none⟩) ∧ f 5 = .int .i64 k) ∧
      (∀ i, i < k → 0 ≤ l.getD i 0 ∧ l.getD i 0 < m.events) ∧ Blk w' w.heap.size 25 (a.cells m) ∧ Below w.heap.size w w')
    (fun f _ => l.length - (intOf (f 5)).toNat) ⟨0, Nat.zero_le _, ⟨rfl, rfl, rfl⟩, fun i hi => absurd hi (by omega), k1, b1⟩ ?_
  rintro f w2 ⟨k, hk, fr, hp, k2, b2⟩ J hJ
  by_cases hlt : k < l.length
  case neg =>
    have r : decide (IsWord m l) = true := decide_eq_true fun i hi => hp i (by omega)
    simp (disch := first | with_reducible assumption | omega) only [push_cast, x_blk, x_cd, ↓reduceIte, Nat.reduceEqDiff, List.map_cons, List.map_nil, Int.reduceEq, Int.lt_irrefl, L_ref2_Word_0, fr, hlt]
    exact fin_1 (hQ _ _ ⟨(by simp only [push_cast, ↓reduceIte, Nat.reduceEqDiff, Int.reduceEq, r]), b2⟩)
  have hI := (h.below b2).drew
  have hA := hI.isSome (by omega)
  have k2' := k2.drew
  by_cases c1 : l.getD k 0 < 0
  · have r : decide (IsWord m l) = false := decide_eq_false fun hh => by have := (hh k hlt).1; omega
    simp (disch := first | with_reducible assumption | omega) only [push_cast, x_blk, x_cd, ↓reduceIte, Nat.reduceEqDiff, List.map_cons, List.map_nil, Int.reduceEq, Int.lt_irrefl, L_ref2_Word_0, fr, hlt, hI.ld ty_ag_3, c1]
    exact fin_1 (hQ _ _ ⟨(by simp only [push_cast, ↓reduceIte, Nat.reduceEqDiff, Int.reduceEq, r]), drawn b2⟩)
  by_cases c2 : m.events ≤ l.getD k 0
  · have r : decide (IsWord m l) = false := decide_eq_false fun hh => by have := (hh k hlt).2; omega
    simp (disch := first | with_reducible assumption | omega) only [push_cast, x_blk, x_cd, ↓reduceIte, Nat.reduceEqDiff, List.map_cons, List.map_nil, Int.reduceEq, Int.lt_irrefl, L_ref2_Word_0, fr, hlt, hI.ld ty_ag_3, c1, c2, k2'.m1 ty_ag_3]
    exact fin_1 (hQ _ _ ⟨(by simp only [push_cast, ↓reduceIte, Nat.reduceEqDiff, Int.reduceEq, r]), drawn b2⟩)
  simp (disch := first | with_reducible assumption | omega) only [push_cast, x_blk, x_cd, ↓reduceIte, Nat.reduceEqDiff, List.map_cons, List.map_nil, Int.reduceEq, Int.lt_irrefl, L_ref2_Word_0, fr, hlt, hI.ld ty_ag_3, c1, c2, k2'.m1 ty_ag_3]
  exact hJ _ _ ⟨k + 1, hlt, (by simp only [push_cast, ↓reduceIte, Nat.reduceEqDiff, true_and, and_true, and_self, eq_self, fr]), fun i hi => if e : i = k then e ▸ ⟨by omega, by omega⟩ else hp i (by omega), k2', drawn b2⟩ (by simp only [push_cast, ↓reduceIte, Nat.reduceEqDiff, intOf, fr]; omega)

theorem ref2_After {w : World} {a : MV} {m : Mach} (h : IsM (· < w.heap.size) w a m) (hf : m.Fits) (hm : m.May)
    {A1 A2 : Option Addr} {c1 c2 : Nat} {l word : List Int} (h1 : Ints (· < w.heap.size) w A1 l) (h2 : Ints (· < w.heap.size) w A2 word) (hr : IsRow l m.states) (n2 : word.length ≤ 17592186043904) :
    Cal Try.prog 12 [a.val m, .slice A1 l.length c1, .slice A2 word.length c2] w fun v w' => ∃ A c, v = .slice A (afterL m l word).length c ∧ OwnI w.heap.size 3 w' A c (afterL m l word) ∧ Below w.heap.size w w' := by
  have nl := hr.len
  refine cal_ref2_After (by simp) 100000 fun Q hQ => ?_
  simp (disch := first | with_reducible assumption | omega) only [push_cast, x_blk, x_cd, ↓reduceIte, Nat.reduceEqDiff, List.map_cons, List.map_nil, Int.reduceEq, Int.lt_irrefl, F_ref2_After]
  refine blk_of (box_agg _ (a.cells m)) ?_
  intro w1 k1 b1 z1
  simp (disch := first | with_reducible assumption | omega) only [push_cast, x_blk, x_cd, ↓reduceIte, Nat.reduceEqDiff, List.map_cons, List.map_nil, Int.reduceEq, Int.lt_irrefl]
  have b0 : Below w1.heap.size w1 (w1.alloc (.cells [].toArray 3)) := (Below.refl _ _).alloc (Nat.le_refl _) _
  have o0 : OwnI w1.heap.size 3 (w1.alloc (.cells [].toArray 3)) (some ⟨w1.heap.size, 0, none⟩) 0 [] := ⟨World.ownsRow_made w1 #[] 0 (Nat.le_refl _) (by decide) (by simp)⟩
  generalize w1.alloc (Obj.cells [].toArray 3) = ww at *
  have bw := b1.trans (b0.mono b1.size)
  refine app_ints (l := []) slT_22 o0 (h1.below bw) (by simp; omega) b0.size ?_
  intro A3 c3 w3 o3 hg3 _ z3
  have b3 := hg3.below b0 b0.size o0.geB
  rw [List.nil_append] at o3
  simp (disch := first | with_reducible assumption | omega) only [push_cast, x_blk, x_cd, ↓reduceIte, Nat.reduceEqDiff, List.map_cons, List.map_nil, Int.reduceEq, Int.lt_irrefl, List.length_nil, Nat.zero_add]
  refine loop_rule (fun f w' => ∃ k : Nat, ∃ O co, k ≤ word.length ∧ (f 2 = .slice A2 word.length c2 ∧ f 3 = .pointer (some ⟨w.heap.size, 0, none⟩) ∧ f 7 = .slice O (afterL m l (word.take k)).length co ∧ f 8 = .int .i64 k) ∧
      OwnI w1.heap.size 3 w' O co (afterL m l (word.take k)) ∧ Below w1.heap.size w1 w')
    (fun f _ => word.length - (intOf (f 8)).toNat) ⟨0, A3, c3, Nat.zero_le _, ⟨rfl, rfl, rfl, rfl⟩, o3, b3⟩ ?_
  rintro f w2 ⟨k, O, co, hk, fr, ho, b2⟩ J hJ
  have kM := k1.below b2 (by omega)
  have bb := b1.trans (b2.mono b1.size)
  by_cases hlt : k < word.length
  case neg =>
    obtain rfl : k = word.length := by omega
    rw [List.take_length] at fr ho
    simp (disch := first | with_reducible assumption | omega) only [push_cast, x_blk, x_cd, ↓reduceIte, Nat.reduceEqDiff, List.map_cons, List.map_nil, Int.reduceEq, Int.lt_irrefl, L_ref2_After_0, fr, Nat.lt_irrefl]
    exact fin_1 (hQ _ _ ⟨O, co, rfl, ho.base b1.size, bb⟩)
  have hrow := afterL_row hm hr (word.take k)
  have nO := hrow.len
  have hI := (h2.below bb).drew
  have hA := hI.isSome (by omega)
  have kM' := kM.drew
  generalize hu : w2.drew = u at *
  have s2 : Same w2 u := hu ▸ (Same.refl w2).drew
  have hou := ho.same s2
  have bu := bb.trans (s2.below _)
  have bu1 := b2.trans (s2.below _)
  simp (disch := first | with_reducible assumption | omega) only [push_cast, x_blk, x_cd, ↓reduceIte, Nat.reduceEqDiff, List.map_cons, List.map_nil, Int.reduceEq, Int.lt_irrefl, L_ref2_After_0, fr, hlt, hu, hI.ld ty_ag_3, kM'.mA ty_ag_25 ty_sz_25]
  refine call_of (ref2_Step ((h.below bu).mono fun b hb => by have := bu.size; omega) hf (Ints.lt (OwnI.ints hou)) (by omega) _) ?_
  rintro v w4 ⟨A', c', rfl, o4, b4⟩
  simp (disch := first | with_reducible assumption | omega) only [push_cast, x_blk, x_cd, ↓reduceIte, Nat.reduceEqDiff, List.map_cons, List.map_nil, Int.reduceEq, Int.lt_irrefl, fr]
  exact hJ _ _ ⟨k + 1, A', c', hlt, (by simp only [push_cast, ↓reduceIte, Nat.reduceEqDiff, true_and, and_true, and_self, eq_self, fr, afterL_snoc m l word k hlt]), by rw [afterL_snoc m l word k hlt]; exact o4.base bu1.size, bu1.trans (b4.mono bu1.size)⟩ (by simp only [push_cast, ↓reduceIte, Nat.reduceEqDiff, intOf, fr]; omega)

end
end Go.Proofs.Ytfckamjbeplceaa
