/-
  The laws DelayTells, DelayHolds, TopFound: they return true.
-/
import Derived.Test.YtfckamjbeplceaaZDiaC
import Derived.Test.YtfckamjbeplceaaZRef13C
import Derived.Test.YtfckamjbeplceaaZDelL
import Derived.Test.YtfckamjbeplceaaZRef9
namespace Go.Proofs.Ytfckamjbeplceaa
set_option linter.unusedSimpArgs false
set_option linter.unusedVariables false
set_option linter.unusedSectionVars false
open Go.RowKit

theorem law_DelayTells {w : World} {a0 : MV} {m0 : Mach} (h : IsM (· < w.heap.size) w a0 m0) (hf : m0.Fits) {A1 : Option Addr} {c1 : Nat} {l1 : List Int} (h1 : Ints (· < w.heap.size) w A1 l1) (_ : ∀ x ∈ l1, I64 x) (n1 : l1.length ≤ 17592186043904) (_ : l1.length ≤ c1)
    {A2 : Option Addr} {c2 : Nat} {l2 : List Int} (h2 : Ints (· < w.heap.size) w A2 l2) (_ : ∀ x ∈ l2, I64 x) (n2 : l2.length ≤ 17592186043904) (_ : l2.length ≤ c2) :
    Cal Try.prog 3 [a0.val m0, .slice A1 l1.length c1, .slice A2 l2.length c2] w fun v w' => v = .bool true ∧ Below w.heap.size w w' := by
  refine cal_law_DelayTells (by simp) 100000 fun Q hQ => ?_
  simp (disch := first | with_reducible assumption | omega) only [push_cast, x_blk, x_cd, ↓reduceIte, Nat.reduceEqDiff, List.map_cons, List.map_nil, Int.reduceEq, Int.lt_irrefl, F_law_DelayTells]
  refine blk_of (box_agg _ (a0.cells m0)) ?_
  intro w1 k1 b1 z1
  simp (disch := first | with_reducible assumption | omega) only [push_cast, x_blk, x_cd, ↓reduceIte, Nat.reduceEqDiff, List.map_cons, List.map_nil, Int.reduceEq, Int.lt_irrefl, k1.mA ty_ag_25 ty_sz_25]
  refine call_of (diagnose_Delay (h.up b1) hf (h1.up b1) n1 (h2.up b1) n2) ?_
  rintro v w2 ⟨d, e, rfl, hd, b2⟩
  replace k1 := k1.below b2 k1.lt
  have bb := b1.trans (b2.mono b1.size)
  simp (disch := first | with_reducible assumption | omega) only [push_cast, x_blk, x_cd, ↓reduceIte, Nat.reduceEqDiff, List.map_cons, List.map_nil, Int.reduceEq, Int.lt_irrefl, k1.mA ty_ag_25 ty_sz_25]
  refine call_of (ref2_May (h.up bb) hf) ?_
  rintro v w3 ⟨rfl, b3⟩
  replace k1 := k1.below b3 k1.lt
  replace bb := bb.trans (b3.mono bb.size)
  by_cases p1 : m0.May
  case neg =>
    rcases hd with ⟨_, rfl, rfl⟩ | ⟨h2, _⟩ | ⟨h2, _⟩
    · simp (disch := first | with_reducible assumption | omega) only [push_cast, x_blk, x_cd, ↓reduceIte, Nat.reduceEqDiff, List.map_cons, List.map_nil, Int.reduceEq, Int.lt_irrefl, p1]
      exact fin_1 (hQ _ _ ⟨(by simp only [push_cast, ↓reduceIte, Nat.reduceEqDiff, Int.reduceEq]), bb⟩)
    · exact absurd h2.1 p1
    · exact absurd h2.1 p1
  simp (disch := first | with_reducible assumption | omega) only [push_cast, x_blk, x_cd, ↓reduceIte, Nat.reduceEqDiff, List.map_cons, List.map_nil, Int.reduceEq, Int.lt_irrefl, p1, k1.m1 ty_ag_3]
  refine call_of (ref1_Is (h1.up bb) c1 m0.events (by omega)) ?_
  rintro v w4 ⟨rfl, s4⟩
  replace k1 := k1.same s4
  replace bb := bb.trans (s4.below _)
  by_cases p2 : IsRow l1 m0.events
  case neg =>
    rcases hd with ⟨_, rfl, rfl⟩ | ⟨h2, _⟩ | ⟨h2, _⟩
    · simp (disch := first | with_reducible assumption | omega) only [push_cast, x_blk, x_cd, ↓reduceIte, Nat.reduceEqDiff, List.map_cons, List.map_nil, Int.reduceEq, Int.lt_irrefl, p2]
      exact fin_1 (hQ _ _ ⟨(by simp only [push_cast, ↓reduceIte, Nat.reduceEqDiff, Int.reduceEq]), bb⟩)
    · exact absurd h2.2.1 p2
    · exact absurd h2.2.1 p2
  simp (disch := first | with_reducible assumption | omega) only [push_cast, x_blk, x_cd, ↓reduceIte, Nat.reduceEqDiff, List.map_cons, List.map_nil, Int.reduceEq, Int.lt_irrefl, p2, k1.m1 ty_ag_3]
  refine call_of (ref1_Is (h2.up bb) c2 m0.events (by omega)) ?_
  rintro v w5 ⟨rfl, s5⟩
  replace k1 := k1.same s5
  replace bb := bb.trans (s5.below _)
  by_cases p3 : IsRow l2 m0.events
  case neg =>
    rcases hd with ⟨_, rfl, rfl⟩ | ⟨h2, _⟩ | ⟨h2, _⟩
    · simp (disch := first | with_reducible assumption | omega) only [push_cast, x_blk, x_cd, ↓reduceIte, Nat.reduceEqDiff, List.map_cons, List.map_nil, Int.reduceEq, Int.lt_irrefl, p3]
      exact fin_1 (hQ _ _ ⟨(by simp only [push_cast, ↓reduceIte, Nat.reduceEqDiff, Int.reduceEq]), bb⟩)
    · exact absurd h2.2.2 p3
    · exact absurd h2.2.2 p3
  by_cases p4 : m0.states ≤ 6
  case neg =>
    have q4 : 6 < m0.states := by omega
    rcases hd with ⟨h2, _⟩ | ⟨_, _, rfl, rfl⟩ | ⟨_, h2, _⟩
    · exact absurd ⟨p1, p2, p3⟩ h2
    · simp (disch := first | with_reducible assumption | omega) only [push_cast, x_blk, x_cd, ↓reduceIte, Nat.reduceEqDiff, List.map_cons, List.map_nil, Int.reduceEq, Int.lt_irrefl, p3, k1.m0 ty_ag_3, q4]
      exact fin_1 (hQ _ _ ⟨(by simp only [push_cast, ↓reduceIte, Nat.reduceEqDiff, Int.reduceEq]), bb⟩)
    · exact absurd h2 p4
  have q4 : ¬ 6 < m0.states := by omega
  rcases hd with ⟨h2, _⟩ | ⟨_, h2, _⟩ | ⟨_, _, rfl, hd⟩
  · exact absurd ⟨p1, p2, p3⟩ h2
  · exact absurd p4 h2
  simp (disch := first | with_reducible assumption | omega) only [push_cast, x_blk, x_cd, ↓reduceIte, Nat.reduceEqDiff, List.map_cons, List.map_nil, Int.reduceEq, Int.lt_irrefl, p3, k1.m0 ty_ag_3, q4, k1.mA ty_ag_25 ty_sz_25]
  refine call_of (ref13_Delay (h.up bb) hf p1 p4 (h1.up bb) n1 (h2.up bb) n2) ?_
  rintro v w6 ⟨d', rfl, hd', b6⟩
  obtain rfl := DelayIs.unique hd hd'
  simp (disch := first | with_reducible assumption | omega) only [push_cast, x_blk, x_cd, ↓reduceIte, Nat.reduceEqDiff, List.map_cons, List.map_nil, Int.reduceEq, Int.lt_irrefl, eq_self, decide_true]
  exact fin_1 (hQ _ _ ⟨(by simp only [push_cast, ↓reduceIte, Nat.reduceEqDiff, Int.reduceEq]), bb.trans (b6.mono bb.size)⟩)
end Go.Proofs.Ytfckamjbeplceaa
