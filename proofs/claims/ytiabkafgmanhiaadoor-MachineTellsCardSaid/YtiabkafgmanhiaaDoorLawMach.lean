/-
  The laws on machines: MachineTells, MachineSplits: they return true.
-/
import Derived.Test.YtiabkafgmanhiaaDoorAcc
namespace Go.Proofs.YtiabkafgmanhiaaDoor
set_option linter.unusedSimpArgs false
set_option linter.unusedVariables false
set_option linter.unusedSectionVars false
open Go.RowKit

theorem law_MachineTells {w : World} (hT : Tab w) {a0 : MV} {m0 : Mach} (h : IsM (· < w.heap.size) w a0 m0) (hf : m0.Fits)
    {A1 : Option Addr} {c1 : Nat} {l1 : List Int} (h1 : Ints (· < w.heap.size) w A1 l1) (_b1 : ∀ x ∈ l1, I64 x) (n1 : l1.length ≤ 17592186043904) (_k1 : l1.length ≤ c1)
    {A2 : Option Addr} {c2 : Nat} {l2 : List Int} (h2 : Ints (· < w.heap.size) w A2 l2) (_b2 : ∀ x ∈ l2, I64 x) (n2 : l2.length ≤ 17592186043904) (_k2 : l2.length ≤ c2) :
    Cal Tryd.prog 4 [a0.val m0, .slice A1 l1.length c1, .slice A2 l2.length c2] w fun v w' => v = .bool true ∧ Below w.heap.size w w' := by
  refine cal_law_MachineTells (by simp) 100000 fun Q hQ => ?_
  simp (disch := first | with_reducible assumption | omega) only [push_cast, x_blk, x_cd, ↓reduceIte, Nat.reduceEqDiff, List.map_cons, List.map_nil, Int.reduceEq, Int.lt_irrefl, F_law_MachineTells]
  refine blk_of (box_agg _ (a0.cells m0)) ?_
  intro w1 k1 b1 z1
  have bb := b1
  have up : ∀ {w' : World}, Below w.heap.size w w' → IsM (· < w'.heap.size) w' a0 m0 := fun {w'} hb => (h.below hb).mono fun b hl => Nat.lt_of_lt_of_le hl hb.size
  simp (disch := first | with_reducible assumption | omega) only [push_cast, x_blk, x_cd, ↓reduceIte, Nat.reduceEqDiff, List.map_cons, List.map_nil, Int.reduceEq, Int.lt_irrefl, k1.mA ty_ag_25 ty_sz_25]
  refine call_of (machine_May (up bb) hf) ?_
  rintro v w2 ⟨rfl, b2⟩
  replace k1 := k1.below b2 k1.lt
  replace bb := bb.trans (b2.mono bb.size)
  simp (disch := first | with_reducible assumption | omega) only [push_cast, x_blk, x_cd, ↓reduceIte, Nat.reduceEqDiff, List.map_cons, List.map_nil, Int.reduceEq, Int.lt_irrefl, k1.mA ty_ag_25 ty_sz_25]
  refine call_of (ref2_May (up bb) hf) ?_
  rintro v w3 ⟨rfl, b3⟩
  replace k1 := k1.below b3 k1.lt
  replace bb := bb.trans (b3.mono bb.size)
  simp (disch := first | with_reducible assumption | omega) only [push_cast, x_blk, x_cd, ↓reduceIte, Nat.reduceEqDiff, List.map_cons, List.map_nil, Int.reduceEq, Int.lt_irrefl, bne_self_eq_false, k1.mA ty_ag_25 ty_sz_25]
  refine call_of (machine_After (up bb) hf (hT.below bb hT.lt) (h1.below bb).lt (h2.below bb).lt n1 n2) ?_
  rintro v w4 ⟨O, co, o, e, rfl, ho, b4, hyes, hno1, hno2⟩
  have z3 := bb.size
  replace k1 := k1.below b4 k1.lt
  replace bb := bb.trans (b4.mono bb.size)
  simp (disch := first | with_reducible assumption | omega) only [push_cast, x_blk, x_cd, ↓reduceIte, Nat.reduceEqDiff, List.map_cons, List.map_nil, Int.reduceEq, Int.lt_irrefl, k1.mA ty_ag_25 ty_sz_25]
  refine call_of (machine_Accepts (up bb) hf (hT.below bb hT.lt) (h2.below bb).lt n2) ?_
  rintro v w5 ⟨t, f, rfl, b5, ayes, ano1, ano2⟩
  replace k1 := k1.below b5 k1.lt
  replace ho := ho.below b5 (Nat.le_refl _)
  replace bb := bb.trans (b5.mono bb.size)
  by_cases p1 : m0.May
  case neg =>
    obtain ⟨rfl, rfl⟩ := hno1 fun hh => p1 hh.1
    obtain ⟨rfl, rfl⟩ := ano1 p1
    simp (disch := first | with_reducible assumption | omega) only [push_cast, x_blk, x_cd, ↓reduceIte, Nat.reduceEqDiff, List.map_cons, List.map_nil, Int.reduceEq, Int.lt_irrefl, p1, List.length_nil, eq_self]
    exact fin_1 (hQ _ _ ⟨(by simp only [push_cast, ↓reduceIte, Nat.reduceEqDiff, Int.reduceEq]), bb⟩)
  simp (disch := first | with_reducible assumption | omega) only [push_cast, x_blk, x_cd, ↓reduceIte, Nat.reduceEqDiff, List.map_cons, List.map_nil, Int.reduceEq, Int.lt_irrefl, p1, k1.mA ty_ag_25 ty_sz_25]
  refine call_of (ref2_Word (a := a0) (m := m0) (h2.below bb).lt c2 n2) ?_
  rintro v w6 ⟨rfl, b6⟩
  replace k1 := k1.below b6 k1.lt
  replace ho := ho.below b6 (Nat.le_refl _)
  replace bb := bb.trans (b6.mono bb.size)
  simp (disch := first | with_reducible assumption | omega) only [push_cast, x_blk, x_cd, ↓reduceIte, Nat.reduceEqDiff, List.map_cons, List.map_nil, Int.reduceEq, Int.lt_irrefl, k1.m0 ty_ag_3]
  refine call_of (ref1_Is (h1.below bb) c1 m0.states (by omega)) ?_
  rintro v w7 ⟨rfl, s7⟩
  replace k1 := k1.same s7
  replace ho := ho.same s7
  replace bb := bb.trans (s7.below _)
  by_cases p2 : IsRow l1 m0.states
  case neg =>
    obtain ⟨rfl, rfl⟩ := hno1 fun hh => p2 hh.2
    by_cases p3 : IsWord m0 l2
    · obtain ⟨rfl, rfl⟩ := ayes ⟨p1, p3⟩
      simp (disch := first | with_reducible assumption | omega) only [push_cast, x_blk, x_cd, ↓reduceIte, Nat.reduceEqDiff, List.map_cons, List.map_nil, Int.reduceEq, Int.lt_irrefl, p2, p3, List.length_nil, eq_self, k1.mA ty_ag_25 ty_sz_25]
      refine call_of (ref2_Accepts (up bb) hf p1 (h2.below bb).lt n2) ?_
      rintro v w8 ⟨rfl, b8⟩
      replace bb := bb.trans (b8.mono bb.size)
      simp (disch := first | with_reducible assumption | omega) only [push_cast, x_blk, x_cd, ↓reduceIte, Nat.reduceEqDiff, List.map_cons, List.map_nil, Int.reduceEq, Int.lt_irrefl, eq_self]
      exact fin_1 (hQ _ _ ⟨(by simp only [push_cast, ↓reduceIte, Nat.reduceEqDiff, Int.reduceEq]), bb⟩)
    · obtain ⟨rfl, rfl⟩ := ano2 ⟨p1, p3⟩
      simp (disch := first | with_reducible assumption | omega) only [push_cast, x_blk, x_cd, ↓reduceIte, Nat.reduceEqDiff, List.map_cons, List.map_nil, Int.reduceEq, Int.lt_irrefl, p2, p3, List.length_nil, eq_self]
      exact fin_1 (hQ _ _ ⟨(by simp only [push_cast, ↓reduceIte, Nat.reduceEqDiff, Int.reduceEq]), bb⟩)
  by_cases p3 : IsWord m0 l2
  case neg =>
    obtain ⟨rfl, rfl⟩ := hno2 ⟨⟨p1, p2⟩, p3⟩
    obtain ⟨rfl, rfl⟩ := ano2 ⟨p1, p3⟩
    simp (disch := first | with_reducible assumption | omega) only [push_cast, x_blk, x_cd, ↓reduceIte, Nat.reduceEqDiff, List.map_cons, List.map_nil, Int.reduceEq, Int.lt_irrefl, p2, p3, List.length_nil, eq_self]
    exact fin_1 (hQ _ _ ⟨(by simp only [push_cast, ↓reduceIte, Nat.reduceEqDiff, Int.reduceEq]), bb⟩)
  obtain ⟨rfl, rfl⟩ := hyes ⟨p1, p2, p3⟩
  obtain ⟨rfl, rfl⟩ := ayes ⟨p1, p3⟩
  have hrow := afterL_row p1 p2 l2
  have nO := hrow.len
  simp (disch := first | with_reducible assumption | omega) only [push_cast, x_blk, x_cd, ↓reduceIte, Nat.reduceEqDiff, List.map_cons, List.map_nil, Int.reduceEq, Int.lt_irrefl, p2, p3, eq_self, k1.mA ty_ag_25 ty_sz_25]
  refine call_of (ref2_After (up bb) hf p1 (h1.below bb).lt (h2.below bb).lt p2 n2) ?_
  rintro v w8 ⟨A8, c8, rfl, o8, b8⟩
  replace k1 := k1.below b8 k1.lt
  replace ho := ho.below b8 (Nat.le_refl _)
  replace bb := bb.trans (b8.mono bb.size)
  simp (disch := first | with_reducible assumption | omega) only [push_cast, x_blk, x_cd, ↓reduceIte, Nat.reduceEqDiff, List.map_cons, List.map_nil, Int.reduceEq, Int.lt_irrefl]
  refine call_of (ref1_Same (OwnI.ints ho) (OwnI.ints o8) co c8 (by omega)) ?_
  rintro v w9 ⟨rfl, s9⟩
  replace k1 := k1.same s9
  replace bb := bb.trans (s9.below _)
  simp (disch := first | with_reducible assumption | omega) only [push_cast, x_blk, x_cd, ↓reduceIte, Nat.reduceEqDiff, List.map_cons, List.map_nil, Int.reduceEq, Int.lt_irrefl, eq_self, p3, k1.mA ty_ag_25 ty_sz_25]
  refine call_of (ref2_Accepts (up bb) hf p1 (h2.below bb).lt n2) ?_
  rintro v w10 ⟨rfl, b10⟩
  replace bb := bb.trans (b10.mono bb.size)
  simp (disch := first | with_reducible assumption | omega) only [push_cast, x_blk, x_cd, ↓reduceIte, Nat.reduceEqDiff, List.map_cons, List.map_nil, Int.reduceEq, Int.lt_irrefl, eq_self]
  exact fin_1 (hQ _ _ ⟨(by simp only [push_cast, ↓reduceIte, Nat.reduceEqDiff, Int.reduceEq]), bb⟩)
end Go.Proofs.YtiabkafgmanhiaaDoor
