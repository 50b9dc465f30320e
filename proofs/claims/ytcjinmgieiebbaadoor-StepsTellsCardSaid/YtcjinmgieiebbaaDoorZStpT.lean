/-
  The law StepsTells: it returns true.
-/
import Derived.Test.YtcjinmgieiebbaaDoorZRef11
import Derived.Test.YtcjinmgieiebbaaDoorZStpK
namespace Go.Proofs.YtcjinmgieiebbaaDoor
set_option linter.unusedSimpArgs false
set_option linter.unusedVariables false
set_option linter.unusedSectionVars false
open Go.RowKit

theorem opt2_same {p : Plt} {most : Int} {o o' : Option (List Int × List Int)} {b b' : Bool} {u v u' v' : List Int} (h : BestIs (StpQ p most) o) (h' : BestIs (StpQ p most) o') (hO : Opt2 o b u v) (hO' : Opt2 o' b' u' v') : b = b' ∧ u = u' ∧ v = v' := by
  obtain rfl := h.unique h'
  cases o with
  | none => exact ⟨hO.1.trans hO'.1.symm, hO.2.1.trans hO'.2.1.symm, hO.2.2.trans hO'.2.2.symm⟩
  | some m => exact ⟨hO.1.trans hO'.1.symm, hO.2.1.trans hO'.2.1.symm, hO.2.2.trans hO'.2.2.symm⟩
theorem law_StepsTells {w : World} (hT : Tab w) {a0 : PV} {p0 : Plt} (h : IsP (· < w.heap.size) w a0 p0) (hf : p0.Fits) (_hc : a0.Caps p0)
    {A1 : Option Addr} {c1 : Nat} {l1 : List Int} (h1 : Ints (· < w.heap.size) w A1 l1) (_b1 : ∀ x ∈ l1, I64 x) (n1 : l1.length ≤ 17592186043904) (_k1 : l1.length ≤ c1)
    {A2 : Option Addr} {c2 : Nat} {l2 : List Int} (h2 : Ints (· < w.heap.size) w A2 l2) (_b2 : ∀ x ∈ l2, I64 x) (n2 : l2.length ≤ 17592186043904) (_k2 : l2.length ≤ c2) {x3 : Int} (_b3 : I64 x3) :
    Cal Tryd.prog 9 [a0.val p0, .slice A1 l1.length c1, .slice A2 l2.length c2, .int .i64 x3] w fun v w' => v = .bool true ∧ Below w.heap.size w w' := by
  refine cal_law_StepsTells (by simp) 100000 fun Q hQ => ?_
  simp (disch := first | with_reducible assumption | omega) only [push_cast, x_blk, x_cd, ↓reduceIte, Nat.reduceEqDiff, List.map_cons, List.map_nil, Int.reduceEq, Int.lt_irrefl, F_law_StepsTells]
  refine blk_of (box_agg _ (a0.cells p0)) ?_
  intro w1 k1 b1 z1
  simp (disch := first | with_reducible assumption | omega) only [push_cast, x_blk, x_cd, ↓reduceIte, Nat.reduceEqDiff, List.map_cons, List.map_nil, Int.reduceEq, Int.lt_irrefl, k1.pA']
  refine call_of (steps_Was (h.up b1) hf (hT.below b1 hT.lt) (h1.up b1) n1 (h2.up b1) n2) ?_
  rintro v w3 ⟨O, co, o, e, rfl, hO, b3, e1, e2, e3⟩
  replace k1 := k1.below b3 k1.lt
  have zz := b1.size
  have bb := b1.trans (b3.mono b1.size)
  replace hO : Ints (· < w3.heap.size) w3 O o := Ints.lt (OwnI.ints hO)
  simp (disch := first | with_reducible assumption | omega) only [push_cast, x_blk, x_cd, ↓reduceIte, Nat.reduceEqDiff, List.map_cons, List.map_nil, Int.reduceEq, Int.lt_irrefl, k1.pA']
  refine call_of (steps_Leak (h.up bb) hf x3) ?_
  rintro v w4 ⟨b2, U, cu, u, V, cv, v', e', rfl, hU, hV, nu, nv, b4, hst⟩
  replace k1 := k1.below b4 k1.lt
  replace hO := hO.up b4
  replace bb := bb.trans (b4.mono bb.size)
  simp (disch := first | with_reducible assumption | omega) only [push_cast, x_blk, x_cd, ↓reduceIte, Nat.reduceEqDiff, List.map_cons, List.map_nil, Int.reduceEq, Int.lt_irrefl, k1.pA']
  refine call_of (ref9_May (h.up bb) hf) ?_
  rintro v w5 ⟨rfl, b5⟩
  replace k1 := k1.below b5 k1.lt
  replace hO := hO.up b5
  replace hU := hU.up b5
  replace hV := hV.up b5
  replace bb := bb.trans (b5.mono bb.size)
  by_cases p1 : p0.May
  case neg =>
    obtain ⟨rfl, rfl⟩ := e2 p1
    rcases hst with ⟨_, rfl, rfl, rfl, rfl⟩ | ⟨hh, _⟩ | ⟨hh, _⟩
    case inr.inl => exact absurd hh p1
    case inr.inr => exact absurd hh p1
    simp (disch := first | with_reducible assumption | omega) only [push_cast, x_blk, x_cd, ↓reduceIte, Nat.reduceEqDiff, List.map_cons, List.map_nil, Int.reduceEq, Int.lt_irrefl, decide_eq_false p1, bne_self_eq_false, eq_self, List.length_nil]
    exact fin_1 (hQ _ _ ⟨rfl, bb⟩)
  simp (disch := first | with_reducible assumption | omega) only [push_cast, x_blk, x_cd, ↓reduceIte, Nat.reduceEqDiff, List.map_cons, List.map_nil, Int.reduceEq, Int.lt_irrefl, decide_eq_true p1, k1.pA']
  refine call_of (law_seen (h.up bb) hf (h1.up bb) n1) ?_
  rintro v w6 ⟨rfl, b6⟩
  replace k1 := k1.below b6 k1.lt
  replace hO := hO.up b6
  replace hU := hU.up b6
  replace hV := hV.up b6
  replace bb := bb.trans (b6.mono bb.size)
  by_cases p2 : AllIn l1 p0.seen
  case neg =>
    obtain ⟨rfl, rfl⟩ := e3 ⟨p1, fun hh => p2 hh.1⟩
    simp (disch := first | with_reducible assumption | omega) only [push_cast, x_blk, x_cd, ↓reduceIte, Nat.reduceEqDiff, List.map_cons, List.map_nil, Int.reduceEq, Int.lt_irrefl, decide_eq_false p2, eq_self, List.length_nil, k1.pA']
    by_cases m1 : x3 < -1
    case pos =>
      rcases hst with ⟨hh, _⟩ | ⟨_, _, rfl, rfl, rfl, rfl⟩ | ⟨_, hh, _⟩
      case inl => exact absurd p1 hh
      case inr.inr => exact absurd hh (by omega)
      simp (disch := first | with_reducible assumption | omega) only [push_cast, x_blk, x_cd, ↓reduceIte, Nat.reduceEqDiff, List.map_cons, List.map_nil, Int.reduceEq, Int.lt_irrefl, m1, eq_self, List.length_nil, k1.pA']
      exact fin_1 (hQ _ _ ⟨rfl, bb⟩)
    by_cases m2 : 1000 < x3
    case pos =>
      rcases hst with ⟨hh, _⟩ | ⟨_, _, rfl, rfl, rfl, rfl⟩ | ⟨_, hh, _⟩
      case inl => exact absurd p1 hh
      case inr.inr => exact absurd hh (by omega)
      simp (disch := first | with_reducible assumption | omega) only [push_cast, x_blk, x_cd, ↓reduceIte, Nat.reduceEqDiff, List.map_cons, List.map_nil, Int.reduceEq, Int.lt_irrefl, m1, m2, eq_self, List.length_nil, k1.pA']
      exact fin_1 (hQ _ _ ⟨rfl, bb⟩)
    rcases hst with ⟨hh, _⟩ | ⟨_, hh, _⟩ | ⟨_, _, rfl, oo, hbo, hO2⟩
    case inl => exact absurd p1 hh
    case inr.inl => exact absurd (by omega) hh
    simp (disch := first | with_reducible assumption | omega) only [push_cast, x_blk, x_cd, ↓reduceIte, Nat.reduceEqDiff, List.map_cons, List.map_nil, Int.reduceEq, Int.lt_irrefl, m1, m2, k1.pA']
    refine call_of (ref11_Leak (h.up bb) hf p1 x3) ?_
    rintro v wl ⟨bl, Ul, cul, ul, Vl, cvl, vl, rfl, hUl, hVl, nul, nvl, bL, ol, hbl, hOl⟩
    replace hU := hU.up bL
    replace hV := hV.up bL
    replace bb := bb.trans (bL.mono bb.size)
    obtain ⟨rfl, rfl, rfl⟩ := opt2_same hbo hbl hO2 hOl
    simp (disch := first | with_reducible assumption | omega) only [push_cast, x_blk, x_cd, ↓reduceIte, Nat.reduceEqDiff, List.map_cons, List.map_nil, Int.reduceEq, Int.lt_irrefl, eq_self, beq_self_eq_true]
    refine call_of (ref1_Same hU hUl cu cul (by omega)) ?_
    rintro v wm ⟨rfl, sm⟩
    simp (disch := first | with_reducible assumption | omega) only [push_cast, x_blk, x_cd, ↓reduceIte, Nat.reduceEqDiff, List.map_cons, List.map_nil, Int.reduceEq, Int.lt_irrefl, eq_self]
    refine call_of (ref1_Same (hV.same sm) (hVl.same sm) cv cvl (by omega)) ?_
    rintro v wn ⟨rfl, sn⟩
    simp (disch := first | with_reducible assumption | omega) only [push_cast, x_blk, x_cd, ↓reduceIte, Nat.reduceEqDiff, List.map_cons, List.map_nil, Int.reduceEq, Int.lt_irrefl, eq_self]
    exact fin_1 (hQ _ _ ⟨(by simp only [push_cast, ↓reduceIte, Nat.reduceEqDiff, Int.reduceEq, eq_self]), bb.trans ((sm.trans sn).below _)⟩)
  simp (disch := first | with_reducible assumption | omega) only [push_cast, x_blk, x_cd, ↓reduceIte, Nat.reduceEqDiff, List.map_cons, List.map_nil, Int.reduceEq, Int.lt_irrefl, decide_eq_true p2, k1.pA']
  refine call_of (law_seen (h.up bb) hf (h2.up bb) n2) ?_
  rintro v w6' ⟨rfl, b6'⟩
  replace k1 := k1.below b6' k1.lt
  replace hO := hO.up b6'
  replace hU := hU.up b6'
  replace hV := hV.up b6'
  replace bb := bb.trans (b6'.mono bb.size)
  by_cases p3 : AllIn l2 p0.seen
  case neg =>
    obtain ⟨rfl, rfl⟩ := e3 ⟨p1, fun hh => p3 hh.2⟩
    simp (disch := first | with_reducible assumption | omega) only [push_cast, x_blk, x_cd, ↓reduceIte, Nat.reduceEqDiff, List.map_cons, List.map_nil, Int.reduceEq, Int.lt_irrefl, decide_eq_false p3, eq_self, List.length_nil, k1.pA']
    by_cases m1 : x3 < -1
    case pos =>
      rcases hst with ⟨hh, _⟩ | ⟨_, _, rfl, rfl, rfl, rfl⟩ | ⟨_, hh, _⟩
      case inl => exact absurd p1 hh
      case inr.inr => exact absurd hh (by omega)
      simp (disch := first | with_reducible assumption | omega) only [push_cast, x_blk, x_cd, ↓reduceIte, Nat.reduceEqDiff, List.map_cons, List.map_nil, Int.reduceEq, Int.lt_irrefl, m1, eq_self, List.length_nil, k1.pA']
      exact fin_1 (hQ _ _ ⟨rfl, bb⟩)
    by_cases m2 : 1000 < x3
    case pos =>
      rcases hst with ⟨hh, _⟩ | ⟨_, _, rfl, rfl, rfl, rfl⟩ | ⟨_, hh, _⟩
      case inl => exact absurd p1 hh
      case inr.inr => exact absurd hh (by omega)
      simp (disch := first | with_reducible assumption | omega) only [push_cast, x_blk, x_cd, ↓reduceIte, Nat.reduceEqDiff, List.map_cons, List.map_nil, Int.reduceEq, Int.lt_irrefl, m1, m2, eq_self, List.length_nil, k1.pA']
      exact fin_1 (hQ _ _ ⟨rfl, bb⟩)
    rcases hst with ⟨hh, _⟩ | ⟨_, hh, _⟩ | ⟨_, _, rfl, oo, hbo, hO2⟩
    case inl => exact absurd p1 hh
    case inr.inl => exact absurd (by omega) hh
    simp (disch := first | with_reducible assumption | omega) only [push_cast, x_blk, x_cd, ↓reduceIte, Nat.reduceEqDiff, List.map_cons, List.map_nil, Int.reduceEq, Int.lt_irrefl, m1, m2, k1.pA']
    refine call_of (ref11_Leak (h.up bb) hf p1 x3) ?_
    rintro v wl ⟨bl, Ul, cul, ul, Vl, cvl, vl, rfl, hUl, hVl, nul, nvl, bL, ol, hbl, hOl⟩
    replace hU := hU.up bL
    replace hV := hV.up bL
    replace bb := bb.trans (bL.mono bb.size)
    obtain ⟨rfl, rfl, rfl⟩ := opt2_same hbo hbl hO2 hOl
    simp (disch := first | with_reducible assumption | omega) only [push_cast, x_blk, x_cd, ↓reduceIte, Nat.reduceEqDiff, List.map_cons, List.map_nil, Int.reduceEq, Int.lt_irrefl, eq_self, beq_self_eq_true]
    refine call_of (ref1_Same hU hUl cu cul (by omega)) ?_
    rintro v wm ⟨rfl, sm⟩
    simp (disch := first | with_reducible assumption | omega) only [push_cast, x_blk, x_cd, ↓reduceIte, Nat.reduceEqDiff, List.map_cons, List.map_nil, Int.reduceEq, Int.lt_irrefl, eq_self]
    refine call_of (ref1_Same (hV.same sm) (hVl.same sm) cv cvl (by omega)) ?_
    rintro v wn ⟨rfl, sn⟩
    simp (disch := first | with_reducible assumption | omega) only [push_cast, x_blk, x_cd, ↓reduceIte, Nat.reduceEqDiff, List.map_cons, List.map_nil, Int.reduceEq, Int.lt_irrefl, eq_self]
    exact fin_1 (hQ _ _ ⟨(by simp only [push_cast, ↓reduceIte, Nat.reduceEqDiff, Int.reduceEq, eq_self]), bb.trans ((sm.trans sn).below _)⟩)
  obtain ⟨rfl, rfl⟩ := e1 ⟨p1, p2, p3⟩
  simp (disch := first | with_reducible assumption | omega) only [push_cast, x_blk, x_cd, ↓reduceIte, Nat.reduceEqDiff, List.map_cons, List.map_nil, Int.reduceEq, Int.lt_irrefl, decide_eq_true p3, k1.pA']
  refine call_of (ref11_Was (h.up bb) hf p1.1 (h1.up bb) n1 (h2.up bb) n2) ?_
  rintro v w7 ⟨O7, c7, rfl, o7, b7⟩
  rw [was_eq p1.1] at o7 ⊢
  replace k1 := k1.below b7 k1.lt
  replace hO := hO.up b7
  replace hU := hU.up b7
  replace hV := hV.up b7
  replace bb := bb.trans (b7.mono bb.size)
  have hrl : (wasL p0 l1 l2).length ≤ 256 := small_len (wasL_row p1.1 l1 l2).strict ((wasL_row p1.1 l1 l2).small p1.1.2.1)
  simp (disch := first | with_reducible assumption | omega) only [push_cast, x_blk, x_cd, ↓reduceIte, Nat.reduceEqDiff, List.map_cons, List.map_nil, Int.reduceEq, Int.lt_irrefl, eq_self]
  refine call_of (ref1_Same hO (Ints.lt (OwnI.ints o7)) co c7 (by omega)) ?_
  rintro v w8 ⟨rfl, s8⟩
  replace k1 := k1.same s8
  replace hU := hU.up (s8.below _)
  replace hV := hV.up (s8.below _)
  replace bb := bb.trans (s8.below _)
  simp (disch := first | with_reducible assumption | omega) only [push_cast, x_blk, x_cd, ↓reduceIte, Nat.reduceEqDiff, List.map_cons, List.map_nil, Int.reduceEq, Int.lt_irrefl, eq_self, k1.pA']
  by_cases m1 : x3 < -1
  case pos =>
    rcases hst with ⟨hh, _⟩ | ⟨_, _, rfl, rfl, rfl, rfl⟩ | ⟨_, hh, _⟩
    case inl => exact absurd p1 hh
    case inr.inr => exact absurd hh (by omega)
    simp (disch := first | with_reducible assumption | omega) only [push_cast, x_blk, x_cd, ↓reduceIte, Nat.reduceEqDiff, List.map_cons, List.map_nil, Int.reduceEq, Int.lt_irrefl, m1, eq_self, List.length_nil, k1.pA']
    exact fin_1 (hQ _ _ ⟨rfl, bb⟩)
  by_cases m2 : 1000 < x3
  case pos =>
    rcases hst with ⟨hh, _⟩ | ⟨_, _, rfl, rfl, rfl, rfl⟩ | ⟨_, hh, _⟩
    case inl => exact absurd p1 hh
    case inr.inr => exact absurd hh (by omega)
    simp (disch := first | with_reducible assumption | omega) only [push_cast, x_blk, x_cd, ↓reduceIte, Nat.reduceEqDiff, List.map_cons, List.map_nil, Int.reduceEq, Int.lt_irrefl, m1, m2, eq_self, List.length_nil, k1.pA']
    exact fin_1 (hQ _ _ ⟨rfl, bb⟩)
  rcases hst with ⟨hh, _⟩ | ⟨_, hh, _⟩ | ⟨_, _, rfl, oo, hbo, hO2⟩
  case inl => exact absurd p1 hh
  case inr.inl => exact absurd (by omega) hh
  simp (disch := first | with_reducible assumption | omega) only [push_cast, x_blk, x_cd, ↓reduceIte, Nat.reduceEqDiff, List.map_cons, List.map_nil, Int.reduceEq, Int.lt_irrefl, m1, m2, k1.pA']
  refine call_of (ref11_Leak (h.up bb) hf p1 x3) ?_
  rintro v wl ⟨bl, Ul, cul, ul, Vl, cvl, vl, rfl, hUl, hVl, nul, nvl, bL, ol, hbl, hOl⟩
  replace hU := hU.up bL
  replace hV := hV.up bL
  replace bb := bb.trans (bL.mono bb.size)
  obtain ⟨rfl, rfl, rfl⟩ := opt2_same hbo hbl hO2 hOl
  simp (disch := first | with_reducible assumption | omega) only [push_cast, x_blk, x_cd, ↓reduceIte, Nat.reduceEqDiff, List.map_cons, List.map_nil, Int.reduceEq, Int.lt_irrefl, eq_self, beq_self_eq_true]
  refine call_of (ref1_Same hU hUl cu cul (by omega)) ?_
  rintro v wm ⟨rfl, sm⟩
  simp (disch := first | with_reducible assumption | omega) only [push_cast, x_blk, x_cd, ↓reduceIte, Nat.reduceEqDiff, List.map_cons, List.map_nil, Int.reduceEq, Int.lt_irrefl, eq_self]
  refine call_of (ref1_Same (hV.same sm) (hVl.same sm) cv cvl (by omega)) ?_
  rintro v wn ⟨rfl, sn⟩
  simp (disch := first | with_reducible assumption | omega) only [push_cast, x_blk, x_cd, ↓reduceIte, Nat.reduceEqDiff, List.map_cons, List.map_nil, Int.reduceEq, Int.lt_irrefl, eq_self]
  exact fin_1 (hQ _ _ ⟨(by simp only [push_cast, ↓reduceIte, Nat.reduceEqDiff, Int.reduceEq, eq_self]), bb.trans ((sm.trans sn).below _)⟩)
end Go.Proofs.YtcjinmgieiebbaaDoor
