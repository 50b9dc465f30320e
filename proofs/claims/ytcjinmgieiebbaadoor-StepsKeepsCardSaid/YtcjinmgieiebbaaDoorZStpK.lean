/-
  The law StepsKeeps: it returns true.
-/
import Derived.Test.YtcjinmgieiebbaaDoorZWas
import Derived.Test.YtcjinmgieiebbaaDoorZCurD
namespace Go.Proofs.YtcjinmgieiebbaaDoor
set_option linter.unusedSimpArgs false
set_option linter.unusedVariables false
set_option linter.unusedSectionVars false
open Go.RowKit

theorem stp_none {p : Plt} {most : Int} {u v : List Int} (h : StpIs p most false u v 0) : u = [] ∧ v = [] ∧ ∀ z, ¬ StpQ p most z := by
  rcases h with ⟨_, _, _, _, hh⟩ | ⟨_, _, _, _, _, hh⟩ | ⟨_, _, _, o, ho, hO⟩
  · exact absurd hh (by decide)
  · exact absurd hh (by decide)
  cases o with
  | none => exact ⟨hO.2.1, hO.2.2, ho⟩
  | some m => exact absurd hO.1 (by decide)
theorem stp_some {p : Plt} {most : Int} {u v : List Int} (h : StpIs p most true u v 0) : StpQ p most (u, v) ∧ ∀ z, StpQ p most z → ¬ PLt z (u, v) := by
  rcases h with ⟨_, _, _, _, hh⟩ | ⟨_, _, _, _, _, hh⟩ | ⟨_, _, _, o, ho, hO⟩
  · exact absurd hh (by decide)
  · exact absurd hh (by decide)
  cases o with
  | none => exact absurd hO.1 (by decide)
  | some m =>
    obtain ⟨_, rfl, rfl⟩ := hO
    exact ho
theorem stp_bad {p : Plt} {most : Int} {b : Bool} {u v : List Int} {e : Int} (h : StpIs p most b u v e) (he : e ≠ 0) : b = false ∧ u = [] ∧ v = [] := by
  rcases h with ⟨_, h1, h2, h3, _⟩ | ⟨_, _, h1, h2, h3, _⟩ | ⟨_, _, hh, _⟩
  · exact ⟨h1, h2, h3⟩
  · exact ⟨h1, h2, h3⟩
  · exact absurd hh he
theorem stp_may {p : Plt} {most : Int} {b : Bool} {u v : List Int} (h : StpIs p most b u v 0) : p.May := by
  rcases h with ⟨_, _, _, _, hh⟩ | ⟨h, _⟩ | ⟨h, _⟩
  · exact absurd hh (by decide)
  · exact h
  · exact h
theorem law_StepsKeeps {w : World} (hT : Tab w) {a0 : PV} {p0 : Plt} (h : IsP (· < w.heap.size) w a0 p0) (hf : p0.Fits) (_hc : a0.Caps p0) {x1 : Int} (_b1 : I64 x1)
    {A2 : Option Addr} {c2 : Nat} {l2 : List Int} (h2 : Ints (· < w.heap.size) w A2 l2) (_b2 : ∀ x ∈ l2, I64 x) (n2 : l2.length ≤ 17592186043904) (_k2 : l2.length ≤ c2)
    {A3 : Option Addr} {c3 : Nat} {l3 : List Int} (h3 : Ints (· < w.heap.size) w A3 l3) (_b3 : ∀ x ∈ l3, I64 x) (n3 : l3.length ≤ 17592186043904) (_k3 : l3.length ≤ c3) :
    Cal Tryd.prog 10 [a0.val p0, .int .i64 x1, .slice A2 l2.length c2, .slice A3 l3.length c3] w fun v w' => v = .bool true ∧ Below w.heap.size w w' := by
  have nQ := hf.lenQ
  refine cal_keep_StepsKeeps (by simp) 100000 fun Q hQ => ?_
  simp (disch := first | with_reducible assumption | omega) only [push_cast, x_blk, x_cd, ↓reduceIte, Nat.reduceEqDiff, List.map_cons, List.map_nil, Int.reduceEq, Int.lt_irrefl, F_keep_StepsKeeps]
  refine blk_of (box_agg _ (a0.cells p0)) ?_
  intro w1 k1 b1 z1
  simp (disch := first | with_reducible assumption | omega) only [push_cast, x_blk, x_cd, ↓reduceIte, Nat.reduceEqDiff, List.map_cons, List.map_nil, Int.reduceEq, Int.lt_irrefl, k1.pA']
  refine call_of (steps_Leak (h.up b1) hf x1) ?_
  rintro v w2 ⟨b2, U, cu, u, V, cv, v', e', rfl, hU, hV, nu, nv, b4, hst⟩
  replace k1 := k1.below b4 k1.lt
  have bb := b1.trans (b4.mono b1.size)
  by_cases he : e' = 0
  case neg =>
    obtain ⟨rfl, rfl, rfl⟩ := stp_bad hst he
    simp (disch := first | with_reducible assumption | omega) only [push_cast, x_blk, x_cd, ↓reduceIte, Nat.reduceEqDiff, List.map_cons, List.map_nil, Int.reduceEq, Int.lt_irrefl, he, eq_self, List.length_nil]
    exact fin_1 (hQ _ _ ⟨rfl, bb⟩)
  subst he
  have p1 := stp_may hst
  simp (disch := first | with_reducible assumption | omega) only [push_cast, x_blk, x_cd, ↓reduceIte, Nat.reduceEqDiff, List.map_cons, List.map_nil, Int.reduceEq, Int.lt_irrefl, eq_self, k1.pA']
  refine call_of (current_May (h.up bb) hf) ?_
  rintro v w3 ⟨rfl, b3⟩
  replace k1 := k1.below b3 k1.lt
  replace hU := hU.up b3
  replace hV := hV.up b3
  replace bb := bb.trans (b3.mono bb.size)
  simp (disch := first | with_reducible assumption | omega) only [push_cast, x_blk, x_cd, ↓reduceIte, Nat.reduceEqDiff, List.map_cons, List.map_nil, Int.reduceEq, Int.lt_irrefl, decide_eq_true p1, k1.pA']
  refine call_of (steps_Was (h.up bb) hf (hT.below bb hT.lt) (h2.up bb) n2 (h3.up bb) n3) ?_
  rintro v w4 ⟨O, co, o, e, rfl, hO, b5, e1, e2, e3⟩
  replace k1 := k1.below b5 k1.lt
  replace hU := hU.up b5
  replace hV := hV.up b5
  replace bb := bb.trans (b5.mono bb.size)
  replace hO : Ints (· < w4.heap.size) w4 O o := Ints.lt (OwnI.ints hO)
  by_cases m1 : x1 < 0
  case pos =>
    have hsh : x1 < 0 ∨ (l3.length : Int) ≤ x1 := .inl m1
    by_cases p2 : AllIn l2 p0.seen ∧ AllIn l3 p0.seen
    case neg =>
      obtain ⟨rfl, rfl⟩ := e3 ⟨p1, p2⟩
      simp (disch := first | with_reducible assumption | omega) only [push_cast, x_blk, x_cd, ↓reduceIte, Nat.reduceEqDiff, List.map_cons, List.map_nil, Int.reduceEq, Int.lt_irrefl, m1, k1.pA']
      have h256' := p1.1.2.1
      refine call_of (steps_Was (h.up bb) hf (hT.below bb hT.lt) hU (by omega) hV (by omega)) ?_
      rintro v w8 ⟨O8, c8, o8, e8, rfl, hO8, b8, g1, g2, g3⟩
      replace k1 := k1.below b8 k1.lt
      have bb8 := bb.trans (b8.mono bb.size)
      cases b2 with
      | false =>
        first
        | exact absurd ‹false = true› (by decide)
        | (obtain ⟨rfl, rfl, _⟩ := stp_none hst
           obtain ⟨rfl, rfl⟩ := g1 ⟨p1, fun x hx => absurd hx (by simp), fun x hx => absurd hx (by simp)⟩
           simp (disch := first | with_reducible assumption | omega) only [push_cast, x_blk, x_cd, ↓reduceIte, Nat.reduceEqDiff, List.map_cons, List.map_nil, Int.reduceEq, Int.lt_irrefl, eq_self]
           exact fin_1 (hQ _ _ ⟨(by simp only [push_cast, ↓reduceIte, Nat.reduceEqDiff, Int.reduceEq]), bb8⟩))
      | true =>
        obtain ⟨q1, q2, q3, q4⟩ := (stp_some hst).1
        simp only at q1 q2 q3 q4
        obtain ⟨rfl, rfl⟩ := g1 ⟨p1, q1, q2⟩
        have hrl : (wasL p0 u v').length ≤ 256 := small_len (wasL_row p1.1 u v').strict ((wasL_row p1.1 u v').small p1.1.2.1)
        simp (disch := first | with_reducible assumption | omega) only [push_cast, x_blk, x_cd, ↓reduceIte, Nat.reduceEqDiff, List.map_cons, List.map_nil, Int.reduceEq, Int.lt_irrefl, eq_self, k1.p6]
        refine call_of (keep_tells (Ints.lt (OwnI.ints hO8)) (by omega) (h.up bb8).secret (by omega)) ?_
        rintro v w9 ⟨rfl, s9⟩
        by_cases m1 : x1 < 0
        · simp (disch := first | with_reducible assumption | omega) only [push_cast, x_blk, x_cd, ↓reduceIte, Nat.reduceEqDiff, List.map_cons, List.map_nil, Int.reduceEq, Int.lt_irrefl, decide_eq_true q4, m1]
          exact fin_1 (hQ _ _ ⟨(by simp only [push_cast, ↓reduceIte, Nat.reduceEqDiff, Int.reduceEq]), bb8.trans (s9.below _)⟩)
        · have m2 := q3.resolve_left m1
          simp (disch := first | with_reducible assumption | omega) only [push_cast, x_blk, x_cd, ↓reduceIte, Nat.reduceEqDiff, List.map_cons, List.map_nil, Int.reduceEq, Int.lt_irrefl, decide_eq_true q4, m1, m2]
          exact fin_1 (hQ _ _ ⟨(by simp only [push_cast, ↓reduceIte, Nat.reduceEqDiff, Int.reduceEq]), bb8.trans (s9.below _)⟩)
    obtain ⟨rfl, rfl⟩ := e1 ⟨p1, p2⟩
    have hrl : (wasL p0 l2 l3).length ≤ 256 := small_len (wasL_row p1.1 l2 l3).strict ((wasL_row p1.1 l2 l3).small p1.1.2.1)
    simp (disch := first | with_reducible assumption | omega) only [push_cast, x_blk, x_cd, ↓reduceIte, Nat.reduceEqDiff, List.map_cons, List.map_nil, Int.reduceEq, Int.lt_irrefl, m1, eq_self, k1.p6]
    refine call_of (keep_tells hO (by omega) (h.up bb).secret (by omega)) ?_
    rintro v w5 ⟨rfl, s5⟩
    replace k1 := k1.same s5
    replace hU := hU.up (s5.below _)
    replace hV := hV.up (s5.below _)
    replace bb := bb.trans (s5.below _)
    by_cases p3 : TellsL (onlyL (estL p0 l2) (backsL p0 l3) true) p0.secret
    case neg =>
      simp (disch := first | with_reducible assumption | omega) only [push_cast, x_blk, x_cd, ↓reduceIte, Nat.reduceEqDiff, List.map_cons, List.map_nil, Int.reduceEq, Int.lt_irrefl, decide_eq_false p3, k1.pA']
      have h256' := p1.1.2.1
      refine call_of (steps_Was (h.up bb) hf (hT.below bb hT.lt) hU (by omega) hV (by omega)) ?_
      rintro v w8 ⟨O8, c8, o8, e8, rfl, hO8, b8, g1, g2, g3⟩
      replace k1 := k1.below b8 k1.lt
      have bb8 := bb.trans (b8.mono bb.size)
      cases b2 with
      | false =>
        first
        | exact absurd ‹false = true› (by decide)
        | (obtain ⟨rfl, rfl, _⟩ := stp_none hst
           obtain ⟨rfl, rfl⟩ := g1 ⟨p1, fun x hx => absurd hx (by simp), fun x hx => absurd hx (by simp)⟩
           simp (disch := first | with_reducible assumption | omega) only [push_cast, x_blk, x_cd, ↓reduceIte, Nat.reduceEqDiff, List.map_cons, List.map_nil, Int.reduceEq, Int.lt_irrefl, eq_self]
           exact fin_1 (hQ _ _ ⟨(by simp only [push_cast, ↓reduceIte, Nat.reduceEqDiff, Int.reduceEq]), bb8⟩))
      | true =>
        obtain ⟨q1, q2, q3, q4⟩ := (stp_some hst).1
        simp only at q1 q2 q3 q4
        obtain ⟨rfl, rfl⟩ := g1 ⟨p1, q1, q2⟩
        have hrl : (wasL p0 u v').length ≤ 256 := small_len (wasL_row p1.1 u v').strict ((wasL_row p1.1 u v').small p1.1.2.1)
        simp (disch := first | with_reducible assumption | omega) only [push_cast, x_blk, x_cd, ↓reduceIte, Nat.reduceEqDiff, List.map_cons, List.map_nil, Int.reduceEq, Int.lt_irrefl, eq_self, k1.p6]
        refine call_of (keep_tells (Ints.lt (OwnI.ints hO8)) (by omega) (h.up bb8).secret (by omega)) ?_
        rintro v w9 ⟨rfl, s9⟩
        by_cases m1 : x1 < 0
        · simp (disch := first | with_reducible assumption | omega) only [push_cast, x_blk, x_cd, ↓reduceIte, Nat.reduceEqDiff, List.map_cons, List.map_nil, Int.reduceEq, Int.lt_irrefl, decide_eq_true q4, m1]
          exact fin_1 (hQ _ _ ⟨(by simp only [push_cast, ↓reduceIte, Nat.reduceEqDiff, Int.reduceEq]), bb8.trans (s9.below _)⟩)
        · have m2 := q3.resolve_left m1
          simp (disch := first | with_reducible assumption | omega) only [push_cast, x_blk, x_cd, ↓reduceIte, Nat.reduceEqDiff, List.map_cons, List.map_nil, Int.reduceEq, Int.lt_irrefl, decide_eq_true q4, m1, m2]
          exact fin_1 (hQ _ _ ⟨(by simp only [push_cast, ↓reduceIte, Nat.reduceEqDiff, Int.reduceEq]), bb8.trans (s9.below _)⟩)
    have hq : StpQ p0 x1 (l2, l3) := ⟨p2.1, p2.2, hsh, p3⟩
    have hb2 : b2 = true := by
      cases b2 with
      | true => rfl
      | false => exact absurd hq ((stp_none hst).2.2 _)
    have p4 : ¬ ((l2.length : Int) + (l3.length : Int) < (u.length : Int) + (v'.length : Int)) := fun hh => (stp_some (hb2 ▸ hst)).2 _ hq (.inl (by simp only; omega))
    simp (disch := first | with_reducible assumption | omega) only [push_cast, x_blk, x_cd, ↓reduceIte, Nat.reduceEqDiff, List.map_cons, List.map_nil, Int.reduceEq, Int.lt_irrefl, decide_eq_true p3, hb2, p4, k1.pA']
    have h256' := p1.1.2.1
    refine call_of (steps_Was (h.up bb) hf (hT.below bb hT.lt) hU (by omega) hV (by omega)) ?_
    rintro v w8 ⟨O8, c8, o8, e8, rfl, hO8, b8, g1, g2, g3⟩
    replace k1 := k1.below b8 k1.lt
    have bb8 := bb.trans (b8.mono bb.size)
    cases b2 with
    | false =>
      first
      | exact absurd ‹false = true› (by decide)
      | (obtain ⟨rfl, rfl, _⟩ := stp_none hst
         obtain ⟨rfl, rfl⟩ := g1 ⟨p1, fun x hx => absurd hx (by simp), fun x hx => absurd hx (by simp)⟩
         simp (disch := first | with_reducible assumption | omega) only [push_cast, x_blk, x_cd, ↓reduceIte, Nat.reduceEqDiff, List.map_cons, List.map_nil, Int.reduceEq, Int.lt_irrefl, eq_self]
         exact fin_1 (hQ _ _ ⟨(by simp only [push_cast, ↓reduceIte, Nat.reduceEqDiff, Int.reduceEq]), bb8⟩))
    | true =>
      obtain ⟨q1, q2, q3, q4⟩ := (stp_some hst).1
      simp only at q1 q2 q3 q4
      obtain ⟨rfl, rfl⟩ := g1 ⟨p1, q1, q2⟩
      have hrl : (wasL p0 u v').length ≤ 256 := small_len (wasL_row p1.1 u v').strict ((wasL_row p1.1 u v').small p1.1.2.1)
      simp (disch := first | with_reducible assumption | omega) only [push_cast, x_blk, x_cd, ↓reduceIte, Nat.reduceEqDiff, List.map_cons, List.map_nil, Int.reduceEq, Int.lt_irrefl, eq_self, k1.p6]
      refine call_of (keep_tells (Ints.lt (OwnI.ints hO8)) (by omega) (h.up bb8).secret (by omega)) ?_
      rintro v w9 ⟨rfl, s9⟩
      by_cases m1 : x1 < 0
      · simp (disch := first | with_reducible assumption | omega) only [push_cast, x_blk, x_cd, ↓reduceIte, Nat.reduceEqDiff, List.map_cons, List.map_nil, Int.reduceEq, Int.lt_irrefl, decide_eq_true q4, m1]
        exact fin_1 (hQ _ _ ⟨(by simp only [push_cast, ↓reduceIte, Nat.reduceEqDiff, Int.reduceEq]), bb8.trans (s9.below _)⟩)
      · have m2 := q3.resolve_left m1
        simp (disch := first | with_reducible assumption | omega) only [push_cast, x_blk, x_cd, ↓reduceIte, Nat.reduceEqDiff, List.map_cons, List.map_nil, Int.reduceEq, Int.lt_irrefl, decide_eq_true q4, m1, m2]
        exact fin_1 (hQ _ _ ⟨(by simp only [push_cast, ↓reduceIte, Nat.reduceEqDiff, Int.reduceEq]), bb8.trans (s9.below _)⟩)
  by_cases m2 : (l3.length : Int) ≤ x1
  case pos =>
    have hsh : x1 < 0 ∨ (l3.length : Int) ≤ x1 := .inr m2
    by_cases p2 : AllIn l2 p0.seen ∧ AllIn l3 p0.seen
    case neg =>
      obtain ⟨rfl, rfl⟩ := e3 ⟨p1, p2⟩
      simp (disch := first | with_reducible assumption | omega) only [push_cast, x_blk, x_cd, ↓reduceIte, Nat.reduceEqDiff, List.map_cons, List.map_nil, Int.reduceEq, Int.lt_irrefl, m1, m2, k1.pA']
      have h256' := p1.1.2.1
      refine call_of (steps_Was (h.up bb) hf (hT.below bb hT.lt) hU (by omega) hV (by omega)) ?_
      rintro v w8 ⟨O8, c8, o8, e8, rfl, hO8, b8, g1, g2, g3⟩
      replace k1 := k1.below b8 k1.lt
      have bb8 := bb.trans (b8.mono bb.size)
      cases b2 with
      | false =>
        first
        | exact absurd ‹false = true› (by decide)
        | (obtain ⟨rfl, rfl, _⟩ := stp_none hst
           obtain ⟨rfl, rfl⟩ := g1 ⟨p1, fun x hx => absurd hx (by simp), fun x hx => absurd hx (by simp)⟩
           simp (disch := first | with_reducible assumption | omega) only [push_cast, x_blk, x_cd, ↓reduceIte, Nat.reduceEqDiff, List.map_cons, List.map_nil, Int.reduceEq, Int.lt_irrefl, eq_self]
           exact fin_1 (hQ _ _ ⟨(by simp only [push_cast, ↓reduceIte, Nat.reduceEqDiff, Int.reduceEq]), bb8⟩))
      | true =>
        obtain ⟨q1, q2, q3, q4⟩ := (stp_some hst).1
        simp only at q1 q2 q3 q4
        obtain ⟨rfl, rfl⟩ := g1 ⟨p1, q1, q2⟩
        have hrl : (wasL p0 u v').length ≤ 256 := small_len (wasL_row p1.1 u v').strict ((wasL_row p1.1 u v').small p1.1.2.1)
        simp (disch := first | with_reducible assumption | omega) only [push_cast, x_blk, x_cd, ↓reduceIte, Nat.reduceEqDiff, List.map_cons, List.map_nil, Int.reduceEq, Int.lt_irrefl, eq_self, k1.p6]
        refine call_of (keep_tells (Ints.lt (OwnI.ints hO8)) (by omega) (h.up bb8).secret (by omega)) ?_
        rintro v w9 ⟨rfl, s9⟩
        by_cases m1 : x1 < 0
        · simp (disch := first | with_reducible assumption | omega) only [push_cast, x_blk, x_cd, ↓reduceIte, Nat.reduceEqDiff, List.map_cons, List.map_nil, Int.reduceEq, Int.lt_irrefl, decide_eq_true q4, m1]
          exact fin_1 (hQ _ _ ⟨(by simp only [push_cast, ↓reduceIte, Nat.reduceEqDiff, Int.reduceEq]), bb8.trans (s9.below _)⟩)
        · have m2 := q3.resolve_left m1
          simp (disch := first | with_reducible assumption | omega) only [push_cast, x_blk, x_cd, ↓reduceIte, Nat.reduceEqDiff, List.map_cons, List.map_nil, Int.reduceEq, Int.lt_irrefl, decide_eq_true q4, m1, m2]
          exact fin_1 (hQ _ _ ⟨(by simp only [push_cast, ↓reduceIte, Nat.reduceEqDiff, Int.reduceEq]), bb8.trans (s9.below _)⟩)
    obtain ⟨rfl, rfl⟩ := e1 ⟨p1, p2⟩
    have hrl : (wasL p0 l2 l3).length ≤ 256 := small_len (wasL_row p1.1 l2 l3).strict ((wasL_row p1.1 l2 l3).small p1.1.2.1)
    simp (disch := first | with_reducible assumption | omega) only [push_cast, x_blk, x_cd, ↓reduceIte, Nat.reduceEqDiff, List.map_cons, List.map_nil, Int.reduceEq, Int.lt_irrefl, m1, m2, eq_self, k1.p6]
    refine call_of (keep_tells hO (by omega) (h.up bb).secret (by omega)) ?_
    rintro v w5 ⟨rfl, s5⟩
    replace k1 := k1.same s5
    replace hU := hU.up (s5.below _)
    replace hV := hV.up (s5.below _)
    replace bb := bb.trans (s5.below _)
    by_cases p3 : TellsL (onlyL (estL p0 l2) (backsL p0 l3) true) p0.secret
    case neg =>
      simp (disch := first | with_reducible assumption | omega) only [push_cast, x_blk, x_cd, ↓reduceIte, Nat.reduceEqDiff, List.map_cons, List.map_nil, Int.reduceEq, Int.lt_irrefl, decide_eq_false p3, k1.pA']
      have h256' := p1.1.2.1
      refine call_of (steps_Was (h.up bb) hf (hT.below bb hT.lt) hU (by omega) hV (by omega)) ?_
      rintro v w8 ⟨O8, c8, o8, e8, rfl, hO8, b8, g1, g2, g3⟩
      replace k1 := k1.below b8 k1.lt
      have bb8 := bb.trans (b8.mono bb.size)
      cases b2 with
      | false =>
        first
        | exact absurd ‹false = true› (by decide)
        | (obtain ⟨rfl, rfl, _⟩ := stp_none hst
           obtain ⟨rfl, rfl⟩ := g1 ⟨p1, fun x hx => absurd hx (by simp), fun x hx => absurd hx (by simp)⟩
           simp (disch := first | with_reducible assumption | omega) only [push_cast, x_blk, x_cd, ↓reduceIte, Nat.reduceEqDiff, List.map_cons, List.map_nil, Int.reduceEq, Int.lt_irrefl, eq_self]
           exact fin_1 (hQ _ _ ⟨(by simp only [push_cast, ↓reduceIte, Nat.reduceEqDiff, Int.reduceEq]), bb8⟩))
      | true =>
        obtain ⟨q1, q2, q3, q4⟩ := (stp_some hst).1
        simp only at q1 q2 q3 q4
        obtain ⟨rfl, rfl⟩ := g1 ⟨p1, q1, q2⟩
        have hrl : (wasL p0 u v').length ≤ 256 := small_len (wasL_row p1.1 u v').strict ((wasL_row p1.1 u v').small p1.1.2.1)
        simp (disch := first | with_reducible assumption | omega) only [push_cast, x_blk, x_cd, ↓reduceIte, Nat.reduceEqDiff, List.map_cons, List.map_nil, Int.reduceEq, Int.lt_irrefl, eq_self, k1.p6]
        refine call_of (keep_tells (Ints.lt (OwnI.ints hO8)) (by omega) (h.up bb8).secret (by omega)) ?_
        rintro v w9 ⟨rfl, s9⟩
        by_cases m1 : x1 < 0
        · simp (disch := first | with_reducible assumption | omega) only [push_cast, x_blk, x_cd, ↓reduceIte, Nat.reduceEqDiff, List.map_cons, List.map_nil, Int.reduceEq, Int.lt_irrefl, decide_eq_true q4, m1]
          exact fin_1 (hQ _ _ ⟨(by simp only [push_cast, ↓reduceIte, Nat.reduceEqDiff, Int.reduceEq]), bb8.trans (s9.below _)⟩)
        · have m2 := q3.resolve_left m1
          simp (disch := first | with_reducible assumption | omega) only [push_cast, x_blk, x_cd, ↓reduceIte, Nat.reduceEqDiff, List.map_cons, List.map_nil, Int.reduceEq, Int.lt_irrefl, decide_eq_true q4, m1, m2]
          exact fin_1 (hQ _ _ ⟨(by simp only [push_cast, ↓reduceIte, Nat.reduceEqDiff, Int.reduceEq]), bb8.trans (s9.below _)⟩)
    have hq : StpQ p0 x1 (l2, l3) := ⟨p2.1, p2.2, hsh, p3⟩
    have hb2 : b2 = true := by
      cases b2 with
      | true => rfl
      | false => exact absurd hq ((stp_none hst).2.2 _)
    have p4 : ¬ ((l2.length : Int) + (l3.length : Int) < (u.length : Int) + (v'.length : Int)) := fun hh => (stp_some (hb2 ▸ hst)).2 _ hq (.inl (by simp only; omega))
    simp (disch := first | with_reducible assumption | omega) only [push_cast, x_blk, x_cd, ↓reduceIte, Nat.reduceEqDiff, List.map_cons, List.map_nil, Int.reduceEq, Int.lt_irrefl, decide_eq_true p3, hb2, p4, k1.pA']
    have h256' := p1.1.2.1
    refine call_of (steps_Was (h.up bb) hf (hT.below bb hT.lt) hU (by omega) hV (by omega)) ?_
    rintro v w8 ⟨O8, c8, o8, e8, rfl, hO8, b8, g1, g2, g3⟩
    replace k1 := k1.below b8 k1.lt
    have bb8 := bb.trans (b8.mono bb.size)
    cases b2 with
    | false =>
      first
      | exact absurd ‹false = true› (by decide)
      | (obtain ⟨rfl, rfl, _⟩ := stp_none hst
         obtain ⟨rfl, rfl⟩ := g1 ⟨p1, fun x hx => absurd hx (by simp), fun x hx => absurd hx (by simp)⟩
         simp (disch := first | with_reducible assumption | omega) only [push_cast, x_blk, x_cd, ↓reduceIte, Nat.reduceEqDiff, List.map_cons, List.map_nil, Int.reduceEq, Int.lt_irrefl, eq_self]
         exact fin_1 (hQ _ _ ⟨(by simp only [push_cast, ↓reduceIte, Nat.reduceEqDiff, Int.reduceEq]), bb8⟩))
    | true =>
      obtain ⟨q1, q2, q3, q4⟩ := (stp_some hst).1
      simp only at q1 q2 q3 q4
      obtain ⟨rfl, rfl⟩ := g1 ⟨p1, q1, q2⟩
      have hrl : (wasL p0 u v').length ≤ 256 := small_len (wasL_row p1.1 u v').strict ((wasL_row p1.1 u v').small p1.1.2.1)
      simp (disch := first | with_reducible assumption | omega) only [push_cast, x_blk, x_cd, ↓reduceIte, Nat.reduceEqDiff, List.map_cons, List.map_nil, Int.reduceEq, Int.lt_irrefl, eq_self, k1.p6]
      refine call_of (keep_tells (Ints.lt (OwnI.ints hO8)) (by omega) (h.up bb8).secret (by omega)) ?_
      rintro v w9 ⟨rfl, s9⟩
      by_cases m1 : x1 < 0
      · simp (disch := first | with_reducible assumption | omega) only [push_cast, x_blk, x_cd, ↓reduceIte, Nat.reduceEqDiff, List.map_cons, List.map_nil, Int.reduceEq, Int.lt_irrefl, decide_eq_true q4, m1]
        exact fin_1 (hQ _ _ ⟨(by simp only [push_cast, ↓reduceIte, Nat.reduceEqDiff, Int.reduceEq]), bb8.trans (s9.below _)⟩)
      · have m2 := q3.resolve_left m1
        simp (disch := first | with_reducible assumption | omega) only [push_cast, x_blk, x_cd, ↓reduceIte, Nat.reduceEqDiff, List.map_cons, List.map_nil, Int.reduceEq, Int.lt_irrefl, decide_eq_true q4, m1, m2]
        exact fin_1 (hQ _ _ ⟨(by simp only [push_cast, ↓reduceIte, Nat.reduceEqDiff, Int.reduceEq]), bb8.trans (s9.below _)⟩)
  by_cases ee : e = 0
  case neg =>
    simp (disch := first | with_reducible assumption | omega) only [push_cast, x_blk, x_cd, ↓reduceIte, Nat.reduceEqDiff, List.map_cons, List.map_nil, Int.reduceEq, Int.lt_irrefl, m1, m2, ee, k1.pA']
    have h256' := p1.1.2.1
    refine call_of (steps_Was (h.up bb) hf (hT.below bb hT.lt) hU (by omega) hV (by omega)) ?_
    rintro v w8 ⟨O8, c8, o8, e8, rfl, hO8, b8, g1, g2, g3⟩
    replace k1 := k1.below b8 k1.lt
    have bb8 := bb.trans (b8.mono bb.size)
    cases b2 with
    | false =>
      first
      | exact absurd ‹false = true› (by decide)
      | (obtain ⟨rfl, rfl, _⟩ := stp_none hst
         obtain ⟨rfl, rfl⟩ := g1 ⟨p1, fun x hx => absurd hx (by simp), fun x hx => absurd hx (by simp)⟩
         simp (disch := first | with_reducible assumption | omega) only [push_cast, x_blk, x_cd, ↓reduceIte, Nat.reduceEqDiff, List.map_cons, List.map_nil, Int.reduceEq, Int.lt_irrefl, eq_self]
         exact fin_1 (hQ _ _ ⟨(by simp only [push_cast, ↓reduceIte, Nat.reduceEqDiff, Int.reduceEq]), bb8⟩))
    | true =>
      obtain ⟨q1, q2, q3, q4⟩ := (stp_some hst).1
      simp only at q1 q2 q3 q4
      obtain ⟨rfl, rfl⟩ := g1 ⟨p1, q1, q2⟩
      have hrl : (wasL p0 u v').length ≤ 256 := small_len (wasL_row p1.1 u v').strict ((wasL_row p1.1 u v').small p1.1.2.1)
      simp (disch := first | with_reducible assumption | omega) only [push_cast, x_blk, x_cd, ↓reduceIte, Nat.reduceEqDiff, List.map_cons, List.map_nil, Int.reduceEq, Int.lt_irrefl, eq_self, k1.p6]
      refine call_of (keep_tells (Ints.lt (OwnI.ints hO8)) (by omega) (h.up bb8).secret (by omega)) ?_
      rintro v w9 ⟨rfl, s9⟩
      by_cases m1 : x1 < 0
      · simp (disch := first | with_reducible assumption | omega) only [push_cast, x_blk, x_cd, ↓reduceIte, Nat.reduceEqDiff, List.map_cons, List.map_nil, Int.reduceEq, Int.lt_irrefl, decide_eq_true q4, m1]
        exact fin_1 (hQ _ _ ⟨(by simp only [push_cast, ↓reduceIte, Nat.reduceEqDiff, Int.reduceEq]), bb8.trans (s9.below _)⟩)
      · have m2 := q3.resolve_left m1
        simp (disch := first | with_reducible assumption | omega) only [push_cast, x_blk, x_cd, ↓reduceIte, Nat.reduceEqDiff, List.map_cons, List.map_nil, Int.reduceEq, Int.lt_irrefl, decide_eq_true q4, m1, m2]
        exact fin_1 (hQ _ _ ⟨(by simp only [push_cast, ↓reduceIte, Nat.reduceEqDiff, Int.reduceEq]), bb8.trans (s9.below _)⟩)
  simp (disch := first | with_reducible assumption | omega) only [push_cast, x_blk, x_cd, ↓reduceIte, Nat.reduceEqDiff, List.map_cons, List.map_nil, Int.reduceEq, Int.lt_irrefl, m1, m2, ee, eq_self, k1.pA']
  have h256' := p1.1.2.1
  refine call_of (steps_Was (h.up bb) hf (hT.below bb hT.lt) hU (by omega) hV (by omega)) ?_
  rintro v w8 ⟨O8, c8, o8, e8, rfl, hO8, b8, g1, g2, g3⟩
  replace k1 := k1.below b8 k1.lt
  have bb8 := bb.trans (b8.mono bb.size)
  cases b2 with
  | false =>
    first
    | exact absurd ‹false = true› (by decide)
    | (obtain ⟨rfl, rfl, _⟩ := stp_none hst
       obtain ⟨rfl, rfl⟩ := g1 ⟨p1, fun x hx => absurd hx (by simp), fun x hx => absurd hx (by simp)⟩
       simp (disch := first | with_reducible assumption | omega) only [push_cast, x_blk, x_cd, ↓reduceIte, Nat.reduceEqDiff, List.map_cons, List.map_nil, Int.reduceEq, Int.lt_irrefl, eq_self]
       exact fin_1 (hQ _ _ ⟨(by simp only [push_cast, ↓reduceIte, Nat.reduceEqDiff, Int.reduceEq]), bb8⟩))
  | true =>
    obtain ⟨q1, q2, q3, q4⟩ := (stp_some hst).1
    simp only at q1 q2 q3 q4
    obtain ⟨rfl, rfl⟩ := g1 ⟨p1, q1, q2⟩
    have hrl : (wasL p0 u v').length ≤ 256 := small_len (wasL_row p1.1 u v').strict ((wasL_row p1.1 u v').small p1.1.2.1)
    simp (disch := first | with_reducible assumption | omega) only [push_cast, x_blk, x_cd, ↓reduceIte, Nat.reduceEqDiff, List.map_cons, List.map_nil, Int.reduceEq, Int.lt_irrefl, eq_self, k1.p6]
    refine call_of (keep_tells (Ints.lt (OwnI.ints hO8)) (by omega) (h.up bb8).secret (by omega)) ?_
    rintro v w9 ⟨rfl, s9⟩
    by_cases m1 : x1 < 0
    · simp (disch := first | with_reducible assumption | omega) only [push_cast, x_blk, x_cd, ↓reduceIte, Nat.reduceEqDiff, List.map_cons, List.map_nil, Int.reduceEq, Int.lt_irrefl, decide_eq_true q4, m1]
      exact fin_1 (hQ _ _ ⟨(by simp only [push_cast, ↓reduceIte, Nat.reduceEqDiff, Int.reduceEq]), bb8.trans (s9.below _)⟩)
    · have m2 := q3.resolve_left m1
      simp (disch := first | with_reducible assumption | omega) only [push_cast, x_blk, x_cd, ↓reduceIte, Nat.reduceEqDiff, List.map_cons, List.map_nil, Int.reduceEq, Int.lt_irrefl, decide_eq_true q4, m1, m2]
      exact fin_1 (hQ _ _ ⟨(by simp only [push_cast, ↓reduceIte, Nat.reduceEqDiff, Int.reduceEq]), bb8.trans (s9.below _)⟩)
end Go.Proofs.YtcjinmgieiebbaaDoor
