/-
  The laws InitialKeeps, InitialTells: they return true.
-/
import Derived.Test.YtcjinmgieiebbaaDoorBeg
import Derived.Test.YtcjinmgieiebbaaDoorCurD
namespace Go.Proofs.YtcjinmgieiebbaaDoor
set_option linter.unusedSimpArgs false
set_option linter.unusedVariables false
set_option linter.unusedSectionVars false
open Go.RowKit

/-! ## InitialKeeps -/
noncomputable abbrev begL (p : Plt) (u : List Int) : List Int := onlyL (backsL p u) p.m.starts true
theorem begL_row {p : Plt} (h : p.m.May) (u : List Int) : IsRow (begL p u) p.m.states := IsRow.of_strict (only_strict (backsL_UB h u).1.strict) fun x hx => by
  have := (backsL_UB h u).1.mem (mem_onlyT.1 hx).1
  omega
theorem lay_all {p : Plt} (p1 : p.May) {n : Nat} (hn : (layP p n).2 = []) {u : List Int} (hu : AllIn u p.seen) : ∃ q ∈ (layP p n).1, q.1 = backsL p u ∧ Shle q.2 u := by
  obtain ⟨q, hq, h1, h2⟩ := lays_all (step := backP p) (es := p.seen) (U := UB p) (fun s _ e _ => UB.back p1.1 s e) (UB.all p1.1) u hu
  refine ⟨q, ?_, h1, h2⟩
  rcases Nat.le_total u.length n with c | c
  · exact (lays_mono c).subset hq
  · rw [lays_stop hn _ c] at hq; exact hq
theorem lay_run {p : Plt} (p1 : p.May) {n : Nat} {q : List Int × List Int} (hq : q ∈ (layP p n).1) : q.1 = backsL p q.2 ∧ AllIn q.2 p.seen := by
  have := (lays_good (step := backP p) (es := p.seen) (U := UB p) (fun s _ e _ => UB.back p1.1 s e) (UB.all p1.1) n).run q hq
  exact ⟨this.1, this.2.1⟩
theorem ini_none {p : Plt} {o : List Int} {e : Int} (p1 : p.May) (h : IniIs p false o e) : o = [] ∧ ∀ u, AllIn u p.seen → ¬ TellsL (begL p u) p.secret := by
  rcases h with ⟨hn, _⟩ | ⟨_, _, n, hn, ho⟩
  · exact absurd p1 hn
  · rcases bestF_spec (tellsB p.secret p.m.starts) (layP p n).1 with ⟨hb, hno⟩ | ⟨x, hx, ht, hb, _⟩
    · rw [hb] at ho
      refine ⟨ho.2, fun u hu ht => ?_⟩
      obtain ⟨q, hq, h1, _⟩ := lay_all p1 hn hu
      have := hno q hq
      unfold tellsB at this
      rw [h1] at this
      exact absurd ht (of_decide_eq_false this)
    · rw [hb] at ho
      exact absurd ho.1 (by decide)
theorem ini_some {p : Plt} {o : List Int} {e : Int} (p1 : p.May) (h : IniIs p true o e) : AllIn o p.seen ∧ TellsL (begL p o) p.secret ∧ ∀ u, AllIn u p.seen → TellsL (begL p u) p.secret → ¬ Shl u o := by
  rcases h with ⟨hn, _⟩ | ⟨_, _, n, hn, ho⟩
  · exact absurd p1 hn
  · rcases bestF_spec (tellsB p.secret p.m.starts) (layP p n).1 with ⟨hb, hno⟩ | ⟨x, hx, ht, hb, hmin⟩
    · rw [hb] at ho
      exact absurd ho.1 (by decide)
    · rw [hb] at ho
      obtain rfl : o = x.2 := ho.2
      obtain ⟨r1, r2⟩ := lay_run p1 hx
      unfold tellsB at ht
      rw [r1] at ht
      refine ⟨r2, of_decide_eq_true ht, fun u hu htu => ?_⟩
      obtain ⟨q, hq, hqs, hle⟩ := lay_all p1 hn hu
      have := hmin q hq (by unfold tellsB; rw [hqs]; exact decide_eq_true htu)
      exact (this.trans hle).not
theorem law_InitialKeeps {w : World} (hT : Tab w) {a0 : PV} {p0 : Plt} (h : IsP (· < w.heap.size) w a0 p0) (hf : p0.Fits) (hc : a0.Caps p0)
    {A1 : Option Addr} {c1 : Nat} {l1 : List Int} (h1 : Ints (· < w.heap.size) w A1 l1) (_b1 : ∀ x ∈ l1, I64 x) (n1 : l1.length ≤ 17592186043904) (_k1 : l1.length ≤ c1) :
    Cal Tryd.prog 8 [a0.val p0, .slice A1 l1.length c1] w fun v w' => v = .bool true ∧ Below w.heap.size w w' := by
  have nQ := hf.lenQ
  refine cal_keep_InitialKeeps (by simp) 100000 fun Q hQ => ?_
  simp (disch := first | with_reducible assumption | omega) only [push_cast, x_blk, x_cd, ↓reduceIte, Nat.reduceEqDiff, List.map_cons, List.map_nil, Int.reduceEq, Int.lt_irrefl, F_keep_InitialKeeps]
  refine blk_of (box_agg _ (a0.cells p0)) ?_
  intro w1 k1 b1 z1
  simp (disch := first | with_reducible assumption | omega) only [push_cast, x_blk, x_cd, ↓reduceIte, Nat.reduceEqDiff, List.map_cons, List.map_nil, Int.reduceEq, Int.lt_irrefl, k1.pA']
  refine call_of (initial_Leak (h.up b1) hf) ?_
  rintro v w2 ⟨b2, O2, co2, o2, e', rfl, hO2, ho2, b4, hlk⟩
  replace k1 := k1.below b4 k1.lt
  replace hO2 : Ints (· < w2.heap.size) w2 O2 o2 := hO2.mono fun b hb => hb.2
  have bb := b1.trans (b4.mono b1.size)
  by_cases p1 : p0.May
  case neg =>
    rcases hlk with ⟨_, rfl, rfl, rfl⟩ | ⟨hh, _⟩
    case inr => exact absurd hh p1
    simp (disch := first | with_reducible assumption | omega) only [push_cast, x_blk, x_cd, ↓reduceIte, Nat.reduceEqDiff, List.map_cons, List.map_nil, Int.reduceEq, Int.lt_irrefl, eq_self, List.length_nil, k1.pA']
    refine call_of (current_May (h.up bb) hf) ?_
    rintro v w3 ⟨rfl, b3⟩
    simp (disch := first | with_reducible assumption | omega) only [push_cast, x_blk, x_cd, ↓reduceIte, Nat.reduceEqDiff, List.map_cons, List.map_nil, Int.reduceEq, Int.lt_irrefl, decide_eq_false p1]
    exact fin_1 (hQ _ _ ⟨(by simp only [push_cast, ↓reduceIte, Nat.reduceEqDiff, Int.reduceEq]), bb.trans (b3.mono bb.size)⟩)
  have he' : e' = 0 := by
    rcases hlk with ⟨hh, _⟩ | ⟨_, hh, _⟩
    · exact absurd p1 hh
    · exact hh
  subst he'
  simp (disch := first | with_reducible assumption | omega) only [push_cast, x_blk, x_cd, ↓reduceIte, Nat.reduceEqDiff, List.map_cons, List.map_nil, Int.reduceEq, Int.lt_irrefl, eq_self, k1.pA']
  refine call_of (current_May (h.up bb) hf) ?_
  rintro v w3 ⟨rfl, b3⟩
  replace k1 := k1.below b3 k1.lt
  replace hO2 := hO2.up b3
  replace bb := bb.trans (b3.mono bb.size)
  simp (disch := first | with_reducible assumption | omega) only [push_cast, x_blk, x_cd, ↓reduceIte, Nat.reduceEqDiff, List.map_cons, List.map_nil, Int.reduceEq, Int.lt_irrefl, decide_eq_true p1, k1.pA']
  refine call_of (initial_Began (h.up bb) hf hc.m.s (hT.below bb hT.lt) (h1.up bb) n1) ?_
  rintro v w4 ⟨O, co, o, e, rfl, hO, b5, e1, e2, e3⟩
  replace k1 := k1.below b5 k1.lt
  replace hO2 := hO2.up b5
  replace bb := bb.trans (b5.mono bb.size)
  replace hO : Ints (· < w4.heap.size) w4 O o := Ints.lt (OwnI.ints hO)
  by_cases p2 : AllIn l1 p0.seen
  case neg =>
    obtain ⟨rfl, rfl⟩ := e3 ⟨p1, p2⟩
    simp (disch := first | with_reducible assumption | omega) only [push_cast, x_blk, x_cd, ↓reduceIte, Nat.reduceEqDiff, List.map_cons, List.map_nil, Int.reduceEq, Int.lt_irrefl, k1.pA']
    have h256' := p1.1.2.1
    refine call_of (initial_Began (h.up bb) hf hc.m.s (hT.below bb hT.lt) hO2 (by omega)) ?_
    rintro v w8 ⟨O8, c8, o8, e8, rfl, hO8, b8, g1, g2, g3⟩
    replace k1 := k1.below b8 k1.lt
    have bb8 := bb.trans (b8.mono bb.size)
    cases b2 with
    | false =>
      first
      | exact absurd ‹false = true› (by decide)
      | (obtain ⟨rfl, _⟩ := ini_none p1 hlk
         obtain ⟨rfl, rfl⟩ := g1 ⟨p1, fun x hx => absurd hx (by simp)⟩
         simp (disch := first | with_reducible assumption | omega) only [push_cast, x_blk, x_cd, ↓reduceIte, Nat.reduceEqDiff, List.map_cons, List.map_nil, Int.reduceEq, Int.lt_irrefl, eq_self]
         exact fin_1 (hQ _ _ ⟨(by simp only [push_cast, ↓reduceIte, Nat.reduceEqDiff, Int.reduceEq]), bb8⟩))
    | true =>
      obtain ⟨q1, q2, _⟩ := ini_some p1 hlk
      obtain ⟨rfl, rfl⟩ := g1 ⟨p1, q1⟩
      have hrl : (onlyL (backsL p0 o2) p0.m.starts true).length ≤ 256 := small_len (begL_row p1.1 o2).strict ((begL_row p1.1 o2).small p1.1.2.1)
      simp (disch := first | with_reducible assumption | omega) only [push_cast, x_blk, x_cd, ↓reduceIte, Nat.reduceEqDiff, List.map_cons, List.map_nil, Int.reduceEq, Int.lt_irrefl, eq_self, k1.p6]
      refine call_of (keep_tells (Ints.lt (OwnI.ints hO8)) (by omega) (h.up bb8).secret (by omega)) ?_
      rintro v w9 ⟨rfl, s9⟩
      simp (disch := first | with_reducible assumption | omega) only [push_cast, x_blk, x_cd, ↓reduceIte, Nat.reduceEqDiff, List.map_cons, List.map_nil, Int.reduceEq, Int.lt_irrefl, decide_eq_true q2]
      exact fin_1 (hQ _ _ ⟨(by simp only [push_cast, ↓reduceIte, Nat.reduceEqDiff, Int.reduceEq]), bb8.trans (s9.below _)⟩)
  obtain ⟨rfl, rfl⟩ := e1 ⟨p1, p2⟩
  have hrl : (onlyL (backsL p0 l1) p0.m.starts true).length ≤ 256 := small_len (begL_row p1.1 l1).strict ((begL_row p1.1 l1).small p1.1.2.1)
  have h256 := p1.1.2.1
  simp (disch := first | with_reducible assumption | omega) only [push_cast, x_blk, x_cd, ↓reduceIte, Nat.reduceEqDiff, List.map_cons, List.map_nil, Int.reduceEq, Int.lt_irrefl, eq_self, k1.p6]
  refine call_of (keep_tells hO (by omega) (h.up bb).secret (by omega)) ?_
  rintro v w5 ⟨rfl, s5⟩
  replace k1 := k1.same s5
  replace hO2 := hO2.up (s5.below _)
  replace bb := bb.trans (s5.below _)
  by_cases p3 : TellsL (begL p0 l1) p0.secret
  case neg =>
    simp (disch := first | with_reducible assumption | omega) only [push_cast, x_blk, x_cd, ↓reduceIte, Nat.reduceEqDiff, List.map_cons, List.map_nil, Int.reduceEq, Int.lt_irrefl, decide_eq_false p3, k1.pA']
    have h256' := p1.1.2.1
    refine call_of (initial_Began (h.up bb) hf hc.m.s (hT.below bb hT.lt) hO2 (by omega)) ?_
    rintro v w8 ⟨O8, c8, o8, e8, rfl, hO8, b8, g1, g2, g3⟩
    replace k1 := k1.below b8 k1.lt
    have bb8 := bb.trans (b8.mono bb.size)
    cases b2 with
    | false =>
      first
      | exact absurd ‹false = true› (by decide)
      | (obtain ⟨rfl, _⟩ := ini_none p1 hlk
         obtain ⟨rfl, rfl⟩ := g1 ⟨p1, fun x hx => absurd hx (by simp)⟩
         simp (disch := first | with_reducible assumption | omega) only [push_cast, x_blk, x_cd, ↓reduceIte, Nat.reduceEqDiff, List.map_cons, List.map_nil, Int.reduceEq, Int.lt_irrefl, eq_self]
         exact fin_1 (hQ _ _ ⟨(by simp only [push_cast, ↓reduceIte, Nat.reduceEqDiff, Int.reduceEq]), bb8⟩))
    | true =>
      obtain ⟨q1, q2, _⟩ := ini_some p1 hlk
      obtain ⟨rfl, rfl⟩ := g1 ⟨p1, q1⟩
      have hrl : (onlyL (backsL p0 o2) p0.m.starts true).length ≤ 256 := small_len (begL_row p1.1 o2).strict ((begL_row p1.1 o2).small p1.1.2.1)
      simp (disch := first | with_reducible assumption | omega) only [push_cast, x_blk, x_cd, ↓reduceIte, Nat.reduceEqDiff, List.map_cons, List.map_nil, Int.reduceEq, Int.lt_irrefl, eq_self, k1.p6]
      refine call_of (keep_tells (Ints.lt (OwnI.ints hO8)) (by omega) (h.up bb8).secret (by omega)) ?_
      rintro v w9 ⟨rfl, s9⟩
      simp (disch := first | with_reducible assumption | omega) only [push_cast, x_blk, x_cd, ↓reduceIte, Nat.reduceEqDiff, List.map_cons, List.map_nil, Int.reduceEq, Int.lt_irrefl, decide_eq_true q2]
      exact fin_1 (hQ _ _ ⟨(by simp only [push_cast, ↓reduceIte, Nat.reduceEqDiff, Int.reduceEq]), bb8.trans (s9.below _)⟩)
  have hb2 : b2 = true := by
    cases b2 with
    | true => rfl
    | false => exact absurd p3 ((ini_none p1 hlk).2 l1 p2)
  have p4 := (ini_some p1 (hb2 ▸ hlk)).2.2 l1 p2 p3
  simp (disch := first | with_reducible assumption | omega) only [push_cast, x_blk, x_cd, ↓reduceIte, Nat.reduceEqDiff, List.map_cons, List.map_nil, Int.reduceEq, Int.lt_irrefl, decide_eq_true p3, hb2]
  refine call_of (keep_lesser (h1.up bb) hO2 c1 co2 (by omega)) ?_
  rintro v w6 ⟨rfl, s6⟩
  replace k1 := k1.same s6
  replace hO2 := hO2.up (s6.below _)
  replace bb := bb.trans (s6.below _)
  simp (disch := first | with_reducible assumption | omega) only [push_cast, x_blk, x_cd, ↓reduceIte, Nat.reduceEqDiff, List.map_cons, List.map_nil, Int.reduceEq, Int.lt_irrefl, decide_eq_false p4, k1.pA']
  have h256' := p1.1.2.1
  refine call_of (initial_Began (h.up bb) hf hc.m.s (hT.below bb hT.lt) hO2 (by omega)) ?_
  rintro v w8 ⟨O8, c8, o8, e8, rfl, hO8, b8, g1, g2, g3⟩
  replace k1 := k1.below b8 k1.lt
  have bb8 := bb.trans (b8.mono bb.size)
  cases b2 with
  | false =>
    first
    | exact absurd ‹false = true› (by decide)
    | (obtain ⟨rfl, _⟩ := ini_none p1 hlk
       obtain ⟨rfl, rfl⟩ := g1 ⟨p1, fun x hx => absurd hx (by simp)⟩
       simp (disch := first | with_reducible assumption | omega) only [push_cast, x_blk, x_cd, ↓reduceIte, Nat.reduceEqDiff, List.map_cons, List.map_nil, Int.reduceEq, Int.lt_irrefl, eq_self]
       exact fin_1 (hQ _ _ ⟨(by simp only [push_cast, ↓reduceIte, Nat.reduceEqDiff, Int.reduceEq]), bb8⟩))
  | true =>
    obtain ⟨q1, q2, _⟩ := ini_some p1 hlk
    obtain ⟨rfl, rfl⟩ := g1 ⟨p1, q1⟩
    have hrl : (onlyL (backsL p0 o2) p0.m.starts true).length ≤ 256 := small_len (begL_row p1.1 o2).strict ((begL_row p1.1 o2).small p1.1.2.1)
    simp (disch := first | with_reducible assumption | omega) only [push_cast, x_blk, x_cd, ↓reduceIte, Nat.reduceEqDiff, List.map_cons, List.map_nil, Int.reduceEq, Int.lt_irrefl, eq_self, k1.p6]
    refine call_of (keep_tells (Ints.lt (OwnI.ints hO8)) (by omega) (h.up bb8).secret (by omega)) ?_
    rintro v w9 ⟨rfl, s9⟩
    simp (disch := first | with_reducible assumption | omega) only [push_cast, x_blk, x_cd, ↓reduceIte, Nat.reduceEqDiff, List.map_cons, List.map_nil, Int.reduceEq, Int.lt_irrefl, decide_eq_true q2]
    exact fin_1 (hQ _ _ ⟨(by simp only [push_cast, ↓reduceIte, Nat.reduceEqDiff, Int.reduceEq]), bb8.trans (s9.below _)⟩)

end Go.Proofs.YtcjinmgieiebbaaDoor
