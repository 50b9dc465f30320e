/-
  Chapter 8: the laws LeastTells and LeastFewest: by their contracts.
-/
import Derived.Test.YtcjedgiglimipaaDoorZLea
import Derived.Test.YtcjedgiglimipaaDoorZLawSays
import Derived.Test.YtcjedgiglimipaaDoorZSame
namespace Go.Proofs.YtcjedgiglimipaaDoor
set_option linter.unusedSimpArgs false
set_option linter.unusedVariables false
set_option linter.unusedSectionVars false
open Go.RowKit

abbrev lgM (m : Mach) : Lg := langS m m.starts
theorem lgM_acc {m : Mach} {u : List Int} (hu : ∀ x ∈ u, 0 ≤ x ∧ x < m.events) : lgM m u ↔ AcceptsL m u := ⟨fun h => h.2, fun h => ⟨hu, h⟩⟩
theorem isWord_in {m : Mach} {u : List Int} : IsWord m u ↔ ∀ x ∈ u, 0 ≤ x ∧ x < m.events := ⟨fun h x hx => by
  obtain ⟨i, hi, rfl⟩ := (mem_iff_getD u 0 x).1 hx
  exact h i hi, fun h i hi => h _ (getD_mem u 0 i hi)⟩
theorem lgM_eq {a b : Mach} (he : a.events = b.events) : lgM a = lgM b ↔ ∀ u, IsWord a u → (AcceptsL a u ↔ AcceptsL b u) := by
  constructor
  · intro h u hu
    have hu1 := isWord_in.1 hu
    rw [← lgM_acc hu1, ← lgM_acc (m := b) (by rw [← he]; exact hu1), h]
  · intro h
    funext u
    by_cases hu : ∀ x ∈ u, 0 ≤ x ∧ x < a.events
    · exact propext ((lgM_acc hu).trans ((h u (isWord_in.2 hu)).trans (lgM_acc (m := b) (by rw [← he]; exact hu)).symm))
    · exact propext ⟨fun hh => absurd hh.1 hu, fun hh => absurd (by rw [he]; exact hh.1) hu⟩
theorem without_iff {a b : Mach} (pa : a.May) (pb : b.May) (na : a.states ≤ 6) (nb : b.states ≤ 6) {bo : Bool} {o : List Int} (h : FirstIs (step2 a b) (found2 a b) (evs a.events.toNat) (a.starts, b.starts) bo o) :
    bo = true ↔ ∃ u, IsWord a u ∧ AcceptsL a u ∧ ¬ AcceptsL b u := by
  cases bo with
  | true => exact ⟨fun _ => by
      obtain ⟨_, h1, h2, h3, _⟩ := says_some pa pb na nb h
      exact ⟨o, h1, h2, h3⟩, fun _ => rfl⟩
  | false => exact ⟨(fun e => by cases e), fun ⟨u, h1, h2, h3⟩ => absurd ((says_none pa h).2 u h1 h2) h3⟩
/-- Neither has a word that the other one lacks: the same language. -/
theorem both_iff {a b : Mach} (pa : a.May) (pb : b.May) (na : a.states ≤ 6) (nb : b.states ≤ 6) (he : a.events = b.events) {l r : Bool} {o o' : List Int} (h : FirstIs (step2 a b) (found2 a b) (evs a.events.toNat) (a.starts, b.starts) l o)
    (h' : FirstIs (step2 b a) (found2 b a) (evs b.events.toNat) (b.starts, a.starts) r o') : (l = false ∧ r = false) ↔ lgM a = lgM b := by
  have h1 := without_iff pa pb na nb h
  have h2 := without_iff pb pa nb na h'
  have hw : ∀ u, IsWord a u ↔ IsWord b u := fun u => by rw [isWord_in, isWord_in, he]
  rw [lgM_eq he]
  constructor
  · rintro ⟨rfl, rfl⟩ u hu
    refine ⟨fun hx => Classical.byContradiction fun hy => ?_, fun hx => Classical.byContradiction fun hy => ?_⟩
    · exact absurd (h1.2 ⟨u, hu, hx, hy⟩) (by decide)
    · exact absurd (h2.2 ⟨u, (hw u).1 hu, hx, hy⟩) (by decide)
  · intro hh
    constructor
    · refine Bool.eq_false_iff.2 fun hl => ?_
      obtain ⟨u, k1, k2, k3⟩ := h1.1 hl
      exact k3 ((hh u k1).1 k2)
    · refine Bool.eq_false_iff.2 fun hl => ?_
      obtain ⟨u, k1, k2, k3⟩ := h2.1 hl
      exact k3 ((hh u ((hw u).2 k1)).2 k2)
theorem least_lens {E : Int} {X : Lg} {o : Mach} (h0 : 0 ≤ E) (h8 : E ≤ 8) (h : LeastOf E X o) : o.May ∧ o.starts.length ≤ 17592186043904 ∧ o.ends.length ≤ 17592186043904 ∧ o.arrows.length ≤ 17592186043904 := by
  have hm := (h.isDet h0 h8).1
  have hf := May.fits hm
  have := hm.2.2.2.2.1
  exact ⟨hm, hf.lenS, hf.lenE, by omega⟩
theorem law_LeastFewest {w : World} (hT : Tab w) {a0 : MV} {m0 : Mach} (h : IsM (· < w.heap.size) w a0 m0) (hf : m0.Fits) {a1 : MV} {m1 : Mach} (h' : IsM (· < w.heap.size) w a1 m1) (hf' : m1.Fits) :
    Cal Tryd.prog 8 [a0.val m0, a1.val m1] w fun v w' => v = .bool true ∧ Below w.heap.size w w' := by
  refine cal_law_LeastFewest (by simp) 100000 fun Q hQ => ?_
  simp (disch := first | with_reducible assumption | omega) only [push_cast, x_blk, x_cd, ↓reduceIte, Nat.reduceEqDiff, List.map_cons, List.map_nil, Int.reduceEq, Int.lt_irrefl, F_law_LeastFewest]
  refine blk_of (box_agg _ (a0.cells m0)) ?_
  intro w1 k1 b1 z1
  simp (disch := first | with_reducible assumption | omega) only [push_cast, x_blk, x_cd, ↓reduceIte, Nat.reduceEqDiff, List.map_cons, List.map_nil, Int.reduceEq, Int.lt_irrefl]
  refine blk_of (box_agg _ (a1.cells m1)) ?_
  intro w2 k2 b2 z2
  replace k1 := k1.below b2 k1.lt
  have bb := b1.trans (b2.mono b1.size)
  simp (disch := first | with_reducible assumption | omega) only [push_cast, x_blk, x_cd, ↓reduceIte, Nat.reduceEqDiff, List.map_cons, List.map_nil, Int.reduceEq, Int.lt_irrefl, k1.mA ty_ag_25 ty_sz_25]
  refine call_of (ref2_May (h.up bb) hf) ?_
  rintro v w3 ⟨rfl, b3⟩
  replace k1 := k1.below b3 k1.lt
  replace k2 := k2.below b3 k2.lt
  replace bb := bb.trans (b3.mono bb.size)
  by_cases p1 : m0.May
  case neg =>
    simp (disch := first | with_reducible assumption | omega) only [push_cast, x_blk, x_cd, ↓reduceIte, Nat.reduceEqDiff, List.map_cons, List.map_nil, Int.reduceEq, Int.lt_irrefl, p1]
    exact fin_1 (hQ _ _ ⟨(by simp only [push_cast, ↓reduceIte, Nat.reduceEqDiff, Int.reduceEq]), bb⟩)
  by_cases p4 : (6 : Int) < m0.states
  · simp (disch := first | with_reducible assumption | omega) only [push_cast, x_blk, x_cd, ↓reduceIte, Nat.reduceEqDiff, List.map_cons, List.map_nil, Int.reduceEq, Int.lt_irrefl, p1, p4, k1.m0 ty_ag_3]
    exact fin_1 (hQ _ _ ⟨(by simp only [push_cast, ↓reduceIte, Nat.reduceEqDiff, Int.reduceEq]), bb⟩)
  by_cases p5 : (6 : Int) < m1.states
  · simp (disch := first | with_reducible assumption | omega) only [push_cast, x_blk, x_cd, ↓reduceIte, Nat.reduceEqDiff, List.map_cons, List.map_nil, Int.reduceEq, Int.lt_irrefl, p1, p4, p5, k1.m0 ty_ag_3, k2.m0 ty_ag_3]
    exact fin_1 (hQ _ _ ⟨(by simp only [push_cast, ↓reduceIte, Nat.reduceEqDiff, Int.reduceEq]), bb⟩)
  by_cases p3 : m1.events = m0.events
  case neg =>
    simp (disch := first | with_reducible assumption | omega) only [push_cast, x_blk, x_cd, ↓reduceIte, Nat.reduceEqDiff, List.map_cons, List.map_nil, Int.reduceEq, Int.lt_irrefl, p1, p4, p5, p3, k1.m0 ty_ag_3, k2.m0 ty_ag_3, k1.m1 ty_ag_3, k2.m1 ty_ag_3]
    exact fin_1 (hQ _ _ ⟨(by simp only [push_cast, ↓reduceIte, Nat.reduceEqDiff, Int.reduceEq]), bb⟩)
  have n0 : m0.states ≤ 6 := by omega
  have n1 : m1.states ≤ 6 := by omega
  simp (disch := first | with_reducible assumption | omega) only [push_cast, x_blk, x_cd, ↓reduceIte, Nat.reduceEqDiff, List.map_cons, List.map_nil, Int.reduceEq, Int.lt_irrefl, p1, p4, p5, p3, k1.m0 ty_ag_3, k2.m0 ty_ag_3, k1.m1 ty_ag_3, k2.m1 ty_ag_3, k2.mA ty_ag_25 ty_sz_25]
  refine call_of (ref6_Is (h'.up bb) hf') ?_
  rintro v w4 ⟨rfl, b4⟩
  replace k1 := k1.below b4 k1.lt
  replace k2 := k2.below b4 k2.lt
  replace bb := bb.trans (b4.mono bb.size)
  by_cases p2 : IsDet m1
  case neg =>
    simp (disch := first | with_reducible assumption | omega) only [push_cast, x_blk, x_cd, ↓reduceIte, Nat.reduceEqDiff, List.map_cons, List.map_nil, Int.reduceEq, Int.lt_irrefl, decide_eq_false p2]
    exact fin_1 (hQ _ _ ⟨(by simp only [push_cast, ↓reduceIte, Nat.reduceEqDiff, Int.reduceEq]), bb⟩)
  have p2m := p2.1
  simp (disch := first | with_reducible assumption | omega) only [push_cast, x_blk, x_cd, ↓reduceIte, Nat.reduceEqDiff, List.map_cons, List.map_nil, Int.reduceEq, Int.lt_irrefl, decide_eq_true p2, k1.mA ty_ag_25 ty_sz_25]
  refine call_of (least_Least (h.up bb) hf (hT.below bb hT.lt)) ?_
  rintro v w5 ⟨d, dm, e, rfl, hd, b5, or1⟩
  have L1 : LeastOf m0.events (lgM m0) dm ∧ e = 0 := by
    rcases or1 with ⟨q, _⟩ | ⟨q, _⟩ | ⟨_, q⟩
    · exact absurd p1 q
    · exact absurd q.2 (by omega)
    · exact q
  obtain ⟨L1, rfl⟩ := L1
  replace k1 := k1.below b5 k1.lt
  replace k2 := k2.below b5 k2.lt
  replace bb := bb.trans (b5.mono bb.size)
  simp (disch := first | with_reducible assumption | omega) only [push_cast, x_blk, x_cd, ↓reduceIte, Nat.reduceEqDiff, List.map_cons, List.map_nil, Int.reduceEq, Int.lt_irrefl]
  refine blk_of (cs := mv0.cells mach0) al_25 ?_
  intro w6 k6 b6 z6
  simp (disch := first | with_reducible assumption | omega) only [push_cast, x_blk, x_cd, ↓reduceIte, Nat.reduceEqDiff, List.map_cons, List.map_nil, Int.reduceEq, Int.lt_irrefl]
  refine sto_mach k6 rfl d dm ?_
  intro w7 k7 g7 z7
  have b7 := g7.below b6 b6.size (by intro a ha; injection ha with ha; subst ha; exact Nat.le_refl _)
  replace hd := hd.up b7
  replace k1 := k1.below b7 k1.lt
  replace k2 := k2.below b7 k2.lt
  replace bb := bb.trans (b7.mono bb.size)
  have e0 : 0 ≤ m0.events := by have := p1.2.2.1; omega
  have e8 : m0.events ≤ 8 := p1.2.2.2.1
  obtain ⟨pd, l1, l2, l3⟩ := least_lens e0 e8 L1
  have hdet := L1.isDet e0 e8
  simp (disch := first | with_reducible assumption | omega) only [push_cast, x_blk, x_cd, ↓reduceIte, Nat.reduceEqDiff, List.map_cons, List.map_nil, Int.reduceEq, Int.lt_irrefl, eq_self, k7.mA ty_ag_25 ty_sz_25]
  refine call_of (ref6_Is hd (May.fits pd)) ?_
  rintro v w8 ⟨rfl, b8⟩
  replace k1 := k1.below b8 k1.lt
  replace k2 := k2.below b8 k2.lt
  replace k7 := k7.below b8 k7.lt
  replace bb := bb.trans (b8.mono bb.size)
  simp (disch := first | with_reducible assumption | omega) only [push_cast, x_blk, x_cd, ↓reduceIte, Nat.reduceEqDiff, List.map_cons, List.map_nil, Int.reduceEq, Int.lt_irrefl, decide_eq_true hdet, k1.mA ty_ag_25 ty_sz_25, k2.mA ty_ag_25 ty_sz_25]
  refine call_of (ref7_Without (h.up bb) (h'.up bb) hf hf' p1 p2m n0 n1) ?_
  rintro v w11 ⟨O, co, o, less, rfl, _, b11, _, F1⟩
  replace k1 := k1.below b11 k1.lt
  replace k2 := k2.below b11 k2.lt
  replace k7 := k7.below b11 k7.lt
  replace bb := bb.trans (b11.mono bb.size)
  simp (disch := first | with_reducible assumption | omega) only [push_cast, x_blk, x_cd, ↓reduceIte, Nat.reduceEqDiff, List.map_cons, List.map_nil, Int.reduceEq, Int.lt_irrefl, k1.mA ty_ag_25 ty_sz_25, k2.mA ty_ag_25 ty_sz_25]
  refine call_of (ref7_Without (h'.up bb) (h.up bb) hf' hf p2m p1 n1 n0) ?_
  rintro v w12 ⟨O', co', o', more, rfl, _, b12, _, F2⟩
  replace k2 := k2.below b12 k2.lt
  replace k7 := k7.below b12 k7.lt
  replace bb := bb.trans (b12.mono bb.size)
  have key := both_iff p1 p2m n0 n1 p3.symm F1 F2
  cases less
  case true =>
    simp (disch := first | with_reducible assumption | omega) only [push_cast, x_blk, x_cd, ↓reduceIte, Nat.reduceEqDiff, List.map_cons, List.map_nil, Int.reduceEq, Int.lt_irrefl]
    exact fin_1 (hQ _ _ ⟨(by simp only [push_cast, ↓reduceIte, Nat.reduceEqDiff, Int.reduceEq]), bb⟩)
  cases more
  case true =>
    simp (disch := first | with_reducible assumption | omega) only [push_cast, x_blk, x_cd, ↓reduceIte, Nat.reduceEqDiff, List.map_cons, List.map_nil, Int.reduceEq, Int.lt_irrefl]
    exact fin_1 (hQ _ _ ⟨(by simp only [push_cast, ↓reduceIte, Nat.reduceEqDiff, Int.reduceEq]), bb⟩)
  have hle := L1.fewest (det_iff.1 p2) p3 (key.1 ⟨rfl, rfl⟩)
  simp (disch := first | with_reducible assumption | omega) only [push_cast, x_blk, x_cd, ↓reduceIte, Nat.reduceEqDiff, List.map_cons, List.map_nil, Int.reduceEq, Int.lt_irrefl, k7.m0 ty_ag_3, k2.m0 ty_ag_3, eq_true hle]
  exact fin_1 (hQ _ _ ⟨(by simp only [push_cast, ↓reduceIte, Nat.reduceEqDiff, Int.reduceEq]), bb⟩)
end Go.Proofs.YtcjedgiglimipaaDoor
