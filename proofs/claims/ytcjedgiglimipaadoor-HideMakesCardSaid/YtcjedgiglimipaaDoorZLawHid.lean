/-
  Chapter 5: the laws HideMakes and HideSees: by their contracts.
-/
import Derived.Test.YtcjedgiglimipaaDoorZHideH
import Derived.Test.YtcjedgiglimipaaDoorZCtlA
namespace Go.Proofs.YtcjedgiglimipaaDoor
set_option linter.unusedSimpArgs false
set_option linter.unusedVariables false
set_option linter.unusedSectionVars false
open Go.RowKit

abbrev HideOr (m : Mach) (seen : List Int) (d : MV) (dm : Mach) (e : Int) : Prop :=
  (¬ (m.May ∧ IsRow seen m.events) ∧ dm = mach0 ∧ d = mv0 ∧ e = 2) ∨ ((m.May ∧ IsRow seen m.events) ∧ (hideA m seen m.states.toNat).length ≤ 4096 ∧ dm = hideM m seen ∧ e = 0) ∨
      ((m.May ∧ IsRow seen m.events) ∧ 4096 < (hideA m seen m.states.toNat).length ∧ dm = mach0 ∧ d = mv0 ∧ e = 1)
theorem hide_unique {m : Mach} {seen : List Int} {d d' : MV} {dm dm' : Mach} {e e' : Int} (h : HideOr m seen d dm e) (h' : HideOr m seen d' dm' e') : dm = dm' ∧ e = e' := by
  rcases h with ⟨h1, rfl, _, rfl⟩ | ⟨h1, h2, rfl, rfl⟩ | ⟨h1, h2, rfl, _, rfl⟩ <;> rcases h' with ⟨k1, rfl, _, rfl⟩ | ⟨k1, k2, rfl, rfl⟩ | ⟨k1, k2, rfl, _, rfl⟩
  all_goals first | exact ⟨rfl, rfl⟩ | exact absurd h1 k1 | exact absurd k1 h1 | (exfalso; omega)
theorem hide_lens {m : Mach} (hf : m.Fits) {seen : List Int} {d : MV} {dm : Mach} {e : Int} (h : HideOr m seen d dm e) : dm.starts.length ≤ 17592186043904 ∧ dm.ends.length ≤ 17592186043904 ∧ dm.arrows.length ≤ 17592186043904 := by
  rcases h with ⟨_, rfl, _, _⟩ | ⟨_, h2, rfl, _⟩ | ⟨_, _, rfl, _, _⟩
  · decide
  · have h1 : (wideL m seen m.starts).length ≤ 256 := small_len (wideL_strict _ _ _) (wideL_small _ _ _)
    have := hf.lenE
    exact ⟨by show (wideL m seen m.starts).length ≤ _; omega, by show m.ends.length ≤ _; omega, by show (hideA m seen m.states.toNat).length ≤ _; omega⟩
  · decide
theorem law_HideMakes {w : World} (hT : Tab w) {a0 : MV} {m0 : Mach} (h : IsM (· < w.heap.size) w a0 m0) (hf : m0.Fits)
    {A1 : Option Addr} {c1 : Nat} {l1 : List Int} (h1 : Ints (· < w.heap.size) w A1 l1) (_b1 : ∀ x ∈ l1, I64 x) (n1 : l1.length ≤ 17592186043904) (_k1 : l1.length ≤ c1)
    {A2 : Option Addr} {c2 : Nat} {l2 : List Int} (h2 : Ints (· < w.heap.size) w A2 l2) (_b2 : ∀ x ∈ l2, I64 x) (n2 : l2.length ≤ 17592186043904) (_k2 : l2.length ≤ c2) :
    Cal Tryd.prog 3 [a0.val m0, .slice A1 l1.length c1, .slice A2 l2.length c2] w fun v w' => v = .bool true ∧ Below w.heap.size w w' := by
  refine cal_law_HideMakes (by simp) 100000 fun Q hQ => ?_
  simp (disch := first | with_reducible assumption | omega) only [push_cast, x_blk, x_cd, ↓reduceIte, Nat.reduceEqDiff, List.map_cons, List.map_nil, Int.reduceEq, Int.lt_irrefl, F_law_HideMakes]
  refine blk_of (box_agg _ (a0.cells m0)) ?_
  intro w1 k1 b1 z1
  have bb := b1
  simp (disch := first | with_reducible assumption | omega) only [push_cast, x_blk, x_cd, ↓reduceIte, Nat.reduceEqDiff, List.map_cons, List.map_nil, Int.reduceEq, Int.lt_irrefl]
  refine call_of (hide_Seen (h2.up bb) c2 (h1.up bb) c1 n2 (by omega)) ?_
  rintro v w2 ⟨O, co, rfl, o2, b2⟩
  replace k1 := k1.below b2 k1.lt
  replace bb := bb.trans (b2.mono bb.size)
  have i2 := (OwnI.ints o2).lt
  simp (disch := first | with_reducible assumption | omega) only [push_cast, x_blk, x_cd, ↓reduceIte, Nat.reduceEqDiff, List.map_cons, List.map_nil, Int.reduceEq, Int.lt_irrefl]
  refine call_of (ref5_Seen' (h2.up bb) c2 (h1.up bb) c1 n2 (by omega)) ?_
  rintro v w3 ⟨O', co', rfl, o3, b3⟩
  replace k1 := k1.below b3 k1.lt
  replace bb := bb.trans (b3.mono bb.size)
  replace i2 := i2.up b3
  have i3 := (OwnI.ints o3).lt
  have nO : (onlyL l2 l1 true).length ≤ 17592186043904 := by
    unfold onlyL
    have := List.length_filter_le (fun x => decide (x ∈ l1) == true) l2
    omega
  simp (disch := first | with_reducible assumption | omega) only [push_cast, x_blk, x_cd, ↓reduceIte, Nat.reduceEqDiff, List.map_cons, List.map_nil, Int.reduceEq, Int.lt_irrefl]
  refine call_of (ref1_Same i2 i3 co co' (by omega)) ?_
  rintro v w4 ⟨rfl, s4⟩
  rw [decide_eq_true rfl]
  replace k1 := k1.same s4
  replace bb := bb.trans (s4.below _)
  simp (disch := first | with_reducible assumption | omega) only [push_cast, x_blk, x_cd, ↓reduceIte, Nat.reduceEqDiff, List.map_cons, List.map_nil, Int.reduceEq, Int.lt_irrefl, k1.mA ty_ag_25 ty_sz_25]
  refine call_of (law_great a0 m0 w4) ?_
  rintro v w5 ⟨rfl, b5⟩
  replace k1 := k1.below b5 k1.lt
  replace bb := bb.trans (b5.mono bb.size)
  by_cases hg : m0.Great
  · simp (disch := first | with_reducible assumption | omega) only [push_cast, x_blk, x_cd, ↓reduceIte, Nat.reduceEqDiff, List.map_cons, List.map_nil, Int.reduceEq, Int.lt_irrefl, decide_eq_true hg]
    exact fin_1 (hQ _ _ ⟨by rfl, bb⟩)
  simp (disch := first | with_reducible assumption | omega) only [push_cast, x_blk, x_cd, ↓reduceIte, Nat.reduceEqDiff, List.map_cons, List.map_nil, Int.reduceEq, Int.lt_irrefl, decide_eq_false hg, k1.mA ty_ag_25 ty_sz_25]
  refine call_of (hide_Hide (h.up bb) hf (h1.up bb) n1 (hT.below bb hT.lt)) ?_
  rintro v w6 ⟨d, dm, e, rfl, hd, b6, or1⟩
  replace k1 := k1.below b6 k1.lt
  replace bb := bb.trans (b6.mono bb.size)
  simp (disch := first | with_reducible assumption | omega) only [push_cast, x_blk, x_cd, ↓reduceIte, Nat.reduceEqDiff, List.map_cons, List.map_nil, Int.reduceEq, Int.lt_irrefl]
  refine blk_of (cs := mv0.cells mach0) al_25 ?_
  intro w7 k7 b7 z7
  simp (disch := first | with_reducible assumption | omega) only [push_cast, x_blk, x_cd, ↓reduceIte, Nat.reduceEqDiff, List.map_cons, List.map_nil, Int.reduceEq, Int.lt_irrefl]
  refine sto_mach k7 rfl d dm ?_
  intro w8 k8 g8 z8
  have b8 := g8.below b7 b7.size (by intro a ha; injection ha with ha; subst ha; exact Nat.le_refl _)
  replace hd := hd.up b8
  replace k1 := k1.below b8 k1.lt
  replace bb := bb.trans (b8.mono bb.size)
  simp (disch := first | with_reducible assumption | omega) only [push_cast, x_blk, x_cd, ↓reduceIte, Nat.reduceEqDiff, List.map_cons, List.map_nil, Int.reduceEq, Int.lt_irrefl, k1.mA ty_ag_25 ty_sz_25]
  refine call_of (ref5_Hide (h.up bb) hf (h1.up bb) n1) ?_
  rintro v w9 ⟨u, um, e', rfl, hu, b9, or2⟩
  replace k8 := k8.below b9 k8.lt
  replace hd := hd.up b9
  replace bb := bb.trans (b9.mono bb.size)
  simp (disch := first | with_reducible assumption | omega) only [push_cast, x_blk, x_cd, ↓reduceIte, Nat.reduceEqDiff, List.map_cons, List.map_nil, Int.reduceEq, Int.lt_irrefl]
  refine blk_of (cs := mv0.cells mach0) al_25 ?_
  intro w10 k10 b10 z10
  simp (disch := first | with_reducible assumption | omega) only [push_cast, x_blk, x_cd, ↓reduceIte, Nat.reduceEqDiff, List.map_cons, List.map_nil, Int.reduceEq, Int.lt_irrefl]
  refine sto_mach k10 rfl u um ?_
  intro w11 k11 g11 z11
  have b11 := g11.below b10 b10.size (by intro a ha; injection ha with ha; subst ha; exact Nat.le_refl _)
  replace hd := hd.up b11
  replace hu := hu.up b11
  replace k8 := k8.below b11 k8.lt
  replace bb := bb.trans (b11.mono bb.size)
  obtain ⟨rfl, rfl⟩ := hide_unique or1 or2
  obtain ⟨q1, q2, q3⟩ := hide_lens hf or1
  simp (disch := first | with_reducible assumption | omega) only [push_cast, x_blk, x_cd, ↓reduceIte, Nat.reduceEqDiff, List.map_cons, List.map_nil, Int.reduceEq, Int.lt_irrefl, eq_self, k8.mA ty_ag_25 ty_sz_25, k11.mA ty_ag_25 ty_sz_25]
  refine call_of (law_machines hd hu q1 q2 q3) ?_
  rintro v w12 ⟨rfl, b12⟩
  rw [decide_eq_true rfl]
  simp (disch := first | with_reducible assumption | omega) only [push_cast, x_blk, x_cd, ↓reduceIte, Nat.reduceEqDiff, List.map_cons, List.map_nil, Int.reduceEq, Int.lt_irrefl]
  exact fin_1 (hQ _ _ ⟨(by simp only [push_cast, ↓reduceIte, Nat.reduceEqDiff, Int.reduceEq]), bb.trans (b12.mono bb.size)⟩)
end Go.Proofs.YtcjedgiglimipaaDoor
