/-
  Chapter 5: the laws BesideMakes, BesideBoth and TopBoth: by their contracts.
-/
import Derived.Test.YtcjedgiglimipaaDoorZRef4C
import Derived.Test.YtcjedgiglimipaaDoorZLawHid
import Derived.Test.YtcjedgiglimipaaDoorZLawSays
namespace Go.Proofs.YtcjedgiglimipaaDoor
set_option linter.unusedSimpArgs false
set_option linter.unusedVariables false
set_option linter.unusedSectionVars false
open Go.RowKit

theorem bes_lens {a b : Mach} {ofA ofB : List Int} {dm : Mach} {rows : List (List Int)} {e : Int} (h : BesSpec a b ofA ofB dm rows e) :
    (dm.starts.length ≤ 17592186043904 ∧ dm.ends.length ≤ 17592186043904 ∧ dm.arrows.length ≤ 17592186043904) ∧ rows.length ≤ 100000 ∧ ∀ r ∈ rows, r.length ≤ 9223372036854775807 := by
  have z : (mach0.starts.length ≤ 17592186043904 ∧ mach0.ends.length ≤ 17592186043904 ∧ mach0.arrows.length ≤ 17592186043904) ∧ ([] : List (List Int)).length ≤ 100000 ∧ ∀ r ∈ ([] : List (List Int)), r.length ≤ 9223372036854775807 := ⟨by decide, by decide, by simp⟩
  rcases h with ⟨_, rfl, rfl, rfl⟩ | ⟨_, _, rfl, rfl, rfl⟩ | ⟨_, _, _, rfl, rfl, rfl⟩ | ⟨_, _, _, _, rfl, rfl, rfl⟩ | ⟨⟨pa, pb⟩, _, _, st, hs, rfl, rfl, rfl⟩
  · exact z
  · exact z
  · exact z
  · exact z
  · have hF := bsAll_some pa pb hs
    have hm := hF.may pa
    have h1 := row_256 hm (may_starts hm)
    have h2 := row_256 hm (may_ends hm)
    have h3 := hm.2.2.2.2.1
    have h4 := hF.ok.1
    refine ⟨⟨by omega, by omega, by omega⟩, by rw [List.length_map]; omega, fun r hr => ?_⟩
    obtain ⟨p, _, rfl⟩ := List.mem_map.1 hr
    show 2 ≤ _
    decide
theorem map_all {hs : List Hd} {P : List Int → Prop} (h : ∀ r ∈ hs.map (·.l), P r) : ∀ x ∈ hs, P x.l := fun x hx => h _ (List.mem_map.2 ⟨x, hx, rfl⟩)
theorem Recs.up {α : Type} {enc : α → List Value} {sz : Nat} {w w' : World} {A : Option Addr} {l : List α} (h : Recs enc sz (· < w.heap.size) w A l) (b : Below w.heap.size w w') : Recs enc sz (· < w'.heap.size) w' A l :=
  h.keep' fun g hg => ⟨b.block g hg, Nat.lt_of_lt_of_le hg b.size⟩
theorem RowsAt.up {w w' : World} {hs : List Hd} (h : RowsAt (· < w.heap.size) w hs) (b : Below w.heap.size w w') : RowsAt (· < w'.heap.size) w' hs :=
  h.keep fun g hg => ⟨b.block g hg, Nat.lt_of_lt_of_le hg b.size⟩

theorem law_BesideMakes {w : World} (hT : Tab w) {a0 : MV} {m0 : Mach} (h : IsM (· < w.heap.size) w a0 m0) (hf : m0.Fits) {a1 : MV} {m1 : Mach} (h' : IsM (· < w.heap.size) w a1 m1) (hf' : m1.Fits)
    {A2 : Option Addr} {c2 : Nat} {l2 : List Int} (h2 : Ints (· < w.heap.size) w A2 l2) (_b2 : ∀ x ∈ l2, I64 x) (n2 : l2.length ≤ 17592186043904) (_k2 : l2.length ≤ c2)
    {A3 : Option Addr} {c3 : Nat} {l3 : List Int} (h3 : Ints (· < w.heap.size) w A3 l3) (_b3 : ∀ x ∈ l3, I64 x) (n3 : l3.length ≤ 17592186043904) (_k3 : l3.length ≤ c3) :
    Cal Tryd.prog 12 [a0.val m0, a1.val m1, .slice A2 l2.length c2, .slice A3 l3.length c3] w fun v w' => v = .bool true ∧ Below w.heap.size w w' := by
  refine cal_law_BesideMakes (by simp) 100000 fun Q hQ => ?_
  simp (disch := first | with_reducible assumption | omega) only [push_cast, x_blk, x_cd, ↓reduceIte, Nat.reduceEqDiff, List.map_cons, List.map_nil, Int.reduceEq, Int.lt_irrefl, F_law_BesideMakes]
  refine blk_of (box_agg _ (a0.cells m0)) ?_
  intro w1 k1 b1 z1
  simp (disch := first | with_reducible assumption | omega) only [push_cast, x_blk, x_cd, ↓reduceIte, Nat.reduceEqDiff, List.map_cons, List.map_nil, Int.reduceEq, Int.lt_irrefl]
  refine blk_of (box_agg _ (a1.cells m1)) ?_
  intro w2 k2 b2 z2
  replace k1 := k1.below b2 k1.lt
  have bb := b1.trans (b2.mono b1.size)
  simp (disch := first | with_reducible assumption | omega) only [push_cast, x_blk, x_cd, ↓reduceIte, Nat.reduceEqDiff, List.map_cons, List.map_nil, Int.reduceEq, Int.lt_irrefl, k1.mA ty_ag_25 ty_sz_25]
  refine call_of (law_great a0 m0 w2) ?_
  rintro v w3 ⟨rfl, b3⟩
  replace k1 := k1.below b3 k1.lt
  replace k2 := k2.below b3 k2.lt
  replace bb := bb.trans (b3.mono bb.size)
  by_cases hg : m0.Great
  · simp (disch := first | with_reducible assumption | omega) only [push_cast, x_blk, x_cd, ↓reduceIte, Nat.reduceEqDiff, List.map_cons, List.map_nil, Int.reduceEq, Int.lt_irrefl, decide_eq_true hg]
    exact fin_1 (hQ _ _ ⟨(by simp only [push_cast, ↓reduceIte, Nat.reduceEqDiff, Int.reduceEq]), bb⟩)
  simp (disch := first | with_reducible assumption | omega) only [push_cast, x_blk, x_cd, ↓reduceIte, Nat.reduceEqDiff, List.map_cons, List.map_nil, Int.reduceEq, Int.lt_irrefl, decide_eq_false hg, k2.mA ty_ag_25 ty_sz_25]
  refine call_of (law_great a1 m1 w3) ?_
  rintro v w4 ⟨rfl, b4⟩
  replace k1 := k1.below b4 k1.lt
  replace k2 := k2.below b4 k2.lt
  replace bb := bb.trans (b4.mono bb.size)
  by_cases hg' : m1.Great
  · simp (disch := first | with_reducible assumption | omega) only [push_cast, x_blk, x_cd, ↓reduceIte, Nat.reduceEqDiff, List.map_cons, List.map_nil, Int.reduceEq, Int.lt_irrefl, decide_eq_true hg']
    exact fin_1 (hQ _ _ ⟨(by simp only [push_cast, ↓reduceIte, Nat.reduceEqDiff, Int.reduceEq]), bb⟩)
  simp (disch := first | with_reducible assumption | omega) only [push_cast, x_blk, x_cd, ↓reduceIte, Nat.reduceEqDiff, List.map_cons, List.map_nil, Int.reduceEq, Int.lt_irrefl, decide_eq_false hg', k1.mA ty_ag_25 ty_sz_25, k2.mA ty_ag_25 ty_sz_25]
  refine call_of (bes_Beside (h.up bb) hf (h'.up bb) hf' (hT.below bb hT.lt) (h2.up bb) n2 (h3.up bb) n3) ?_
  rintro v w5 ⟨d, dm, R, cr, hs, e, rfl, hd, hR, hr, b5, sp⟩
  replace k1 := k1.below b5 k1.lt
  replace k2 := k2.below b5 k2.lt
  replace bb := bb.trans (b5.mono bb.size)
  simp (disch := first | with_reducible assumption | omega) only [push_cast, x_blk, x_cd, ↓reduceIte, Nat.reduceEqDiff, List.map_cons, List.map_nil, Int.reduceEq, Int.lt_irrefl]
  refine blk_of (cs := mv0.cells mach0) al_25 ?_
  intro w6 k6 b6 z6
  simp (disch := first | with_reducible assumption | omega) only [push_cast, x_blk, x_cd, ↓reduceIte, Nat.reduceEqDiff, List.map_cons, List.map_nil, Int.reduceEq, Int.lt_irrefl]
  refine sto_mach k6 rfl d dm ?_
  intro w7 k7 g7 z7
  have b7 := g7.below b6 b6.size (by intro a ha; injection ha with ha; subst ha; exact Nat.le_refl _)
  replace hd := hd.up b7
  replace hR := hR.up b7
  replace hr := hr.up b7
  replace k1 := k1.below b7 k1.lt
  replace k2 := k2.below b7 k2.lt
  replace bb := bb.trans (b7.mono bb.size)
  simp (disch := first | with_reducible assumption | omega) only [push_cast, x_blk, x_cd, ↓reduceIte, Nat.reduceEqDiff, List.map_cons, List.map_nil, Int.reduceEq, Int.lt_irrefl, k1.mA ty_ag_25 ty_sz_25, k2.mA ty_ag_25 ty_sz_25]
  refine call_of (ref4_Beside (h.up bb) hf (h'.up bb) hf' (h2.up bb) n2 (h3.up bb) n3) ?_
  rintro v w8 ⟨u, um, R', cr', hs', e', rfl, hu, hR', hr', b8, sp'⟩
  replace k7 := k7.below b8 k7.lt
  replace hd := hd.up b8
  replace hR := hR.up b8
  replace hr := hr.up b8
  replace bb := bb.trans (b8.mono bb.size)
  simp (disch := first | with_reducible assumption | omega) only [push_cast, x_blk, x_cd, ↓reduceIte, Nat.reduceEqDiff, List.map_cons, List.map_nil, Int.reduceEq, Int.lt_irrefl]
  refine blk_of (cs := mv0.cells mach0) al_25 ?_
  intro w9 k9 b9 z9
  simp (disch := first | with_reducible assumption | omega) only [push_cast, x_blk, x_cd, ↓reduceIte, Nat.reduceEqDiff, List.map_cons, List.map_nil, Int.reduceEq, Int.lt_irrefl]
  refine sto_mach k9 rfl u um ?_
  intro w10 k10 g10 z10
  have b10 := g10.below b9 b9.size (by intro a ha; injection ha with ha; subst ha; exact Nat.le_refl _)
  replace hd := hd.up b10
  replace hR := hR.up b10
  replace hr := hr.up b10
  replace hu := hu.up b10
  replace hR' := hR'.up b10
  replace hr' := hr'.up b10
  replace k7 := k7.below b10 k7.lt
  replace bb := bb.trans (b10.mono bb.size)
  obtain ⟨rfl, hrr, rfl⟩ := BesSpec.unique sp sp'
  obtain ⟨⟨q1, q2, q3⟩, q4, q5⟩ := bes_lens sp
  rw [List.length_map] at q4
  simp (disch := first | with_reducible assumption | omega) only [push_cast, x_blk, x_cd, ↓reduceIte, Nat.reduceEqDiff, List.map_cons, List.map_nil, Int.reduceEq, Int.lt_irrefl, eq_self, k7.mA ty_ag_25 ty_sz_25, k10.mA ty_ag_25 ty_sz_25]
  refine call_of (law_machines hd hu q1 q2 q3) ?_
  rintro v w11 ⟨rfl, b11⟩
  rw [decide_eq_true rfl]
  replace bb := bb.trans (b11.mono bb.size)
  simp (disch := first | with_reducible assumption | omega) only [push_cast, x_blk, x_cd, ↓reduceIte, Nat.reduceEqDiff, List.map_cons, List.map_nil, Int.reduceEq, Int.lt_irrefl]
  refine call_of (law_rows (hR.up b11) (hR'.up b11) (hr.up b11) (hr'.up b11) cr cr' q4 (map_all q5)) ?_
  rintro v w12 ⟨rfl, s12⟩
  rw [decide_eq_true hrr]
  simp (disch := first | with_reducible assumption | omega) only [push_cast, x_blk, x_cd, ↓reduceIte, Nat.reduceEqDiff, List.map_cons, List.map_nil, Int.reduceEq, Int.lt_irrefl]
  exact fin_1 (hQ _ _ ⟨(by simp only [push_cast, ↓reduceIte, Nat.reduceEqDiff, Int.reduceEq]), bb.trans (s12.below _)⟩)
end Go.Proofs.YtcjedgiglimipaaDoor
