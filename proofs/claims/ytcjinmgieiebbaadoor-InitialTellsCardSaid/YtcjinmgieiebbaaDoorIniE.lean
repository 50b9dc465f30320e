/-
  The law InitialTells: it returns true.
-/
import Derived.Test.YtcjinmgieiebbaaDoorIniD
import Derived.Test.YtcjinmgieiebbaaDoorRef9C
namespace Go.Proofs.YtcjinmgieiebbaaDoor
set_option linter.unusedSimpArgs false
set_option linter.unusedVariables false
set_option linter.unusedSectionVars false
open Go.RowKit

theorem ini_best {p : Plt} (h : p.May) {b : Bool} {o : List Int} {e : Int} (hl : IniIs p b o e) {n : Nat} (hn : (layP p n).2 = []) : OptIs (bestF (tellsB p.secret p.m.starts) (layP p n).1) b o := by
  rcases hl with ⟨hh, _⟩ | ⟨_, _, k, hk, ho⟩
  · exact absurd h hh
  · have e1 : layP p n = layP p k := (lays_stop hn (max n k) (Nat.le_max_left _ _)).symm.trans (lays_stop hk (max n k) (Nat.le_max_right _ _))
    rw [e1]; exact ho
theorem law_InitialTells {w : World} (hT : Tab w) {a0 : PV} {p0 : Plt} (h : IsP (· < w.heap.size) w a0 p0) (hf : p0.Fits) (hc : a0.Caps p0)
    {A1 : Option Addr} {c1 : Nat} {l1 : List Int} (h1 : Ints (· < w.heap.size) w A1 l1) (_b1 : ∀ x ∈ l1, I64 x) (n1 : l1.length ≤ 17592186043904) (_k1 : l1.length ≤ c1) :
    Cal Tryd.prog 7 [a0.val p0, .slice A1 l1.length c1] w fun v w' => v = .bool true ∧ Below w.heap.size w w' := by
  refine cal_law_InitialTells (by simp) 100000 fun Q hQ => ?_
  simp (disch := first | with_reducible assumption | omega) only [push_cast, x_blk, x_cd, ↓reduceIte, Nat.reduceEqDiff, List.map_cons, List.map_nil, Int.reduceEq, Int.lt_irrefl, F_law_InitialTells]
  refine blk_of (box_agg _ (a0.cells p0)) ?_
  intro w1 k1 b1 z1
  simp (disch := first | with_reducible assumption | omega) only [push_cast, x_blk, x_cd, ↓reduceIte, Nat.reduceEqDiff, List.map_cons, List.map_nil, Int.reduceEq, Int.lt_irrefl, k1.pA']
  refine call_of (initial_Began (h.up b1) hf hc.m.s (hT.below b1 hT.lt) (h1.up b1) n1) ?_
  rintro v w3 ⟨O, co, o, e, rfl, hO, b3, e1, e2, e3⟩
  replace k1 := k1.below b3 k1.lt
  have zz := b1.size
  have bb := b1.trans (b3.mono b1.size)
  replace hO : Ints (· < w3.heap.size) w3 O o := Ints.lt (OwnI.ints hO)
  simp (disch := first | with_reducible assumption | omega) only [push_cast, x_blk, x_cd, ↓reduceIte, Nat.reduceEqDiff, List.map_cons, List.map_nil, Int.reduceEq, Int.lt_irrefl, k1.pA']
  refine call_of (initial_Leak (h.up bb) hf) ?_
  rintro v w4 ⟨b2, O2, co2, o2, e', rfl, hO2, ho2, b4, hlk⟩
  replace k1 := k1.below b4 k1.lt
  replace hO := hO.up b4
  replace hO2 : Ints (· < w4.heap.size) w4 O2 o2 := hO2.mono fun b hb => hb.2
  replace bb := bb.trans (b4.mono bb.size)
  simp (disch := first | with_reducible assumption | omega) only [push_cast, x_blk, x_cd, ↓reduceIte, Nat.reduceEqDiff, List.map_cons, List.map_nil, Int.reduceEq, Int.lt_irrefl, k1.pA']
  refine call_of (ref9_May (h.up bb) hf) ?_
  rintro v w5 ⟨rfl, b5⟩
  replace k1 := k1.below b5 k1.lt
  replace hO := hO.up b5
  replace hO2 := hO2.up b5
  replace bb := bb.trans (b5.mono bb.size)
  by_cases p1 : p0.May
  case neg =>
    obtain ⟨rfl, rfl⟩ := e2 p1
    rcases hlk with ⟨_, rfl, rfl, rfl⟩ | ⟨hh, _⟩
    case inr => exact absurd hh p1
    simp (disch := first | with_reducible assumption | omega) only [push_cast, x_blk, x_cd, ↓reduceIte, Nat.reduceEqDiff, List.map_cons, List.map_nil, Int.reduceEq, Int.lt_irrefl, decide_eq_false p1, bne_self_eq_false, eq_self, List.length_nil]
    exact fin_1 (hQ _ _ ⟨rfl, bb⟩)
  have he' : e' = 0 := by
    rcases hlk with ⟨hh, _⟩ | ⟨_, hh, _⟩
    · exact absurd p1 hh
    · exact hh
  subst he'
  simp (disch := first | with_reducible assumption | omega) only [push_cast, x_blk, x_cd, ↓reduceIte, Nat.reduceEqDiff, List.map_cons, List.map_nil, Int.reduceEq, Int.lt_irrefl, decide_eq_true p1, bne_self_eq_false, k1.pA']
  refine call_of (law_seen (h.up bb) hf (h1.up bb) n1) ?_
  rintro v w6 ⟨rfl, b6⟩
  replace k1 := k1.below b6 k1.lt
  replace hO := hO.up b6
  replace hO2 := hO2.up b6
  replace bb := bb.trans (b6.mono bb.size)
  by_cases p2 : AllIn l1 p0.seen
  · obtain ⟨rfl, rfl⟩ := e1 ⟨p1, p2⟩
    simp (disch := first | with_reducible assumption | omega) only [push_cast, x_blk, x_cd, ↓reduceIte, Nat.reduceEqDiff, List.map_cons, List.map_nil, Int.reduceEq, Int.lt_irrefl, decide_eq_true p2, k1.pA']
    refine call_of (ref9_Began (h.up bb) hf p1.1 (h1.up bb) n1) ?_
    rintro v w7 ⟨O7, c7, rfl, o7, b7⟩
    rw [began_eq p1.1] at o7 ⊢
    replace k1 := k1.below b7 k1.lt
    replace hO := hO.up b7
    replace hO2 := hO2.up b7
    replace bb := bb.trans (b7.mono bb.size)
    have hrl : (onlyL (backsL p0 l1) p0.m.starts true).length ≤ 256 := small_len (begL_row p1.1 l1).strict ((begL_row p1.1 l1).small p1.1.2.1)
    simp (disch := first | with_reducible assumption | omega) only [push_cast, x_blk, x_cd, ↓reduceIte, Nat.reduceEqDiff, List.map_cons, List.map_nil, Int.reduceEq, Int.lt_irrefl, eq_self]
    refine call_of (ref1_Same hO (Ints.lt (OwnI.ints o7)) co c7 (by omega)) ?_
    rintro v w8 ⟨rfl, s8⟩
    replace k1 := k1.same s8
    replace hO2 := hO2.same s8
    replace hO2 : Ints (· < w8.heap.size) w8 O2 o2 := by rw [s8.heap]; exact hO2
    replace bb := bb.trans (s8.below _)
    simp (disch := first | with_reducible assumption | omega) only [push_cast, x_blk, x_cd, ↓reduceIte, Nat.reduceEqDiff, List.map_cons, List.map_nil, Int.reduceEq, Int.lt_irrefl, eq_self, k1.pA']
    refine call_of (ref9_Backward (h.up bb) hf p1) ?_
    rintro v wf ⟨kf, ps, Lf, cf, rfl, habs, hnil, hk64, hR, hgood, bf⟩
    replace k1 := k1.below bf k1.lt
    replace hO2 := hO2.up bf
    replace bb := bb.trans (bf.mono bb.size)
    have hSt := hf.m.lenS
    simp (disch := first | with_reducible assumption | omega) only [push_cast, x_blk, x_cd, ↓reduceIte, Nat.reduceEqDiff, List.map_cons, List.map_nil, Int.reduceEq, Int.lt_irrefl, k1.pA', k1.p2, eq_self]
    refine call_of (law_best (h.up bb) hf hR (by omega) hgood (h.up bb).m.starts hSt b2 hO2 ho2) ?_
    rintro v wb ⟨hbest, _, bb3⟩
    rw [habs] at hbest
    obtain rfl := hbest (ini_best p1 hlk hnil)
    simp (disch := first | with_reducible assumption | omega) only [push_cast, x_blk, x_cd, ↓reduceIte, Nat.reduceEqDiff, List.map_cons, List.map_nil, Int.reduceEq, Int.lt_irrefl]
    exact fin_1 (hQ _ _ ⟨rfl, bb.trans (bb3.mono bb.size)⟩)
  · obtain ⟨rfl, rfl⟩ := e3 ⟨p1, p2⟩
    simp (disch := first | with_reducible assumption | omega) only [push_cast, x_blk, x_cd, ↓reduceIte, Nat.reduceEqDiff, List.map_cons, List.map_nil, Int.reduceEq, Int.lt_irrefl, decide_eq_false p2, eq_self, List.length_nil, k1.pA']
    refine call_of (ref9_Backward (h.up bb) hf p1) ?_
    rintro v wf ⟨kf, ps, Lf, cf, rfl, habs, hnil, hk64, hR, hgood, bf⟩
    replace k1 := k1.below bf k1.lt
    replace hO2 := hO2.up bf
    replace bb := bb.trans (bf.mono bb.size)
    have hSt := hf.m.lenS
    simp (disch := first | with_reducible assumption | omega) only [push_cast, x_blk, x_cd, ↓reduceIte, Nat.reduceEqDiff, List.map_cons, List.map_nil, Int.reduceEq, Int.lt_irrefl, k1.pA', k1.p2, eq_self]
    refine call_of (law_best (h.up bb) hf hR (by omega) hgood (h.up bb).m.starts hSt b2 hO2 ho2) ?_
    rintro v wb ⟨hbest, _, bb3⟩
    rw [habs] at hbest
    obtain rfl := hbest (ini_best p1 hlk hnil)
    simp (disch := first | with_reducible assumption | omega) only [push_cast, x_blk, x_cd, ↓reduceIte, Nat.reduceEqDiff, List.map_cons, List.map_nil, Int.reduceEq, Int.lt_irrefl]
    exact fin_1 (hQ _ _ ⟨rfl, bb.trans (bb3.mono bb.size)⟩)
end Go.Proofs.YtcjinmgieiebbaaDoor
