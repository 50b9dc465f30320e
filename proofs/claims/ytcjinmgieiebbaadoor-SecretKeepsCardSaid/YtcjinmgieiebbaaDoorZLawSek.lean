/-
  The law SecretKeeps: it returns true.
-/
import Derived.Test.YtcjinmgieiebbaaDoorZLawSec
namespace Go.Proofs.YtcjinmgieiebbaaDoor
set_option linter.unusedSimpArgs false
set_option linter.unusedVariables false
set_option linter.unusedSectionVars false
open Go.RowKit

theorem law_SecretKeeps {w : World} (hT : Tab w) {a0 : MV} {m0 : Mach} (h : IsM (· < w.heap.size) w a0 m0) (hf : m0.Fits) {a1 : MV} {m1 : Mach} (h' : IsM (· < w.heap.size) w a1 m1) (hf' : m1.Fits)
    {A2 : Option Addr} {c2 : Nat} {l2 : List Int} (h2 : Ints (· < w.heap.size) w A2 l2) (_b2 : ∀ x ∈ l2, I64 x) (n2 : l2.length ≤ 17592186043904) (_k2 : l2.length ≤ c2)
    {A3 : Option Addr} {c3 : Nat} {l3 : List Int} (h3 : Ints (· < w.heap.size) w A3 l3) (_b3 : ∀ x ∈ l3, I64 x) (n3 : l3.length ≤ 17592186043904) (_k3 : l3.length ≤ c3) :
    Cal Tryd.prog 6 [a0.val m0, a1.val m1, .slice A2 l2.length c2, .slice A3 l3.length c3] w fun v w' => v = .bool true ∧ Below w.heap.size w w' := by
  refine cal_law_SecretKeeps (by simp) 100000 fun Q hQ => ?_
  simp (disch := first | with_reducible assumption | omega) only [push_cast, x_blk, x_cd, ↓reduceIte, Nat.reduceEqDiff, List.map_cons, List.map_nil, Int.reduceEq, Int.lt_irrefl, F_law_SecretKeeps]
  refine blk_of (box_agg _ (a0.cells m0)) ?_
  intro w1 k1 b1 z1
  simp (disch := first | with_reducible assumption | omega) only [push_cast, x_blk, x_cd, ↓reduceIte, Nat.reduceEqDiff, List.map_cons, List.map_nil, Int.reduceEq, Int.lt_irrefl]
  refine blk_of (box_agg _ (a1.cells m1)) ?_
  intro w2 k2 b2 z2
  replace k1 := k1.below b2 k1.lt
  have bb := b1.trans (b2.mono b1.size)
  simp (disch := first | with_reducible assumption | omega) only [push_cast, x_blk, x_cd, ↓reduceIte, Nat.reduceEqDiff, List.map_cons, List.map_nil, Int.reduceEq, Int.lt_irrefl, k1.mA ty_ag_25 ty_sz_25]
  refine call_of (ref2_May (h.up bb) hf) ?_
  rintro v w4 ⟨rfl, b4⟩
  replace k1 := k1.below b4 k1.lt
  replace k2 := k2.below b4 k2.lt
  replace bb := bb.trans (Below.mono b4 bb.size)
  by_cases p1 : m0.May
  case neg =>
    simp (disch := first | with_reducible assumption | omega) only [push_cast, x_blk, x_cd, ↓reduceIte, Nat.reduceEqDiff, List.map_cons, List.map_nil, Int.reduceEq, Int.lt_irrefl, decide_eq_false p1]
    exact fin_1 (hQ _ _ ⟨(by simp only [push_cast, ↓reduceIte, Nat.reduceEqDiff, Int.reduceEq]), bb⟩)
  simp (disch := first | with_reducible assumption | omega) only [push_cast, x_blk, x_cd, ↓reduceIte, Nat.reduceEqDiff, List.map_cons, List.map_nil, Int.reduceEq, Int.lt_irrefl, decide_eq_true p1, k2.mA ty_ag_25 ty_sz_25]
  refine call_of (ref2_May (h'.up bb) hf') ?_
  rintro v w5 ⟨rfl, b5⟩
  replace k1 := k1.below b5 k1.lt
  replace k2 := k2.below b5 k2.lt
  replace bb := bb.trans (Below.mono b5 bb.size)
  by_cases p2 : m1.May
  case neg =>
    simp (disch := first | with_reducible assumption | omega) only [push_cast, x_blk, x_cd, ↓reduceIte, Nat.reduceEqDiff, List.map_cons, List.map_nil, Int.reduceEq, Int.lt_irrefl, decide_eq_false p2]
    exact fin_1 (hQ _ _ ⟨(by simp only [push_cast, ↓reduceIte, Nat.reduceEqDiff, Int.reduceEq]), bb⟩)
  by_cases p3 : m0.events = m1.events
  case neg =>
    simp (disch := first | with_reducible assumption | omega) only [push_cast, x_blk, x_cd, ↓reduceIte, Nat.reduceEqDiff, List.map_cons, List.map_nil, Int.reduceEq, Int.lt_irrefl, decide_eq_true p2, k1.m1 ty_ag_3, k2.m1 ty_ag_3, p3]
    exact fin_1 (hQ _ _ ⟨(by simp only [push_cast, ↓reduceIte, Nat.reduceEqDiff, Int.reduceEq]), bb⟩)
  simp (disch := first | with_reducible assumption | omega) only [push_cast, x_blk, x_cd, ↓reduceIte, Nat.reduceEqDiff, List.map_cons, List.map_nil, Int.reduceEq, Int.lt_irrefl, decide_eq_true p2, k1.m1 ty_ag_3, k2.m1 ty_ag_3, p3, eq_self]
  rw [← p3]
  refine call_of (ref1_Is (h2.up bb) c2 m0.events (by omega)) ?_
  rintro v w6 ⟨rfl, s6⟩
  have b6 := s6.below w5.heap.size
  replace k1 := k1.below b6 k1.lt
  replace k2 := k2.below b6 k2.lt
  replace bb := bb.trans (Below.mono b6 bb.size)
  by_cases p4 : IsRow l2 m0.events
  case neg =>
    simp (disch := first | with_reducible assumption | omega) only [push_cast, x_blk, x_cd, ↓reduceIte, Nat.reduceEqDiff, List.map_cons, List.map_nil, Int.reduceEq, Int.lt_irrefl, decide_eq_false p4]
    exact fin_1 (hQ _ _ ⟨(by simp only [push_cast, ↓reduceIte, Nat.reduceEqDiff, Int.reduceEq]), bb⟩)
  by_cases p5 : 6 < m0.states
  case pos =>
    simp (disch := first | with_reducible assumption | omega) only [push_cast, x_blk, x_cd, ↓reduceIte, Nat.reduceEqDiff, List.map_cons, List.map_nil, Int.reduceEq, Int.lt_irrefl, decide_eq_true p4, k1.m0 ty_ag_3, p5]
    exact fin_1 (hQ _ _ ⟨(by simp only [push_cast, ↓reduceIte, Nat.reduceEqDiff, Int.reduceEq]), bb⟩)
  by_cases p6 : 4 < m1.states
  case pos =>
    simp (disch := first | with_reducible assumption | omega) only [push_cast, x_blk, x_cd, ↓reduceIte, Nat.reduceEqDiff, List.map_cons, List.map_nil, Int.reduceEq, Int.lt_irrefl, decide_eq_true p4, k1.m0 ty_ag_3, p5, k2.m0 ty_ag_3, p6]
    exact fin_1 (hQ _ _ ⟨(by simp only [push_cast, ↓reduceIte, Nat.reduceEqDiff, Int.reduceEq]), bb⟩)
  have nO : (onlyL l3 l2 true).length ≤ 17592186043904 := by
    unfold onlyL
    have := List.length_filter_le (fun x => decide (x ∈ l2) == true) l3
    omega
  have hin : ∀ x ∈ onlyL l3 l2 true, x ∈ l2 := fun x hx => (mem_onlyT.1 hx).2
  simp (disch := first | with_reducible assumption | omega) only [push_cast, x_blk, x_cd, ↓reduceIte, Nat.reduceEqDiff, List.map_cons, List.map_nil, Int.reduceEq, Int.lt_irrefl, decide_eq_true p4, k1.m0 ty_ag_3, p5, k2.m0 ty_ag_3, p6]
  refine call_of (ref5_Seen (h3.up bb) c3 (h2.up bb) c2 n3 (by omega)) ?_
  rintro v w7 ⟨O7, co7, rfl, o7, b7⟩
  replace k1 := k1.below b7 k1.lt
  replace k2 := k2.below b7 k2.lt
  replace bb := bb.trans (Below.mono b7 bb.size)
  replace o7 := (OwnI.ints o7).lt
  generalize onlyL l3 l2 true = own at *
  simp (disch := first | with_reducible assumption | omega) only [push_cast, x_blk, x_cd, ↓reduceIte, Nat.reduceEqDiff, List.map_cons, List.map_nil, Int.reduceEq, Int.lt_irrefl, k1.mA ty_ag_25 ty_sz_25, k2.mA ty_ag_25 ty_sz_25]
  refine call_of (sec_Leak (hT.below bb hT.lt) (h.up bb) hf (h'.up bb) hf' (h2.up bb) n2) ?_
  rintro v w8 ⟨b, O, co, o, e, rfl, hO, ho, b8, sp⟩
  replace o7 := o7.up b8
  replace k1 := k1.below b8 k1.lt
  replace k2 := k2.below b8 k2.lt
  replace bb := bb.trans (Below.mono b8 bb.size)
  replace hO : Ints (· < w8.heap.size) w8 O o := hO.mono fun _ hb => hb.2
  obtain ⟨L, ar, hD, hF⟩ := (sec_cases sp).2.2.2.2 ⟨p1, p2⟩ p3 p4 (by omega)
  clear sp
  have hstrict : l2.Pairwise (· < ·) := p4.strict
  have n28 : l2.length ≤ 8 := by have := row_len p4; have := p1.2.2.2.1; omega
  by_cases he : e = 0
  case neg =>
    rcases hF with ⟨_, rfl, rfl, rfl⟩ | ⟨hh, _⟩
    · simp (disch := first | with_reducible assumption | omega) only [push_cast, x_blk, x_cd, ↓reduceIte, Nat.reduceEqDiff, List.map_cons, List.map_nil, Int.reduceEq, Int.lt_irrefl, Int.reduceEq, List.length_nil, eq_self]
      exact fin_1 (hQ _ _ ⟨(by simp only [push_cast, ↓reduceIte, Nat.reduceEqDiff, Int.reduceEq]), bb⟩)
    · exact absurd hh he
  subst he
  simp (disch := first | with_reducible assumption | omega) only [push_cast, x_blk, x_cd, ↓reduceIte, Nat.reduceEqDiff, List.map_cons, List.map_nil, Int.reduceEq, Int.lt_irrefl, eq_self, k1.mA ty_ag_25 ty_sz_25, k2.mA ty_ag_25 ty_sz_25]
  refine call_of (ref12_After (h.up bb) hf (h'.up bb) hf' p1 hD.h6 hD.hst hD.hs6 (h2.up bb) n2 o7 nO) ?_
  rintro v w9 ⟨ps, L9, c9, rfl, hA, hP, b9⟩
  replace o7 := o7.up b9
  replace hO := hO.up b9
  replace k1 := k1.below b9 k1.lt
  replace k2 := k2.below b9 k2.lt
  replace bb := bb.trans (Below.mono b9 bb.size)
  have gps := (hD.aft hA).len
  rw [List.length_map] at gps
  have hid := hD.hid hA
  have hop := hD.opn hA
  have hlk : sLeak m0 m1 L (sEst m0 m1 L ar l2 own) = (decide (judS m0 m1 (ps.map Atp.abs)) && !decide (judO m0 m1 (ps.map Atp.abs))) := by
    unfold sLeak
    rw [decide_eq_decide.2 hid, decide_eq_decide.2 hop]
  simp (disch := first | with_reducible assumption | omega) only [push_cast, x_blk, x_cd, ↓reduceIte, Nat.reduceEqDiff, List.map_cons, List.map_nil, Int.reduceEq, Int.lt_irrefl, k1.mA ty_ag_25 ty_sz_25, k2.mA ty_ag_25 ty_sz_25]
  refine call_of (ref12_Judge (h.up bb) hf (h'.up bb) hf' hP.recs (by omega) hP.row) ?_
  rintro v w10 ⟨rfl, b10⟩
  replace o7 := o7.up b10
  replace hO := hO.up b10
  replace k1 := k1.below b10 k1.lt
  replace k2 := k2.below b10 k2.lt
  replace bb := bb.trans (Below.mono b10 bb.size)
  generalize decide (judS m0 m1 (ps.map Atp.abs)) = js at *
  generalize decide (judO m0 m1 (ps.map Atp.abs)) = jo at *
  clear hid hop
  cases hjj : (js && !jo)
  case true =>
    obtain ⟨rfl, hj2⟩ : js = true ∧ jo = false := by cases js <;> cases jo <;> simp_all
    subst hj2
    rw [hjj] at hlk
    cases b
    case false =>
      have := (found_none hstrict hF).2 own hin
      rw [hlk] at this; cases this
    case true =>
      have hns := (found_some hstrict hF).2.2.2 own hin hlk
      simp (disch := first | with_reducible assumption | omega) only [push_cast, x_blk, x_cd, ↓reduceIte, Nat.reduceEqDiff, List.map_cons, List.map_nil, Int.reduceEq, Int.lt_irrefl, eq_self]
      refine call_of (ref9_Lesser o7 hO co7 co (by omega)) ?_
      rintro v w11 ⟨rfl, s11⟩
      simp (disch := first | with_reducible assumption | omega) only [push_cast, x_blk, x_cd, ↓reduceIte, Nat.reduceEqDiff, List.map_cons, List.map_nil, Int.reduceEq, Int.lt_irrefl, decide_eq_false hns]
      exact fin_1 (hQ _ _ ⟨(by simp only [push_cast, ↓reduceIte, Nat.reduceEqDiff, Int.reduceEq]), bb.trans (s11.below _)⟩)
  case false =>
    have key : js = false ∨ (js = true ∧ jo = true) := by cases js <;> cases jo <;> simp_all
    clear hlk hjj
    cases b
    case false =>
      rcases key with rfl | ⟨rfl, rfl⟩
      · simp (disch := first | with_reducible assumption | omega) only [push_cast, x_blk, x_cd, ↓reduceIte, Nat.reduceEqDiff, List.map_cons, List.map_nil, Int.reduceEq, Int.lt_irrefl]
        exact fin_1 (hQ _ _ ⟨(by simp only [push_cast, ↓reduceIte, Nat.reduceEqDiff, Int.reduceEq]), bb⟩)
      · simp (disch := first | with_reducible assumption | omega) only [push_cast, x_blk, x_cd, ↓reduceIte, Nat.reduceEqDiff, List.map_cons, List.map_nil, Int.reduceEq, Int.lt_irrefl]
        exact fin_1 (hQ _ _ ⟨(by simp only [push_cast, ↓reduceIte, Nat.reduceEqDiff, Int.reduceEq]), bb⟩)
    case true =>
      obtain ⟨ho6, hos, hl, _⟩ := found_some hstrict hF
      rcases key with rfl | ⟨rfl, rfl⟩
      case' inl => simp (disch := first | with_reducible assumption | omega) only [push_cast, x_blk, x_cd, ↓reduceIte, Nat.reduceEqDiff, List.map_cons, List.map_nil, Int.reduceEq, Int.lt_irrefl, k1.mA ty_ag_25 ty_sz_25, k2.mA ty_ag_25 ty_sz_25]
      case' inr => simp (disch := first | with_reducible assumption | omega) only [push_cast, x_blk, x_cd, ↓reduceIte, Nat.reduceEqDiff, List.map_cons, List.map_nil, Int.reduceEq, Int.lt_irrefl, k1.mA ty_ag_25 ty_sz_25, k2.mA ty_ag_25 ty_sz_25]
      all_goals
        refine call_of (ref12_After (h.up bb) hf (h'.up bb) hf' p1 hD.h6 hD.hst hD.hs6 (h2.up bb) n2 hO (by omega)) ?_
        rintro v w11 ⟨qs, L11, c11, rfl, hA2, hP2, b11⟩
        replace k1 := k1.below b11 k1.lt
        replace k2 := k2.below b11 k2.lt
        replace bb := bb.trans (Below.mono b11 bb.size)
        have gqs := (hD.aft hA2).len
        rw [List.length_map] at gqs
        have hlk : sLeak m0 m1 L (sEst m0 m1 L ar l2 o) = (decide (judS m0 m1 (qs.map Atp.abs)) && !decide (judO m0 m1 (qs.map Atp.abs))) := by
          unfold sLeak
          rw [decide_eq_decide.2 (hD.hid hA2), decide_eq_decide.2 (hD.opn hA2)]
        rw [hl] at hlk
        simp (disch := first | with_reducible assumption | omega) only [push_cast, x_blk, x_cd, ↓reduceIte, Nat.reduceEqDiff, List.map_cons, List.map_nil, Int.reduceEq, Int.lt_irrefl, k1.mA ty_ag_25 ty_sz_25, k2.mA ty_ag_25 ty_sz_25]
        refine call_of (ref12_Judge (h.up bb) hf (h'.up bb) hf' hP2.recs (by omega) hP2.row) ?_
        rintro v w12 ⟨rfl, b12⟩
        replace k1 := k1.below b12 k1.lt
        replace k2 := k2.below b12 k2.lt
        replace bb := bb.trans (Below.mono b12 bb.size)
        generalize decide (judS m0 m1 (qs.map Atp.abs)) = ks at *
        generalize decide (judO m0 m1 (qs.map Atp.abs)) = ko at *
        obtain ⟨rfl, hj2⟩ := (show ∀ a b : Bool, true = (a && !b) → a = true ∧ b = false by decide) _ _ hlk
        subst hj2
        simp (disch := first | with_reducible assumption | omega) only [push_cast, x_blk, x_cd, ↓reduceIte, Nat.reduceEqDiff, List.map_cons, List.map_nil, Int.reduceEq, Int.lt_irrefl]
        exact fin_1 (hQ _ _ ⟨(by simp only [push_cast, ↓reduceIte, Nat.reduceEqDiff, Int.reduceEq]), bb⟩)
end Go.Proofs.YtcjinmgieiebbaaDoor
