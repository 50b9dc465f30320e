/-
  The laws SecretTells, SecretKeeps: they return true.
-/
import Derived.Test.YtcjinmgieiebbaaDoorZSecE
import Derived.Test.YtcjinmgieiebbaaDoorZCurD
namespace Go.Proofs.YtcjinmgieiebbaaDoor
set_option linter.unusedSimpArgs false
set_option linter.unusedVariables false
set_option linter.unusedSectionVars false
open Go.RowKit

theorem iter_stop {S : Type} [DecidableEq S] {step : S → Int → S} {es : List Int} {first : S} {k : Nat} (h : (bIter step es first k).length = k) (n : Nat) : (bIter step es first n).length ≤ k := by
  rcases Nat.le_total k n with c | c
  · rw [bIter_stop (Nat.le_of_eq h) n c]; omega
  · have := (bIter_prefix (step := step) (es := es) first c).length_le
    omega
section
variable {m s : Mach} {L : List (List Int)} {ar : List Arr} {seen : List Int}
end
/-- What is wrong, if the program's answer is not of the places. -/
theorem sec_cases {m s : Mach} {seen : List Int} {b : Bool} {o : List Int} {e : Int} (h : SecIs m s seen b o e) :
    (¬ (m.May ∧ s.May) → b = false ∧ o = [] ∧ e = 2) ∧ (m.May ∧ s.May → m.events ≠ s.events → b = false ∧ o = [] ∧ e = 3) ∧ (m.May ∧ s.May → m.events = s.events → ¬ IsRow seen m.events → b = false ∧ o = [] ∧ e = 2) ∧
    (m.May ∧ s.May → m.events = s.events → IsRow seen m.events → ¬ (m.states ≤ 6 ∧ s.states ≤ 4) → b = false ∧ o = [] ∧ e = 1) ∧
    (m.May ∧ s.May → m.events = s.events → IsRow seen m.events → m.states ≤ 6 ∧ s.states ≤ 4 → ∃ L ar, SecD m s L ar ∧ SecFound m s L ar seen b o e) := by
  rcases h with ⟨q, r⟩ | ⟨q, q2, r⟩ | ⟨q, q2, q3, r⟩ | ⟨q, q2, q3, q4, r⟩ | ⟨q3, L, ar, d, f⟩
  · exact ⟨fun _ => r, fun p => absurd p q, fun p => absurd p q, fun p => absurd p q, fun p => absurd p q⟩
  · exact ⟨fun p => absurd q p, fun _ _ => r, fun _ p => absurd p q2, fun _ p => absurd p q2, fun _ p => absurd p q2⟩
  · exact ⟨fun p => absurd q p, fun _ p => absurd q2 p, fun _ _ _ => r, fun _ _ p => absurd p q3, fun _ _ p => absurd p q3⟩
  · exact ⟨fun p => absurd q p, fun _ p => absurd q2 p, fun _ _ p => absurd q3 p, fun _ _ _ _ => r, fun _ _ _ p => absurd p q4⟩
  · exact ⟨fun p => absurd ⟨d.pm, d.ps⟩ p, fun _ p => absurd d.ev p, fun _ _ p => absurd q3 p, fun _ _ _ p => absurd ⟨d.h6, d.h4⟩ p, fun _ _ _ _ => ⟨L, ar, d, f⟩⟩
theorem law_SecretTells {w : World} (hT : Tab w) {a0 : MV} {m0 : Mach} (h : IsM (· < w.heap.size) w a0 m0) (hf : m0.Fits) {a1 : MV} {m1 : Mach} (h' : IsM (· < w.heap.size) w a1 m1) (hf' : m1.Fits)
    {A2 : Option Addr} {c2 : Nat} {l2 : List Int} (h2 : Ints (· < w.heap.size) w A2 l2) (_b2 : ∀ x ∈ l2, I64 x) (n2 : l2.length ≤ 17592186043904) (_k2 : l2.length ≤ c2) :
    Cal Tryd.prog 5 [a0.val m0, a1.val m1, .slice A2 l2.length c2] w fun v w' => v = .bool true ∧ Below w.heap.size w w' := by
  refine cal_law_SecretTells (by simp) 100000 fun Q hQ => ?_
  simp (disch := first | with_reducible assumption | omega) only [push_cast, x_blk, x_cd, ↓reduceIte, Nat.reduceEqDiff, List.map_cons, List.map_nil, Int.reduceEq, Int.lt_irrefl, F_law_SecretTells]
  refine blk_of (box_agg _ (a0.cells m0)) ?_
  intro w1 k1 b1 z1
  simp (disch := first | with_reducible assumption | omega) only [push_cast, x_blk, x_cd, ↓reduceIte, Nat.reduceEqDiff, List.map_cons, List.map_nil, Int.reduceEq, Int.lt_irrefl]
  refine blk_of (box_agg _ (a1.cells m1)) ?_
  intro w2 k2 b2 z2
  replace k1 := k1.below b2 k1.lt
  have bb := b1.trans (b2.mono b1.size)
  simp (disch := first | with_reducible assumption | omega) only [push_cast, x_blk, x_cd, ↓reduceIte, Nat.reduceEqDiff, List.map_cons, List.map_nil, Int.reduceEq, Int.lt_irrefl, k1.mA ty_ag_25 ty_sz_25, k2.mA ty_ag_25 ty_sz_25]
  refine call_of (sec_Leak (hT.below bb hT.lt) (h.up bb) hf (h'.up bb) hf' (h2.up bb) n2) ?_
  rintro v w3 ⟨b, O, co, o, e, rfl, hO, ho, b3, sp⟩
  replace k1 := k1.below b3 k1.lt
  replace k2 := k2.below b3 k2.lt
  replace bb := bb.trans (Below.mono b3 bb.size)
  replace hO : Ints (· < w3.heap.size) w3 O o := hO.mono fun _ hb => hb.2
  obtain ⟨s1, s2, s3, s4, s5⟩ := sec_cases sp
  clear sp
  simp (disch := first | with_reducible assumption | omega) only [push_cast, x_blk, x_cd, ↓reduceIte, Nat.reduceEqDiff, List.map_cons, List.map_nil, Int.reduceEq, Int.lt_irrefl, k1.mA ty_ag_25 ty_sz_25]
  refine call_of (ref2_May (h.up bb) hf) ?_
  rintro v w4 ⟨rfl, b4⟩
  replace k1 := k1.below b4 k1.lt
  replace k2 := k2.below b4 k2.lt
  replace bb := bb.trans (Below.mono b4 bb.size)
  replace hO := hO.up b4
  by_cases p1 : m0.May
  case neg =>
    obtain ⟨rfl, rfl, rfl⟩ := s1 fun hh => p1 hh.1
    simp (disch := first | with_reducible assumption | omega) only [push_cast, x_blk, x_cd, ↓reduceIte, Nat.reduceEqDiff, List.map_cons, List.map_nil, Int.reduceEq, Int.lt_irrefl, decide_eq_false p1, List.length_nil, eq_self]
    exact fin_1 (hQ _ _ ⟨(by simp only [push_cast, ↓reduceIte, Nat.reduceEqDiff, Int.reduceEq]), bb⟩)
  simp (disch := first | with_reducible assumption | omega) only [push_cast, x_blk, x_cd, ↓reduceIte, Nat.reduceEqDiff, List.map_cons, List.map_nil, Int.reduceEq, Int.lt_irrefl, decide_eq_true p1, k2.mA ty_ag_25 ty_sz_25]
  refine call_of (ref2_May (h'.up bb) hf') ?_
  rintro v w5 ⟨rfl, b5⟩
  replace k1 := k1.below b5 k1.lt
  replace k2 := k2.below b5 k2.lt
  replace bb := bb.trans (Below.mono b5 bb.size)
  replace hO := hO.up b5
  by_cases p2 : m1.May
  case neg =>
    obtain ⟨rfl, rfl, rfl⟩ := s1 fun hh => p2 hh.2
    simp (disch := first | with_reducible assumption | omega) only [push_cast, x_blk, x_cd, ↓reduceIte, Nat.reduceEqDiff, List.map_cons, List.map_nil, Int.reduceEq, Int.lt_irrefl, decide_eq_false p2, List.length_nil, eq_self]
    exact fin_1 (hQ _ _ ⟨(by simp only [push_cast, ↓reduceIte, Nat.reduceEqDiff, Int.reduceEq]), bb⟩)
  by_cases p3 : m0.events = m1.events
  case neg =>
    obtain ⟨rfl, rfl, rfl⟩ := s2 ⟨p1, p2⟩ p3
    simp (disch := first | with_reducible assumption | omega) only [push_cast, x_blk, x_cd, ↓reduceIte, Nat.reduceEqDiff, List.map_cons, List.map_nil, Int.reduceEq, Int.lt_irrefl, decide_eq_true p2, k1.m1 ty_ag_3, k2.m1 ty_ag_3, p3, List.length_nil, eq_self]
    exact fin_1 (hQ _ _ ⟨(by simp only [push_cast, ↓reduceIte, Nat.reduceEqDiff, Int.reduceEq]), bb⟩)
  simp (disch := first | with_reducible assumption | omega) only [push_cast, x_blk, x_cd, ↓reduceIte, Nat.reduceEqDiff, List.map_cons, List.map_nil, Int.reduceEq, Int.lt_irrefl, decide_eq_true p2, k1.m1 ty_ag_3, k2.m1 ty_ag_3, p3, eq_self]
  rw [← p3]
  refine call_of (ref1_Is (h2.up bb) c2 m0.events (by omega)) ?_
  rintro v w6 ⟨rfl, s6⟩
  have b6 := s6.below w5.heap.size
  replace k1 := k1.below b6 k1.lt
  replace k2 := k2.below b6 k2.lt
  replace bb := bb.trans (Below.mono b6 bb.size)
  replace hO := hO.up b6
  by_cases p4 : IsRow l2 m0.events
  case neg =>
    obtain ⟨rfl, rfl, rfl⟩ := s3 ⟨p1, p2⟩ p3 p4
    simp (disch := first | with_reducible assumption | omega) only [push_cast, x_blk, x_cd, ↓reduceIte, Nat.reduceEqDiff, List.map_cons, List.map_nil, Int.reduceEq, Int.lt_irrefl, decide_eq_false p4, List.length_nil, eq_self]
    exact fin_1 (hQ _ _ ⟨(by simp only [push_cast, ↓reduceIte, Nat.reduceEqDiff, Int.reduceEq]), bb⟩)
  by_cases p5 : 6 < m0.states
  case pos =>
    obtain ⟨rfl, rfl, rfl⟩ := s4 ⟨p1, p2⟩ p3 p4 (by omega)
    simp (disch := first | with_reducible assumption | omega) only [push_cast, x_blk, x_cd, ↓reduceIte, Nat.reduceEqDiff, List.map_cons, List.map_nil, Int.reduceEq, Int.lt_irrefl, decide_eq_true p4, k1.m0 ty_ag_3, p5, List.length_nil, eq_self]
    exact fin_1 (hQ _ _ ⟨(by simp only [push_cast, ↓reduceIte, Nat.reduceEqDiff, Int.reduceEq]), bb⟩)
  by_cases p6 : 4 < m1.states
  case pos =>
    obtain ⟨rfl, rfl, rfl⟩ := s4 ⟨p1, p2⟩ p3 p4 (by omega)
    simp (disch := first | with_reducible assumption | omega) only [push_cast, x_blk, x_cd, ↓reduceIte, Nat.reduceEqDiff, List.map_cons, List.map_nil, Int.reduceEq, Int.lt_irrefl, decide_eq_true p4, k1.m0 ty_ag_3, p5, k2.m0 ty_ag_3, p6, List.length_nil, eq_self]
    exact fin_1 (hQ _ _ ⟨(by simp only [push_cast, ↓reduceIte, Nat.reduceEqDiff, Int.reduceEq]), bb⟩)
  obtain ⟨L, ar, hD, hF⟩ := s5 ⟨p1, p2⟩ p3 p4 (by omega)
  simp (disch := first | with_reducible assumption | omega) only [push_cast, x_blk, x_cd, ↓reduceIte, Nat.reduceEqDiff, List.map_cons, List.map_nil, Int.reduceEq, Int.lt_irrefl, decide_eq_true p4, k1.m0 ty_ag_3, p5, k2.m0 ty_ag_3, p6, eq_self, k1.mA ty_ag_25 ty_sz_25, k2.mA ty_ag_25 ty_sz_25]
  refine call_of (ref12_Leak hD (h.up bb) hf (h'.up bb) hf' (h2.up bb) p4) ?_
  rintro v w7 ⟨b', O', co', o', few, rfl, hO', ho', b7, hR⟩
  have bb7 := bb.trans (b7.mono bb.size)
  replace hO := hO.up b7
  rcases hR with ⟨rfl, rfl, rfl, kk, hkk⟩ | ⟨rfl, k, hk6, hk, hbest⟩
  · rcases hF with ⟨_, rfl, rfl, rfl⟩ | ⟨_, k, hk6, hk, _⟩
    · simp (disch := first | with_reducible assumption | omega) only [push_cast, x_blk, x_cd, ↓reduceIte, Nat.reduceEqDiff, List.map_cons, List.map_nil, Int.reduceEq, Int.lt_irrefl, List.length_nil, eq_self]
      exact fin_1 (hQ _ _ ⟨(by simp only [push_cast, ↓reduceIte, Nat.reduceEqDiff, Int.reduceEq]), bb7⟩)
    · exact absurd (iter_stop hk kk) (by omega)
  · rcases hF with ⟨⟨kk, hkk⟩, _⟩ | ⟨rfl, k', hk6', hk', hbest'⟩
    · exact absurd (iter_stop hk kk) (by omega)
    · rw [bIter_same hk hk'] at hbest
      obtain ⟨rfl, rfl⟩ := hbest.unique hbest'
      simp (disch := first | with_reducible assumption | omega) only [push_cast, x_blk, x_cd, ↓reduceIte, Nat.reduceEqDiff, List.map_cons, List.map_nil, Int.reduceEq, Int.lt_irrefl, eq_self, beq_self_eq_true]
      refine call_of (ref1_Same hO hO' co co' (by omega)) ?_
      rintro v w8 ⟨rfl, s8⟩
      simp (disch := first | with_reducible assumption | omega) only [push_cast, x_blk, x_cd, ↓reduceIte, Nat.reduceEqDiff, List.map_cons, List.map_nil, Int.reduceEq, Int.lt_irrefl, decide_eq_true rfl]
      exact fin_1 (hQ _ _ ⟨(by simp only [push_cast, ↓reduceIte, Nat.reduceEqDiff, Int.reduceEq, eq_self, decide_true]), bb7.trans (s8.below _)⟩)
end Go.Proofs.YtcjinmgieiebbaaDoor
