/-
  The law StepsMore: it returns true.
-/
import Derived.Test.YtcjinmgieiebbaaStpB
namespace Go.Proofs.Ytcjinmgieiebbaa
set_option linter.unusedSimpArgs false
set_option linter.unusedVariables false
set_option linter.unusedSectionVars false
open Go.RowKit

theorem onlyL_all {p : Plt} (h : p.m.May) (u : List Int) : onlyL (estL p u) (backsL p []) true = estL p u := only_all (estL_row h u)
theorem plt_nil {u w : List Int} (h : PLt (u, []) (w, [])) : Shl u w := by
  rcases h with h | ⟨_, h | ⟨_, h | ⟨_, h⟩⟩⟩
  · exact .inl (by simpa using h)
  · simp at h
  · exact h
  · exact absurd h (Shl.irrefl _)
theorem stpQ_zero {p : Plt} (h : p.m.May) {z : List Int × List Int} : StpQ p 0 z ↔ z.2 = [] ∧ AllIn z.1 p.seen ∧ TellsL (estL p z.1) p.secret := by
  obtain ⟨u, v⟩ := z
  unfold StpQ
  constructor
  · rintro ⟨h1, _, h3, h4⟩
    have : v = [] := List.eq_nil_of_length_eq_zero (by rcases h3 with h3 | h3; exact absurd h3 (by decide); simp only at h3; omega)
    subst this
    rw [onlyL_all h] at h4
    exact ⟨rfl, h1, h4⟩
  · rintro ⟨rfl, h1, h4⟩
    exact ⟨h1, fun x hx => absurd hx (by simp), .inr (by simp), by rw [onlyL_all h]; exact h4⟩
/-- With no steps at all it is what leaks where it is. -/
theorem stp_zero {p : Plt} (p1 : p.May) {b b' : Bool} {o u v : List Int} {e e' : Int} (hl : LkIs p b o e) (hs : StpIs p 0 b' u v e') : e = 0 ∧ e' = 0 ∧ b = b' ∧ o = u ∧ v = [] := by
  have he : e = 0 := by
    rcases hl with ⟨hh, _⟩ | ⟨_, hh, _⟩
    · exact absurd p1 hh
    · exact hh
  rcases hs with ⟨hh, _⟩ | ⟨_, hh, _⟩ | ⟨_, _, he', oo, hb, ho⟩
  · exact absurd p1 hh
  · exact absurd (by decide) hh
  refine ⟨he, he', ?_⟩
  cases b with
  | false =>
    obtain ⟨rfl, hno⟩ := lk_none p1 hl
    have : BestIs (StpQ p 0) none := fun z hz => by
      obtain ⟨_, h1, h2⟩ := (stpQ_zero p1.1).1 hz
      exact hno _ h1 h2
    obtain rfl := BestIs.unique hb this
    obtain ⟨rfl, rfl, rfl⟩ := ho
    exact ⟨rfl, rfl, rfl⟩
  | true =>
    obtain ⟨h1, h2, h3⟩ := lk_some p1 hl
    have : BestIs (StpQ p 0) (some (o, [])) := ⟨(stpQ_zero p1.1).2 ⟨rfl, h1, h2⟩, fun z hz hlt => by
      obtain ⟨hz2, hz1, hz3⟩ := (stpQ_zero p1.1).1 hz
      obtain ⟨a, c⟩ := z
      simp only at hz2
      subst hz2
      exact h3 a hz1 hz3 (plt_nil hlt)⟩
    obtain rfl := BestIs.unique hb this
    obtain ⟨rfl, rfl, rfl⟩ := ho
    exact ⟨rfl, rfl, rfl⟩
theorem stp_more {p : Plt} {few more : Int} {b b' : Bool} {u v u' v' : List Int} (hs : StpIs p few b u v 0) (hs' : StpIs p more b' u' v' 0) (hw : more = -1 ∨ (0 ≤ few ∧ few ≤ more)) (hb : b = true) : b' = true := by
  rcases hs with ⟨_, _, _, _, hh⟩ | ⟨_, _, _, _, _, hh⟩ | ⟨_, r1, _, o, ho, hO⟩
  · exact absurd hh (by decide)
  · exact absurd hh (by decide)
  rcases hs' with ⟨_, _, _, _, hh⟩ | ⟨_, _, _, _, _, hh⟩ | ⟨_, r2, _, o', ho', hO'⟩
  · exact absurd hh (by decide)
  · exact absurd hh (by decide)
  cases o with
  | none => rw [hO.1] at hb; cases hb
  | some m =>
    cases o' with
    | none =>
      obtain ⟨h1, h2, h3, h4⟩ := ho.1
      exact absurd ⟨h1, h2, by rcases hw with hw | hw; exact .inl (by omega); exact .inr (by rcases h3 with h3 | h3 <;> omega), h4⟩ (ho' m)
    | some m' => exact hO'.1
theorem stp_e {p : Plt} {few : Int} {b : Bool} {u v : List Int} {e : Int} (hs : StpIs p few b u v e) : e = 0 ∨ (b = false ∧ e ≠ 0) := by
  rcases hs with ⟨_, h, _, _, rfl⟩ | ⟨_, _, h, _, _, rfl⟩ | ⟨_, _, h, _⟩
  · exact .inr ⟨h, by decide⟩
  · exact .inr ⟨h, by decide⟩
  · exact .inl h
theorem law_StepsMore {w : World} {a0 : PV} {p0 : Plt} (h : IsP (· < w.heap.size) w a0 p0) (hf : p0.Fits) (_hc : a0.Caps p0) {x1 : Int} (_b1 : I64 x1) {x2 : Int} (_b2 : I64 x2) :
    Cal Try.prog 5 [a0.val p0, .int .i64 x1, .int .i64 x2] w fun v w' => v = .bool true ∧ Below w.heap.size w w' := by
  refine cal_keep_StepsMore (by simp) 100000 fun Q hQ => ?_
  simp (disch := first | with_reducible assumption | omega) only [push_cast, x_blk, x_cd, ↓reduceIte, Nat.reduceEqDiff, List.map_cons, List.map_nil, Int.reduceEq, Int.lt_irrefl, F_keep_StepsMore]
  refine blk_of (box_agg _ (a0.cells p0)) ?_
  intro w1 k1 b1 z1
  simp (disch := first | with_reducible assumption | omega) only [push_cast, x_blk, x_cd, ↓reduceIte, Nat.reduceEqDiff, List.map_cons, List.map_nil, Int.reduceEq, Int.lt_irrefl, k1.pA']
  refine call_of (current_Leak (h.up b1) hf) ?_
  rintro v w2 ⟨bl, O2, co2, o2, el, rfl, hO2, ho2, b2, hlk⟩
  replace k1 := k1.below b2 k1.lt
  have bb := b1.trans (b2.mono b1.size)
  replace hO2 : Ints (· < w2.heap.size) w2 O2 o2 := hO2.mono fun b hb => hb.2
  simp (disch := first | with_reducible assumption | omega) only [push_cast, x_blk, x_cd, ↓reduceIte, Nat.reduceEqDiff, List.map_cons, List.map_nil, Int.reduceEq, Int.lt_irrefl, k1.pA']
  refine call_of (steps_Leak (h.up bb) hf 0) ?_
  rintro v w3 ⟨bs, U, cu, u, V, cv, v', es, rfl, hU, _, nu, _, b3, hst⟩
  replace k1 := k1.below b3 k1.lt
  replace hO2 := hO2.up b3
  replace bb := bb.trans (b3.mono bb.size)
  by_cases p1 : p0.May
  case neg =>
    rcases hlk with ⟨_, rfl, rfl, rfl⟩ | ⟨hh, _⟩
    case inr => exact absurd hh p1
    rcases hst with ⟨_, rfl, rfl, rfl, rfl⟩ | ⟨hh, _⟩ | ⟨hh, _⟩
    case inr.inl => exact absurd hh p1
    case inr.inr => exact absurd hh p1
    simp (disch := first | with_reducible assumption | omega) only [push_cast, x_blk, x_cd, ↓reduceIte, Nat.reduceEqDiff, List.map_cons, List.map_nil, Int.reduceEq, Int.lt_irrefl, eq_self, bne_self_eq_false, List.length_nil]
    refine call_of (keep_same (l := []) (m := []) hO2 hU co2 cu (by simp)) ?_
    rintro v w4 ⟨rfl, s4⟩
    replace k1 := k1.same s4
    replace bb := bb.trans (s4.below _)
    simp (disch := first | with_reducible assumption | omega) only [push_cast, x_blk, x_cd, ↓reduceIte, Nat.reduceEqDiff, List.map_cons, List.map_nil, Int.reduceEq, Int.lt_irrefl, eq_self, k1.pA', List.length_nil, Int.lt_irrefl]
    refine call_of (current_May (h.up bb) hf) ?_
    rintro v w5 ⟨rfl, b5⟩
    replace k1 := k1.below b5 k1.lt
    replace bb := bb.trans (b5.mono bb.size)
    simp (disch := first | with_reducible assumption | omega) only [push_cast, x_blk, x_cd, ↓reduceIte, Nat.reduceEqDiff, List.map_cons, List.map_nil, Int.reduceEq, Int.lt_irrefl, decide_eq_false p1, eq_self, bne_self_eq_false, k1.pA']
    refine call_of (steps_Leak (h.up bb) hf x1) ?_
    rintro v w5 ⟨ba, _, ca, ua, _, cva, va, ea, rfl, _, _, _, _, b5, hsa⟩
    replace k1 := k1.below b5 k1.lt
    replace bb := bb.trans (b5.mono bb.size)
    simp (disch := first | with_reducible assumption | omega) only [push_cast, x_blk, x_cd, ↓reduceIte, Nat.reduceEqDiff, List.map_cons, List.map_nil, Int.reduceEq, Int.lt_irrefl, k1.pA']
    refine call_of (steps_Leak (h.up bb) hf x2) ?_
    rintro v w6 ⟨bx, _, cb, ub, _, cvb, vb, eb, rfl, _, _, _, _, b6, hsb⟩
    replace bb := bb.trans (b6.mono bb.size)
    clear k1 b5 b6
    rcases stp_e hsa with rfl | ⟨rfl, hea⟩
    case inr =>
      simp (disch := first | with_reducible assumption | omega) only [push_cast, x_blk, x_cd, ↓reduceIte, Nat.reduceEqDiff, List.map_cons, List.map_nil, Int.reduceEq, Int.lt_irrefl, hea, eq_self]
      exact fin_1 (hQ _ _ ⟨(by simp only [push_cast, ↓reduceIte, Nat.reduceEqDiff, Int.reduceEq]), bb⟩)
    rcases stp_e hsb with rfl | ⟨rfl, heb⟩
    case inr =>
      cases ba <;> simp (disch := first | with_reducible assumption | omega) only [push_cast, x_blk, x_cd, ↓reduceIte, Nat.reduceEqDiff, List.map_cons, List.map_nil, Int.reduceEq, Int.lt_irrefl, heb, eq_self] <;> exact fin_1 (hQ _ _ ⟨(by simp only [push_cast, ↓reduceIte, Nat.reduceEqDiff, Int.reduceEq]), bb⟩)
    by_cases hw : x2 = -1 ∨ (0 ≤ x1 ∧ x1 ≤ x2)
    case neg =>
      have q1 : ¬ x2 = -1 := fun hh => hw (.inl hh)
      by_cases q2 : 0 ≤ x1
      · have q3 : ¬ x1 ≤ x2 := fun hh => hw (.inr ⟨q2, hh⟩)
        simp (disch := first | with_reducible assumption | omega) only [push_cast, x_blk, x_cd, ↓reduceIte, Nat.reduceEqDiff, List.map_cons, List.map_nil, Int.reduceEq, Int.lt_irrefl, eq_self, q1, q2, q3]
        exact fin_1 (hQ _ _ ⟨(by simp only [push_cast, ↓reduceIte, Nat.reduceEqDiff, Int.reduceEq]), bb⟩)
      · simp (disch := first | with_reducible assumption | omega) only [push_cast, x_blk, x_cd, ↓reduceIte, Nat.reduceEqDiff, List.map_cons, List.map_nil, Int.reduceEq, Int.lt_irrefl, eq_self, q1, q2]
        exact fin_1 (hQ _ _ ⟨(by simp only [push_cast, ↓reduceIte, Nat.reduceEqDiff, Int.reduceEq]), bb⟩)
    cases ba with
    | false =>
      by_cases q1 : x2 = -1
      · simp (disch := first | with_reducible assumption | omega) only [push_cast, x_blk, x_cd, ↓reduceIte, Nat.reduceEqDiff, List.map_cons, List.map_nil, Int.reduceEq, Int.lt_irrefl, eq_self, q1]
        exact fin_1 (hQ _ _ ⟨(by simp only [push_cast, ↓reduceIte, Nat.reduceEqDiff, Int.reduceEq]), bb⟩)
      · have q2 := (hw.resolve_left q1).1
        have q3 := (hw.resolve_left q1).2
        simp (disch := first | with_reducible assumption | omega) only [push_cast, x_blk, x_cd, ↓reduceIte, Nat.reduceEqDiff, List.map_cons, List.map_nil, Int.reduceEq, Int.lt_irrefl, eq_self, q1, q2, q3]
        exact fin_1 (hQ _ _ ⟨(by simp only [push_cast, ↓reduceIte, Nat.reduceEqDiff, Int.reduceEq]), bb⟩)
    | true =>
      obtain rfl := stp_more hsa hsb hw rfl
      by_cases q1 : x2 = -1
      · simp (disch := first | with_reducible assumption | omega) only [push_cast, x_blk, x_cd, ↓reduceIte, Nat.reduceEqDiff, List.map_cons, List.map_nil, Int.reduceEq, Int.lt_irrefl, eq_self, q1]
        exact fin_1 (hQ _ _ ⟨(by simp only [push_cast, ↓reduceIte, Nat.reduceEqDiff, Int.reduceEq]), bb⟩)
      · have q2 := (hw.resolve_left q1).1
        have q3 := (hw.resolve_left q1).2
        simp (disch := first | with_reducible assumption | omega) only [push_cast, x_blk, x_cd, ↓reduceIte, Nat.reduceEqDiff, List.map_cons, List.map_nil, Int.reduceEq, Int.lt_irrefl, eq_self, q1, q2, q3]
        exact fin_1 (hQ _ _ ⟨(by simp only [push_cast, ↓reduceIte, Nat.reduceEqDiff, Int.reduceEq]), bb⟩)
  obtain ⟨rfl, rfl, rfl, rfl, rfl⟩ := stp_zero p1 hlk hst
  simp (disch := first | with_reducible assumption | omega) only [push_cast, x_blk, x_cd, ↓reduceIte, Nat.reduceEqDiff, List.map_cons, List.map_nil, Int.reduceEq, Int.lt_irrefl, eq_self, bne_self_eq_false]
  refine call_of (keep_same hO2 hU co2 cu (by omega)) ?_
  rintro v w4 ⟨rfl, s4⟩
  replace k1 := k1.same s4
  replace bb := bb.trans (s4.below _)
  simp (disch := first | with_reducible assumption | omega) only [push_cast, x_blk, x_cd, ↓reduceIte, Nat.reduceEqDiff, List.map_cons, List.map_nil, Int.reduceEq, Int.lt_irrefl, eq_self, k1.pA', List.length_nil, Int.lt_irrefl]
  refine call_of (current_May (h.up bb) hf) ?_
  rintro v w5 ⟨rfl, b5⟩
  replace k1 := k1.below b5 k1.lt
  replace bb := bb.trans (b5.mono bb.size)
  simp (disch := first | with_reducible assumption | omega) only [push_cast, x_blk, x_cd, ↓reduceIte, Nat.reduceEqDiff, List.map_cons, List.map_nil, Int.reduceEq, Int.lt_irrefl, decide_eq_true p1, eq_self, bne_self_eq_false, k1.pA']
  refine call_of (steps_Leak (h.up bb) hf x1) ?_
  rintro v w5 ⟨ba, _, ca, ua, _, cva, va, ea, rfl, _, _, _, _, b5, hsa⟩
  replace k1 := k1.below b5 k1.lt
  replace bb := bb.trans (b5.mono bb.size)
  simp (disch := first | with_reducible assumption | omega) only [push_cast, x_blk, x_cd, ↓reduceIte, Nat.reduceEqDiff, List.map_cons, List.map_nil, Int.reduceEq, Int.lt_irrefl, k1.pA']
  refine call_of (steps_Leak (h.up bb) hf x2) ?_
  rintro v w6 ⟨bx, _, cb, ub, _, cvb, vb, eb, rfl, _, _, _, _, b6, hsb⟩
  replace bb := bb.trans (b6.mono bb.size)
  clear k1 b5 b6
  rcases stp_e hsa with rfl | ⟨rfl, hea⟩
  case inr =>
    simp (disch := first | with_reducible assumption | omega) only [push_cast, x_blk, x_cd, ↓reduceIte, Nat.reduceEqDiff, List.map_cons, List.map_nil, Int.reduceEq, Int.lt_irrefl, hea, eq_self]
    exact fin_1 (hQ _ _ ⟨(by simp only [push_cast, ↓reduceIte, Nat.reduceEqDiff, Int.reduceEq]), bb⟩)
  rcases stp_e hsb with rfl | ⟨rfl, heb⟩
  case inr =>
    cases ba <;> simp (disch := first | with_reducible assumption | omega) only [push_cast, x_blk, x_cd, ↓reduceIte, Nat.reduceEqDiff, List.map_cons, List.map_nil, Int.reduceEq, Int.lt_irrefl, heb, eq_self] <;> exact fin_1 (hQ _ _ ⟨(by simp only [push_cast, ↓reduceIte, Nat.reduceEqDiff, Int.reduceEq]), bb⟩)
  by_cases hw : x2 = -1 ∨ (0 ≤ x1 ∧ x1 ≤ x2)
  case neg =>
    have q1 : ¬ x2 = -1 := fun hh => hw (.inl hh)
    by_cases q2 : 0 ≤ x1
    · have q3 : ¬ x1 ≤ x2 := fun hh => hw (.inr ⟨q2, hh⟩)
      simp (disch := first | with_reducible assumption | omega) only [push_cast, x_blk, x_cd, ↓reduceIte, Nat.reduceEqDiff, List.map_cons, List.map_nil, Int.reduceEq, Int.lt_irrefl, eq_self, q1, q2, q3]
      exact fin_1 (hQ _ _ ⟨(by simp only [push_cast, ↓reduceIte, Nat.reduceEqDiff, Int.reduceEq]), bb⟩)
    · simp (disch := first | with_reducible assumption | omega) only [push_cast, x_blk, x_cd, ↓reduceIte, Nat.reduceEqDiff, List.map_cons, List.map_nil, Int.reduceEq, Int.lt_irrefl, eq_self, q1, q2]
      exact fin_1 (hQ _ _ ⟨(by simp only [push_cast, ↓reduceIte, Nat.reduceEqDiff, Int.reduceEq]), bb⟩)
  cases ba with
  | false =>
    by_cases q1 : x2 = -1
    · simp (disch := first | with_reducible assumption | omega) only [push_cast, x_blk, x_cd, ↓reduceIte, Nat.reduceEqDiff, List.map_cons, List.map_nil, Int.reduceEq, Int.lt_irrefl, eq_self, q1]
      exact fin_1 (hQ _ _ ⟨(by simp only [push_cast, ↓reduceIte, Nat.reduceEqDiff, Int.reduceEq]), bb⟩)
    · have q2 := (hw.resolve_left q1).1
      have q3 := (hw.resolve_left q1).2
      simp (disch := first | with_reducible assumption | omega) only [push_cast, x_blk, x_cd, ↓reduceIte, Nat.reduceEqDiff, List.map_cons, List.map_nil, Int.reduceEq, Int.lt_irrefl, eq_self, q1, q2, q3]
      exact fin_1 (hQ _ _ ⟨(by simp only [push_cast, ↓reduceIte, Nat.reduceEqDiff, Int.reduceEq]), bb⟩)
  | true =>
    obtain rfl := stp_more hsa hsb hw rfl
    by_cases q1 : x2 = -1
    · simp (disch := first | with_reducible assumption | omega) only [push_cast, x_blk, x_cd, ↓reduceIte, Nat.reduceEqDiff, List.map_cons, List.map_nil, Int.reduceEq, Int.lt_irrefl, eq_self, q1]
      exact fin_1 (hQ _ _ ⟨(by simp only [push_cast, ↓reduceIte, Nat.reduceEqDiff, Int.reduceEq]), bb⟩)
    · have q2 := (hw.resolve_left q1).1
      have q3 := (hw.resolve_left q1).2
      simp (disch := first | with_reducible assumption | omega) only [push_cast, x_blk, x_cd, ↓reduceIte, Nat.reduceEqDiff, List.map_cons, List.map_nil, Int.reduceEq, Int.lt_irrefl, eq_self, q1, q2, q3]
      exact fin_1 (hQ _ _ ⟨(by simp only [push_cast, ↓reduceIte, Nat.reduceEqDiff, Int.reduceEq]), bb⟩)
end Go.Proofs.Ytcjinmgieiebbaa
