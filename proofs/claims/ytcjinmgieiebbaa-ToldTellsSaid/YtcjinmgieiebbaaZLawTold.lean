/-
  The law ToldTells: it returns true.
-/
import Derived.Test.YtcjinmgieiebbaaZToldE
namespace Go.Proofs.Ytcjinmgieiebbaa
set_option linter.unusedSimpArgs false
set_option linter.unusedVariables false
set_option linter.unusedSectionVars false
open Go.RowKit

theorem FirstIs.uniqT {step : St → Int → St} {found : St → Bool} {es : List Int} {first : St} {b b' : Bool} {o o' : List Int} (h : FirstIs step found es first b o) (h' : FirstIs step found es first b' o') : b = b' ∧ o = o' := by
  have pre : ∀ {k n j : Nat} {q : St × List Int}, k ≤ n → (bIter step es first k)[j]? = some q → (bIter step es first n)[j]? = some q := fun {k n j q} hkn hq => by
    rw [prefix_getElem? (bIter_prefix (step := step) (es := es) first hkn) (by
      rcases Nat.lt_or_ge j (bIter step es first k).length with h1 | h1
      · exact h1
      · rw [List.getElem?_eq_none h1] at hq; cases hq)]
    exact hq
  have one : ∀ {k q n}, (bIter step es first k)[k]? = some q → found q.1 = true → (bIter step es first n).length = n → (∀ (j : Nat) (p : St × List Int), (bIter step es first n)[j]? = some p → found p.1 = false) → False := fun {k q n} hq hf hn hno => by
    rcases Nat.le_total k n with h1 | h1
    · have := hno k q (pre h1 hq); rw [hf] at this; cases this
    · rw [bIter_stop (step := step) (es := es) (by omega) k h1] at hq
      have := hno k q hq; rw [hf] at this; cases this
  rcases h with ⟨rfl, k, q, hq, hf, rfl, hno⟩ | ⟨rfl, rfl, n, hn, hno⟩ <;> rcases h' with ⟨rfl, k', q', hq', hf', rfl, hno'⟩ | ⟨rfl, rfl, n', hn', hno'⟩
  · have : k = k' := by
      rcases Nat.lt_trichotomy k k' with h1 | h1 | h1
      · have := hno' k h1 q (pre (Nat.le_of_lt h1) hq); rw [hf] at this; cases this
      · exact h1
      · have := hno k' h1 q' (pre (Nat.le_of_lt h1) hq'); rw [hf'] at this; cases this
    subst this
    rw [hq] at hq'
    rw [Option.some.inj hq']
    exact ⟨rfl, rfl⟩
  · exact (one hq hf hn' hno').elim
  · exact (one hq' hf' hn hno).elim
  · exact ⟨rfl, rfl⟩

theorem told_same {m : Mach} {high : List Int} {b b' : Bool} {o o' : List Int} (h : FirstIs (stepTo m (lowE high m.events.toNat)) (foundTo m) (lowE high m.events.toNat) (firstTo m (lowE high m.events.toNat)) b o)
    (h' : FirstIs (stepR m (lowE high m.events.toNat) high) (foundTo m) (lowE high m.events.toNat) (firstTo m (lowE high m.events.toNat)) b' o') : b = b' ∧ o = o' :=
  h.uniqT (h'.congr fun s e he => by
    show stepR _ _ _ _ _ = stepTo _ _ _ _
    unfold stepR stepTo
    rw [stepL_low (mem_lowE.1 he).2])
theorem law_ToldTells {w : World} {a0 : MV} {m0 : Mach} (h : IsM (· < w.heap.size) w a0 m0) (hf : m0.Fits) {A1 : Option Addr} {c1 : Nat} {l1 : List Int} (h1 : Ints (· < w.heap.size) w A1 l1) (_ : ∀ x ∈ l1, I64 x) (n1 : l1.length ≤ 17592186043904) (_ : l1.length ≤ c1) :
    Cal Try.prog 3 [a0.val m0, .slice A1 l1.length c1] w fun v w' => v = .bool true ∧ Below w.heap.size w w' := by
  refine cal_law_ToldTells (by simp) 100000 fun Q hQ => ?_
  simp (disch := first | with_reducible assumption | omega) only [push_cast, x_blk, x_cd, ↓reduceIte, Nat.reduceEqDiff, List.map_cons, List.map_nil, Int.reduceEq, Int.lt_irrefl, F_law_ToldTells]
  refine blk_of (box_agg _ (a0.cells m0)) ?_
  intro w1 k1 b1 z1
  simp (disch := first | with_reducible assumption | omega) only [push_cast, x_blk, x_cd, ↓reduceIte, Nat.reduceEqDiff, List.map_cons, List.map_nil, Int.reduceEq, Int.lt_irrefl, k1.mA ty_ag_25 ty_sz_25]
  refine call_of (secret_Told (h.up b1) hf (h1.up b1) n1) ?_
  rintro v w2 ⟨b, O, co, o, e, rfl, oo, b2, ht⟩
  replace k1 := k1.below b2 k1.lt
  have bb := b1.trans (b2.mono b1.size)
  have iO := Ints.lt (OwnI.ints oo)
  clear oo b1 b2 z1
  simp (disch := first | with_reducible assumption | omega) only [push_cast, x_blk, x_cd, ↓reduceIte, Nat.reduceEqDiff, List.map_cons, List.map_nil, Int.reduceEq, Int.lt_irrefl, k1.mA ty_ag_25 ty_sz_25]
  refine call_of (ref2_May (h.up bb) hf) ?_
  rintro v w3 ⟨rfl, b3⟩
  replace k1 := k1.below b3 k1.lt
  replace bb := bb.trans (b3.mono bb.size)
  replace iO := iO.up b3
  by_cases p1 : m0.May
  case neg =>
    rcases ht with ⟨_, rfl, rfl, rfl⟩ | ⟨h2, _⟩ | ⟨h2, _⟩
    · simp (disch := first | with_reducible assumption | omega) only [push_cast, x_blk, x_cd, ↓reduceIte, Nat.reduceEqDiff, List.map_cons, List.map_nil, Int.reduceEq, Int.lt_irrefl, p1]
      exact fin_1 (hQ _ _ ⟨(by simp only [push_cast, ↓reduceIte, Nat.reduceEqDiff, Int.reduceEq, List.length_nil]), bb⟩)
    · exact absurd h2.1 p1
    · exact absurd h2.1 p1
  simp (disch := first | with_reducible assumption | omega) only [push_cast, x_blk, x_cd, ↓reduceIte, Nat.reduceEqDiff, List.map_cons, List.map_nil, Int.reduceEq, Int.lt_irrefl, p1, k1.m1 ty_ag_3]
  refine call_of (ref1_Is (h1.up bb) c1 m0.events (by omega)) ?_
  rintro v w4 ⟨rfl, s4⟩
  replace k1 := k1.same s4
  replace bb := bb.trans (s4.below _)
  replace iO := iO.up (s4.below _)
  by_cases p2 : IsRow l1 m0.events
  case neg =>
    rcases ht with ⟨_, rfl, rfl, rfl⟩ | ⟨h2, _⟩ | ⟨h2, _⟩
    · simp (disch := first | with_reducible assumption | omega) only [push_cast, x_blk, x_cd, ↓reduceIte, Nat.reduceEqDiff, List.map_cons, List.map_nil, Int.reduceEq, Int.lt_irrefl, p2]
      exact fin_1 (hQ _ _ ⟨(by simp only [push_cast, ↓reduceIte, Nat.reduceEqDiff, Int.reduceEq, List.length_nil]), bb⟩)
    · exact absurd h2.2 p2
    · exact absurd h2.2 p2
  by_cases p3 : m0.states ≤ 6
  case neg =>
    have q3 : 6 < m0.states := by omega
    rcases ht with ⟨h2, _⟩ | ⟨_, _, rfl, rfl, rfl⟩ | ⟨_, h2, _⟩
    · exact absurd ⟨p1, p2⟩ h2
    · simp (disch := first | with_reducible assumption | omega) only [push_cast, x_blk, x_cd, ↓reduceIte, Nat.reduceEqDiff, List.map_cons, List.map_nil, Int.reduceEq, Int.lt_irrefl, p2, k1.m0 ty_ag_3, q3]
      exact fin_1 (hQ _ _ ⟨(by simp only [push_cast, ↓reduceIte, Nat.reduceEqDiff, Int.reduceEq, List.length_nil]), bb⟩)
    · exact absurd h2 p3
  have q3 : ¬ 6 < m0.states := by omega
  rcases ht with ⟨h2, _⟩ | ⟨_, h2, _⟩ | ⟨_, _, rfl, hfi⟩
  · exact absurd ⟨p1, p2⟩ h2
  · exact absurd p3 h2
  simp (disch := first | with_reducible assumption | omega) only [push_cast, x_blk, x_cd, ↓reduceIte, Nat.reduceEqDiff, List.map_cons, List.map_nil, Int.reduceEq, Int.lt_irrefl, p2, k1.m0 ty_ag_3, q3, k1.mA ty_ag_25 ty_sz_25]
  refine call_of (ref12_Told (h.up bb) hf p1 p3 (h1.up bb) n1) ?_
  rintro v w5 ⟨b', O', co', o', rfl, iO', no', b5, hfi'⟩
  obtain ⟨rfl, rfl⟩ := told_same hfi hfi'
  replace bb := bb.trans (b5.mono bb.size)
  replace iO := iO.up b5
  have hbt : Try.prog.underlying 4 = some .bool := by kernel_rfl
  have hb := fun {K : Fr → World → Prop} (u : World) (f : Fr) (d : Option Nat) (w : World) (xo yo : Operand) (a b : Bool) => bin_eqb (P := Try.prog) (K := K) u f d w 4 xo yo hbt a b
  simp (disch := first | with_reducible assumption | omega) only [push_cast, x_blk, x_cd, ↓reduceIte, Nat.reduceEqDiff, List.map_cons, List.map_nil, Int.reduceEq, Int.lt_irrefl, hb, beq_self_eq_true]
  refine call_of (ref1_Same iO iO' co co' (by omega)) ?_
  rintro v w6 ⟨rfl, s6⟩
  simp (disch := first | with_reducible assumption | omega) only [push_cast, x_blk, x_cd, ↓reduceIte, Nat.reduceEqDiff, List.map_cons, List.map_nil, Int.reduceEq, Int.lt_irrefl, eq_self]
  exact fin_1 (hQ _ _ ⟨(by simp only [push_cast, ↓reduceIte, Nat.reduceEqDiff, Int.reduceEq, decide_true]), bb.trans (s6.below _)⟩)
end Go.Proofs.Ytcjinmgieiebbaa
