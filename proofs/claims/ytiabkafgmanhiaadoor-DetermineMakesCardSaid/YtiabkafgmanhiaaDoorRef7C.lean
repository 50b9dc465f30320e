/-
  Chapter 7: the reference's Without, Within; the program's Within; the law WithinTells.
-/
import Derived.Test.YtiabkafgmanhiaaDoorRef7B
import Derived.Test.YtiabkafgmanhiaaDoorMachC
namespace Go.Proofs.YtiabkafgmanhiaaDoor
set_option linter.unusedSimpArgs false
set_option linter.unusedVariables false
set_option linter.unusedSectionVars false
open Go.RowKit

theorem FirstIs.unique {step : St → Int → St} {found : St → Bool} {es : List Int} {first : St} {b b' : Bool} {o o' : List Int} (h : FirstIs step found es first b o) (h' : FirstIs step found es first b' o') : b = b' ∧ o = o' := by
  have pre : ∀ {k n j : Nat} {q : St × List Int}, k ≤ n → (bIter step es first k)[j]? = some q → (bIter step es first n)[j]? = some q := fun {k n j q} hkn hq => by
    rw [prefix_getElem? (bIter_prefix (step := step) (es := es) first hkn) (by
      rcases Nat.lt_or_ge j (bIter step es first k).length with h1 | h1
      · exact h1
      · rw [List.getElem?_eq_none h1] at hq; cases hq)]
    exact hq
  have one : ∀ {k q n}, (bIter step es first k)[k]? = some q → found q.1 = true → (bIter step es first n).length = n → (∀ (j : Nat) (p : St × List Int), (bIter step es first n)[j]? = some p → found p.1 = false) → False := fun {k q n} hq hf hn hno => by
    rcases Nat.le_total k n with h1 | h1
    · have := hno k q (pre h1 hq); rw [hf] at this; cases this
    · rw [bIter_stop (step := step) (es := es) (by omega) k h1] at hq
      have := hno k q hq; rw [hf] at this; cases this
  rcases h with ⟨rfl, k, q, hq, hf, rfl, hno⟩ | ⟨rfl, rfl, n, hn, hno⟩ <;> rcases h' with ⟨rfl, k', q', hq', hf', rfl, hno'⟩ | ⟨rfl, rfl, n', hn', hno'⟩
  · have : k = k' := by
      rcases Nat.lt_trichotomy k k' with h1 | h1 | h1
      · have := hno' k h1 q (pre (Nat.le_of_lt h1) hq); rw [hf] at this; cases this
      · exact h1
      · have := hno k' h1 q' (pre (Nat.le_of_lt h1) hq'); rw [hf'] at this; cases this
    subst this
    rw [hq] at hq'
    rw [Option.some.inj hq']
    exact ⟨rfl, rfl⟩
  · exact (one hq hf hn' hno').elim
  · exact (one hq' hf' hn hno).elim
  · exact ⟨rfl, rfl⟩

def found2 (ma mb : Mach) (s : St) : Bool := decide (MeetL s.1 ma.ends) && !decide (MeetL s.2 mb.ends)
theorem only_meet (l m : List Int) : decide (0 < ((onlyL l m true).length : Int)) = decide (MeetL l m) := by
  refine decide_eq_decide.2 ?_
  rw [Int.natCast_pos, List.length_pos_iff_exists_mem]
  unfold MeetL onlyL
  simp [List.mem_filter]
theorem only_none (l m : List Int) : decide (((onlyL l m true).length : Int) = 0) = !decide (MeetL l m) := by
  have h := only_meet l m
  by_cases c : MeetL l m
  · rw [decide_eq_true c] at h ⊢
    have := of_decide_eq_true h
    exact decide_eq_false (by omega)
  · rw [decide_eq_false c] at h ⊢
    have := of_decide_eq_false h
    exact decide_eq_true (by omega)

end Go.Proofs.YtiabkafgmanhiaaDoor
