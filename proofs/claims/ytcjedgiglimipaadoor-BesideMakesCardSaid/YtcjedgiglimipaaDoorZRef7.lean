/-
  Chapter 7: the reference's places: by their contracts.
  Chapter 7: the reference's Places, Without, Within: by their contracts.
  Chapter 7: the reference's Without, Within; the program's Within; the law WithinTells.
  Chapter 7: the program's Within and the reference's; the law WithinTells: it returns true.
-/
import Derived.Test.YtcjedgiglimipaaDoorZWithin
import Derived.Test.YtcjedgiglimipaaDoorZRow
import Derived.Test.YtcjedgiglimipaaDoorZMach
namespace Go.Proofs.YtcjedgiglimipaaDoor
set_option linter.unusedSimpArgs false
set_option linter.unusedVariables false
set_option linter.unusedSectionVars false
section
open Go.RowKit

structure P7 where
  A : Option Addr
  ca : Nat
  a : List Int
  B : Option Addr
  cb : Nat
  b : List Int
  W : Option Addr
  cw : Nat
  w : List Int
def P7.cells (p : P7) : List Value := [.slice p.A p.a.length p.ca, .slice p.B p.b.length p.cb, .slice p.W p.w.length p.cw]
structure P7.Good (B e : Nat) (w : World) (p : P7) : Prop where
  a : RowT B e w p.A p.a
  b : RowT B e w p.B p.b
  w : RowT B e w p.W p.w
  n : p.a.length ≤ 2147483648 ∧ p.b.length ≤ 2147483648 ∧ p.w.length ≤ 2147483648
theorem P7.Good.below {B e : Nat} {w w' : World} {p : P7} (h : P7.Good B e w p) (hb : Below w.heap.size w w') : P7.Good B e w' p := ⟨h.a.below hb, h.b.below hb, h.w.below hb, h.n⟩

end

section
open Go.RowKit

end

section
open Go.RowKit

theorem FirstIs.unique {step : St → Int → St} {found : St → Bool} {es : List Int} {first : St} {b b' : Bool} {o o' : List Int} (h : FirstIs step found es first b o) (h' : FirstIs step found es first b' o') : b = b' ∧ o = o' := by
  have pre : ∀ {k n j : Nat} {q : St × List Int}, k ≤ n → (bIter step es first k)[j]? = some q → (bIter step es first n)[j]? = some q := fun {k n j q} hkn hq => by
    rw [prefix_getElem? (bIter_prefix (step := step) (es := es) first hkn) (by
      rcases Nat.lt_or_ge j (bIter step es first k).length with h1 | h1
      · exact h1
      · rw [List.getElem?_eq_none h1] at hq; cases hq)]
    exact hq
  have one : ∀ {k q n}, (bIter step es first k)[k]? = some q → found q.1 = true → (bIter step es first n).length = n → (∀ (j : Nat) (p : St × List Int), (bIter step es first n)[j]? = some p → found p.1 = false) → False := fun {k q n} hq hf hn hno => by
    rcases Nat.le_total k n with h1 | h1
    · have := hno k q (pre h1 hq); rw [hf] at this; cases this
    · rw [bIter_stop (step := step) (es := es) (by omega) k h1] at hq
      have := hno k q hq; rw [hf] at this; cases this
  rcases h with ⟨rfl, k, q, hq, hf, rfl, hno⟩ | ⟨rfl, rfl, n, hn, hno⟩ <;> rcases h' with ⟨rfl, k', q', hq', hf', rfl, hno'⟩ | ⟨rfl, rfl, n', hn', hno'⟩
  · have : k = k' := by
      rcases Nat.lt_trichotomy k k' with h1 | h1 | h1
      · have := hno' k h1 q (pre (Nat.le_of_lt h1) hq); rw [hf] at this; cases this
      · exact h1
      · have := hno k' h1 q' (pre (Nat.le_of_lt h1) hq'); rw [hf'] at this; cases this
    subst this
    rw [hq] at hq'
    rw [Option.some.inj hq']
    exact ⟨rfl, rfl⟩
  · exact (one hq hf hn' hno').elim
  · exact (one hq' hf' hn hno).elim
  · exact ⟨rfl, rfl⟩

def found2 (ma mb : Mach) (s : St) : Bool := decide (MeetL s.1 ma.ends) && !decide (MeetL s.2 mb.ends)
end

section
open Go.RowKit

def WithinSpec (ma mb : Mach) (bo : Bool) (o : List Int) (e : Int) : Prop :=
  (¬ (ma.May ∧ mb.May) → bo = false ∧ o = [] ∧ e = 2) ∧ ((ma.May ∧ mb.May) ∧ ma.events ≠ mb.events → bo = false ∧ o = [] ∧ e = 3) ∧
  ((ma.May ∧ mb.May) ∧ ma.events = mb.events ∧ ¬ (ma.states ≤ 6 ∧ mb.states ≤ 6) → bo = false ∧ o = [] ∧ e = 1) ∧
  ((ma.May ∧ mb.May) ∧ ma.events = mb.events ∧ ma.states ≤ 6 ∧ mb.states ≤ 6 → e = 0 ∧ FirstIs (step2 ma mb) (found2 ma mb) (evs ma.events.toNat) (ma.starts, mb.starts) (!bo) o)
theorem WithinSpec.unique {ma mb : Mach} {bo bo' : Bool} {o o' : List Int} {e e' : Int} (h : WithinSpec ma mb bo o e) (h' : WithinSpec ma mb bo' o' e') : bo = bo' ∧ o = o' ∧ e = e' := by
  by_cases c1 : ma.May ∧ mb.May
  · by_cases c2 : ma.events = mb.events
    · by_cases c3 : ma.states ≤ 6 ∧ mb.states ≤ 6
      · obtain ⟨rfl, h1⟩ := h.2.2.2 ⟨c1, c2, c3⟩
        obtain ⟨rfl, h2⟩ := h'.2.2.2 ⟨c1, c2, c3⟩
        obtain ⟨h3, h4⟩ := h1.unique h2
        refine ⟨?_, h4, rfl⟩
        cases bo <;> cases bo' <;> simp_all
      · obtain ⟨rfl, rfl, rfl⟩ := h.2.2.1 ⟨c1, c2, c3⟩
        obtain ⟨rfl, rfl, rfl⟩ := h'.2.2.1 ⟨c1, c2, c3⟩
        exact ⟨rfl, rfl, rfl⟩
    · obtain ⟨rfl, rfl, rfl⟩ := h.2.1 ⟨c1, c2⟩
      obtain ⟨rfl, rfl, rfl⟩ := h'.2.1 ⟨c1, c2⟩
      exact ⟨rfl, rfl, rfl⟩
  · obtain ⟨rfl, rfl, rfl⟩ := h.1 c1
    obtain ⟨rfl, rfl, rfl⟩ := h'.1 c1
    exact ⟨rfl, rfl, rfl⟩
end
end Go.Proofs.YtcjedgiglimipaaDoor
