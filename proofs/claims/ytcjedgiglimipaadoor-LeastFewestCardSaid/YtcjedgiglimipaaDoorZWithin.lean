/-
  Chapter 7: the program's Least, Within: by their contracts.
-/
import Derived.Test.YtcjedgiglimipaaDoorZWords
import Derived.Test.YtcjedgiglimipaaDoorZSet
import Derived.Test.YtcjedgiglimipaaDoorZMach
namespace Go.Proofs.YtcjedgiglimipaaDoor
set_option linter.unusedSimpArgs false
set_option linter.unusedVariables false
set_option linter.unusedSectionVars false
open Go.RowKit

theorem may_starts' {m : Mach} (hm : m.May) : IsRow m.starts m.states := hm.2.2.2.2.2.1

def U6 (s : St) : Prop := IsRow s.1 6 ∧ IsRow s.2 6
def code2 (s : St) : Nat := codeR s.1 + 64 * codeR s.2
theorem code2_lt (s : St) (h : U6 s) : code2 s < 4096 := by
  have := codeR_lt h.1
  have := codeR_lt h.2
  unfold code2; omega
theorem code2_inj (s t : St) (h : U6 s) (h' : U6 t) (e : code2 s = code2 t) : s = t := by
  have h1 := codeR_lt h.1
  have h2 := codeR_lt h'.1
  unfold code2 at e
  exact Prod.ext (codeR_inj h.1 h'.1 (by omega)) (codeR_inj h.2 h'.2 (by omega))
def step2 (a b : Mach) (s : St) (e : Int) : St := (stepL a s.1 e, stepL b s.2 e)
theorem step2_U6 {a b : Mach} (pa : a.May) (pb : b.May) (na : a.states ≤ 6) (nb : b.states ≤ 6) (s : St) (e : Int) : U6 (step2 a b s e) := ⟨(stepL_row pa _ _).more na, (stepL_row pb _ _).more nb⟩
theorem pairs_few {a b : Mach} (pa : a.May) (pb : b.May) (na : a.states ≤ 6) (nb : b.states ≤ 6) (es : List Int) (k j : Nat) : (bPart (step2 a b) es (a.starts, b.starts) k j).length ≤ 4096 :=
  (bPart_good (U := U6) (fun s _ e _ => step2_U6 pa pb na nb s e) ⟨(may_starts' pa).more na, (may_starts' pb).more nb⟩ k j).len code2 4096 code2_lt code2_inj

end Go.Proofs.YtcjedgiglimipaaDoor
