/-
  Chapter 9's reference: From, Estimate, Tells, Has, Forward, Lesser, Best; the laws' seen, all, best: by their contracts.
-/
import Derived.Test.YtcjinmgieiebbaaDoorZRef5
import Derived.Test.YtcjinmgieiebbaaDoorZCur
import Derived.Test.YtcjinmgieiebbaaDoorZCurB
import Derived.Test.YtcjinmgieiebbaaDoorZLay
namespace Go.Proofs.YtcjinmgieiebbaaDoor
set_option linter.unusedSimpArgs false
set_option linter.unusedVariables false
set_option linter.unusedSectionVars false
open Go.RowKit

structure Kn where
  R : Option Addr
  cr : Nat
  r : List Int
  W : Option Addr
  cw : Nat
  w : List Int
def Kn.cells (p : Kn) : List Value := [.slice p.R p.r.length p.cr, .slice p.W p.w.length p.cw]
def Kn.abs (p : Kn) : List Int × List Int := (p.r, p.w)
/-- What is known, and can be read. -/
structure KnAt (B : Nat) (w : World) (p : Kn) : Prop where
  r : RowT B 3 w p.R p.r
  w : RowT B 3 w p.W p.w
  nr : p.r.length ≤ 256
  nw : p.w.length ≤ 100000
theorem KnAt.below {B : Nat} {w w' : World} {p : Kn} (h : KnAt B w p) (b : Below w.heap.size w w') : KnAt B w' p := ⟨h.r.below b, h.w.below b, h.nr, h.nw⟩
theorem KnAt.grew {B e' sz c n : Nat} {w w' : World} {p : Kn} {A2 : Option Addr} {xs : List Value} (h : KnAt B w p) (ho : Own B e' sz w A2 c n xs) (hne : e' ≠ 3) (hg : Grew w w' A2) : KnAt B w' p := ⟨h.r.grew ho hne hg, h.w.grew ho hne hg, h.nr, h.nw⟩
theorem row6_few {step : List Int → Int → List Int} {es first : List Int} (h0 : IsRow first 6) (hU : ∀ s, IsRow s 6 → ∀ e ∈ es, IsRow (step s e) 6) (k j : Nat) : (bPart step es first k j).length ≤ 64 :=
  (bPart_good (U := fun s => IsRow s 6) hU h0 k j).len codeR 64 (fun _ h => codeR_lt h) (fun _ _ h h' e => codeR_inj h h' e)
theorem nextP_row6 {p : Plt} (h : p.May) (s : List Int) (e : Int) : IsRow (nextP p s e) 6 := (seeL_row h.1 _ _ _).more h.2.1
theorem firstP_row6 {p : Plt} (h : p.May) : IsRow (firstP p) 6 := (firstP_row h.1).more h.2.1
def OptIs (o : Option (List Int)) (b : Bool) (w : List Int) : Prop := match o with
  | some v => b = true ∧ w = v
  | none => b = false ∧ w = []
end Go.Proofs.YtcjinmgieiebbaaDoor
