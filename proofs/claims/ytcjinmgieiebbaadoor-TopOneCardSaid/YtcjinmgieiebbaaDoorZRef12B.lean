/-
  Chapter 12's reference: After: the places behind a list that was seen.
-/
import Derived.Test.YtcjinmgieiebbaaDoorZRef12
namespace Go.Proofs.YtcjinmgieiebbaaDoor
set_option linter.unusedSimpArgs false
set_option linter.unusedVariables false
set_option linter.unusedSectionVars false
open Go.RowKit

structure PlsAt (w : World) (L : Option Addr) (ps : List Atp) : Prop where
  recs : Recs Atp.cells 2 (· < w.heap.size) w L ps
  row : ∀ x ∈ ps, Ints (· < w.heap.size) w x.R x.s ∧ x.s.length ≤ 256
theorem PlsAt.below {w w' : World} {L : Option Addr} {ps : List Atp} (h : PlsAt w L ps) (b : Below w.heap.size w w') : PlsAt w' L ps :=
  ⟨(h.recs.below b).mono fun _ hb => Nat.lt_of_lt_of_le hb b.size, fun x hx => ⟨(h.row x hx).1.up b, (h.row x hx).2⟩⟩
theorem PlsAt.of {B B2 : Nat} {w : World} {L : Option Addr} {c : Nat} {ps : List Atp} (ho : OwnR Atp.cells B 99 2 w L c ps) (hg : ∀ x ∈ ps, AtAt B2 w x) : PlsAt w L ps :=
  ⟨Recs.lt atEnc (by decide) (OwnR.recs ho atEnc (by decide)), fun x hx => ⟨(hg x hx).r.lt, (hg x hx).n⟩⟩

/-- What are the places behind a list. -/
inductive AftP (m s : Mach) (seen : List Int) : List Int → List Pl → Prop
  | first {l : List Pl} : l = wIterP m s seen (firstPl m s m.starts.length) l.length → AftP m s seen [] l
  | step {v : List Int} {e : Int} {l l' : List Pl} : AftP m s seen v l → l' = wIterP m s seen (sUptoP m s e l l.length) l'.length → AftP m s seen (v ++ [e]) l'
theorem AftP.good {m s : Mach} {seen : List Int} (pm : m.May) (h6 : m.states ≤ 6) (hst : ∀ l e, IsRow l 6 → IsRow (stepL s l e) 6) (hs6 : IsRow s.starts 6) {v : List Int} {l : List Pl} (h : AftP m s seen v l) : GoodPl l := by
  induction h with
  | first e => rw [e]; exact (good_firstPl pm h6 hs6 _).iter pm h6 hst _
  | step _ e ih => rw [e]; exact (GoodPl.supto pm h6 hst ih.2 _).iter pm h6 hst _

end Go.Proofs.YtcjinmgieiebbaaDoor
