/-
  Chapter 10: the program's Began, which goes over a list from behind: by its contract.
-/
import Derived.Test.YtcjinmgieiebbaaDoorZBack
namespace Go.Proofs.YtcjinmgieiebbaaDoor
set_option linter.unusedSimpArgs false
set_option linter.unusedVariables false
set_option linter.unusedSectionVars false
open Go.RowKit

def PltRes (o' : List Int) (p : Plt) (ok : Prop) (w : World) (v : Value) (w' : World) : Prop :=
  ∃ O co o e, v = .tuple #[.slice O o.length co, .int .i64 e] ∧ OwnI w.heap.size 3 w' O co o ∧ Below w.heap.size w w' ∧
    (p.May ∧ ok → e = 0 ∧ o = o') ∧ (¬ p.May → e = 2 ∧ o = []) ∧ (p.May ∧ ¬ ok → e = 6 ∧ o = [])
theorem pltRes_own (o' : List Int) (p : Plt) (ok : Prop) (w : World) : OwnFrom w.heap.size (PltRes o' p ok w) := by
  rintro v W W' row ⟨O, co, o, e, rfl, ho, hb, h⟩ hg hr
  exact ⟨O, co, o, e, rfl, owni_grown ho hg (fun r e => (hr r e).2), hb.grown hg hb.size (fun r e => (hr r e).1), h⟩
noncomputable def backF (p : Plt) (l : List (Int × Int)) : List Int := l.foldl (fun s x => backP p s x.2) (allP p)
theorem backF_snoc (p : Plt) (l : List (Int × Int)) (x : Int × Int) : backF p (l ++ [x]) = backP p (backF p l) x.2 := by unfold backF; rw [List.foldl_append]; rfl
theorem backF_rev {p : Plt} {l : List (Int × Int)} {word : List Int} (h : l.map (·.2) = word.reverse) : backF p l = backsL p word := by
  have e : backF p l = (l.map (·.2)).foldl (backP p) (allP p) := by unfold backF; rw [List.foldl_map]
  rw [e, h, List.foldl_reverse]
  rfl

end Go.Proofs.YtcjinmgieiebbaaDoor
