/-
  The condition that the program's table of words reads as it is laid gives the table's cells; a string as an argument.
-/
import Derived.Test.YtpinjiikiaakaaaDoorZM10
import Derived.Test.YtpinjiikiaakaaaDoorZM8
import Derived.Test.YtpinjiikiaakaaaDoorRows
import Derived.ProofKit
import Derived.LaidMore
import Derived.OpenShut
import Derived.Stop.Joined
import Derived.ChangeMaps5
namespace Go.Proofs.YtpinjiikiaakaaaDoor
set_option linter.unusedSimpArgs false
set_option linter.unusedVariables false
set_option linter.unusedSectionVars false
open Go.ChangeShapes Go.WideShapes Go.ChangeAt Go.RowKit

theorem gTab : Tryd.prog.globalNamed "jalousie/text.parts" = some 0 := by kernel_rfl
theorem tTab : (Tryd.prog.globals[0]?).map (·.type) = some 50 := by kernel_rfl
abbrev laid1 : List (String × DataW Unit) := [("jalousie/text.parts", Rows.laid_jalousie_text_parts)]
theorem tab_met (os : Os) (args : Array Value) : laidMetH Tryd.prog laid1 ((World.doorLaid Tryd.prog 400 os).forCall (fun _ _ => 0) ⟨#[], args, []⟩).memory :=
  laidMetH_of_parts3 (fuel := 8) (laidMet_of_run' 8 (by kernel_rfl) (by kernel_rfl)) (by kernel_rfl) (by kernel_rfl)
theorem lits_tab : (match (Rows.laid_jalousie_text_parts : DataW Unit) with | .agg l => l | _ => []) = partWs.map fun (s : ByteArray) => .lit (.string s.data.toList) := by rfl
theorem tab_of_laid {W : World} (h : laidMetH Tryd.prog laid1 W) : PTab W := by
  rw [MakeChecks.laidMetH_plain _ _ _ (by kernel_rfl)] at h
  obtain ⟨ps, ⟨g0, t0, cs0, f0, p0, q0, hg0, ht0, hv0, hd0, _, _⟩, _, _⟩ := h
  obtain rfl := Option.some.inj (gTab.symm.trans hg0)
  obtain rfl := Option.some.inj (tTab.symm.trans ht0)
  obtain ⟨xs, m1, rfl, hx1, hlen, hn3, hel⟩ := DataW.trod_array Tryd.underlying50 hd0
  have c3 : Tryd.prog.cellsOf 9 = 1 := by kernel_rfl
  simp only [Prod.mk.injEq] at hx1
  have hxs : xs.map (·.1) = partWs.map fun (s : ByteArray) => DataW.lit (.string s.data.toList) := by
    have := lits_tab
    rw [hx1.1] at this
    exact this
  refine ⟨fun i hi => ?_⟩
  have h0 := hel i hi
  rw [c3] at h0
  have hxi : xs[i]? = some (xs[i]'(by omega)) := List.getElem?_eq_getElem (by omega)
  rw [hxi] at h0
  obtain ⟨s, e1, e2, _⟩ := DataW.trod_string Tryd.underlying9 h0
  have hk : s = partWs.getD i ⟨#[]⟩ := by
    have h1 : (xs.map (·.1))[i]? = some (DataW.lit (.string s.data.toList)) := by rw [List.getElem?_map, hxi, e2]; rfl
    rw [hxs, List.getElem?_map] at h1
    have h2 : partWs[i]? = some (partWs.getD i ⟨#[]⟩) := by rw [List.getD_eq_getElem?_getD, List.getElem?_eq_getElem (show i < partWs.length from hi)]; rfl
    rw [h2] at h1
    simp only [Option.map_some, Option.some.injEq, DataW.lit.injEq, Lit.string.injEq] at h1
    generalize partWs.getD i ⟨#[]⟩ = q at h1
    obtain ⟨⟨l⟩⟩ := s
    obtain ⟨⟨m⟩⟩ := q
    simp only at h1
    rw [h1]
  have h3 := World.var?_cell hg0 hv0 i
  rw [h3, ← hk]
  have h4 : (cs0.toList.drop (i * 1)).take 1 = [.string s] := e1
  rw [Nat.mul_one] at h4
  have h5 : cs0.toList[i]? = some (.string s) := by
    have := congrArg (fun l : List Value => l[0]?) h4
    simpa [List.getElem?_take, List.getElem?_drop] using this
  simpa using h5
end Go.Proofs.YtpinjiikiaakaaaDoor
