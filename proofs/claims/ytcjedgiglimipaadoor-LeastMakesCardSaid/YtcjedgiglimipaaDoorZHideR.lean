/-
  Chapter 5's reference: the machine of what is seen: by its contract.
-/
import Derived.Test.YtcjedgiglimipaaDoorZRef5
import Derived.Test.YtcjedgiglimipaaDoorZSame
namespace Go.Proofs.YtcjedgiglimipaaDoor
set_option linter.unusedSimpArgs false
set_option linter.unusedVariables false
set_option linter.unusedSectionVars false
open Go.RowKit

theorem row_lenH {l : List Int} {b : Int} (h : IsRow l b) : l.length ≤ b.toNat := by
  have := nodup_nat_len b.toNat (l.map Int.toNat) (by
    rw [List.nodup_iff_pairwise_ne, List.pairwise_map]
    exact (List.Pairwise.imp (R := (· < ·)) (S := (· ≠ ·)) (fun h => by omega) h.strict).imp_of_mem fun {x y} hx hy hxy e => hxy (by have := h.mem hx; have := h.mem hy; omega)) fun x hx => by
    obtain ⟨y, hy, rfl⟩ := List.mem_map.1 hx
    have := h.mem hy; omega
  simpa using this
end Go.Proofs.YtcjedgiglimipaaDoor
