/-
  Chapter 9: the program's Leak; the laws CurrentTells, CurrentKeeps: by their contracts.
-/
import Derived.Test.YtcjinmgieiebbaaDoorZRef9
namespace Go.Proofs.YtcjinmgieiebbaaDoor
set_option linter.unusedSimpArgs false
set_option linter.unusedVariables false
set_option linter.unusedSectionVars false
open Go.RowKit

theorem row_len {l : List Int} {b : Int} (h : IsRow l b) : l.length ≤ b.toNat := by
  have := nodup_nat_len b.toNat (l.map Int.toNat) (by
    rw [List.nodup_iff_pairwise_ne, List.pairwise_map]
    exact (List.nodup_iff_pairwise_ne.1 (Strict.nodup h.strict)).imp_of_mem fun {x y} hx hy hxy e => hxy (by have := h.mem hx; have := h.mem hy; omega)) fun x hx => by
    obtain ⟨y, hy, rfl⟩ := List.mem_map.1 hx
    have := h.mem hy; omega
  simpa using this
theorem bestF_none {S : Type} [DecidableEq S] {t : S → Bool} {l : List (S × List Int)} (h : ∀ x ∈ l, t x.1 = false) : bestF t l = none := by
  rcases bestF_spec t l with ⟨h', _⟩ | ⟨x, hx, ht, _⟩
  · exact h'
  · rw [h x hx] at ht; cases ht
end Go.Proofs.YtcjinmgieiebbaaDoor
