/-
  Chapter 5's reference: the machine of what is seen: by its contract.
-/
import Derived.Test.YtcjedgiglimipaaDoorZRef5
import Derived.Test.YtcjedgiglimipaaDoorZSame
namespace Go.Proofs.YtcjedgiglimipaaDoor
set_option linter.unusedSimpArgs false
set_option linter.unusedVariables false
set_option linter.unusedSectionVars false
open Go.RowKit

def HideRes (m : Mach) (seen : List Int) (w : World) (v : Value) (w' : World) : Prop :=
  ∃ (d : MV) (dm : Mach) (e : Int), v = .tuple #[d.val dm, .int .i64 e] ∧ IsM (· < w'.heap.size) w' d dm ∧ Below w.heap.size w w' ∧
    ((¬ (m.May ∧ IsRow seen m.events) ∧ dm = mach0 ∧ d = mv0 ∧ e = 2) ∨ ((m.May ∧ IsRow seen m.events) ∧ (hideA m seen m.states.toNat).length ≤ 4096 ∧ dm = hideM m seen ∧ e = 0) ∨
      ((m.May ∧ IsRow seen m.events) ∧ 4096 < (hideA m seen m.states.toNat).length ∧ dm = mach0 ∧ d = mv0 ∧ e = 1))
theorem row_oneH {m : Mach} (hm : m.May) (n : Nat) (hn : (n : Int) < m.states) : IsRow [(n : Int)] m.states := IsRow.of_strict (List.pairwise_singleton _ _) fun x hx => by
  have := hm.2.1
  rw [List.mem_singleton.1 hx]; omega
theorem row_lenH {l : List Int} {b : Int} (h : IsRow l b) : l.length ≤ b.toNat := by
  have := nodup_nat_len b.toNat (l.map Int.toNat) (by
    rw [List.nodup_iff_pairwise_ne, List.pairwise_map]
    exact (List.Pairwise.imp (R := (· < ·)) (S := (· ≠ ·)) (fun h => by omega) h.strict).imp_of_mem fun {x y} hx hy hxy e => hxy (by have := h.mem hx; have := h.mem hy; omega)) fun x hx => by
    obtain ⟨y, hy, rfl⟩ := List.mem_map.1 hx
    have := h.mem hy; omega
  simpa using this
end Go.Proofs.YtcjedgiglimipaaDoor
