/-
  Chapters 2 and 9: what unseen events lead to, where a plant may be: the program's Wide, Within, May, First, Next, Seen, Estimate, Tells: by their contracts.
-/
import Derived.Test.YtcjinmgieiebbaaDoorZReachD
import Derived.Test.YtcjinmgieiebbaaDoorZArgs
namespace Go.Proofs.YtcjinmgieiebbaaDoor
set_option linter.unusedSimpArgs false
set_option linter.unusedVariables false
set_option linter.unusedSectionVars false
open Go.RowKit

section
variable {K : Fr → World → Prop} {u w : World} {f : Fr} {d : Option Nat} {g t : Nat} {a : PV} {p : Plt}
theorem Blk.p0 (h : Blk u g t (a.cells p)) : Val1 Tryd.prog K (Instr.loadAt 3 (.pointer (some ⟨g, 0, none⟩))) u f d w = K (updO f d (.int .i64 p.m.states)) w := h.ld ty_ag_3 0 (by simp)
theorem Blk.p1 (h : Blk u g t (a.cells p)) : Val1 Tryd.prog K (Instr.loadAt 3 (.pointer (some ⟨g, 1, none⟩))) u f d w = K (updO f d (.int .i64 p.m.events)) w := h.ld ty_ag_3 1 (by simp)
theorem Blk.p2 (h : Blk u g t (a.cells p)) : Val1 Tryd.prog K (Instr.loadAt 22 (.pointer (some ⟨g, 2, none⟩))) u f d w = K (updO f d (.slice a.m.As p.m.starts.length a.m.cs)) w := h.ld ty_ag_22 2 (by simp)
theorem Blk.p3 (h : Blk u g t (a.cells p)) : Val1 Tryd.prog K (Instr.loadAt 23 (.pointer (some ⟨g, 3, none⟩))) u f d w = K (updO f d (.slice a.m.Aa p.m.arrows.length a.m.ca)) w := h.ld ty_ag_23 3 (by simp)
theorem Blk.p4 (h : Blk u g t (a.cells p)) : Val1 Tryd.prog K (Instr.loadAt 22 (.pointer (some ⟨g, 4, none⟩))) u f d w = K (updO f d (.slice a.m.Ae p.m.ends.length a.m.ce)) w := h.ld ty_ag_22 4 (by simp)
theorem Blk.p5 (h : Blk u g t (a.cells p)) : Val1 Tryd.prog K (Instr.loadAt 22 (.pointer (some ⟨g, 5, none⟩))) u f d w = K (updO f d (.slice a.Ap p.seen.length a.cp)) w := h.ld ty_ag_22 5 (by simp)
theorem Blk.p6 (h : Blk u g t (a.cells p)) : Val1 Tryd.prog K (Instr.loadAt 22 (.pointer (some ⟨g, 6, none⟩))) u f d w = K (updO f d (.slice a.Aq p.secret.length a.cq)) w := h.ld ty_ag_22 6 (by simp)
end
theorem IsP.up {w w' : World} {a : PV} {p : Plt} (h : IsP (· < w.heap.size) w a p) (b : Below w.heap.size w w') : IsP (· < w'.heap.size) w' a p := (h.below b).mono fun _ hl => Nat.lt_of_lt_of_le hl b.size
def Plt.May (p : Plt) : Prop := p.m.May ∧ p.m.states ≤ 6 ∧ IsRow p.seen p.m.events ∧ IsRow p.secret p.m.states
instance (p : Plt) : Decidable p.May := inferInstanceAs (Decidable (_ ∧ _))
/-- A list of seen events. -/
def AllIn (l seen : List Int) : Prop := ∀ x ∈ l, x ∈ seen
instance (l seen : List Int) : Decidable (AllIn l seen) := inferInstanceAs (Decidable (∀ x ∈ l, x ∈ seen))
end Go.Proofs.YtcjinmgieiebbaaDoor
