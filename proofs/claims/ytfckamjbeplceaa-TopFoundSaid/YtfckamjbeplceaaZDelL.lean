/-
  Two runs of which the same is seen are a walk of twins; who sees more finds faults no later; in plain Lean. No program in sight.
-/
import Derived.Test.YtfckamjbeplceaaZDelM
import Derived.Test.YtfckamjbeplceaaZObs
import Derived.Test.YtfckamjbeplceaaZRef12L
namespace Go.Proofs.Ytfckamjbeplceaa
set_option linter.unusedSimpArgs false
set_option linter.unusedVariables false
set_option linter.unusedSectionVars false
open Go.RowKit

theorem Pth.cons {T : Type} {E : T → T → Nat → Prop} {s t u : T} {n c k : Nat} (he : E s t c) (h : Pth E t u n k) : Pth E s u (c + n) (k + 1) := ((Pth.snoc .nil he).trans h).cast (by omega) (by omega)
/-- Who sees more. -/
theorem more_walk {m : Mach} (hm : m.May) {seen wide faults : List Int} (hs : ∀ e ∈ seen, e ∈ wide) {x y : Tw} {c : Nat} (h : EdW m wide faults x y c) : ∃ k, Pth (EdW m seen faults) x y c k := by
  obtain ⟨e, h0, h1, b, hb, rfl⟩ := (edW_iff hm).1 h
  have of1 : ∀ {x y : Tw} {b : Bool}, (y, b) ∈ leadsE m seen faults x e → EdW m seen faults x y (cnt b) := fun h => (edW_iff hm).2 ⟨e, h0, h1, _, h, rfl⟩
  rcases mem_leadsE.1 hb with ⟨a1, a2, a3, a4, a5, a6⟩ | ⟨a1, a2⟩ | ⟨a1, a2⟩
  · by_cases c : e ∈ seen
    · exact ⟨1, ((Pth.snoc .nil (of1 (b := b) (mem_leadsE.2 (.inl ⟨c, a2, a3, a4, a5, a6⟩))))).cast (by omega) rfl⟩
    · obtain ⟨y1, y2, y3⟩ := y
      simp only at a5
      subst a5
      have e1 : EdW m seen faults x (y1, x.2.1, x.2.2) (cnt b) := of1 (mem_leadsE.2 (.inr (.inl ⟨c, a3, rfl, by rw [decide_eq_false a2, Bool.or_false], a6⟩)))
      have e2 : EdW m seen faults (y1, x.2.1, x.2.2) (y1, y2, x.2.2) (cnt false) := of1 (mem_leadsE.2 (.inr (.inr ⟨c, a2, rfl, a4, rfl, rfl⟩)))
      exact ⟨_, (Pth.snoc (Pth.snoc .nil e1) e2).cast (by show 0 + _ + 0 = _; omega) rfl⟩
  · exact ⟨1, ((Pth.snoc .nil (of1 (b := b) (mem_leadsE.2 (.inr (.inl ⟨fun c => a1 (hs e c), a2⟩)))))).cast (by omega) rfl⟩
  · exact ⟨1, ((Pth.snoc .nil (of1 (b := b) (mem_leadsE.2 (.inr (.inr ⟨fun c => a1 (hs e c), a2⟩)))))).cast (by omega) rfl⟩
theorem more_wk {m : Mach} (hm : m.May) {seen wide faults : List Int} (hs : ∀ e ∈ seen, e ∈ wide) {x : Tw} {n : Nat} (h : Wk (StW m) (EdW m wide faults) x n) : Wk (StW m) (EdW m seen faults) x n := by
  obtain ⟨s, k, hst, hp⟩ := h
  induction hp with
  | nil => exact Wk.start hst
  | snoc _ he ih =>
    obtain ⟨k', hk'⟩ := more_walk hm hs he
    exact (ih).on hk'
theorem more_delay {m : Mach} (hm : m.May) {seen wide faults : List Int} (hs : ∀ e ∈ seen, e ∈ wide) {a b : Int} (ha : DelIs m seen faults a) (hb : DelIs m wide faults b) : a < 0 ∨ (0 ≤ b ∧ b ≤ a) := by
  rcases ha with ⟨rfl, _⟩ | ⟨a0, ha, _⟩
  · exact .inl (by decide)
  · right
    rcases hb with ⟨_, hb⟩ | ⟨b0, _, hb⟩
    · obtain ⟨t, n, hn, hF, hw⟩ := hb a.toNat
      have := ha t n hF (more_wk hm hs hw)
      omega
    · refine ⟨b0, ?_⟩
      rcases hb with rfl | ⟨t, n, hF, hw, rfl⟩
      · exact a0
      · have := ha t n hF (more_wk hm hs hw)
        omega
/-- A machine that goes round in fault. -/
def loopM : Mach := ⟨1, 1, [0], [⟨0, 0, 0⟩], []⟩
theorem loop_delay : DelIs loopM [] [0] (-1) := by
  have e1 : EdW loopM [] [0] (0, 0, false) (0, 0, true) 0 := ⟨false, by decide, rfl⟩
  have e2 : EdW loopM [] [0] (0, 0, true) (0, 0, true) 1 := ⟨true, by decide, rfl⟩
  have w : ∀ n, Wk (StW loopM) (EdW loopM [] [0]) (0, 0, true) n := fun n => by
    induction n with
    | zero => exact (Wk.start (s := (0, 0, false)) ⟨by simp [loopM], by simp [loopM], rfl⟩).step e1
    | succ n ih => exact ih.step e2
  exact .inl ⟨rfl, fun N => ⟨(0, 0, true), N, Nat.le_refl _, rfl, w N⟩⟩
end Go.Proofs.Ytfckamjbeplceaa
