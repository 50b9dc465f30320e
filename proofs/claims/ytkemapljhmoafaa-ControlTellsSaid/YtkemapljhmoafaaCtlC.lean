/-
  Chapter 14: the reference's Keep: by its contract.
-/
import Derived.Test.YtkemapljhmoafaaCtlB
namespace Go.Proofs.Ytkemapljhmoafaa
set_option linter.unusedSimpArgs false
set_option linter.unusedVariables false
open Go.RowKit

/-- Closed under what is processed: the arrows ahead of i at the k-th state, all arrows at the states ahead of k. -/
def ClosedTo (m : Mach) (free l : List Int) (k i : Nat) : Prop :=
  ∀ (j e : Nat), j < l.length → e < m.arrows.length → (j < k ∨ (j = k ∧ e < i)) → (m.arrows.getD e default).frm = l.getD j 0 → (m.arrows.getD e default).evt ∉ free → (m.arrows.getD e default).to_ ∈ l
structure Walked (m : Mach) (free bad : List Int) (s : Int) (l : List Int) : Prop where
  start : s ∈ l
  nodup : l.Nodup
  range : ∀ x ∈ l, 0 ≤ x ∧ x < m.states
  lost : ∀ x ∈ l, Lost m free bad x → Lost m free bad s
theorem nodup_sub {α : Type} [DecidableEq α] : ∀ (l m : List α), l.Nodup → (∀ x ∈ l, x ∈ m) → l.length ≤ m.length
  | [], _, _, _ => Nat.zero_le _
  | x :: l, m, h, hs => by
    have hx := hs x (List.mem_cons_self ..)
    have h' := List.nodup_cons.1 h
    have := nodup_sub l (m.erase x) h'.2 fun y hy => by
      have hne : y ≠ x := fun e => h'.1 (e ▸ hy)
      exact (List.mem_erase_of_ne hne).2 (hs y (List.mem_cons_of_mem _ hy))
    rw [List.length_erase_of_mem hx] at this
    have := List.length_pos_of_mem hx
    simp only [List.length_cons]
    omega
theorem nodup_len {l : List Int} (h : l.Nodup) (hr : ∀ x ∈ l, 0 ≤ x ∧ x < 256) : l.length ≤ 256 := by
  have := nodup_sub l ((List.range 256).map fun (n : Nat) => (n : Int)) h fun x hx => by
    have := hr x hx
    exact List.mem_map.2 ⟨x.toNat, List.mem_range.2 (by omega), by omega⟩
  simpa using this
theorem lost_iff {m : Mach} {free bad l : List Int} {s : Int} (hw : Walked m free bad s l) (hc : ClosedTo m free l l.length 0) : Lost m free bad s ↔ ∃ x ∈ l, x ∈ bad := by
  constructor
  · intro hl
    have key : ∀ x, Lost m free bad x → x ∈ l → ∃ x ∈ l, x ∈ bad := by
      intro x hx
      induction hx with
      | base x hb => exact fun h => ⟨x, h, hb⟩
      | step y hy he _ ih =>
        intro h
        obtain ⟨e, hel, rfl⟩ := (mem_iff_getD m.arrows default y).1 hy
        obtain ⟨j, hj, hje⟩ := (mem_iff_getD l 0 _).1 h
        exact ih (hc j e hj hel (.inl hj) hje.symm he)
    exact key s hl hw.start
  · rintro ⟨x, hx, hb⟩
    exact hw.lost x hx (.base x hb)

/-- The walk's list grows by a state that is come to. -/
theorem Walked.snoc {m : Mach} {free bad l : List Int} {s : Int} (h : Walked m free bad s l) {y : Arr} (hy : y ∈ m.arrows) (hf : y.frm ∈ l) (he : y.evt ∉ free) (hn : y.to_ ∉ l) (hr : 0 ≤ y.to_ ∧ y.to_ < m.states) : Walked m free bad s (l ++ [y.to_]) := by
  refine ⟨List.mem_append_left _ h.start, ?_, fun x hx => ?_, fun x hx hl => ?_⟩
  · exact List.nodup_append.2 ⟨h.nodup, by simp, fun a ha b hb e => by
      have e2 : b = y.to_ := by simpa using hb
      exact hn (e2 ▸ e ▸ ha)⟩
  · rcases List.mem_append.1 hx with hx | hx
    · exact h.range x hx
    · have : x = y.to_ := by simpa using hx
      rw [this]; exact hr
  · rcases List.mem_append.1 hx with hx | hx
    · exact h.lost x hx hl
    · have e : x = y.to_ := by simpa using hx
      exact h.lost _ hf (.step y hy he (e ▸ hl))
theorem ClosedTo.snoc {m : Mach} {free l : List Int} {k i : Nat} (h : ClosedTo m free l k i) (hk : k < l.length) (x : Int) : ClosedTo m free (l ++ [x]) k i := by
  intro j e hj he hji h1 h2
  have hjl : j < l.length := by omega
  rw [getD_append_left _ _ _ _ hjl] at h1
  exact List.mem_append_left _ (h j e hjl he hji h1 h2)
theorem ClosedTo.next {m : Mach} {free l : List Int} {k i : Nat} (h : ClosedTo m free l k i) (hs : (m.arrows.getD i default).frm = l.getD k 0 → (m.arrows.getD i default).evt ∉ free → (m.arrows.getD i default).to_ ∈ l) : ClosedTo m free l k (i + 1) := by
  intro j e hj he hji h1 h2
  by_cases hh : j = k ∧ e = i
  · obtain ⟨rfl, rfl⟩ := hh
    exact hs h1 h2
  · exact h j e hj he (by omega) h1 h2
theorem ClosedTo.line {m : Mach} {free l : List Int} {k : Nat} (h : ClosedTo m free l k m.arrows.length) : ClosedTo m free l (k + 1) 0 := by
  intro j e hj he hji h1 h2
  exact h j e hj he (by omega) h1 h2

section
variable {P : Program} {K : Fr → World → Prop} {u : World} {f : Fr} {d : Option Nat} {w : World} {t e : TypeId} {xo yo : Operand}
theorem bin_nes (ht : P.underlying t = some (.slice e)) (A : Option Addr) (hA : A.isSome = true) (l c : Nat) : Val1 P K (binS .neq t xo yo (.slice A l c) (.slice none 0 0)) u f d w = K (updO f d (.bool true)) w :=
  val1_of u f d w fun w' _ => by
    cases A with
    | none => cases hA
    | some a =>
      have he : ∀ n, (Op.equalIn (n + 1) t (.slice (some a) l c) (.slice none 0 0)).run P w' = .ok false w' := fun n => by simp [Op.equalIn, run_underlying ht]
      simp only [binS, eqGuard, binOp]
      simp [Op.equal, Op.maxDepth, he 9999]
end

theorem own_one (w : World) (x : Int) (e : TypeId) : OwnI w.heap.size e (w.alloc (.cells [.int .i64 x].toArray e)) (some ⟨w.heap.size, 0, none⟩) 1 [x] :=
  ⟨⟨rfl, .inr ⟨w.heap.size, 1, #[.int .i64 x], rfl, Nat.le_refl _, heap_alloc_new w _, Nat.le_refl _, by decide, rfl, rfl⟩⟩⟩
end Go.Proofs.Ytkemapljhmoafaa
