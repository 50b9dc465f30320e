/-
  Pairs of words in the order in which two lists that tell are told; the least of some. In plain Lean. No program in sight.
-/
import Derived.Test.YtcjinmgieiebbaaDoorZLay
namespace Go.Proofs.YtcjinmgieiebbaaDoor
set_option linter.unusedSimpArgs false
set_option linter.unusedVariables false
set_option linter.unusedSectionVars false
open Go.RowKit

/-- ahead of: together shorter; else the second shorter; else the first lesser; else the second lesser -/
def PLt (a b : List Int × List Int) : Prop :=
  a.1.length + a.2.length < b.1.length + b.2.length ∨ (a.1.length + a.2.length = b.1.length + b.2.length ∧
    (a.2.length < b.2.length ∨ (a.2.length = b.2.length ∧ (Shl a.1 b.1 ∨ (a.1 = b.1 ∧ Shl a.2 b.2)))))
noncomputable instance (a b : List Int × List Int) : Decidable (PLt a b) := Classical.propDecidable _
theorem Shl.len {u v : List Int} (h : Shl u v) : u.length ≤ v.length := Shle.len (.inr h)
theorem PLt.irrefl (a : List Int × List Int) : ¬ PLt a a := by
  rintro (h | ⟨_, h | ⟨_, h | ⟨_, h⟩⟩⟩)
  · omega
  · omega
  · exact Shl.irrefl _ h
  · exact Shl.irrefl _ h
theorem PLt.trans {a b c : List Int × List Int} (h : PLt a b) (k : PLt b c) : PLt a c := by
  rcases h with h | ⟨e, h | ⟨e1, h | ⟨e2, h⟩⟩⟩ <;> rcases k with k | ⟨d, k | ⟨d1, k | ⟨d2, k⟩⟩⟩
  all_goals first
    | exact .inl (by omega)
    | exact .inr ⟨by omega, .inl (by omega)⟩
    | exact .inr ⟨by omega, .inr ⟨by omega, .inl (h.trans k)⟩⟩
    | exact .inr ⟨by omega, .inr ⟨by omega, .inl (d2 ▸ h)⟩⟩
    | exact .inr ⟨by omega, .inr ⟨by omega, .inl (e2 ▸ k)⟩⟩
    | exact .inr ⟨by omega, .inr ⟨by omega, .inr ⟨e2.trans d2, h.trans k⟩⟩⟩
theorem PLt.total (a b : List Int × List Int) : PLt a b ∨ a = b ∨ PLt b a := by
  rcases Nat.lt_trichotomy (a.1.length + a.2.length) (b.1.length + b.2.length) with h | h | h
  · exact .inl (.inl h)
  · rcases Nat.lt_trichotomy a.2.length b.2.length with k | k | k
    · exact .inl (.inr ⟨h, .inl k⟩)
    · rcases Shl.total a.1 b.1 with c | c | c
      · exact .inl (.inr ⟨h, .inr ⟨k, .inl c⟩⟩)
      · rcases Shl.total a.2 b.2 with d | d | d
        · exact .inl (.inr ⟨h, .inr ⟨k, .inr ⟨c, d⟩⟩⟩)
        · exact .inr (.inl (Prod.ext c d))
        · exact .inr (.inr (.inr ⟨h.symm, .inr ⟨k.symm, .inr ⟨c.symm, d⟩⟩⟩))
      · exact .inr (.inr (.inr ⟨h.symm, .inr ⟨k.symm, .inl c⟩⟩))
    · exact .inr (.inr (.inr ⟨h.symm, .inl k⟩))
  · exact .inr (.inr (.inl h))
/-- The least of those with a property; none, where there are none. -/
def BestIs (Q : List Int × List Int → Prop) (o : Option (List Int × List Int)) : Prop :=
  match o with
  | none => ∀ x, ¬ Q x
  | some x => Q x ∧ ∀ y, Q y → ¬ PLt y x
theorem BestIs.unique {Q : List Int × List Int → Prop} {o o' : Option (List Int × List Int)} (h : BestIs Q o) (h' : BestIs Q o') : o = o' := by
  cases o with
  | none => cases o' with
    | none => rfl
    | some x => exact absurd h'.1 (h x)
  | some x => cases o' with
    | none => exact absurd h.1 (h' x)
    | some y =>
      rcases PLt.total x y with c | c | c
      · exact absurd c (h'.2 x h.1)
      · rw [c]
      · exact absurd c (h.2 y h'.1)
theorem BestIs.congr {Q Q' : List Int × List Int → Prop} {o : Option (List Int × List Int)} (h : BestIs Q o) (hq : ∀ x, Q x ↔ Q' x) : BestIs Q' o := by
  cases o with
  | none => exact fun x hx => h x ((hq x).2 hx)
  | some x => exact ⟨(hq x).1 h.1, fun y hy => h.2 y ((hq y).2 hy)⟩
/-- one more -/
theorem BestIs.add {Q : List Int × List Int → Prop} {o : Option (List Int × List Int)} (h : BestIs Q o) (x : List Int × List Int) : BestIs (fun y => Q y ∨ y = x) (if ∀ y, o = some y → PLt x y then some x else o) := by
  by_cases c : ∀ y, o = some y → PLt x y
  · rw [if_pos c]
    refine ⟨.inr rfl, fun y hy => ?_⟩
    rcases hy with hy | rfl
    · cases o with
      | none => exact absurd hy (h y)
      | some z => exact fun hyx => h.2 y hy (hyx.trans (c z rfl))
    · exact PLt.irrefl _
  · rw [if_neg c]
    cases o with
    | none => exact absurd (fun y hy => by cases hy) c
    | some z =>
      refine ⟨.inl h.1, fun y hy => ?_⟩
      rcases hy with hy | rfl
      · exact h.2 y hy
      · exact fun hyz => c fun w hw => by rw [← Option.some.inj hw]; exact hyz
end Go.Proofs.YtcjinmgieiebbaaDoor
