/-
  What lies in blocks that hold elements of some types, or that lay there at first, is kept while rows of other types grow. No program in sight.
-/
import Derived.Test.YtpinjiikiaakaaaZDet
namespace Go.Proofs.Ytpinjiikiaakaaa
set_option linter.unusedSimpArgs false
set_option linter.unusedVariables false
set_option linter.unusedSectionVars false
open Go.RowKit

def TyB (es : List Nat) (B : Nat) (w : World) (b : Nat) : Prop := b < w.heap.size ∧ (b < B ∨ ∃ e, e ∈ es ∧ ∃ cs r, w.heap[b]? = some (.cells cs e r))
structure KeepT (es : List Nat) (B : Nat) (w w' : World) : Prop where
  size : w.heap.size ≤ w'.heap.size
  at_ : ∀ b, TyB es B w b → w'.heap[b]? = w.heap[b]?
section
variable {es : List Nat} {B : Nat} {w w' : World} {A : Option Addr}
theorem TyB.lt {b : Nat} (h : TyB es B w b) : b < w.heap.size := h.1
theorem KeepT.tyb (k : KeepT es B w w') {b : Nat} (h : TyB es B w b) : TyB es B w' b := by
  refine ⟨Nat.lt_of_lt_of_le h.1 k.size, ?_⟩
  rcases h.2 with h2 | ⟨e, he, cs, r, h3⟩
  · exact .inl h2
  · exact .inr ⟨e, he, cs, r, by rw [k.at_ b h]; exact h3⟩
theorem KeepT.refl (w : World) : KeepT es B w w := ⟨Nat.le_refl _, fun _ _ => rfl⟩
theorem KeepT.trans {w2 : World} (h : KeepT es B w w') (k : KeepT es B w' w2) : KeepT es B w w2 := ⟨Nat.le_trans h.size k.size, fun b hb => (k.at_ b (h.tyb hb)).trans (h.at_ b hb)⟩
theorem KeepT.below (h : Below w.heap.size w w') : KeepT es B w w' := ⟨h.size, fun b hb => h.block b hb.1⟩
theorem KeepT.same (h : Same w w') : KeepT es B w w' := .below (h.below _)
theorem KeepT.grew {B' e' sz c n : Nat} {xs : List Value} (ho : Own B' e' sz w A c n xs) (hB : B ≤ B') (hne : e' ∉ es) (hg : Grew w w' A) : KeepT es B w w' :=
  ⟨hg.by_.size, fun b hb => hg.by_.block b hb.1 (by
    rcases ho.own.2 with ⟨h0, _⟩ | ⟨g, cap, cur, hv, hB', hh, _⟩
    · injection h0 with h0; subst h0; simp
    · injection hv with hv
      subst hv
      simp only [Option.map_some, ne_eq, Option.some.injEq]
      rintro rfl
      rcases hb.2 with h1 | ⟨e, he, cs, r, h1⟩
      · omega
      · rw [h1] at hh
        injection hh with hh
        injection hh with _ ht
        exact hne (ht ▸ he))⟩
theorem KeepT.grewB {g i t : Nat} {cs : List Value} (hk : Blk w g t cs) (hB : B ≤ g) (hne : t ∉ es) (hg : Grew w w' (some ⟨g, i, none⟩)) : KeepT es B w w' :=
  ⟨hg.by_.size, fun b hb => hg.by_.block b hb.1 (by
    simp only [Option.map_some, ne_eq, Option.some.injEq]
    rintro rfl
    rcases hb.2 with h1 | ⟨e, he, cs, r, h1⟩
    · omega
    · unfold Blk at hk
      rw [h1] at hk
      injection hk with hh
      injection hh with _ ht
      exact hne (ht ▸ he))⟩
theorem Ints.keepT {l : List Int} (h : Ints (TyB es B w) w A l) (k : KeepT es B w w') : Ints (TyB es B w') w' A l := h.keep' fun b hb => ⟨k.at_ b hb, k.tyb hb⟩
theorem Recs.keepT {α : Type} {enc : α → List Value} {sz : Nat} {l : List α} (h : Recs enc sz (TyB es B w) w A l) (k : KeepT es B w w') : Recs enc sz (TyB es B w') w' A l := h.keep' fun b hb => ⟨k.at_ b hb, k.tyb hb⟩
theorem Ints.of_arg {l : List Int} (h : Ints (· < B) w A l) (hB : B ≤ w.heap.size) : Ints (TyB es B w) w A l := h.mono fun _ hb => ⟨Nat.lt_of_lt_of_le hb hB, .inl hb⟩
theorem RowT.tyb {e : Nat} {l : List Int} (h : RowT B e w A l) (he : e ∈ es) : Ints (TyB es B w) w A l := h.ints.mono fun _ hb => ⟨hb.1, hb.2.imp id fun ⟨cs, r, hh⟩ => ⟨e, he, cs, r, hh⟩⟩
theorem Own.tyb {B' e sz c n : Nat} {xs : List Value} (h : Own B' e sz w A c n xs) (he : e ∈ es) {b : Nat} (hb : A.map (·.block) = some b) : TyB es B w b := by
  refine ⟨h.ltB hb.symm, .inr ⟨e, he, ?_⟩⟩
  rcases h.own.2 with ⟨h0, _⟩ | ⟨g, cap, cur, hv, hB', hh, _⟩
  · injection h0 with h0; subst h0; cases hb
  · injection hv with hv
    subst hv
    injection hb with hb
    simp only at hb
    subst hb
    exact ⟨_, _, hh⟩
theorem OwnI.tyb {B' e c : Nat} {l : List Int} (h : OwnI B' e w A c l) (he : e ∈ es) : Ints (TyB es B w) w A l := (OwnI.ints h).mono fun _ hb => Own.tyb h he hb.2
theorem OwnR.tyb {α : Type} {enc : α → List Value} {B' e sz c : Nat} {l : List α} (h : OwnR enc B' e sz w A c l) (E : Enc enc sz) (hs : 0 < sz) (he : e ∈ es) : Recs enc sz (TyB es B w) w A l := (OwnR.recs h E hs).mono fun _ hb => Own.tyb h he hb.2
/-- One of two rows of the same kind grows. -/
theorem Own.far {B1 e sz c n B2 e2 sz2 c2 n2 : Nat} {A2 A2' : Option Addr} {xs ys : List Value} (h : Own B1 e sz w A c n xs) (_ : Own B2 e2 sz2 w A2 c2 n2 ys) (hne : A = none ∨ A.map (·.block) ≠ A2.map (·.block))
    (hA : A2'.map (·.block) = A2.map (·.block) ∨ ∃ g, A2'.map (·.block) = some g ∧ w.heap.size ≤ g) : A = none ∨ A.map (·.block) ≠ A2'.map (·.block) := by
  rcases hne with hne | hne
  · exact .inl hne
  · rcases hA with hA | ⟨g, hg, hz⟩
    · exact .inr (by rw [hA]; exact hne)
    · cases A with
      | none => exact .inl rfl
      | some a =>
        refine .inr fun e => ?_
        rw [hg] at e
        have := h.ltB (b := g) e.symm
        omega
end
end Go.Proofs.Ytpinjiikiaakaaa
