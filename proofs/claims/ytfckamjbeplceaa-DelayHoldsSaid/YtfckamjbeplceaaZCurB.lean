/-
  Chapter 9: the program's Within of sets, Tells, Clone, Places, Leak: by their contracts.
-/
import Derived.Test.YtfckamjbeplceaaZCur
import Derived.Test.YtfckamjbeplceaaZLay
import Derived.Lib.SliceRun
namespace Go.Proofs.Ytfckamjbeplceaa
set_option linter.unusedSimpArgs false
set_option linter.unusedVariables false
set_option linter.unusedSectionVars false
open Go.RowKit

def TellsL (s l : List Int) : Prop := s ≠ [] ∧ AllIn s l
instance (s l : List Int) : Decidable (TellsL s l) := inferInstanceAs (Decidable (_ ∧ _))
/-- A row in a block of one's own that holds elements of the type e. -/
structure RowF (B e : Nat) (w : World) (A : Option Addr) (l : List Int) : Prop where
  ints : Ints (fun b => B ≤ b ∧ b < w.heap.size ∧ ∃ cs r, w.heap[b]? = some (.cells cs e r)) w A l
section
variable {B e : Nat} {w w' : World} {A : Option Addr} {l : List Int}
theorem RowF.nil (B e : Nat) (w : World) (A : Option Addr) : RowF B e w A [] := ⟨Ints.nil _ _ _⟩
theorem RowF.lt (h : RowF B e w A l) : Ints (· < w.heap.size) w A l := h.ints.mono fun _ hb => hb.2.1
theorem RowF.mid (h : RowF B e w A l) : Ints (fun b => B ≤ b ∧ b < w.heap.size) w A l := h.ints.mono fun _ hb => ⟨hb.1, hb.2.1⟩
theorem RowF.keep (h : RowF B e w A l) (hz : w.heap.size ≤ w'.heap.size) (hk : ∀ b, B ≤ b → b < w.heap.size → (∃ cs r, w.heap[b]? = some (.cells cs e r)) → w'.heap[b]? = w.heap[b]?) : RowF B e w' A l := by
  refine ⟨⟨h.ints.isSome, fun hl => ?_, fun i hi => ?_⟩⟩
  · obtain ⟨h0, h1, cs, r, h3⟩ := h.ints.block hl
    exact ⟨h0, by omega, cs, r, by rw [hk _ h0 h1 ⟨cs, r, h3⟩]; exact h3⟩
  · obtain ⟨h0, h1, h2⟩ := h.ints.block (by omega)
    rw [← h.ints.cell i hi]
    exact World.cell?_of_block (by rw [eA_block]; exact hk _ h0 h1 h2)
theorem RowF.below (h : RowF B e w A l) (hb : Below w.heap.size w w') : RowF B e w' A l := h.keep hb.size fun b _ hlt _ => hb.block b hlt
theorem RowF.same (h : RowF B e w A l) (hs : Same w w') : RowF B e w' A l := h.below (hs.below _)
theorem RowF.grew {e' sz c n B' : Nat} {A2 : Option Addr} {xs : List Value} (h : RowF B e w A l) (ho : Own B' e' sz w A2 c n xs) (hne : e' ≠ e) (hg : Grew w w' A2) : RowF B e w' A l :=
  h.keep hg.by_.size fun b _ hlt hor => hg.by_.block b hlt (by
    rcases ho.own.2 with ⟨h0, _⟩ | ⟨g, cap, cur, hv, hB, hh, _⟩
    · injection h0 with h0; subst h0; simp
    · injection hv with hv
      subst hv
      simp only [Option.map_some, ne_eq, Option.some.injEq]
      rintro rfl
      obtain ⟨cs, r, h1⟩ := hor
      rw [h1] at hh
      injection hh with hh
      injection hh with _ ht
      exact hne ht.symm)
theorem RowF.grewB {g t : Nat} {cs : List Value} (h : RowF B e w A l) (hb : Blk w g t cs) (hne : t ≠ e) {i : Nat} (hg : Grew w w' (some ⟨g, i, none⟩)) : RowF B e w' A l :=
  h.keep hg.by_.size fun b _ hlt hor => hg.by_.block b hlt (by
    simp only [Option.map_some, ne_eq, Option.some.injEq]
    rintro rfl
    obtain ⟨cs', r, h1⟩ := hor
    unfold Blk at hb
    rw [hb] at h1
    injection h1 with h1
    injection h1 with _ ht
    exact hne ht)
theorem RowF.grewM {P : Program} {k b0 : Nat} {kv : List (Value × Value)} (h : RowF B e w A l) (hm : MapIs P k w b0 kv) {i : Nat} (hg : Grew w w' (some ⟨b0, i, none⟩)) : RowF B e w' A l :=
  h.keep hg.by_.size fun b _ hlt hor => hg.by_.block b hlt (by
    simp only [Option.map_some, ne_eq, Option.some.injEq]
    rintro rfl
    obtain ⟨cs', r, h1⟩ := hor
    obtain ⟨es, _, hm', _⟩ := hm
    rw [hm'] at h1
    injection h1 with h1
    cases h1)
end

structure Pc where
  s : List Int
  W : Option Addr
  cw : Nat
  w : List Int
def Pc.cells (p : Pc) : List Value := setCells (wordsOf p.s) ++ [.slice p.W p.w.length p.cw]
end Go.Proofs.Ytfckamjbeplceaa
