/-
  The library's slices.Reverse on a row of one's own, by the shelf's contract.
-/
import Derived.Test.YtiabkafgmanhiaaDoorOwn
import Derived.Test.YtiabkafgmanhiaaDoorIr
import Derived.Shelf.Slices.Reverse
import Derived.Lib.OwnBridge
namespace Go.Proofs.YtiabkafgmanhiaaDoor
set_option linter.unusedSimpArgs false
set_option linter.unusedVariables false
set_option linter.unusedSectionVars false
open Go.RowKit Go.Shelf Go.Lib Go.Sort

def renRev : Go.Shelf.Ren := ⟨fun | 112 => 122 | n => n, fun | 28 => 22 | 3 => 3 | 4 => 4 | 0 => 0 | n => n, fun | n => n⟩
theorem laysRev : Go.Proofs.Lays.n112 Tryd.prog renRev := {
  mixed := by kernel_rfl
  f112 := Tryd.func122.trans (congrArg some (by kernel_rfl))
  t0 := Tryd.underlying0
  a0 := Tryd.isAgg0
  z0 := Tryd.sizeOf0
  v0 := Tryd.zeroValue0
  t3 := Tryd.underlying3
  a3 := Tryd.isAgg3
  z3 := Tryd.sizeOf3
  v3 := Tryd.zeroValue3
  t4 := Tryd.underlying4
  a4 := Tryd.isAgg4
  z4 := Tryd.sizeOf4
  v4 := Tryd.zeroValue4
  t28 := Tryd.underlying22
  a28 := Tryd.isAgg22
  z28 := Tryd.sizeOf22
  v28 := Tryd.zeroValue22 }
theorem slices_Reverse {B e : Nat} {w : World} {A : Option Addr} {c : Nat} {l : List Int} (ho : OwnI B e w A c l) (hl : l.length ≤ 9223372036854775807) :
    Cal Tryd.prog 122 [.slice A l.length c] w fun v w' => v = .tuple #[] ∧ OwnI B e w' A c l.reverse ∧ Grew w w' A := by
  refine ⟨k_slices_Reverse, ?_⟩
  rcases ho.form with ⟨rfl, h0, rfl, _⟩ | ⟨g, rfl, hB, hg⟩
  · have hn : l = [] := List.eq_nil_of_length_eq_zero h0
    subst hn
    exact (Any.slices_Reverse_int_empty laysRev none 0 w).mono fun e W ⟨h1, h2⟩ => ⟨_, h1, rfl, by rw [h2]; exact ho, by rw [h2]; exact ⟨World.grownBy.refl w _⟩⟩
  · have hown : w.ownsRow B e 1 (.slice (some ⟨g, 0, none⟩) l.length c) l.length (l.map (Value.int .i64)) := ho.own
    obtain ⟨g', cap, hv, _, _, _, _, _, hH⟩ := holds_of_ownsRow hown (by intro h; injection h with h; cases h)
    injection hv with hv _ _
    injection hv with hv
    injection hv with hv
    subst hv
    refine (Any.slices_Reverse_int laysRev g 0 c l w hH hl).mono fun e' W ⟨h1, n, h2⟩ => ⟨_, h1, rfl, ?_, ?_⟩
    · subst h2
      have h3 := ownsRow_putRow (q := n) (k := l.length) (ys := l.reverse) hown (by simp) (Nat.le_refl _)
      refine ⟨?_⟩
      rw [List.take_of_length_le (by simp)] at h3
      rw [List.length_reverse]
      exact h3
    · subst h2
      exact ⟨⟨rfl, rfl, rfl, by simp [putRow, mapBlock, Sort.ahead], fun k _ hk => by
        have hk' : g ≠ k := fun e => hk (by rw [e]; rfl)
        simp [putRow, mapBlock, Sort.ahead, Array.getElem?_modify, hk']⟩⟩
end Go.Proofs.YtiabkafgmanhiaaDoor
