/-
  slices.Backward: by its contract, for a range over a function.
-/
import Derived.Test.YtcjinmgieiebbaaIn
import Derived.Test.YtcjinmgieiebbaaSetAll
import Derived.Test.YtcjinmgieiebbaaIniC
namespace Go.Proofs.Ytcjinmgieiebbaa
set_option linter.unusedSimpArgs false
set_option linter.unusedVariables false
set_option linter.unusedSectionVars false
open Go.RowKit Go.Shelf

attribute [local go_sem] Oper.semAt_some

theorem run_of_val1 {P : Program} {s : Sem Value} {v : Value} {u : World} (h : ∀ (K : Fr → World → Prop) (f : Fr) (d : Option Nat) (w : World), Val1 P K s u f d w = K (updO f d v) w) (w' : World) (hw : Below u.heap.size u w') : s.run P w' = .ok v w' := by
  have h1 := h (fun f _ => f 0 = v) (fun _ => undef) (some 0) u
  have h2 : Val1 P (fun f _ => f 0 = v) s u (fun _ => undef) (some 0) u := by rw [h1]; simp [updO, upd]
  obtain ⟨v', hr, hk⟩ := h2
  simp only [updO, upd, if_true] at hk
  rw [← hk]
  exact hr w' hw

/-- What the range looks at. -/
structure Sees (w : World) (Bn : Nat) (A : Option Addr) (c : Nat) (L : List Int) : Prop where
  blk : Blk w Bn 22 [.slice A L.length c]
  ints : Ints (fun _ => True) w A L
/-- .. where but for one block all is kept. -/
theorem sees_but {n g Bn : Nat} {W W' : World} {A : Option Addr} {c : Nat} {L : List Int} (h : But n g W W') (hB : Bn < n) (hBg : Bn ≠ g) (hA : ∀ b, 0 < L.length → (A.getD default).block = b → b < n ∧ b ≠ g) (hS : Sees W Bn A c L) : Sees W' Bn A c L :=
  ⟨(h.block Bn hB hBg).trans hS.blk, ⟨hS.ints.isSome, fun _ => trivial, fun i hi => by
    have hb := hA _ (by omega) rfl
    rw [← hS.ints.cell i hi]
    exact World.cell?_of_block (by rw [eA_block]; exact h.block _ hb.1 hb.2)⟩⟩
theorem owni_grown {B e : Nat} {A : Option Addr} {c : Nat} {l : List Int} {W W' : World} {row : Option Nat} (h : OwnI B e W A c l) (hg : W.grownBy W' row) (hr : ∀ r, row = some r → ∃ o : Obj, W.heap[r]? = some o ∧ o.isCells = false) : OwnI B e W' A c l := by
  refine ⟨h.own.kept hg ?_⟩
  rcases h.own.2 with ⟨h1, _⟩ | ⟨g, cap, cur, h1, _, hgb, _⟩
  · exact .inl (by rw [h1]; rfl)
  · refine .inr fun e' => ?_
    obtain ⟨o, ho, hc⟩ := hr g (by rw [h1] at e'; simp only [Value.ownBlock] at e'; exact e'.symm)
    rw [hgb] at ho; cases ho; cases hc
theorem blk_grown {g t : Nat} {cs : List Value} {W W' : World} {row : Option Nat} (h : Blk W g t cs) (hg : W.grownBy W' row) (hr : ∀ r, row = some r → ∃ o : Obj, W.heap[r]? = some o ∧ o.isCells = false) : Blk W' g t cs :=
  (hg.block g h.lt (fun e => by
    obtain ⟨o, ho, hc⟩ := hr g e.symm
    rw [show W.heap[g]? = _ from h] at ho
    cases ho; cases hc)).trans h
end Go.Proofs.Ytcjinmgieiebbaa
