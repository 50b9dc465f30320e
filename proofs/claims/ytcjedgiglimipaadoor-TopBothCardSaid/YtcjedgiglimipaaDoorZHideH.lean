/-
  Chapter 5: the program's Hide: the machine of what is seen: by its contract. A range over a function within two loops.
-/
import Derived.Test.YtcjedgiglimipaaDoorZHideS
import Derived.Test.YtcjedgiglimipaaDoorZHideA
namespace Go.Proofs.YtcjedgiglimipaaDoor
set_option linter.unusedSimpArgs false
set_option linter.unusedVariables false
set_option linter.unusedSectionVars false
open Go.RowKit

section
variable {P : Program} {N : Nat} {ds : List Deferred} {Q : Exit → Act → World → Prop} {a : Act} {w : World} {f : Fr}
end

theorem Clean.keep {Ds : List Nat} {w w' : World} (h : Clean w Ds) (hk : ∀ D ∈ Ds, w'.heap[D]? = w.heap[D]?) : Clean w' Ds := ⟨h.1, fun D hD => (hk D hD).trans (h.2 D hD)⟩
theorem Clean.lt {Ds : List Nat} {w : World} (h : Clean w Ds) {D : Nat} (hD : D ∈ Ds) : D < w.heap.size := (Array.getElem?_eq_some_iff.1 (h.2 D hD)).1
theorem Clean.below {Ds : List Nat} {w w' : World} (h : Clean w Ds) (b : Below w.heap.size w w') : Clean w' Ds := h.keep fun D hD => b.block D (h.lt hD)
theorem Clean.grewB {Ds : List Nat} {w w' : World} (h : Clean w Ds) {g t : Nat} {cs : List Value} (hk : Blk w g t cs) (b : Grew w w' (some ⟨g, 0, none⟩)) : Clean w' Ds := h.keep fun D hD => b.by_.block D (h.lt hD) fun e => by
  have h1 := h.2 D hD
  have h2 : w.heap[g]? = _ := hk
  have e2 : D = g := by simpa using e
  rw [← e2, h1] at h2
  cases h2
theorem Blk.not_mark {w : World} {g t k : Nat} {cs : List Value} {o : Obj} (hk : Blk w g t cs) (h : w.heap[k]? = some o) (ho : o.isCells = false) : k ≠ g := fun e => by
  have h2 : w.heap[g]? = _ := hk
  rw [← e, h] at h2
  cases h2; cases ho
theorem Own.not_mark {w : World} {B e sz c n k : Nat} {A : Option Addr} {xs : List Value} (hk : Own B e sz w A c n xs) {o : Obj} (h : w.heap[k]? = some o) (ho : o.isCells = false) : some k ≠ A.map (·.block) := fun e => by
  rcases hk.own.2 with ⟨h2, _⟩ | ⟨g, cap, cur, h2, _, h3, _⟩
  · injection h2 with h2
    rw [h2] at e; cases e
  · injection h2 with h2
    rw [h2] at e
    have e2 : k = g := by simpa using e
    rw [← e2, h] at h3
    cases h3; cases ho
theorem KeepsFrom.blk {B g t : Nat} {w w' : World} {cs : List Value} (hk : Blk w g t cs) (b : Grew w w' (some ⟨g, 0, none⟩)) : KeepsFrom B w w' :=
  ⟨b.by_.size, fun k o _ h ho => (b.by_.block k (Array.getElem?_eq_some_iff.1 h).1 (fun e => hk.not_mark h ho (by simpa using e))).trans h⟩
theorem KeepsFrom.own {B B' e sz c n : Nat} {w w' : World} {A : Option Addr} {xs : List Value} (hk : Own B' e sz w A c n xs) (b : Grew w w' A) : KeepsFrom B w w' :=
  ⟨b.by_.size, fun k o _ h ho => (b.by_.block k (Array.getElem?_eq_some_iff.1 h).1 (fun e => hk.not_mark h ho e)).trans h⟩
theorem own_grown {B e sz n : Nat} {A : Option Addr} {c : Nat} {xs : List Value} {W W' : World} {row : Option Nat} (h : Own B e sz W A c n xs) (hg : W.grownBy W' row) (hr : ∀ r, row = some r → ∃ o : Obj, W.heap[r]? = some o ∧ o.isCells = false) : Own B e sz W' A c n xs := by
  refine ⟨h.own.kept hg ?_⟩
  rcases h.own.2 with ⟨h1, _⟩ | ⟨g, cap, cur, h1, _, hgb, _⟩
  · exact .inl (by rw [h1]; rfl)
  · refine .inr fun e' => ?_
    obtain ⟨o, ho, hc⟩ := hr g (by rw [h1] at e'; simp only [Value.ownBlock] at e'; exact e'.symm)
    rw [hgb] at ho; cases ho; cases hc
structure HSt (w : World) (a : MV) (m : Mach) (seen : List Int) (L : List (List Int)) (g4 gL gn : Nat) (Ds : List Nat) (v : MV) (ar : List Arr) (W : World) : Prop where
  box : Blk W w.heap.size 25 (a.cells m)
  res : Blk W g4 25 (mv0.cells mach0)
  row : Blk W gL 76 (L.flatMap setC)
  mac : Blk W gn 25 (v.cells ⟨m.states, seen.length, wideL m seen m.starts, ar, m.ends⟩)
  st : OwnI w.heap.size 3 W v.As v.cs (wideL m seen m.starts)
  en : OwnI w.heap.size 3 W v.Ae v.ce m.ends
  ars : OwnR arrCells w.heap.size 85 3 W v.Aa v.ca ar
  bel : Below w.heap.size w W
  cl : Clean W Ds
  ge : ∀ D ∈ Ds, w.heap.size ≤ D
  lt : w.heap.size < g4 ∧ g4 < gL ∧ gL < gn
section
variable {w : World} {a : MV} {m : Mach} {seen : List Int} {L : List (List Int)} {g4 gL gn : Nat} {Ds : List Nat} {v : MV} {ar : List Arr} {W W' : World}
theorem HSt.below (h : HSt w a m seen L g4 gL gn Ds v ar W) (b : Below W.heap.size W W') : HSt w a m seen L g4 gL gn Ds v ar W' :=
  ⟨h.box.below b h.box.lt, h.res.below b h.res.lt, h.row.below b h.row.lt, h.mac.below b h.mac.lt, h.st.below b (Nat.le_refl _), h.en.below b (Nat.le_refl _), h.ars.below b (Nat.le_refl _), h.bel.trans (b.mono h.bel.size), h.cl.below b, h.ge, h.lt⟩
theorem HSt.grown (h : HSt w a m seen L g4 gL gn Ds v ar W) {row : Option Nat} {B : Nat} (hB : w.heap.size ≤ B) (hD : ∀ D ∈ Ds, D < B) (hg : W.grownBy W' row) (hr : ∀ r, row = some r → B ≤ r ∧ ∃ o : Obj, W.heap[r]? = some o ∧ o.isCells = false) : HSt w a m seen L g4 gL gn Ds v ar W' :=
  have h2 := fun r e => (hr r e).2
  ⟨blk_grown' h.box hg h2, blk_grown' h.res hg h2, blk_grown' h.row hg h2, blk_grown' h.mac hg h2, own_grown h.st hg h2, own_grown h.en hg h2, own_grown h.ars hg h2, h.bel.grown hg h.bel.size (fun r e => Nat.le_trans hB (hr r e).1), h.cl.keep fun D hd => hg.block D (h.cl.lt hd) (fun e => by
    have h3 := (hr D e.symm).1
    have h4 := hD D hd
    omega), h.ge, h.lt⟩
theorem HSt.mark (h : HSt w a m seen L g4 gL gn Ds v ar W) {B D : Nat} (hB : w.heap.size ≤ B) (hD : ∀ D ∈ Ds, D < B) (h1 : B ≤ D) (h2 : W.heap[D]? = some (.deferred (some []))) : HSt w a m seen L g4 gL gn (D :: Ds) v ar W :=
  ⟨h.box, h.res, h.row, h.mac, h.st, h.en, h.ars, h.bel, ⟨List.nodup_cons.2 ⟨fun hm => by have := hD D hm; omega, h.cl.1⟩, fun E hE => by
    rcases List.mem_cons.1 hE with rfl | hE
    · exact h2
    · exact h.cl.2 E hE⟩, fun E hE => by
    rcases List.mem_cons.1 hE with rfl | hE
    · omega
    · exact h.ge E hE, h.lt⟩
end

theorem Clos.one {E : List (Int × Int)} {l : List Int} {x : Int} : Clos E l x ↔ ∃ s ∈ l, Clos E [s] x := by
  constructor
  · intro h
    induction h with
    | base x hx => exact ⟨x, hx, .base x (by simp)⟩
    | step p hp _ ih =>
      obtain ⟨s, hs, h⟩ := ih
      exact ⟨s, hs, .step p hp h⟩
  · rintro ⟨s, hs, h⟩
    exact Clos.trans (fun z hz => by rw [List.mem_singleton.1 hz]; exact .base s hs) h
end Go.Proofs.YtcjedgiglimipaaDoor
