/-
  Chapter 4's reference: Beside: what lies in memory; by its contract.
-/
import Derived.Test.YtcjedgiglimipaaDoorZRef4A
namespace Go.Proofs.YtcjedgiglimipaaDoor
set_option linter.unusedSimpArgs false
set_option linter.unusedVariables false
set_option linter.unusedSectionVars false
open Go.RowKit

structure RX (X Y : Option Nat) (w : World) (b : Nat) : Prop where
  t : TyB [3] 0 w b
  x : some b ≠ X
  y : some b ≠ Y
theorem rx_keep {X Y : Option Nat} {w w' : World} {hs : List Hd} (h : RowsAt (RX X Y w) w hs) (k : KeepT [3] 0 w w') : RowsAt (RX X Y w') w' hs := h.keep fun b hb => ⟨k.at_ b hb.t, k.tyb hb.t, hb.x, hb.y⟩
theorem rx_grewX {A A' : Option Addr} {Y : Option Nat} {w w' : World} {hs : List Hd} (h : RowsAt (RX (A.map (·.block)) Y w) w hs) (hg : Grew w w' A) (hA : A'.map (·.block) = A.map (·.block) ∨ ∃ g', A'.map (·.block) = some g' ∧ w.heap.size ≤ g') : RowsAt (RX (A'.map (·.block)) Y w') w' hs :=
  h.keep fun b hb => by
    have e := hg.by_.block b hb.t.1 hb.x
    refine ⟨e, ⟨Nat.lt_of_lt_of_le hb.t.1 hg.by_.size, ?_⟩, ?_, hb.y⟩
    · rcases hb.t.2 with h0 | ⟨t, ht, cs, r, h1⟩
      · omega
      · exact .inr ⟨t, ht, cs, r, by rw [e]; exact h1⟩
    · rcases hA with e2 | ⟨g', e2, he⟩
      · rw [e2]; exact hb.x
      · rw [e2]; intro hh; injection hh with hh; have := hb.t.1; omega
theorem rx_grewY {A A' : Option Addr} {X : Option Nat} {w w' : World} {hs : List Hd} (h : RowsAt (RX X (A.map (·.block)) w) w hs) (hg : Grew w w' A) (hA : A'.map (·.block) = A.map (·.block) ∨ ∃ g', A'.map (·.block) = some g' ∧ w.heap.size ≤ g') : RowsAt (RX X (A'.map (·.block)) w') w' hs :=
  h.keep fun b hb => by
    have e := hg.by_.block b hb.t.1 hb.y
    refine ⟨e, ⟨Nat.lt_of_lt_of_le hb.t.1 hg.by_.size, ?_⟩, hb.x, ?_⟩
    · rcases hb.t.2 with h0 | ⟨t, ht, cs, r, h1⟩
      · omega
      · exact .inr ⟨t, ht, cs, r, by rw [e]; exact h1⟩
    · rcases hA with e2 | ⟨g', e2, he⟩
      · rw [e2]; exact hb.y
      · rw [e2]; intro hh; injection hh with hh; have := hb.t.1; omega
/-- The reference's machine as it grows, the names, the arrows. -/
structure R4W (B : Nat) (w0 w : World) (g : Nat) (d : MV) (dm : Mach) (P : Option Addr) (cp : Nat) (hs : List Hd) (A2 : Option Addr) (c2 : Nat) (ar : List Arr) : Prop where
  blk : Blk w g 25 (d.cells dm)
  st : OwnI B 3 w d.As d.cs dm.starts
  es : OwnI B 3 w d.Ae d.ce dm.ends
  far : d.As = none ∨ d.As.map (·.block) ≠ d.Ae.map (·.block)
  nm : OwnR Hd.cells B 22 1 w P cp hs
  rows : RowsAt (RX (d.As.map (·.block)) (d.Ae.map (·.block)) w) w hs
  ar : OwnR arrCells B 85 3 w A2 c2 ar
  so : OwnR arrCells B 85 3 w d.Aa d.ca dm.arrows
  fa : d.Aa = none ∨ d.Aa.map (·.block) ≠ A2.map (·.block)
  gB : B ≤ g
  bel : Below B w0 w
section
variable {B : Nat} {w0 w w1 w2 : World} {g : Nat} {d : MV} {dm : Mach} {P : Option Addr} {cp : Nat} {hs : List Hd} {A2 : Option Addr} {c2 : Nat} {ar : List Arr}
theorem R4W.below (h : R4W B w0 w g d dm P cp hs A2 c2 ar) (b : Below w.heap.size w w1) (hB : B ≤ w.heap.size) : R4W B w0 w1 g d dm P cp hs A2 c2 ar :=
  ⟨h.blk.below b h.blk.lt, h.st.below b (Nat.le_refl _), h.es.below b (Nat.le_refl _), h.far, h.nm.below b (Nat.le_refl _), rx_keep h.rows (KeepT.below b), h.ar.below b (Nat.le_refl _), h.so.below b (Nat.le_refl _), h.fa, h.gB, h.bel.trans (b.mono hB)⟩
/-- One start more. -/
theorem R4W.start (h : R4W B w0 w g d dm P cp hs A2 c2 ar) (hB : B ≤ w.heap.size) {x : Int} {A' : Option Addr} {c' : Nat} (o : OwnI B 3 w1 A' c' (dm.starts ++ [x])) (hg : Grew w w1 d.As) (hA : A'.map (·.block) = d.As.map (·.block) ∨ ∃ g', A'.map (·.block) = some g' ∧ w.heap.size ≤ g')
    (k : Blk w2 g 25 ((⟨A', c', d.Aa, d.ca, d.Ae, d.ce⟩ : MV).cells ⟨dm.states, dm.events, dm.starts ++ [x], dm.arrows, dm.ends⟩)) (hg2 : Grew w1 w2 (some ⟨g, 0, none⟩)) : R4W B w0 w2 g ⟨A', c', d.Aa, d.ca, d.Ae, d.ce⟩ ⟨dm.states, dm.events, dm.starts ++ [x], dm.arrows, dm.ends⟩ P cp hs A2 c2 ar := by
  have k1 := h.blk.grown hg.by_ (fun e => h.st.ne_blk h.blk (by decide) e.symm)
  have es1 := h.es.grew hg (far_symm h.far)
  have nm1 := h.nm.grew hg (own_far h.nm h.st (by decide))
  have ar1 := h.ar.grew hg (own_far h.ar h.st (by decide))
  have so1 := h.so.grew hg (own_far h.so h.st (by decide))
  have r1 := rx_grewX h.rows hg hA
  refine ⟨k, o.grew hg2 (own_farB o k1 (by decide)), es1.grew hg2 (own_farB es1 k1 (by decide)), ?_, nm1.grew hg2 (own_farB nm1 k1 (by decide)), rx_keep r1 (KeepT.grewB (es := [3]) k1 (Nat.zero_le _) (by decide) hg2), ar1.grew hg2 (own_farB ar1 k1 (by decide)), so1.grew hg2 (own_farB so1 k1 (by decide)), h.fa, h.gB, hg2.below (hg.below h.bel hB h.st.geB) (by have := hg.by_.size; omega) (by intro a ha; injection ha with ha; subst ha; exact h.gB)⟩
  exact far_symm (Own.far h.es h.st (far_symm h.far) hA)
/-- One end more. -/
theorem R4W.end_ (h : R4W B w0 w g d dm P cp hs A2 c2 ar) (hB : B ≤ w.heap.size) {x : Int} {A' : Option Addr} {c' : Nat} (o : OwnI B 3 w1 A' c' (dm.ends ++ [x])) (hg : Grew w w1 d.Ae) (hA : A'.map (·.block) = d.Ae.map (·.block) ∨ ∃ g', A'.map (·.block) = some g' ∧ w.heap.size ≤ g')
    (k : Blk w2 g 25 ((⟨d.As, d.cs, d.Aa, d.ca, A', c'⟩ : MV).cells ⟨dm.states, dm.events, dm.starts, dm.arrows, dm.ends ++ [x]⟩)) (hg2 : Grew w1 w2 (some ⟨g, 0, none⟩)) : R4W B w0 w2 g ⟨d.As, d.cs, d.Aa, d.ca, A', c'⟩ ⟨dm.states, dm.events, dm.starts, dm.arrows, dm.ends ++ [x]⟩ P cp hs A2 c2 ar := by
  have k1 := h.blk.grown hg.by_ (fun e => h.es.ne_blk h.blk (by decide) e.symm)
  have st1 := h.st.grew hg h.far
  have nm1 := h.nm.grew hg (own_far h.nm h.es (by decide))
  have ar1 := h.ar.grew hg (own_far h.ar h.es (by decide))
  have so1 := h.so.grew hg (own_far h.so h.es (by decide))
  have r1 := rx_grewY h.rows hg hA
  exact ⟨k, st1.grew hg2 (own_farB st1 k1 (by decide)), o.grew hg2 (own_farB o k1 (by decide)), Own.far h.st h.es h.far hA, nm1.grew hg2 (own_farB nm1 k1 (by decide)), rx_keep r1 (KeepT.grewB (es := [3]) k1 (Nat.zero_le _) (by decide) hg2), ar1.grew hg2 (own_farB ar1 k1 (by decide)), so1.grew hg2 (own_farB so1 k1 (by decide)), h.fa, h.gB, hg2.below (hg.below h.bel hB h.es.geB) (by have := hg.by_.size; omega) (by intro a ha; injection ha with ha; subst ha; exact h.gB)⟩
/-- One name more. -/
theorem R4W.name (h : R4W B w0 w g d dm P cp hs A2 c2 ar) (hB : B ≤ w.heap.size) {x : Hd} (hx : Ints (RX (d.As.map (·.block)) (d.Ae.map (·.block)) w) w x.A x.l) {P' : Option Addr} {cp' : Nat} (o : OwnR Hd.cells B 22 1 w1 P' cp' (hs ++ [x])) (hg : Grew w w1 P) : R4W B w0 w1 g d dm P' cp' (hs ++ [x]) A2 c2 ar := by
  have kt : KeepT [3] 0 w w1 := KeepT.grew h.nm (Nat.zero_le _) (by decide) hg
  refine ⟨h.blk.grown hg.by_ (fun e => h.nm.ne_blk h.blk (by decide) e.symm), h.st.grew hg (own_far h.st h.nm (by decide)), h.es.grew hg (own_far h.es h.nm (by decide)), h.far, o, rx_keep (fun y hy => ?_) kt, h.ar.grew hg (own_far h.ar h.nm (by decide)), h.so.grew hg (own_far h.so h.nm (by decide)), h.fa, h.gB, hg.below h.bel hB h.nm.geB⟩
  rcases List.mem_append.1 hy with hy | hy
  · exact h.rows y hy
  · rw [List.mem_singleton.1 hy]; exact hx
/-- One arrow more. -/
theorem R4W.arr (h : R4W B w0 w g d dm P cp hs A2 c2 ar) (hB : B ≤ w.heap.size) {x : Arr} {A' : Option Addr} {c' : Nat} (o : OwnR arrCells B 85 3 w1 A' c' (ar ++ [x])) (hg : Grew w w1 A2) (hA : A'.map (·.block) = A2.map (·.block) ∨ ∃ g', A'.map (·.block) = some g' ∧ w.heap.size ≤ g') : R4W B w0 w1 g d dm P cp hs A' c' (ar ++ [x]) := by
  have kt : KeepT [3] 0 w w1 := KeepT.grew h.ar (Nat.zero_le _) (by decide) hg
  exact ⟨h.blk.grown hg.by_ (fun e => h.ar.ne_blk h.blk (by decide) e.symm), h.st.grew hg (own_far h.st h.ar (by decide)), h.es.grew hg (own_far h.es h.ar (by decide)), h.far, h.nm.grew hg (own_far h.nm h.ar (by decide)), rx_keep h.rows kt, o, h.so.grew hg h.fa, Own.far h.so h.ar h.fa hA, h.gB, hg.below h.bel hB h.ar.geB⟩
end
end Go.Proofs.YtcjedgiglimipaaDoor
