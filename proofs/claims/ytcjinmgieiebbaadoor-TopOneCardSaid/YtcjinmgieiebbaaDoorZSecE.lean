/-
  Chapter 12's reference: Leak: by its contract.
-/
import Derived.Test.YtcjinmgieiebbaaDoorZSecM
import Derived.Test.YtcjinmgieiebbaaDoorZTyB
namespace Go.Proofs.YtcjinmgieiebbaaDoor
set_option linter.unusedSimpArgs false
set_option linter.unusedVariables false
set_option linter.unusedSectionVars false
open Go.RowKit

structure TE where
  A : Option Addr
  c : Nat
  ps : List Atp
def TE.cells (x : TE) : List Value := [.slice x.A x.ps.length x.c]
abbrev esT : List Nat := [3, 99]
structure PlsT (B : Nat) (w : World) (x : TE) : Prop where
  recs : Recs Atp.cells 2 (TyB esT B w) w x.A x.ps
  row : ∀ y ∈ x.ps, Ints (TyB esT B w) w y.R y.s ∧ y.s.length ≤ 256
  n : x.ps.length ≤ 384
theorem PlsT.keep {B : Nat} {w w' : World} {x : TE} (h : PlsT B w x) (k : KeepT esT B w w') : PlsT B w' x := ⟨h.recs.keepT k, fun y hy => ⟨(h.row y hy).1.keepT k, (h.row y hy).2⟩, h.n⟩
structure HdT (B : Nat) (w : World) (x : Hd) : Prop where
  row : Ints (TyB esT B w) w x.A x.l
  n : x.l.length ≤ 100000
theorem HdT.keep {B : Nat} {w w' : World} {x : Hd} (h : HdT B w x) (k : KeepT esT B w w') : HdT B w' x := ⟨h.row.keepT k, h.n⟩
theorem AtAt.tyb {B2 B : Nat} {w : World} {x : Atp} (h : AtAt B2 w x) (hB : B2 ≤ B) : Ints (TyB esT B w) w x.R x.s ∧ x.s.length ≤ 256 :=
  ⟨(RowT.tyb h.r (es := esT) (by decide)).mono fun _ hb => ⟨hb.1, hb.2.imp (fun h => Nat.lt_of_lt_of_le h hB) id⟩, h.n⟩
abbrev Sq := List Int × List Int
/-- The two rows, by what was gone through. -/
structure LQ (B : Nat) (m s : Mach) (L : List (List Int)) (ar : List Arr) (seen : List Int) (w : World) (als : List TE) (wds : List Hd) (Aa Aw : Option Addr) (ca cw : Nat) (Q : List Sq) : Prop where
  n1 : als.length = Q.length
  n3 : wds.length = Q.length
  ra : OwnR TE.cells B 48 1 w Aa ca als
  rw : OwnR Hd.cells B 22 1 w Aw cw wds
  ga : ∀ x ∈ als, PlsT B w x
  gw : ∀ x ∈ wds, HdT B w x
  ab : ∀ (i : Nat) (x : TE) (p : Sq), als[i]? = some x → Q[i]? = some p → AftP m s seen p.2 (x.ps.map Atp.abs)
  wb : wds.map (·.l) = Q.map (·.2)
  ru : ∀ p ∈ Q, p.1 = sEst m s L ar seen p.2
theorem LQ.below {B : Nat} {m s : Mach} {L : List (List Int)} {ar : List Arr} {seen : List Int} {w w' : World} {als : List TE} {wds : List Hd} {Aa Aw : Option Addr} {ca cw : Nat} {Q : List Sq} (h : LQ B m s L ar seen w als wds Aa Aw ca cw Q) (b : Below w.heap.size w w') : LQ B m s L ar seen w' als wds Aa Aw ca cw Q :=
  { h with
    ra := h.ra.below b (Nat.le_refl _)
    rw := h.rw.below b (Nat.le_refl _)
    ga := fun x hx => (h.ga x hx).keep (.below b)
    gw := fun x hx => (h.gw x hx).keep (.below b) }
section
variable {m s : Mach} {L : List (List Int)} {ar : List Arr} (hD : SecD m s L ar)
include hD
theorem SecD.hst : ∀ l e, IsRow l 6 → IsRow (stepL s l e) 6 := fun l e _ => (stepL_row hD.ps l e).more (by have := hD.h4; omega)
theorem SecD.hs6 : IsRow s.starts 6 := (may_starts hD.ps).more (by have := hD.h4; omega)
theorem SecD.aft {seen v : List Int} {l : List Pl} (h : AftP m s seen v l) : GoodPl l := h.good hD.pm hD.h6 hD.hst hD.hs6
theorem LQ.few {B : Nat} {seen : List Int} {w : World} {als : List TE} {wds : List Hd} {Aa Aw : Option Addr} {ca cw : Nat} {Q : List Sq} (h : LQ B m s L ar seen w als wds Aa Aw ca cw Q) {i : Nat} {x : TE} {p : Sq} (hx : als[i]? = some x) (hp : Q[i]? = some p) {v : List Int} {ps : List Pl} (hv : AftP m s seen v ps) :
    SameP (x.ps.map Atp.abs) ps ↔ p.1 = sEst m s L ar seen v := by
  have h1 := h.ab i x p hx hp
  rw [hD.same h1 hv (hD.aft h1).nodup (hD.aft hv).nodup, h.ru p (List.mem_of_getElem? hp)]
end
end Go.Proofs.YtcjinmgieiebbaaDoor
