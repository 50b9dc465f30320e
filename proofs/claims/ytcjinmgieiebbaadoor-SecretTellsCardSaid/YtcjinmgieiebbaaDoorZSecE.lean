/-
  Chapter 12's reference: Leak: by its contract.
-/
import Derived.Test.YtcjinmgieiebbaaDoorZSecM
import Derived.Test.YtcjinmgieiebbaaDoorZTyB
namespace Go.Proofs.YtcjinmgieiebbaaDoor
set_option linter.unusedSimpArgs false
set_option linter.unusedVariables false
set_option linter.unusedSectionVars false
open Go.RowKit

structure TE where
  A : Option Addr
  c : Nat
  ps : List Atp
def TE.cells (x : TE) : List Value := [.slice x.A x.ps.length x.c]
theorem teEnc : Enc TE.cells 1 := ⟨fun _ => rfl, fun h u hu => by
  unfold TE.cells at hu
  rw [List.mem_singleton.1 hu]; rfl⟩
abbrev esT : List Nat := [3, 99]
structure PlsT (B : Nat) (w : World) (x : TE) : Prop where
  recs : Recs Atp.cells 2 (TyB esT B w) w x.A x.ps
  row : ∀ y ∈ x.ps, Ints (TyB esT B w) w y.R y.s ∧ y.s.length ≤ 256
  n : x.ps.length ≤ 384
theorem PlsT.keep {B : Nat} {w w' : World} {x : TE} (h : PlsT B w x) (k : KeepT esT B w w') : PlsT B w' x := ⟨h.recs.keepT k, fun y hy => ⟨(h.row y hy).1.keepT k, (h.row y hy).2⟩, h.n⟩
structure HdT (B : Nat) (w : World) (x : Hd) : Prop where
  row : Ints (TyB esT B w) w x.A x.l
  n : x.l.length ≤ 100000
theorem HdT.keep {B : Nat} {w w' : World} {x : Hd} (h : HdT B w x) (k : KeepT esT B w w') : HdT B w' x := ⟨h.row.keepT k, h.n⟩
theorem AtAt.tyb {B2 B : Nat} {w : World} {x : Atp} (h : AtAt B2 w x) (hB : B2 ≤ B) : Ints (TyB esT B w) w x.R x.s ∧ x.s.length ≤ 256 :=
  ⟨(RowT.tyb h.r (es := esT) (by decide)).mono fun _ hb => ⟨hb.1, hb.2.imp (fun h => Nat.lt_of_lt_of_le h hB) id⟩, h.n⟩
theorem at_map {α β : Type} {f : α → β} {l : List α} {m : List β} (h : l.map f = m) {i : Nat} {x : α} (hx : l[i]? = some x) : m[i]? = some (f x) := by rw [← h, List.getElem?_map, hx]; rfl
theorem some_of_lt {α : Type} {l : List α} {i : Nat} (h : i < l.length) : ∃ x, l[i]? = some x := ⟨_, List.getElem?_eq_getElem h⟩
abbrev Sq := List Int × List Int
/-- The two rows, by what was gone through. -/
structure LQ (B : Nat) (m s : Mach) (L : List (List Int)) (ar : List Arr) (seen : List Int) (w : World) (als : List TE) (wds : List Hd) (Aa Aw : Option Addr) (ca cw : Nat) (Q : List Sq) : Prop where
  n1 : als.length = Q.length
  n3 : wds.length = Q.length
  ra : OwnR TE.cells B 48 1 w Aa ca als
  rw : OwnR Hd.cells B 22 1 w Aw cw wds
  ga : ∀ x ∈ als, PlsT B w x
  gw : ∀ x ∈ wds, HdT B w x
  ab : ∀ (i : Nat) (x : TE) (p : Sq), als[i]? = some x → Q[i]? = some p → AftP m s seen p.2 (x.ps.map Atp.abs)
  wb : wds.map (·.l) = Q.map (·.2)
  ru : ∀ p ∈ Q, p.1 = sEst m s L ar seen p.2
theorem LQ.below {B : Nat} {m s : Mach} {L : List (List Int)} {ar : List Arr} {seen : List Int} {w w' : World} {als : List TE} {wds : List Hd} {Aa Aw : Option Addr} {ca cw : Nat} {Q : List Sq} (h : LQ B m s L ar seen w als wds Aa Aw ca cw Q) (b : Below w.heap.size w w') : LQ B m s L ar seen w' als wds Aa Aw ca cw Q :=
  { h with
    ra := h.ra.below b (Nat.le_refl _)
    rw := h.rw.below b (Nat.le_refl _)
    ga := fun x hx => (h.ga x hx).keep (.below b)
    gw := fun x hx => (h.gw x hx).keep (.below b) }
def RefLeak (m s : Mach) (L : List (List Int)) (ar : List Arr) (seen : List Int) (w : World) (v : Value) (w' : World) : Prop :=
  ∃ (b : Bool) (O : Option Addr) (co : Nat) (o : List Int) (few : Bool), v = .tuple #[.bool b, .slice O o.length co, .bool few] ∧ Ints (· < w'.heap.size) w' O o ∧ o.length ≤ 100000 ∧ Below w.heap.size w w' ∧
    ((few = false ∧ b = false ∧ o = [] ∧ ∃ k, 256 < (bIter (sNext m s L ar seen) seen (sFirst m s L ar seen) k).length) ∨
     (few = true ∧ ∃ k, k ≤ 256 ∧ (bIter (sNext m s L ar seen) seen (sFirst m s L ar seen) k).length = k ∧ OptIs (bestF (sLeak m s L) (bIter (sNext m s L ar seen) seen (sFirst m s L ar seen) k)) b o))
section
variable {m s : Mach} {L : List (List Int)} {ar : List Arr} (hD : SecD m s L ar)
include hD
theorem SecD.hst : ∀ l e, IsRow l 6 → IsRow (stepL s l e) 6 := fun l e _ => (stepL_row hD.ps l e).more (by have := hD.h4; omega)
theorem SecD.hs6 : IsRow s.starts 6 := (may_starts hD.ps).more (by have := hD.h4; omega)
theorem SecD.aft {seen v : List Int} {l : List Pl} (h : AftP m s seen v l) : GoodPl l := h.good hD.pm hD.h6 hD.hst hD.hs6
theorem LQ.few {B : Nat} {seen : List Int} {w : World} {als : List TE} {wds : List Hd} {Aa Aw : Option Addr} {ca cw : Nat} {Q : List Sq} (h : LQ B m s L ar seen w als wds Aa Aw ca cw Q) {i : Nat} {x : TE} {p : Sq} (hx : als[i]? = some x) (hp : Q[i]? = some p) {v : List Int} {ps : List Pl} (hv : AftP m s seen v ps) :
    SameP (x.ps.map Atp.abs) ps ↔ p.1 = sEst m s L ar seen v := by
  have h1 := h.ab i x p hx hp
  rw [hD.same h1 hv (hD.aft h1).nodup (hD.aft hv).nodup, h.ru p (List.mem_of_getElem? hp)]
set_option maxHeartbeats 2000000 in
theorem ref12_Leak {w : World} {a0 : MV} (h : IsM (· < w.heap.size) w a0 m) (hf : m.Fits) {a1 : MV} (h' : IsM (· < w.heap.size) w a1 s) (hf' : s.Fits) {A1 : Option Addr} {c1 : Nat} {seen : List Int} (h1 : Ints (· < w.heap.size) w A1 seen) (n1 : IsRow seen m.events) :
    Cal Tryd.prog 27 [a0.val m, a1.val s, .slice A1 seen.length c1] w (RefLeak m s L ar seen w) := by
  have p1 := hD.pm
  have p3 := hD.h6
  have nseen : seen.length ≤ 8 := by have := row_len n1; have := p1.2.2.2.1; omega
  have hstrict := n1.strict
  refine cal_ref12_Leak (by simp) 100000 fun Q hQ => ?_
  simp (disch := first | with_reducible assumption | omega) only [push_cast, x_blk, x_cd, ↓reduceIte, Nat.reduceEqDiff, List.map_cons, List.map_nil, Int.reduceEq, Int.lt_irrefl, F_ref12_Leak]
  refine blk_of (box_agg _ (a0.cells m)) ?_
  intro w1 k1 b1 z1
  simp (disch := first | with_reducible assumption | omega) only [push_cast, x_blk, x_cd, ↓reduceIte, Nat.reduceEqDiff, List.map_cons, List.map_nil, Int.reduceEq, Int.lt_irrefl]
  refine blk_of (box_agg _ (a1.cells s)) ?_
  intro w7 k7 b2 z2
  replace k1 := k1.below b2 k1.lt
  have bb7 := b1.trans (b2.mono b1.size)
  have hM7 := h.up bb7
  have hS7 := h'.up bb7
  have hI7 := h1.up bb7
  simp (disch := first | with_reducible assumption | omega) only [push_cast, x_blk, x_cd, ↓reduceIte, Nat.reduceEqDiff, List.map_cons, List.map_nil, Int.reduceEq, Int.lt_irrefl, k1.mA ty_ag_25 ty_sz_25, k7.mA ty_ag_25 ty_sz_25]
  refine call_of (ref12_First (B2 := w7.heap.size) (Nat.le_refl _) hM7 hf hS7 hf' p1 p3 hD.hst hD.hs6 hS7.starts hI7 (by omega)) ?_
  rintro v w8 ⟨ps, A8, c8, rfl, habs, hops, hgps, b8⟩
  have hA0 : AftP m s seen [] (ps.map Atp.abs) := .first (by rw [List.length_map]; exact habs)
  have l1 := k1.lt
  have l7 := k7.lt
  have gps := (hD.aft hA0).len
  rw [List.length_map] at gps
  have oA := own_rec teEnc w8 ⟨A8, c8, ps⟩ 48
  have b9 : Below w8.heap.size w8 (w8.alloc (.cells (TE.cells ⟨A8, c8, ps⟩).toArray 48)) := (Below.refl _ _).alloc (Nat.le_refl _) _
  have z9 : (w8.alloc (.cells (TE.cells ⟨A8, c8, ps⟩).toArray 48)).heap.size = w8.heap.size + 1 := by simp
  simp only [TE.cells] at oA b9 z9
  simp (disch := first | with_reducible assumption | omega) only [push_cast, x_blk, x_cd, ↓reduceIte, Nat.reduceEqDiff, List.map_cons, List.map_nil, Int.reduceEq, Int.lt_irrefl, bs_94, bs_81]
  generalize w8.alloc (.cells [.slice A8 ps.length c8].toArray 48) = w10 at *
  have oW := own_rec hdEnc w10 ⟨none, 0, []⟩ 22
  have b11 : Below w10.heap.size w10 (w10.alloc (.cells (Hd.cells ⟨none, 0, []⟩).toArray 22)) := (Below.refl _ _).alloc (Nat.le_refl _) _
  simp only [Hd.cells, List.length_nil] at oW b11
  generalize w10.alloc (.cells [.slice none 0 0].toArray 22) = w11 at *
  have b811 : Below w8.heap.size w8 w11 := b9.trans (b11.mono b9.size)
  have b711 : Below w7.heap.size w7 w11 := b8.trans (b811.mono b8.size)
  have z8 := b8.size
  have q0 : LQ w7.heap.size m s L ar seen w11 [⟨A8, c8, ps⟩] [⟨none, 0, []⟩] (some ⟨w8.heap.size, 0, none⟩) (some ⟨w10.heap.size, 0, none⟩) 1 1 [(sFirst m s L ar seen, [])] := {
    n1 := rfl, n3 := rfl
    ra := (oA.below b11 (Nat.le_refl _)).base z8
    rw := oW.base (by omega)
    ga := fun x hx => by
      rw [List.mem_singleton.1 hx]
      exact ⟨(OwnR.tyb hops atEnc (by decide) (by decide)).keepT (KeepT.below b811), fun y hy => ⟨((hgps y hy).tyb (Nat.le_refl _)).1.keepT (KeepT.below b811), ((hgps y hy).tyb (Nat.le_refl w7.heap.size)).2⟩, gps⟩
    gw := fun x hx => by
      rw [List.mem_singleton.1 hx]
      exact ⟨Ints.nil _ _ _, by simp⟩
    ab := fun i x p hx hp => by
      match i with
      | 0 =>
        simp at hx hp
        subst hx hp
        exact hA0
      | i + 1 => simp at hx
    wb := rfl
    ru := fun p hp => by rw [List.mem_singleton.1 hp]; rfl }
  have hsorted := fun k => (bIter_ordered (step := sNext m s L ar seen) hstrict (sFirst m s L ar seen) k).sorted
  have hnx : ∀ v e, sNext m s L ar seen (sEst m s L ar seen v) e = sEst m s L ar seen (v ++ [e]) := fun v e => (sEst_snoc seen v e).symm
  obtain ⟨stp, hstp⟩ : ∃ stp, sNext m s L ar seen = stp := ⟨_, rfl⟩
  obtain ⟨fst, hfst⟩ : ∃ fst, sFirst m s L ar seen = fst := ⟨_, rfl⟩
  unfold RefLeak at hQ
  simp only [hstp, hfst] at q0 hsorted hnx hQ
  clear oA oW b9 z9 b811 z8 b8 hops hgps habs gps
  refine loop_rule (fun f w' => ∃ (k : Nat) (als : List TE) (wds : List Hd) (Aa Aw : Option Addr) (ca cw : Nat), k ≤ als.length ∧ k ≤ 256 ∧ (f 2 = .slice A1 seen.length c1 ∧ f 3 = .pointer (some ⟨w.heap.size, 0, none⟩) ∧ f 4 = .pointer (some ⟨w1.heap.size, 0, none⟩) ∧ f 10 = .slice Aa als.length ca ∧ f 11 = .slice Aw wds.length cw ∧ f 12 = .int .i64 k) ∧
      LQ w7.heap.size m s L ar seen w' als wds Aa Aw ca cw (bIter stp seen fst k) ∧ Below w7.heap.size w7 w')
    (fun f _ => 300 - (intOf (f 12)).toNat) ⟨0, _, _, _, _, _, _, Nat.zero_le _, Nat.zero_le _, (by simp only [push_cast, ↓reduceIte, Nat.reduceEqDiff, Int.reduceEq, List.length_cons, List.length_nil, Nat.zero_add, and_self, eq_self]), q0, b711⟩ ?_
  clear q0 b711 hA0 b11 w11 w10
  clear ps A8 c8
  rintro f w8 ⟨k, als, wds, Aa, Aw, ca, cw, hk, hk2, fr, q, b8⟩ J hJ
  have hmu : (intOf (f 12)).toNat = k := by rw [fr.2.2.2.2.2]; simp [intOf]
  by_cases hlt : k < als.length
  case neg =>
    have hke : als.length = k := by omega
    have hlen : (bIter stp seen fst k).length = k := by rw [← q.n1]; exact hke
    have hout : ∀ b o, OptIs (bestF (sLeak m s L) (bIter stp seen fst k)) b o → ∃ k, k ≤ 256 ∧ (bIter stp seen fst k).length = k ∧ OptIs (bestF (sLeak m s L) (bIter stp seen fst k)) b o := fun b o ho => ⟨k, hk2, hlen, ho⟩
    have hsrt := hsorted k
    have hwl := q.n3
    have hzz : w7.heap.size ≤ w8.heap.size := b8.size
    simp (disch := first | with_reducible assumption | omega) only [push_cast, x_blk, x_cd, ↓reduceIte, Nat.reduceEqDiff, List.map_cons, List.map_nil, Int.reduceEq, Int.lt_irrefl, L_ref12_Leak_3, fr, hlt]
    refine loop_rule (fun f' w' => ∃ i : Nat, i ≤ als.length ∧ (f' 3 = .pointer (some ⟨w.heap.size, 0, none⟩) ∧ f' 4 = .pointer (some ⟨w1.heap.size, 0, none⟩) ∧ f' 10 = .slice Aa als.length ca ∧ f' 11 = .slice Aw wds.length cw ∧ f' 18 = .int .i64 i) ∧
        (∀ (j : Nat) (p : Sq), j < i → (bIter stp seen fst k)[j]? = some p → sLeak m s L p.1 = false) ∧ Below w8.heap.size w8 w')
      (fun f' _ => als.length - (intOf (f' 18)).toNat) ⟨0, Nat.zero_le _, (by simp only [push_cast, ↓reduceIte, Nat.reduceEqDiff, true_and, and_true, and_self, eq_self, fr]), fun j p hj => absurd hj (by omega), Below.refl _ _⟩ ?_
    clear fr
    rintro f w9 ⟨i, hi, fr, hno, b9⟩ J2 hJ2
    have b79 := b8.trans (b9.mono b8.size)
    by_cases hil : i < als.length
    case neg =>
      obtain rfl : i = als.length := by omega
      simp (disch := first | with_reducible assumption | omega) only [push_cast, x_blk, x_cd, ↓reduceIte, Nat.reduceEqDiff, List.map_cons, List.map_nil, Int.reduceEq, Int.lt_irrefl, L_ref12_Leak_0, fr, Nat.lt_irrefl]
      refine fin_3 (hQ _ _ ⟨false, none, 0, [], true, (by simp only [push_cast, ↓reduceIte, Nat.reduceEqDiff, Int.reduceEq, List.length_nil]), Ints.nil _ _ _, by simp, bb7.trans (b79.mono bb7.size), .inr ⟨rfl, hout _ _ ?_⟩⟩)
      rw [bestF_none fun x hx => ?_]
      · exact ⟨rfl, rfl⟩
      · obtain ⟨j, hj⟩ := List.mem_iff_getElem?.1 hx
        exact hno j x (by have := getElem?_lt hj; omega) hj
    obtain ⟨x, hx⟩ := some_of_lt hil
    obtain ⟨y, hy⟩ := some_of_lt (l := wds) (i := i) (by omega)
    obtain ⟨p, hp⟩ := some_of_lt (l := bIter stp seen fst k) (i := i) (by omega)
    have hyL : y.l = p.2 := by
      have := at_map q.wb hy
      rw [List.getElem?_map, hp] at this
      exact (Option.some.inj this).symm
    have hAf := q.ab i x p hx hp
    have hru := q.ru p (List.mem_of_getElem? hp)
    have hid := hD.hid hAf
    have hop := hD.opn hAf
    rw [← hru] at hid hop
    have hlk : sLeak m s L p.1 = (decide (judS m s (x.ps.map Atp.abs)) && !decide (judO m s (x.ps.map Atp.abs))) := by
      unfold sLeak
      rw [decide_eq_decide.2 hid, decide_eq_decide.2 hop]
    have hwds : i < wds.length := by omega
    have d9 : Same w9 w9.drew := (Same.refl w9).drew
    have q1 := (q.below b9).below (d9.below _)
    replace b9 := b9.trans (d9.below _)
    replace b79 := b79.trans (d9.below _)
    generalize hu9 : w9.drew = u9 at *
    have k18 := (k1.below b79 l1)
    have k78 := (k7.below b79 l7)
    have hRa := Recs.lt teEnc (by decide) (OwnR.recs q1.ra teEnc (by decide))
    have sa := q1.ra.isSome (by omega)
    have gx := q1.ga x (List.mem_of_getElem? hx)
    have gps := gx.n
    have lx := fun {K : Fr → World → Prop} {f : Fr} {d : Option Nat} {w' : World} => hRa.ld0 (P := Tryd.prog) (K := K) (f := f) (d := d) (w := w') ty_ag_48 hx (v := .slice x.A x.ps.length x.c) rfl
    simp only [Nat.mul_one] at lx
    have bb9 := bb7.trans (b79.mono bb7.size)
    simp (disch := first | with_reducible assumption | omega) only [push_cast, x_blk, x_cd, ↓reduceIte, Nat.reduceEqDiff, List.map_cons, List.map_nil, Int.reduceEq, Int.lt_irrefl, L_ref12_Leak_0, fr, hil, hu9, k18.mA ty_ag_25 ty_sz_25, k78.mA ty_ag_25 ty_sz_25, lx]
    refine call_of (ref12_Judge (h.up bb9) hf (h'.up bb9) hf' gx.recs.tlt (by omega) (fun z hz => ⟨(gx.row z hz).1.tlt, (gx.row z hz).2⟩)) ?_
    rintro v w10 ⟨rfl, b10⟩
    generalize decide (judS m s (x.ps.map Atp.abs)) = js at *
    generalize decide (judO m s (x.ps.map Atp.abs)) = jo at *
    have hno' : sLeak m s L p.1 = false → ∀ (j : Nat) (p : Sq), j < i + 1 → (bIter stp seen fst k)[j]? = some p → sLeak m s L p.1 = false := fun h0 j p' hj hp' => by
      by_cases e : j = i
      · subst e
        rw [hp] at hp'
        rw [← Option.some.inj hp']; exact h0
      · exact hno j p' (by omega) hp'
    simp (disch := first | with_reducible assumption | omega) only [push_cast, x_blk, x_cd, ↓reduceIte, Nat.reduceEqDiff, List.map_cons, List.map_nil, Int.reduceEq, Int.lt_irrefl, fr]
    refine ⟨b10, ?_⟩
    cases js
    · simp (disch := first | with_reducible assumption | omega) only [push_cast, x_blk, x_cd, ↓reduceIte, Nat.reduceEqDiff, List.map_cons, List.map_nil, Int.reduceEq, Int.lt_irrefl, fr]
      exact hJ2 _ _ ⟨i + 1, hil, (by simp only [push_cast, ↓reduceIte, Nat.reduceEqDiff, true_and, and_true, and_self, eq_self, fr]), hno' hlk, b9.trans (b10.mono b9.size)⟩ (by simp only [push_cast, ↓reduceIte, Nat.reduceEqDiff, intOf, fr]; omega)
    cases jo
    case true =>
      simp (disch := first | with_reducible assumption | omega) only [push_cast, x_blk, x_cd, ↓reduceIte, Nat.reduceEqDiff, List.map_cons, List.map_nil, Int.reduceEq, Int.lt_irrefl, fr]
      exact hJ2 _ _ ⟨i + 1, hil, (by simp only [push_cast, ↓reduceIte, Nat.reduceEqDiff, true_and, and_true, and_self, eq_self, fr]), hno' hlk, b9.trans (b10.mono b9.size)⟩ (by simp only [push_cast, ↓reduceIte, Nat.reduceEqDiff, intOf, fr]; omega)
    have d10 : Same w10 w10.drew := (Same.refl w10).drew
    have q2 := (q1.below b10).below (d10.below _)
    replace b79 := (b79.trans (b10.mono b79.size)).trans (d10.below _)
    generalize hu10 : w10.drew = u10 at *
    have hRw := Recs.lt hdEnc (by decide) (OwnR.recs q2.rw hdEnc (by decide))
    have sw := q2.rw.isSome (by omega)
    have ly := fun {K : Fr → World → Prop} {f : Fr} {d : Option Nat} {w' : World} => hRw.ld0 (P := Tryd.prog) (K := K) (f := f) (d := d) (w := w') ty_ag_22 hy (v := .slice y.A y.l.length y.c) rfl
    simp only [Nat.mul_one] at ly
    have gy := q2.gw y (List.mem_of_getElem? hy)
    simp (disch := first | with_reducible assumption | omega) only [push_cast, x_blk, x_cd, ↓reduceIte, Nat.reduceEqDiff, List.map_cons, List.map_nil, Int.reduceEq, Int.lt_irrefl, fr, hwds, hu10, ly]
    refine fin_3 (hQ _ _ ⟨true, y.A, y.c, y.l, true, (by simp only [push_cast, ↓reduceIte, Nat.reduceEqDiff, Int.reduceEq, fr]), gy.row.tlt, gy.n, bb7.trans (b79.mono bb7.size), .inr ⟨rfl, hout _ _ ?_⟩⟩)
    rw [bestF_first hsrt (k := i) (x := p) hp hlk fun j hj z hz => hno j z hj hz, hyL]
    exact ⟨rfl, rfl⟩
  by_cases hbig : (256 : Int) < (als.length : Int)
  · simp (disch := first | with_reducible assumption | omega) only [push_cast, x_blk, x_cd, ↓reduceIte, Nat.reduceEqDiff, List.map_cons, List.map_nil, Int.reduceEq, Int.lt_irrefl, L_ref12_Leak_3, fr, hlt, hbig]
    exact fin_3 (hQ _ _ ⟨false, none, 0, [], false, (by simp only [push_cast, ↓reduceIte, Nat.reduceEqDiff, Int.reduceEq, List.length_nil]), Ints.nil _ _ _, by simp, bb7.trans (b8.mono bb7.size), .inl ⟨rfl, rfl, rfl, k, by rw [← q.n1]; omega⟩⟩)
  simp (disch := first | with_reducible assumption | omega) only [push_cast, x_blk, x_cd, ↓reduceIte, Nat.reduceEqDiff, List.map_cons, List.map_nil, Int.reduceEq, Int.lt_irrefl, L_ref12_Leak_3, fr, hlt, hbig]
  obtain ⟨p, hp⟩ := some_of_lt (l := bIter stp seen fst k) (i := k) (by rw [← q.n1]; exact hlt)
  have hpre := bPart_prefix (step := stp) (es := seen) fst k
  have hkl := getElem?_lt hp
  refine loop_rule (fun f' w' => ∃ (j : Nat) (als : List TE) (wds : List Hd) (Aa Aw : Option Addr) (ca cw : Nat), j ≤ seen.length ∧ als.length ≤ 256 + j ∧ (f' 2 = .slice A1 seen.length c1 ∧ f' 3 = .pointer (some ⟨w.heap.size, 0, none⟩) ∧ f' 4 = .pointer (some ⟨w1.heap.size, 0, none⟩) ∧ f' 10 = .slice Aa als.length ca ∧ f' 11 = .slice Aw wds.length cw ∧ f' 12 = .int .i64 k ∧ f' 13 = .int .i64 j) ∧
      LQ w7.heap.size m s L ar seen w' als wds Aa Aw ca cw (bPart stp seen fst k j) ∧ Below w7.heap.size w7 w')
    (fun f' _ => seen.length - (intOf (f' 13)).toNat) ⟨0, _, _, _, _, _, _, Nat.zero_le _, by omega, (by simp only [push_cast, ↓reduceIte, Nat.reduceEqDiff, true_and, and_true, and_self, eq_self, fr]), q, b8⟩ ?_
  have hkk : k + 1 ≤ 256 := by omega
  clear q b8 fr hk hlt hbig als wds Aa Aw ca cw
  rintro f w8 ⟨j, als, wds, Aa, Aw, ca, cw, hj, hnl, fr, q, b8⟩ J2 hJ2
  have hlt : k < als.length := by
    have := (hpre j).length_le
    rw [q.n1]; omega
  by_cases hjt : j < seen.length
  case neg =>
    obtain rfl : j = seen.length := by omega
    rw [bPart_all] at q
    simp (disch := first | with_reducible assumption | omega) only [push_cast, x_blk, x_cd, ↓reduceIte, Nat.reduceEqDiff, List.map_cons, List.map_nil, Int.reduceEq, Int.lt_irrefl, L_ref12_Leak_2, fr, Nat.lt_irrefl]
    exact hJ _ _ ⟨k + 1, als, wds, Aa, Aw, ca, cw, hlt, hkk, (by simp only [push_cast, ↓reduceIte, Nat.reduceEqDiff, true_and, and_true, and_self, eq_self, fr]), q, b8⟩ (by rw [hmu]; simp only [push_cast, ↓reduceIte, Nat.reduceEqDiff, intOf, fr]; omega)
  have hmu2 : (intOf (f 13)).toNat = j := by rw [fr.2.2.2.2.2.2]; simp [intOf]
  obtain ⟨x, hx⟩ := some_of_lt hlt
  obtain ⟨y, hy⟩ := some_of_lt (l := wds) (i := k) (by rw [q.n3, ← q.n1]; exact hlt)
  have hp2 : (bPart stp seen fst k j)[k]? = some p := by rw [prefix_getElem? (hpre j) hkl]; exact hp
  have hyL : y.l = p.2 := by
    have := at_map q.wb hy
    rw [List.getElem?_map, hp2] at this
    exact (Option.some.inj this).symm
  have hAf := q.ab k x p hx hp2
  have hru := q.ru p (List.mem_of_getElem? hp2)
  have hgood := hD.aft hAf
  have hwds : k < wds.length := by rw [q.n3, ← q.n1]; exact hlt
  have hw7 : w7.heap.size ≤ w8.heap.size := b8.size
  have hnw4 : wds.length ≤ 264 := by rw [q.n3, ← q.n1]; omega
  have hyk : y.l.length ≤ k := by rw [hyL]; exact bPart_word _ _ _ _ _ hp2
  have d8 : Same w8 w8.drew := (Same.refl w8).drew
  replace q := q.below (d8.below _)
  replace b8 := b8.trans (d8.below _)
  generalize hu8 : w8.drew = u8 at *
  have k18 := (k1.below b8 l1)
  have k78 := (k7.below b8 l7)
  have hRa := Recs.lt teEnc (by decide) (OwnR.recs q.ra teEnc (by decide))
  have sa := q.ra.isSome (by omega)
  have gx := q.ga x (List.mem_of_getElem? hx)
  have gps := gx.n
  have lx := fun {K : Fr → World → Prop} {f : Fr} {d : Option Nat} {w' : World} => hRa.ld0 (P := Tryd.prog) (K := K) (f := f) (d := d) (w := w') ty_ag_48 hx (v := .slice x.A x.ps.length x.c) rfl
  simp only [Nat.mul_one] at lx
  have hI8 := hI7.below b8
  have sI := hI8.isSome (by omega)
  have le := fun {u' : World} (hI : Ints (· < w7.heap.size) u' A1 seen) {K : Fr → World → Prop} {f : Fr} {d : Option Nat} {w : World} => hI.ld (P := Tryd.prog) (K := K) (f := f) (d := d) (w := w) ty_ag_3 j hjt
  have hej := getD_mem seen 0 j hjt
  have hsucc := bPart_succ stp seen fst k j hjt
  generalize hee : seen.getD j 0 = e at *
  have bb8 := bb7.trans (b8.mono bb7.size)
  simp (disch := first | with_reducible assumption | omega) only [push_cast, x_blk, x_cd, ↓reduceIte, Nat.reduceEqDiff, List.map_cons, List.map_nil, Int.reduceEq, Int.lt_irrefl, L_ref12_Leak_2, fr, hlt, hjt, hu8, k18.mA ty_ag_25 ty_sz_25, k78.mA ty_ag_25 ty_sz_25, lx, le hI8]
  refine call_of (ref12_step (h.up bb8) hf (h'.up bb8) hf' p1 p3 hD.hst (hI7.up b8) (by omega) gx.recs.tlt (by omega) (fun z hz => ⟨(gx.row z hz).1.tlt, (gx.row z hz).2⟩) hgood.univ e) ?_
  rintro v w9 ⟨ps, A9, c9, rfl, habs, ops, gps9, b9⟩
  have hAf2 : AftP m s seen (p.2 ++ [e]) (ps.map Atp.abs) := hAf.step (by rw [List.length_map, List.length_map]; exact habs)
  have gps2 := (hD.aft hAf2).len
  rw [List.length_map] at gps2
  replace q := q.below b9
  replace b8 := b8.trans (b9.mono b8.size)
  have hT : PlsT w7.heap.size w9 ⟨A9, c9, ps⟩ := ⟨OwnR.tyb ops atEnc (by decide) (by decide), fun z hz => (gps9 z hz).tyb (Nat.zero_le _), gps2⟩
  have hnp : stp p.1 e = sEst m s L ar seen (p.2 ++ [e]) := by rw [hru, hnx]
  have hmatch : ∀ (i : Nat) (x : TE) (r : Sq), als[i]? = some x → (bPart stp seen fst k j)[i]? = some r → (SameP (x.ps.map Atp.abs) (ps.map Atp.abs) ↔ r.1 = stp p.1 e) := fun i x r h1 h3 => by
    rw [hnp]; exact q.few hD h1 h3 hAf2
  clear lx hRa gx sa gps9 ops habs k18 k78 hI8 sI b9 d8 hgood gps
  simp (disch := first | with_reducible assumption | omega) only [push_cast, x_blk, x_cd, ↓reduceIte, Nat.reduceEqDiff, List.map_cons, List.map_nil, Int.reduceEq, Int.lt_irrefl, fr]
  refine loop_rule (fun f' w' => ∃ (i : Nat) (bo : Bool), i ≤ als.length ∧ (f' 2 = .slice A1 seen.length c1 ∧ f' 3 = .pointer (some ⟨w.heap.size, 0, none⟩) ∧ f' 4 = .pointer (some ⟨w1.heap.size, 0, none⟩) ∧ f' 10 = .slice Aa als.length ca ∧ f' 11 = .slice Aw wds.length cw ∧ f' 12 = .int .i64 k ∧ f' 13 = .int .i64 j ∧ f' 14 = .slice A9 ps.length c9 ∧ f' 15 = .bool bo ∧ f' 16 = .int .i64 i) ∧
      (bo = true → ∃ (i : Nat) (r : Sq), (bPart stp seen fst k j)[i]? = some r ∧ r.1 = stp p.1 e) ∧
      (bo = false → ∀ (i' : Nat) (r : Sq), i' < i → (bPart stp seen fst k j)[i']? = some r → r.1 ≠ stp p.1 e) ∧ Below w9.heap.size w9 w')
    (fun f' _ => als.length - (intOf (f' 16)).toNat) ⟨0, false, Nat.zero_le _, (by simp only [push_cast, ↓reduceIte, Nat.reduceEqDiff, true_and, and_true, and_self, eq_self, fr, fr]), fun h => (by cases h), fun _ i' r hi => absurd hi (by omega), Below.refl _ _⟩ ?_
  clear fr
  rintro f w11 ⟨i, bo, hi, fr, hby, hbn, b11⟩ J3 hJ3
  have q1 := q.below b11
  have b81 := b8.trans (b11.mono b8.size)
  have hmu3 : (intOf (f 16)).toNat = i := by rw [fr.2.2.2.2.2.2.2.2.2]; simp [intOf]
  cases bo with
  | true =>
    obtain ⟨i', r, hr, hre⟩ := hby rfl
    have hin : stp p.1 e ∈ (bPart stp seen fst k j).map (·.1) := List.mem_map.2 ⟨r, List.mem_of_getElem? hr, hre⟩
    rw [bAdd_old hp2 hin] at hsucc
    by_cases hil : i < als.length
    case pos =>
      simp (disch := first | with_reducible assumption | omega) only [push_cast, x_blk, x_cd, ↓reduceIte, Nat.reduceEqDiff, List.map_cons, List.map_nil, Int.reduceEq, Int.lt_irrefl, L_ref12_Leak_1, fr, hil]
      exact hJ2 _ _ ⟨j + 1, als, wds, Aa, Aw, ca, cw, by omega, by omega, (by simp only [push_cast, ↓reduceIte, Nat.reduceEqDiff, true_and, and_true, and_self, eq_self, fr]), by rw [hsucc]; exact q1, b81⟩ (by rw [hmu2]; simp only [push_cast, ↓reduceIte, Nat.reduceEqDiff, intOf, fr]; omega)
    case neg =>
      simp (disch := first | with_reducible assumption | omega) only [push_cast, x_blk, x_cd, ↓reduceIte, Nat.reduceEqDiff, List.map_cons, List.map_nil, Int.reduceEq, Int.lt_irrefl, L_ref12_Leak_1, fr, hil]
      exact hJ2 _ _ ⟨j + 1, als, wds, Aa, Aw, ca, cw, by omega, by omega, (by simp only [push_cast, ↓reduceIte, Nat.reduceEqDiff, true_and, and_true, and_self, eq_self, fr]), by rw [hsucc]; exact q1, b81⟩ (by rw [hmu2]; simp only [push_cast, ↓reduceIte, Nat.reduceEqDiff, intOf, fr]; omega)
  | false =>
    have hbn := hbn rfl
    by_cases hil : i < als.length
    case pos =>
      obtain ⟨x', hx'⟩ := some_of_lt hil
      obtain ⟨r, hr⟩ := some_of_lt (l := bPart stp seen fst k j) (i := i) (by rw [← q.n1]; exact hil)
      have hm' := hmatch i x' r hx' hr
      have gx := q1.ga x' (List.mem_of_getElem? hx')
      have gT := hT.keep (KeepT.below b11)
      have gpx := gx.n
      have hRa := Recs.lt teEnc (by decide) (OwnR.recs q1.ra teEnc (by decide))
      have sa := q1.ra.isSome (by omega)
      have lx := fun {K : Fr → World → Prop} {f : Fr} {d : Option Nat} {w' : World} => hRa.ld0 (P := Tryd.prog) (K := K) (f := f) (d := d) (w := w') ty_ag_48 hx' (v := .slice x'.A x'.ps.length x'.c) rfl
      simp only [Nat.mul_one] at lx
      simp (disch := first | with_reducible assumption | omega) only [push_cast, x_blk, x_cd, ↓reduceIte, Nat.reduceEqDiff, List.map_cons, List.map_nil, Int.reduceEq, Int.lt_irrefl, L_ref12_Leak_1, fr, hil, lx]
      refine call_of (ref12_Same gx.recs.tlt (by omega) (fun z hz => ⟨(gx.row z hz).1.tlt, (gx.row z hz).2⟩) gT.recs.tlt (by omega) (fun z hz => ⟨(gT.row z hz).1.tlt, (gT.row z hz).2⟩)) ?_
      rintro v w12 ⟨rfl, b12⟩
      have b112 := b11.trans (b12.mono b11.size)
      by_cases c3 : SameP (x'.ps.map Atp.abs) (ps.map Atp.abs)
      case neg =>
        simp (disch := first | with_reducible assumption | omega) only [push_cast, x_blk, x_cd, ↓reduceIte, Nat.reduceEqDiff, List.map_cons, List.map_nil, Int.reduceEq, Int.lt_irrefl, decide_eq_false c3, fr]
        exact hJ3 _ _ ⟨i + 1, false, by omega, (by simp only [push_cast, ↓reduceIte, Nat.reduceEqDiff, true_and, and_true, and_self, eq_self, fr]), fun h => (by cases h), fun _ i' r' hi' hr' => by
          by_cases e' : i' = i
          · subst e'
            rw [hr] at hr'
            rw [← Option.some.inj hr']
            exact fun h => c3 (hm'.2 h)
          · exact hbn i' r' (by omega) hr', b112⟩ (by rw [hmu3]; simp only [push_cast, ↓reduceIte, Nat.reduceEqDiff, intOf, fr]; omega)
      simp (disch := first | with_reducible assumption | omega) only [push_cast, x_blk, x_cd, ↓reduceIte, Nat.reduceEqDiff, List.map_cons, List.map_nil, Int.reduceEq, Int.lt_irrefl, decide_eq_true c3, fr]
      exact hJ3 _ _ ⟨i + 1, true, by omega, (by simp only [push_cast, ↓reduceIte, Nat.reduceEqDiff, true_and, and_true, and_self, eq_self, fr]), fun _ => ⟨i, r, hr, hm'.1 c3⟩, fun h => (by cases h), b112⟩ (by rw [hmu3]; simp only [push_cast, ↓reduceIte, Nat.reduceEqDiff, intOf, fr]; omega)
    case neg =>
      have hnin : stp p.1 e ∉ (bPart stp seen fst k j).map (·.1) := fun hin => by
        obtain ⟨r, hr, hre⟩ := List.mem_map.1 hin
        obtain ⟨i', hi', hri⟩ := List.getElem_of_mem hr
        exact hbn i' r (by rw [← q.n1] at hi'; omega) (by rw [List.getElem?_eq_getElem hi', hri]) hre
      rw [bAdd_new hp2 hnin] at hsucc
      have d11 : Same w11 w11.drew := (Same.refl w11).drew
      replace q1 := q1.below (d11.below _)
      replace b81 := b81.trans (d11.below _)
      have hTu := (hT.keep (KeepT.below b11)).keep (KeepT.same d11)
      generalize hu11 : w11.drew = u11 at *
      have hRw := Recs.lt hdEnc (by decide) (OwnR.recs q1.rw hdEnc (by decide))
      have sw := q1.rw.isSome (by omega)
      have ly := fun {K : Fr → World → Prop} {f : Fr} {d : Option Nat} {w' : World} => hRw.ld0 (P := Tryd.prog) (K := K) (f := f) (d := d) (w := w') ty_ag_22 hy (v := .slice y.A y.l.length y.c) rfl
      simp only [Nat.mul_one] at ly
      have gy := (q1.gw y (List.mem_of_getElem? hy)).row.tlt
      have hI9 := hI7.below b81
      have sI := hI9.isSome (by omega)
      clear q hT
      simp (disch := first | with_reducible assumption | omega) only [push_cast, x_blk, x_cd, ↓reduceIte, Nat.reduceEqDiff, List.map_cons, List.map_nil, Int.reduceEq, Int.lt_irrefl, L_ref12_Leak_1, fr, hil, hwds, hjt, hu11, ly, le hI9]
      refine cutT (fun f' w' => ∃ (A12 : Option Addr) (c12 : Nat), (f' 2 = .slice A1 seen.length c1 ∧ f' 3 = .pointer (some ⟨w.heap.size, 0, none⟩) ∧ f' 4 = .pointer (some ⟨w1.heap.size, 0, none⟩) ∧ f' 10 = .slice Aa als.length ca ∧ f' 11 = .slice Aw wds.length cw ∧ f' 12 = .int .i64 k ∧ f' 13 = .int .i64 j ∧ f' 14 = .slice A9 ps.length c9 ∧ f' 17 = .slice A12 (y.l ++ [e]).length c12) ∧
          OwnI u11.heap.size 3 w' A12 c12 (y.l ++ [e]) ∧ Below u11.heap.size u11 w') 20000 40000 (by decide) ?_ ?_
      · intro E hE
        have hlw : y.l.length + 1 = (y.l ++ [e]).length := by simp
        rw [x_t_two]
        refine ⟨?_, ?_⟩
        · have b0 : Below u11.heap.size u11 (u11.alloc (.cells [].toArray 3)) := (Below.refl _ _).alloc (Nat.le_refl _) _
          have o0 : OwnI u11.heap.size 3 (u11.alloc (.cells [].toArray 3)) (some ⟨u11.heap.size, 0, none⟩) 0 [] := ⟨World.ownsRow_made u11 #[] 0 (Nat.le_refl _) (by decide) (by simp)⟩
          have z0 : (u11.alloc (.cells [].toArray 3)).heap.size = u11.heap.size + 1 := by simp
          simp (disch := first | with_reducible assumption | omega) only [push_cast, x_blk, x_cd, ↓reduceIte, Nat.reduceEqDiff, List.map_cons, List.map_nil, Int.reduceEq, Int.lt_irrefl, bs0_22]
          refine ⟨b0, ?_⟩
          generalize u11.alloc (Obj.cells [].toArray 3) = v1 at *
          rw [x_t_two]
          refine ⟨?_, ?_⟩
          · simp (disch := first | with_reducible assumption | omega) only [push_cast, x_blk, x_cd, ↓reduceIte, Nat.reduceEqDiff, List.map_cons, List.map_nil, Int.reduceEq, Int.lt_irrefl]
            refine app_ints (l := []) slT_22 o0 (gy.up b0) (by simp; omega) b0.size ?_
            intro A9' c9' w9 o9 hg9 _ z9
            have b9 := hg9.below b0 b0.size o0.geB
            rw [List.nil_append] at o9
            simp (disch := first | with_reducible assumption | omega) only [push_cast, x_blk, x_cd, ↓reduceIte, Nat.reduceEqDiff, List.map_cons, List.map_nil, Int.reduceEq, Int.lt_irrefl, List.length_nil, Nat.zero_add, bs_22]
            refine ⟨b9, b9.alloc b9.size _, ?_⟩
            refine app_int slT_22 o9 e (by omega) b9.size ?_
            intro A10' c10' w10 o10 hg10 _ _ z10
            have b10 := hg10.below b9 b9.size o9.geB
            simp (disch := first | with_reducible assumption | omega) only [push_cast, x_blk, x_cd, ↓reduceIte, Nat.reduceEqDiff, List.map_cons, List.map_nil, Int.reduceEq, Int.lt_irrefl, fr]
            exact hE _ _ ⟨A10', c10', (by simp only [push_cast, ↓reduceIte, Nat.reduceEqDiff, true_and, and_true, and_self, eq_self, fr, hlw]), o10, b10⟩
          · have oE := own_int1 v1 e 3
            have oo := o0.alloc (.cells [.int .i64 e].toArray 3)
            have b1' := b0.alloc b0.size (.cells [.int .i64 e].toArray 3)
            simp (disch := first | with_reducible assumption | omega) only [push_cast, x_blk, x_cd, ↓reduceIte, Nat.reduceEqDiff, List.map_cons, List.map_nil, Int.reduceEq, Int.lt_irrefl, bs_22]
            refine ⟨b1', ?_⟩
            generalize v1.alloc (Obj.cells [.int .i64 e].toArray 3) = v2 at *
            refine app_ints (l := []) slT_22 oo (gy.up b1') (by simp; omega) b1'.size ?_
            intro A9' c9' w9 o9 hg9 _ z9
            have b9 := hg9.below b1' b1'.size oo.geB
            rw [List.nil_append] at o9
            replace oE := oE.grew hg9 (.inr (by simp; omega))
            simp (disch := first | with_reducible assumption | omega) only [push_cast, x_blk, x_cd, ↓reduceIte, Nat.reduceEqDiff, List.map_cons, List.map_nil, Int.reduceEq, Int.lt_irrefl, List.length_nil, Nat.zero_add]
            refine ⟨b9, ?_⟩
            refine app_ints (m := [e]) slT_22 o9 (OwnI.ints oE) (by simp; omega) b9.size ?_
            intro A10' c10' w10 o10 hg10 _ z10
            have b10 := hg10.below b9 b9.size o9.geB
            simp (disch := first | with_reducible assumption | omega) only [push_cast, x_blk, x_cd, ↓reduceIte, Nat.reduceEqDiff, List.map_cons, List.map_nil, Int.reduceEq, Int.lt_irrefl, fr]
            exact hE _ _ ⟨A10', c10', (by simp only [push_cast, ↓reduceIte, Nat.reduceEqDiff, true_and, and_true, and_self, eq_self, fr, List.length_append]), o10, b10⟩
        · have oE := own_int1 u11 e 3
          have b0 : Below u11.heap.size u11 (u11.alloc (.cells [.int .i64 e].toArray 3)) := (Below.refl _ _).alloc (Nat.le_refl _) _
          simp (disch := first | with_reducible assumption | omega) only [push_cast, x_blk, x_cd, ↓reduceIte, Nat.reduceEqDiff, List.map_cons, List.map_nil, Int.reduceEq, Int.lt_irrefl, bs_22, bs0_22]
          refine ⟨b0, ?_⟩
          have z0 : (u11.alloc (.cells [.int .i64 e].toArray 3)).heap.size = u11.heap.size + 1 := by simp
          generalize u11.alloc (Obj.cells [.int .i64 e].toArray 3) = v1 at *
          have b1' := b0.alloc b0.size (.cells [].toArray 3)
          have oo : OwnI v1.heap.size 3 (v1.alloc (.cells [].toArray 3)) (some ⟨v1.heap.size, 0, none⟩) 0 [] := ⟨World.ownsRow_made v1 #[] 0 (Nat.le_refl _) (by decide) (by simp)⟩
          replace oE := oE.alloc (.cells [].toArray 3)
          refine ⟨b1', ?_⟩
          have z1 : (v1.alloc (.cells [].toArray 3)).heap.size = v1.heap.size + 1 := by simp
          generalize v1.alloc (Obj.cells [].toArray 3) = v2 at *
          refine app_ints (l := []) slT_22 oo (gy.up b1') (by simp; omega) (by omega) ?_
          intro A9' c9' w9 o9 hg9 _ z9
          have b9 := hg9.below b1' b1'.size (fun a ha => by have := oo.geB a ha; omega)
          rw [List.nil_append] at o9
          replace oE := oE.grew hg9 (.inr (by simp; omega))
          simp (disch := first | with_reducible assumption | omega) only [push_cast, x_blk, x_cd, ↓reduceIte, Nat.reduceEqDiff, List.map_cons, List.map_nil, Int.reduceEq, Int.lt_irrefl, List.length_nil, Nat.zero_add]
          refine ⟨b9, ?_⟩
          refine app_ints (m := [e]) slT_22 (o9.base (B' := u11.heap.size) (by omega)) (OwnI.ints oE) (by simp; omega) b9.size ?_
          intro A10' c10' w10 o10 hg10 _ z10
          have b10 := hg10.below b9 b9.size (fun a ha => by have := o9.geB a ha; omega)
          simp (disch := first | with_reducible assumption | omega) only [push_cast, x_blk, x_cd, ↓reduceIte, Nat.reduceEqDiff, List.map_cons, List.map_nil, Int.reduceEq, Int.lt_irrefl, fr]
          exact hE _ _ ⟨A10', c10', (by simp only [push_cast, ↓reduceIte, Nat.reduceEqDiff, true_and, and_true, and_self, eq_self, fr, List.length_append]), o10, b10⟩
      · clear fr
        rintro f w12 ⟨A12, c12, fr, o12, b12⟩
        have q2 := q1.below b12
        have b82 := b81.trans (b12.mono b81.size)
        replace hTu := hTu.keep (KeepT.below b12)
        have hwl : (y.l ++ [e]).length ≤ 100000 := by simp; omega
        have hWu : HdT w7.heap.size w12 ⟨A12, c12, y.l ++ [e]⟩ := ⟨OwnI.tyb o12 (by decide), hwl⟩
        clear q1 b81 o12 b12
        have z82 := b82.size
        simp (disch := first | with_reducible assumption | omega) only [push_cast, x_blk, x_cd, ↓reduceIte, Nat.reduceEqDiff, List.map_cons, List.map_nil, Int.reduceEq, Int.lt_irrefl, fr, bs_94]
        refine app_rec teEnc slT_94 q2.ra ⟨A9, c9, ps⟩ (by omega) (by omega) z82 ?_
        intro Aa' ca' w13 ra13 g13 hA13 hs13 z13
        have kt13 := KeepT.grew (es := esT) (B := w7.heap.size) q2.ra (Nat.le_refl _) (by decide) g13
        have rw13 := q2.rw.grew g13 (Own.apart q2.rw q2.ra (by decide))
        have b83 := g13.below b82 z82 q2.ra.geB
        have z83 := b83.size
        simp (disch := first | with_reducible assumption | omega) only [push_cast, x_blk, x_cd, ↓reduceIte, Nat.reduceEqDiff, List.map_cons, List.map_nil, Int.reduceEq, Int.lt_irrefl, fr, bs_81]
        refine app_rec hdEnc slT_81 rw13 ⟨A12, c12, y.l ++ [e]⟩ (by omega) (by omega) z83 ?_
        intro Aw' cw' w15 rw15 g15 hA15 hs15 z15
        have kt15 := kt13.trans (KeepT.grew (es := esT) (B := w7.heap.size) rw13 (Nat.le_refl _) (by decide) g15)
        have ra15 := ra13.grew g15 (Own.apart ra13 rw13 (by decide))
        have b85 := g15.below b83 z83 rw13.geB
        simp (disch := first | with_reducible assumption | omega) only [push_cast, x_blk, x_cd, ↓reduceIte, Nat.reduceEqDiff, List.map_cons, List.map_nil, Int.reduceEq, Int.lt_irrefl, fr]
        refine hJ2 _ _ ⟨j + 1, als ++ [⟨A9, c9, ps⟩], wds ++ [⟨A12, c12, y.l ++ [e]⟩], Aa', Aw', ca', cw', by omega, by simp; omega, (by simp only [push_cast, ↓reduceIte, Nat.reduceEqDiff, true_and, and_true, and_self, eq_self, fr, List.length_append, List.length_cons, List.length_nil]), ?_, b85⟩ (by rw [hmu2]; simp only [push_cast, ↓reduceIte, Nat.reduceEqDiff, intOf, fr]; omega)
        have spl : ∀ {α : Type} {P : α → Prop} {l : List α} {z : α}, (∀ x ∈ l, P x) → P z → ∀ x ∈ l ++ [z], P x := fun h1 h2 x hx => by
          rcases List.mem_append.1 hx with hx | hx
          · exact h1 x hx
          · rw [List.mem_singleton.1 hx]; exact h2
        rw [hsucc, hyL.symm]
        exact {
          n1 := by rw [List.length_append, List.length_append, q2.n1]; rfl
          n3 := by rw [List.length_append, List.length_append, q2.n3]; rfl
          ra := ra15
          rw := rw15
          ga := spl (fun x hx => (q2.ga x hx).keep kt15) (hTu.keep kt15)
          gw := spl (fun x hx => (q2.gw x hx).keep kt15) (hWu.keep kt15)
          ab := fun i x p' hx hp' => by
            rcases Nat.lt_or_ge i als.length with h1 | h1
            · rw [List.getElem?_append_left h1] at hx
              rw [List.getElem?_append_left (by rw [← q2.n1]; exact h1)] at hp'
              exact q2.ab i x p' hx hp'
            · rw [List.getElem?_append_right h1] at hx
              rw [List.getElem?_append_right (by rw [← q2.n1]; exact h1)] at hp'
              have : i - als.length = 0 := by have := getElem?_lt hx; simp at this; omega
              rw [this] at hx
              rw [← q2.n1, this] at hp'
              simp at hx hp'
              subst hx hp'
              simp only
              rw [hyL]
              exact hAf2
          wb := by rw [List.map_append, List.map_append, q2.wb]; rfl
          ru := spl q2.ru (by simp only; rw [hyL]; exact hnp) }
end
end Go.Proofs.YtcjinmgieiebbaaDoor
