/-
  Chapter 8: the program's Least: by its contract.
-/
import Derived.Test.YtcjedgiglimipaaDoorZLeaQ
import Derived.Test.YtcjedgiglimipaaDoorZDetE
import Derived.Test.YtcjedgiglimipaaDoorZTyB
namespace Go.Proofs.YtcjedgiglimipaaDoor
set_option linter.unusedSimpArgs false
set_option linter.unusedVariables false
set_option linter.unusedSectionVars false
open Go.RowKit

def LeastRes (m : Mach) (w : World) (v : Value) (w' : World) : Prop :=
  ∃ (d : MV) (dm : Mach) (e : Int), v = .tuple #[d.val dm, .int .i64 e] ∧ IsM (· < w'.heap.size) w' d dm ∧ Below w.heap.size w w' ∧
    ((¬ m.May ∧ dm = mach0 ∧ d = mv0 ∧ e = 2) ∨ ((m.May ∧ 6 < m.states) ∧ dm = mach0 ∧ d = mv0 ∧ e = 1) ∨ ((m.May ∧ m.states ≤ 6) ∧ LeastOf m.events (langS m m.starts) dm ∧ e = 0))
def ni (fs : List Nat) : List Int := fs.map fun (n : Nat) => (n : Int)
theorem ni_at {fs : List Nat} {i s : Nat} (h : fs[i]? = some s) : (ni fs).getD i 0 = (s : Int) := by
  unfold ni
  rw [List.getD_eq_getElem?_getD, List.getElem?_map, h]; rfl
theorem ni_snoc (fs : List Nat) (s : Nat) : ni (fs ++ [s]) = ni fs ++ [(s : Int)] := by unfold ni; rw [List.map_append]; rfl
theorem ni_len (fs : List Nat) : (ni fs).length = fs.length := List.length_map ..
def Far (A A2 : Option Addr) : Prop := A = none ∨ A.map (·.block) ≠ A2.map (·.block)
theorem Far.symm {A A2 : Option Addr} (h : Far A A2) : Far A2 A := far_symm h
structure LW (wB : World) (go gM gS E : Nat) (p : List Int) (fs : List Nat) (ao : List Arr) (en : List Int) (A Aa Ae : Option Addr) (c ca ce : Nat) (w' : World) : Prop where
  mac : Blk w' go 25 (MV.cells ⟨some ⟨gS, 0, none⟩, 1, Aa, ca, Ae, ce⟩ ⟨0, E, [0], ao, en⟩)
  s0 : OwnI wB.heap.size 3 w' (some ⟨gS, 0, none⟩) 1 [0]
  fo : OwnI wB.heap.size 3 w' A c (ni fs)
  eo : OwnI wB.heap.size 3 w' Ae ce en
  ar : OwnR arrCells wB.heap.size 85 3 w' Aa ca ao
  map : MapIs Tryd.prog 3 w' gM (kvP p fs)
  sf : Far (some ⟨gS, 0, none⟩) A
  se : Far (some ⟨gS, 0, none⟩) Ae
  fe : Far A Ae
  bel : Below wB.heap.size wB w'
  go0 : wB.heap.size ≤ go
  gM0 : wB.heap.size ≤ gM
section
variable {wB : World} {go gM gS E : Nat} {p : List Int} {fs : List Nat} {ao : List Arr} {en : List Int} {A Aa Ae A' Aa' Ae' : Option Addr} {c ca ce c' ca' ce' : Nat} {w w1 w2 : World}
theorem LW.below (h : LW wB go gM gS E p fs ao en A Aa Ae c ca ce w) (b : Below w.heap.size w w1) : LW wB go gM gS E p fs ao en A Aa Ae c ca ce w1 :=
  ⟨h.mac.below b h.mac.lt, h.s0.below b (Nat.le_refl _), h.fo.below b (Nat.le_refl _), h.eo.below b (Nat.le_refl _), h.ar.below b (Nat.le_refl _), h.map.below b h.map.lt, h.sf, h.se, h.fe, h.bel.trans (b.mono h.bel.size), h.go0, h.gM0⟩
theorem LW.arr (h : LW wB go gM gS E p fs ao en A Aa Ae c ca ce w) {ao' : List Arr} (ho : OwnR arrCells wB.heap.size 85 3 w1 Aa' ca' ao') (g : Grew w w1 Aa) (hb1 : Blk w1 go 25 (MV.cells ⟨some ⟨gS, 0, none⟩, 1, Aa, ca, Ae, ce⟩ ⟨0, E, [0], ao, en⟩))
    (hk : Blk w2 go 25 (MV.cells ⟨some ⟨gS, 0, none⟩, 1, Aa', ca', Ae, ce⟩ ⟨0, E, [0], ao', en⟩)) (g2 : Grew w1 w2 (some ⟨go, 0, none⟩)) : LW wB go gM gS E p fs ao' en A Aa' Ae c ca' ce w2 := by
  have o1 := h.s0.grew g (Own.apart h.s0 h.ar (by decide))
  have o2 := h.fo.grew g (Own.apart h.fo h.ar (by decide))
  have o3 := h.eo.grew g (Own.apart h.eo h.ar (by decide))
  have m1 := h.map.grown g.by_ (h.map.ne_own h.ar)
  have bl := g.below h.bel h.bel.size h.ar.geB
  exact ⟨hk, o1.grew g2 (.inr (o1.ne_blk hb1 (by decide))), o2.grew g2 (.inr (o2.ne_blk hb1 (by decide))), o3.grew g2 (.inr (o3.ne_blk hb1 (by decide))), ho.grew g2 (.inr (ho.ne_blk hb1 (by decide))), m1.grown g2.by_ (by simpa using m1.ne_blk hb1), h.sf, h.se, h.fe, g2.below bl bl.size (by intro a ha; injection ha with ha; subst ha; exact h.go0), h.go0, h.gM0⟩
theorem LW.ends (h : LW wB go gM gS E p fs ao en A Aa Ae c ca ce w) {en' : List Int} (ho : OwnI wB.heap.size 3 w1 Ae' ce' en') (g : Grew w w1 Ae) (hA : Ae'.map (·.block) = Ae.map (·.block) ∨ ∃ g, Ae'.map (·.block) = some g ∧ w.heap.size ≤ g) (hb1 : Blk w1 go 25 (MV.cells ⟨some ⟨gS, 0, none⟩, 1, Aa, ca, Ae, ce⟩ ⟨0, E, [0], ao, en⟩))
    (hk : Blk w2 go 25 (MV.cells ⟨some ⟨gS, 0, none⟩, 1, Aa, ca, Ae', ce'⟩ ⟨0, E, [0], ao, en'⟩)) (g2 : Grew w1 w2 (some ⟨go, 0, none⟩)) : LW wB go gM gS E p fs ao en' A Aa Ae' c ca ce' w2 := by
  have o1 := h.s0.grew g h.se
  have o2 := h.fo.grew g h.fe
  have o3 := h.ar.grew g (Own.apart h.ar h.eo (by decide))
  have m1 := h.map.grown g.by_ (h.map.ne_own h.eo)
  have bl := g.below h.bel h.bel.size h.eo.geB
  exact ⟨hk, o1.grew g2 (.inr (o1.ne_blk hb1 (by decide))), o2.grew g2 (.inr (o2.ne_blk hb1 (by decide))), ho.grew g2 (.inr (ho.ne_blk hb1 (by decide))), o3.grew g2 (.inr (o3.ne_blk hb1 (by decide))), m1.grown g2.by_ (by simpa using m1.ne_blk hb1), h.sf, Own.far h.s0 h.eo h.se hA, Own.far h.fo h.eo h.fe hA, g2.below bl bl.size (by intro a ha; injection ha with ha; subst ha; exact h.go0), h.go0, h.gM0⟩
theorem LW.new (h : LW wB go gM gS E p fs ao en A Aa Ae c ca ce w) {t : Nat} (hm : MapIs Tryd.prog 3 w1 gM (kvP p (fs ++ [t]))) (g : Grew w w1 (some ⟨gM, 0, none⟩)) (hf1 : OwnI wB.heap.size 3 w1 A c (ni fs))
    (ho : OwnI wB.heap.size 3 w2 A' c' (ni (fs ++ [t]))) (g2 : Grew w1 w2 A) (hA : A'.map (·.block) = A.map (·.block) ∨ ∃ g, A'.map (·.block) = some g ∧ w1.heap.size ≤ g) : LW wB go gM gS E p (fs ++ [t]) ao en A' Aa Ae c' ca ce w2 := by
  have o1 := h.s0.grew g (.inr fun e => h.map.ne_own h.s0 e.symm)
  have o2 := h.eo.grew g (.inr fun e => h.map.ne_own h.eo e.symm)
  have o3 := h.ar.grew g (.inr fun e => h.map.ne_own h.ar e.symm)
  have k1 := h.mac.grown g.by_ (by have := h.map.ne_blk h.mac; simpa using fun e => this e.symm)
  have bl := g.below h.bel h.bel.size (by intro a ha; injection ha with ha; subst ha; exact h.gM0)
  exact ⟨k1.grown g2.by_ (fun e => hf1.ne_blk k1 (by decide) e.symm), o1.grew g2 h.sf, ho, o2.grew g2 h.fe.symm, o3.grew g2 (Own.apart o3 hf1 (by decide)), hm.grown g2.by_ (hm.ne_own hf1), Own.far o1 hf1 h.sf hA, h.se, far_symm (Own.far o2 hf1 h.fe.symm hA), g2.below bl bl.size hf1.geB, h.go0, h.gM0⟩
end
theorem least_Least {w : World} {a : MV} {m : Mach} (h : IsM (· < w.heap.size) w a m) (hf : m.Fits) (hT : Tab w) :
    Cal Tryd.prog 24 [a.val m] w (LeastRes m w) := by
  have e5 : ∀ (a : MV) (m : Mach), tySize Tryd.prog 25 = some (a.cells m).length := fun a m => ty_sz_25
  have e4 : ∀ l : List Int, tySize Tryd.prog 76 = some (setCells (wordsOf l)).length := fun l => by rw [setCells_4]; exact ty_sz_76
  refine cal_least_Least (by simp) 100000 fun Q hQ => ?_
  simp (disch := first | with_reducible assumption | omega) only [push_cast, x_blk, x_cd, ↓reduceIte, Nat.reduceEqDiff, List.map_cons, List.map_nil, Int.reduceEq, Int.lt_irrefl, F_least_Least]
  refine blk_of (box_agg _ (a.cells m)) ?_
  intro w1 k1 b1 z1
  simp (disch := first | with_reducible assumption | omega) only [push_cast, x_blk, x_cd, ↓reduceIte, Nat.reduceEqDiff, List.map_cons, List.map_nil, Int.reduceEq, Int.lt_irrefl]
  refine blk_of (cs := mv0.cells mach0) al_25 ?_
  intro w2 k2 b2 z2
  replace k1 := k1.below b2 k1.lt
  have bb := b1.trans (b2.mono b1.size)
  simp (disch := first | with_reducible assumption | omega) only [push_cast, x_blk, x_cd, ↓reduceIte, Nat.reduceEqDiff, List.map_cons, List.map_nil, Int.reduceEq, Int.lt_irrefl, k1.mA ty_ag_25 ty_sz_25]
  refine call_of (machine_May (h.up bb) hf) ?_
  rintro v w3 ⟨rfl, b3⟩
  replace k1 := k1.below b3 k1.lt
  replace k2 := k2.below b3 k2.lt
  replace bb := bb.trans (b3.mono bb.size)
  have z2' : w.heap.size ≤ w1.heap.size := by omega
  by_cases p1 : m.May
  case neg =>
    simp (disch := first | with_reducible assumption | omega) only [push_cast, x_blk, x_cd, ↓reduceIte, Nat.reduceEqDiff, List.map_cons, List.map_nil, Int.reduceEq, Int.lt_irrefl, p1, mach0_built]
    refine sto_blk k2 (cs := mv0.cells mach0) (e5 _ _) rfl (by rfl) ?_
    intro w4 k4 g4 z4
    simp (disch := first | with_reducible assumption | omega) only [push_cast, x_blk, x_cd, ↓reduceIte, Nat.reduceEqDiff, List.map_cons, List.map_nil, Int.reduceEq, Int.lt_irrefl]
    exact fin_c2 k4 ty_ag_25 (e5 _ _) (by simp only [push_cast, ↓reduceIte, Nat.reduceEqDiff, Int.reduceEq]) (hQ _ _ ⟨mv0, mach0, 2, (by simp only [push_cast, ↓reduceIte, Nat.reduceEqDiff, Int.reduceEq]), mach0_is _ _,
      g4.below bb bb.size (by intro a ha; injection ha with ha; subst ha; exact z2'), .inl ⟨p1, rfl, rfl, rfl⟩⟩)
  by_cases p2 : (6 : Int) < m.states
  · simp (disch := first | with_reducible assumption | omega) only [push_cast, x_blk, x_cd, ↓reduceIte, Nat.reduceEqDiff, List.map_cons, List.map_nil, Int.reduceEq, Int.lt_irrefl, p1, p2, mach0_built, k1.m0 ty_ag_3]
    refine sto_blk k2 (cs := mv0.cells mach0) (e5 _ _) rfl (by rfl) ?_
    intro w4 k4 g4 z4
    simp (disch := first | with_reducible assumption | omega) only [push_cast, x_blk, x_cd, ↓reduceIte, Nat.reduceEqDiff, List.map_cons, List.map_nil, Int.reduceEq, Int.lt_irrefl]
    exact fin_c2 k4 ty_ag_25 (e5 _ _) (by simp only [push_cast, ↓reduceIte, Nat.reduceEqDiff, Int.reduceEq]) (hQ _ _ ⟨mv0, mach0, 1, (by simp only [push_cast, ↓reduceIte, Nat.reduceEqDiff, Int.reduceEq]), mach0_is _ _,
      g4.below bb bb.size (by intro a ha; injection ha with ha; subst ha; exact z2'), .inr (.inl ⟨⟨p1, p2⟩, rfl, rfl, rfl⟩)⟩)
  have h6 : m.states ≤ 6 := by omega
  simp (disch := first | with_reducible assumption | omega) only [push_cast, x_blk, x_cd, ↓reduceIte, Nat.reduceEqDiff, List.map_cons, List.map_nil, Int.reduceEq, Int.lt_irrefl, p1, p2, k1.m0 ty_ag_3, k1.mA ty_ag_25 ty_sz_25]
  clear k1
  refine call_of (determine_Make (h.up bb) hf (hT.below bb hT.lt)) ?_
  rintro v w4 ⟨ad, d, RA, rc, hs, e, rfl, hd, _, _, b4, hsp⟩
  obtain ⟨rfl, ar, hD, rfl⟩ := make_ok p1 h6 hsp
  replace k2 := k2.below b4 k2.lt
  replace bb := bb.trans (b4.mono bb.size)
  generalize hLL : hs.map (·.l) = L at *
  have hDM := DM.of hD
  simp (disch := first | with_reducible assumption | omega) only [push_cast, x_blk, x_cd, ↓reduceIte, Nat.reduceEqDiff, List.map_cons, List.map_nil, Int.reduceEq, Int.lt_irrefl]
  refine blk_of (cs := mv0.cells mach0) al_25 ?_
  intro w5 k5 b5 z5
  simp (disch := first | with_reducible assumption | omega) only [push_cast, x_blk, x_cd, ↓reduceIte, Nat.reduceEqDiff, List.map_cons, List.map_nil, Int.reduceEq, Int.lt_irrefl]
  refine sto_mach k5 rfl ad (detOf m L ar) ?_
  intro w6 k6 g6 z6
  have b6 := g6.below b5 b5.size (by intro a ha; injection ha with ha; subst ha; exact Nat.le_refl _)
  replace hd := hd.up b6
  replace k2 := k2.below b6 k2.lt
  replace bb := bb.trans (b6.mono bb.size)
  have g24 : w1.heap.size < w4.heap.size := by have := k2.lt; have := b3.size; have := b4.size; omega
  simp (disch := first | with_reducible assumption | omega) only [push_cast, x_blk, x_cd, ↓reduceIte, Nat.reduceEqDiff, List.map_cons, List.map_nil, Int.reduceEq, Int.lt_irrefl, k6.mA ty_ag_25 ty_sz_25]
  refine call_of (least_parts hDM hd) ?_
  rintro v w7 ⟨gp, p, rfl, hpl, op, b7, hpr, hpe⟩
  have hd0 := hDM.d0
  have hdn := hDM.dn
  have he8 := hDM.e8
  have hev := hDM.ev
  have hst := hDM.st
  have hrE := hDM.ends
  have b67 := b7
  replace hd := hd.up b7
  replace k2 := k2.below b7 k2.lt
  replace k6 := k6.below b7 k6.lt
  replace bb := bb.trans (b7.mono bb.size)
  have z67 := b7.size
  simp (disch := first | with_reducible assumption | omega) only [push_cast, x_blk, x_cd, ↓reduceIte, Nat.reduceEqDiff, List.map_cons, List.map_nil, Int.reduceEq, Int.lt_irrefl, k6.m4 ty_ag_22]
  refine call_of (machine_Of' hd.ends ad.ce (by have := row_lenH hrE; omega) (hrE.small (by omega))) ?_
  rintro v w8 ⟨rfl, b8⟩
  replace hd := hd.up b8
  replace k2 := k2.below b8 k2.lt
  replace k6 := k6.below b8 k6.lt
  replace op := op.below b8 (Nat.le_refl _)
  replace bb := bb.trans (b8.mono bb.size)
  have z78 := b8.size
  simp (disch := first | with_reducible assumption | omega) only [push_cast, x_blk, x_cd, ↓reduceIte, Nat.reduceEqDiff, List.map_cons, List.map_nil, Int.reduceEq, Int.lt_irrefl]
  refine blk_of (cs := setCells (wordsOf [])) al_76 ?_
  intro w9 k9 b9 z9
  simp (disch := first | with_reducible assumption | omega) only [push_cast, x_blk, x_cd, ↓reduceIte, Nat.reduceEqDiff, List.map_cons, List.map_nil, Int.reduceEq, Int.lt_irrefl]
  refine sto_blk k9 (cs := setCells (wordsOf (detOf m L ar).ends)) (e4 _) (by rw [setCells_len, setCells_len, (wordsOf_words _).1, (wordsOf_words _).1]) (setCells_one _) ?_
  intro w10 k10 g10 z10
  have b10 := g10.below b9 b9.size (by intro a ha; injection ha with ha; subst ha; exact Nat.le_refl _)
  replace hd := hd.up b10
  replace k2 := k2.below b10 k2.lt
  replace k6 := k6.below b10 k6.lt
  replace op := op.below b10 (Nat.le_refl _)
  replace bb := bb.trans (b10.mono bb.size)
  have hop := (OwnI.ints op).lt
  have g8l := k10.lt
  have g2l := k2.lt
  have g4l := k6.lt
  have hgp0 : (some (⟨gp, 0, none⟩ : Addr)).isSome = true := rfl
  have hp0 : 0 < p.length := by omega
  have hp64 : ∀ i, I64 (p.getD i 0) := fun i => by
    by_cases hi : i < p.length
    · have := hpr _ (getD_mem p 0 i hi); unfold I64; omega
    · rw [List.getD_eq_getElem?_getD, List.getElem?_eq_none (by omega)]; unfold I64; simp
  generalize hg8 : w8.heap.size = g8 at *
  generalize hg4 : w4.heap.size = gd at *
  generalize hg2 : w1.heap.size = g2 at *
  clear b1 b2 b3 b4 b5 b6 b7 b8 b9 z1 z2 z5 z6 z9 z10 k5 k9 g6 g10 b10
  have oS := own_int1 w10 0 3
  have bS : Below w10.heap.size w10 (w10.alloc (.cells [.int .i64 0].toArray 3)) := (Below.refl _ _).alloc (Nat.le_refl _) _
  have zS : (w10.alloc (.cells [.int .i64 0].toArray 3)).heap.size = w10.heap.size + 1 := by simp
  simp (disch := first | with_reducible assumption | omega) only [push_cast, x_blk, x_cd, ↓reduceIte, Nat.reduceEqDiff, List.map_cons, List.map_nil, Int.reduceEq, Int.lt_irrefl, k6.m1 ty_ag_3, hev, bs_22]
  generalize w10.alloc (.cells [.int .i64 0].toArray 3) = w11 at *
  simp (disch := first | with_reducible assumption | omega) only [push_cast, x_blk, x_cd, ↓reduceIte, Nat.reduceEqDiff, List.map_cons, List.map_nil, Int.reduceEq, Int.lt_irrefl, bl_mach12]
  refine blk_of (cs := mv0.cells mach0) al_25 ?_
  intro w12 k12 b12 z12
  simp (disch := first | with_reducible assumption | omega) only [push_cast, x_blk, x_cd, ↓reduceIte, Nat.reduceEqDiff, List.map_cons, List.map_nil, Int.reduceEq, Int.lt_irrefl]
  refine sto_blk k12 (cs := MV.cells ⟨some ⟨w10.heap.size, 0, none⟩, 1, none, 0, none, 0⟩ ⟨0, m.events.toNat, [0], [], []⟩) (e5 _ _) rfl (by rfl) ?_
  intro w13 k13 g13 z13
  have b13 := g13.below b12 b12.size (by intro a ha; injection ha with ha; subst ha; exact Nat.le_refl _)
  replace oS := oS.below b13 (Nat.le_refl _)
  replace bS := bS.trans (b13.mono (by omega))
  have hmt : Tryd.prog.underlying 91 = some (.map 3 3) := Tryd.underlying91
  have hzi : (Tryd.prog.info? 3).map (·.zero) = some (some (.int .i64 0)) := by kernel_rfl
  simp (disch := first | with_reducible assumption | omega) only [push_cast, x_blk, x_cd, ↓reduceIte, Nat.reduceEqDiff, List.map_cons, List.map_nil, Int.reduceEq, Int.lt_irrefl, e_makeMap]
  refine map_made (k := 3) _ ?_
  intro w14 m14 b14 z14
  replace oS := oS.below b14 (Nat.le_refl _)
  replace k13 := k13.below b14 k13.lt
  replace bS := bS.trans (b14.mono bS.size)
  have hop14 := hop.below bS
  have hd0' : (0 : Int) < (L.length : Int) := by omega
  simp (disch := first | with_reducible assumption | omega) only [push_cast, x_blk, x_cd, ↓reduceIte, Nat.reduceEqDiff, List.map_cons, List.map_nil, Int.reduceEq, Int.lt_irrefl, hgp0, hd0, hd0', Int.le_refl, Int.toNat_zero, hop14.ld ty_ag_3 0 hp0, e_insert]
  refine map_new keyed_i hmt m14 (key_i (hp64 0)) (by simp) _ ?_
  intro w15 m15 g15 z15
  have m16 : MapIs Tryd.prog 3 w15 w13.heap.size (kvP p [0]) := m15
  replace oS := oS.grew g15 (.inr fun e => m14.ne_own oS e.symm)
  replace k13 := k13.grown g15.by_ (by have := m14.ne_blk k13; simpa using fun e => this e.symm)
  have gM0 : w10.heap.size ≤ w13.heap.size := by have := b13.size; omega
  replace bS := g15.below bS bS.size (by intro a ha; injection ha with ha; subst ha; exact gM0)
  have oF := own_int1 w15 0 3
  have bF : Below w15.heap.size w15 (w15.alloc (.cells [.int .i64 0].toArray 3)) := (Below.refl _ _).alloc (Nat.le_refl _) _
  have gFl := bS.size
  have gSl : w10.heap.size < w15.heap.size := (oS.block rfl).2
  simp (disch := first | with_reducible assumption | omega) only [push_cast, x_blk, x_cd, ↓reduceIte, Nat.reduceEqDiff, List.map_cons, List.map_nil, Int.reduceEq, Int.lt_irrefl, bs_22]
  generalize w15.alloc (.cells [.int .i64 0].toArray 3) = w16 at *
  have hLQ := LQ.start hD
  have hLW : LW w10 w11.heap.size w13.heap.size w10.heap.size m.events.toNat p [0] [] [] (some ⟨w15.heap.size, 0, none⟩) none none 1 0 0 w16 :=
    ⟨k13.below bF k13.lt, oS.below bF (Nat.le_refl _), oF.base gFl, Own.nil _ _ _ _, Own.nil _ _ _ _, m16.below bF m16.lt, .inr (by simp; omega), .inr (by simp), .inr (by simp), bS.trans (bF.mono gFl), by omega, gM0⟩
  have he0 : endsG nilG (ndL m L ar [0]) 0 = [] := rfl
  rw [← he0] at hLW
  refine loop_rule (fun f w' => ∃ (k : Nat) (fs : List Nat) (ao : List Arr) (A Aa Ae : Option Addr) (c ca ce : Nat), k ≤ fs.length ∧ LQ m L ar k 0 fs ao ∧
      (f 2 = .pointer (some ⟨g2, 0, none⟩) ∧ f 4 = .pointer (some ⟨gd, 0, none⟩) ∧ f 7 = .slice (some ⟨gp, 0, none⟩) L.length L.length ∧ f 8 = .pointer (some ⟨g8, 0, none⟩) ∧ f 9 = .pointer (some ⟨w11.heap.size, 0, none⟩) ∧ f 10 = .map (some w13.heap.size) ∧ f 11 = .slice A fs.length c ∧ f 12 = .int .i64 k) ∧
      LW w10 w11.heap.size w13.heap.size w10.heap.size m.events.toNat p fs ao (endsG nilG (ndL m L ar fs) k) A Aa Ae c ca ce w')
    (fun f _ => 300 - (intOf (f 12)).toNat) ⟨0, [0], [], _, none, none, 1, 0, 0, by omega, hLQ, ⟨rfl, rfl, rfl, rfl, rfl, rfl, rfl, rfl⟩, hLW⟩ ?_
  clear hLQ hLW he0 oF bF gFl gSl oS k13 m15 m16 bS g15 z15 m14 b14 z14 k12 b12 z12 b13 g13 z13 hop14
  rintro f w17 ⟨k, fs, ao, A, Aa, Ae, c, ca, ce, hk, hQ1, fr, hW⟩ J hJ
  have hfl := hQ1.len
  have bl := hW.bel
  have k6' := k6.below bl g4l
  have k10' := k10.below bl g8l
  have hop' := hop.below bl
  by_cases hlt : (k : Int) < (fs.length : Int)
  case neg =>
    have hke : fs.length = k := by omega
    have hmE : ((m.events.toNat : Nat) : Int) = m.events := hD.ev
    have hdone := hQ1.done hD.l256 hke
    have k2' := k2.below bl g2l
    have bbl := bb.trans (bl.mono bb.size)
    have hz10 := bb.size
    simp (disch := first | with_reducible assumption | omega) only [push_cast, x_blk, x_cd, ↓reduceIte, Nat.reduceEqDiff, List.map_cons, List.map_nil, Int.reduceEq, Int.lt_irrefl, L_least_Least_1, fr, hlt]
    refine sto_cell hW.mac (by kernel_rfl) 0 (by simp) _ _ ?_
    intro w18 k18 g18 z18
    have k18' : Blk w18 w11.heap.size 25 (MV.cells ⟨some ⟨w10.heap.size, 0, none⟩, 1, Aa, ca, Ae, ce⟩ ⟨fs.length, m.events.toNat, [0], ao, endsG nilG (ndL m L ar fs) k⟩) := k18
    have k28 := k2'.grown g18.by_ (by have := hW.go0; simp; omega)
    simp (disch := first | with_reducible assumption | omega) only [push_cast, x_blk, x_cd, ↓reduceIte, Nat.reduceEqDiff, List.map_cons, List.map_nil, Int.reduceEq, Int.lt_irrefl, fr, k18'.mA ty_ag_25 ty_sz_25]
    refine sto_mach k28 rfl _ _ ?_
    intro w19 k19 g19 z19
    simp (disch := first | with_reducible assumption | omega) only [push_cast, x_blk, x_cd, ↓reduceIte, Nat.reduceEqDiff, List.map_cons, List.map_nil, Int.reduceEq, Int.lt_irrefl, fr]
    have s0' := hW.s0.grew g18 (.inr (hW.s0.ne_blk hW.mac (by decide)))
    have e0' := hW.eo.grew g18 (.inr (hW.eo.ne_blk hW.mac (by decide)))
    have a0' := hW.ar.grew g18 (.inr (hW.ar.ne_blk hW.mac (by decide)))
    have bl8 := g18.below bbl bbl.size (by intro a ha; injection ha with ha; subst ha; have := hW.go0; show w.heap.size ≤ w11.heap.size; omega)
    have bl9 := g19.below bl8 bl8.size (by intro a ha; injection ha with ha; subst ha; exact z2')
    have kp : ∀ b, w10.heap.size ≤ b ∧ b < w18.heap.size → w19.heap[b]? = w18.heap[b]? ∧ b < w19.heap.size := fun b hb => ⟨g19.by_.block b hb.2 (by simp; omega), by omega⟩
    exact fin_c2 k19 ty_ag_25 (e5 _ _) (by simp only [push_cast, ↓reduceIte, Nat.reduceEqDiff, Int.reduceEq, fr]) (hQ _ _ ⟨⟨some ⟨w10.heap.size, 0, none⟩, 1, Aa, ca, Ae, ce⟩, ⟨fs.length, m.events.toNat, [0], ao, endsG nilG (ndL m L ar fs) k⟩, 0, (by simp only [push_cast, ↓reduceIte, Nat.reduceEqDiff, Int.reduceEq, fr]),
      ⟨(((OwnI.ints s0').both (OwnI.ints s0').lt).mono fun b hb => (⟨hb.1.1, hb.2⟩ : w10.heap.size ≤ b ∧ b < w18.heap.size)).keep' kp, (Arrs.of_recs (((OwnR.recs a0' arrEnc (by decide)).both (Recs.lt arrEnc (by decide) (OwnR.recs a0' arrEnc (by decide)))).mono fun b hb => (⟨hb.1.1, hb.2⟩ : w10.heap.size ≤ b ∧ b < w18.heap.size))).keep' kp,
        (((OwnI.ints e0').both (OwnI.ints e0').lt).mono fun b hb => (⟨hb.1.1, hb.2⟩ : w10.heap.size ≤ b ∧ b < w18.heap.size)).keep' kp⟩, bl9, .inr (.inr ⟨⟨p1, h6⟩, by rw [hke, hmE]; exact hdone, rfl⟩)⟩)
  have hkl : k < fs.length := by omega
  obtain ⟨s, hs⟩ : ∃ s, fs[k]? = some s := ⟨_, List.getElem?_eq_getElem hkl⟩
  have hsL := hQ1.lt s (List.mem_of_getElem? hs)
  have hIf := OwnI.ints hW.fo
  have hkn : k < (ni fs).length := by rw [ni_len]; exact hkl
  have hAs := hIf.isSome (by omega)
  have hns := ni_at hs
  have hmu : 300 - (intOf (f 12)).toNat = 300 - k := by rw [fr.2.2.2.2.2.2.2]; simp [intOf]
  rw [hmu] at hJ
  have hk300 : k < 300 := by omega
  have hl8 := fun {K : Fr → World → Prop} {f : Fr} {d : Option Nat} {w' : World} => Blk.ldAll (P := Tryd.prog) (K := K) (f := f) (d := d) (w := w') k10' ty_ag_76 (by rw [setCells_4]; exact ty_sz_76)
  simp (disch := first | with_reducible assumption | omega) only [push_cast, x_blk, x_cd, ↓reduceIte, Nat.reduceEqDiff, List.map_cons, List.map_nil, Int.reduceEq, Int.lt_irrefl, L_least_Least_1, fr, hlt, hkl, hAs, hIf.ld ty_ag_3 k hkn, hns, hl8]
  refine call_of (set_Has' (detOf m L ar).ends (s : Int) (by omega) (by omega) w17) ?_
  rintro v w18 ⟨rfl, b18⟩
  replace hW := hW.below b18
  have hen := ends_next (m := m) (L := L) (ar := ar) hs
  have hel := endsG_len nilG (ndL m L ar fs) k
  by_cases q : (s : Int) ∈ (detOf m L ar).ends
  case' pos =>
    rw [if_pos q] at hen
    simp (disch := first | with_reducible assumption | omega) only [push_cast, x_blk, x_cd, ↓reduceIte, Nat.reduceEqDiff, List.map_cons, List.map_nil, Int.reduceEq, Int.lt_irrefl, q, fr, hW.mac.m4 ty_ag_22]
    refine app_int slT_22 hW.eo (k : Int) (by omega) hW.bel.size ?_
    intro Ae2 ce2 w19 o19 g19 hA19 hs19 hz19
    have km := hW.mac.grown g19.by_ (fun e => hW.eo.ne_blk hW.mac (by decide) e.symm)
    simp (disch := first | with_reducible assumption | omega) only [push_cast, x_blk, x_cd, ↓reduceIte, Nat.reduceEqDiff, List.map_cons, List.map_nil, Int.reduceEq, Int.lt_irrefl, fr]
    refine sto_slice km (by kernel_rfl) 4 (by simp) _ _ _ ?_
    intro w20 k20 g20 z20
    have hW2 := hW.ends o19 g19 hA19 km (by
      have k := k20
      simp only [MV.cells, List.length_append, List.length_cons, List.length_nil, Nat.zero_add] at k ⊢
      exact k) g20
    rw [← hen] at hW2
  case' neg =>
    rw [if_neg q] at hen
    have hW2 := hW
    rw [← hen] at hW2
    simp (disch := first | with_reducible assumption | omega) only [push_cast, x_blk, x_cd, ↓reduceIte, Nat.reduceEqDiff, List.map_cons, List.map_nil, Int.reduceEq, Int.lt_irrefl, q, fr]
  all_goals
    have k6' := k6.below hW2.bel g4l
    simp (disch := first | with_reducible assumption | omega) only [push_cast, x_blk, x_cd, ↓reduceIte, Nat.reduceEqDiff, List.map_cons, List.map_nil, Int.reduceEq, Int.lt_irrefl, fr, k6'.m1 ty_ag_3, hev]
    clear k6'
    refine loop_rule (fun f w' => ∃ (j : Nat) (fs : List Nat) (ao : List Arr) (A Aa Ae : Option Addr) (c ca ce : Nat), j ≤ m.events.toNat ∧ LQ m L ar k j fs ao ∧ fs[k]? = some s ∧
        (f 2 = .pointer (some ⟨g2, 0, none⟩) ∧ f 4 = .pointer (some ⟨gd, 0, none⟩) ∧ f 7 = .slice (some ⟨gp, 0, none⟩) L.length L.length ∧ f 8 = .pointer (some ⟨g8, 0, none⟩) ∧ f 9 = .pointer (some ⟨w11.heap.size, 0, none⟩) ∧ f 10 = .map (some w13.heap.size) ∧ f 11 = .slice A fs.length c ∧ f 12 = .int .i64 k ∧ f 13 = .int .i64 s ∧ f 67 = .int .i64 m.events.toNat ∧ f 68 = .int .i64 j) ∧
        LW w10 w11.heap.size w13.heap.size w10.heap.size m.events.toNat p fs ao (endsG nilG (ndL m L ar fs) (k + 1)) A Aa Ae c ca ce w')
      (fun f _ => m.events.toNat - (intOf (f 68)).toNat) ⟨0, fs, ao, A, Aa, _, c, ca, _, by omega, hQ1, hs, (by simp only [push_cast, ↓reduceIte, Nat.reduceEqDiff, true_and, and_true, and_self, eq_self, fr]), hW2⟩ ?_
    clear hW2 hW fr hQ1 hs hIf hkn hAs hns hl8 hen hel hmu k10' hop' bl
    rintro f w21 ⟨j, fs, ao, A, Aa, Ae, c, ca, ce, hj, hQ1, hs, fr, hW⟩ J2 hJ2
    have hkl : k < fs.length := (List.getElem?_eq_some_iff.1 hs).1
    have hfl := hQ1.len
    by_cases hjE : (j : Int) < (m.events.toNat : Int)
    case neg =>
      have hje : j = m.events.toNat := by omega
      rw [hje] at hQ1
      simp (disch := first | with_reducible assumption | omega) only [push_cast, x_blk, x_cd, ↓reduceIte, Nat.reduceEqDiff, List.map_cons, List.map_nil, Int.reduceEq, Int.lt_irrefl, L_least_Least_0, fr, hjE, Int.lt_irrefl]
      refine hJ _ _ ⟨k + 1, fs, ao, A, Aa, Ae, c, ca, ce, by omega, hQ1.round, (by simp only [push_cast, ↓reduceIte, Nat.reduceEqDiff, true_and, and_true, and_self, eq_self, fr]), hW⟩ ?_
      simp only [push_cast, ↓reduceIte, Nat.reduceEqDiff, intOf, fr]
      omega
    have hjn : j < m.events.toNat := by omega
    have bl := hW.bel
    have k6' := k6.below bl g4l
    have hop' := hop.below bl
    have hAr := (hd.up bl).arrows
    have hat := hDM.at_ hsL hjn
    have hdl := hDM.dl_lt hsL hjn
    have hde := hDM.dl_eq hsL hjn
    have hil : s * m.events.toNat + j < (detOf m L ar).arrows.length := by rw [hDM.len]; exact hat
    have hAs := hAr.isSome (by omega)
    have hDE : L.length * m.events.toNat ≤ 256 * 8 := Nat.mul_le_mul hdn he8
    have hold := fun {i u : Nat} (hi : fs[i]? = some u) => hQ1.old hD hjn hs hi
    have hnew := hQ1.new hD hjn hs
    have hsm := fun {u : Nat} (hu : u < L.length) => (hpe u (dl (detOf m L ar) m.events.toNat s j) hu hdl).trans (dm_same hD hu hdl)
    have hal := hQ1.arr.len (by rw [evs_len]; exact hj)
    rw [evs_len] at hal
    have hkE : k * m.events.toNat ≤ 256 * 8 := Nat.mul_le_mul (by omega) he8
    obtain ⟨m0, hm0⟩ : ∃ m0 : Nat, s * m.events.toNat = m0 := ⟨_, rfl⟩
    have hmi : (s : Int) * (m.events.toNat : Int) = (m0 : Int) := by rw [← hm0]; exact (Int.natCast_mul s m.events.toNat).symm
    obtain ⟨m1, hm1⟩ : ∃ m1 : Nat, m0 + j = m1 := ⟨_, rfl⟩
    have hmi1 : (m0 : Int) + (j : Int) = (m1 : Int) := by omega
    rw [hm0, hm1] at hil hde
    have hdp : dl (detOf m L ar) m.events.toNat s j < p.length := by omega
    generalize hT' : dl (detOf m L ar) m.events.toNat s j = t at *
    simp (disch := first | with_reducible assumption | omega) only [push_cast, x_blk, x_cd, ↓reduceIte, Nat.reduceEqDiff, List.map_cons, List.map_nil, Int.reduceEq, Int.lt_irrefl, L_least_Least_0, fr, hjE, k6'.m3 ty_ag_23, k6'.m1 ty_ag_3, hev, hmi, hmi1, hil, hAs, hAr.ld2 ty_ag_3 m1 hil, hde, hgp0, hdl, hop'.ld ty_ag_3 t hdp, Int.natCast_nonneg, v_lookup]
    refine map_look keyed_i hmt hzi true hW.map (key_i (hp64 t)) (fun v hv => ?_) fun hno => ?_
    · obtain ⟨i, u, hiu, hpu, rfl⟩ := kvP_mem hv
      have hQ3 := hold hiu ((hsm (hQ1.lt u (List.mem_of_getElem? hiu))).1 hpu)
      have hW3 := hW
      simp (disch := first | with_reducible assumption | omega) only [push_cast, x_blk, x_cd, ↓reduceIte, Nat.reduceEqDiff, List.map_cons, List.map_nil, Int.reduceEq, Int.lt_irrefl, fr]
      have km := hW3.mac
      simp (disch := first | with_reducible assumption | omega) only [push_cast, x_blk, x_cd, ↓reduceIte, Nat.reduceEqDiff, List.map_cons, List.map_nil, Int.reduceEq, Int.lt_irrefl, fr, km.m3 ty_ag_23, bl_arrow, bs_rec arrEnc slT_23 _ (by decide)]
      refine app_rec arrEnc slT_23 hW3.ar (⟨(k : Int), (j : Int), (i : Nat)⟩ : Arr) (by omega) (by omega) hW3.bel.size ?_
      intro Aa' ca' w28 hoA' g28 hA28 hs28 hz28
      have km1 := km.grown g28.by_ (fun e => hW3.ar.ne_blk km (by decide) e.symm)
      simp (disch := first | with_reducible assumption | omega) only [push_cast, x_blk, x_cd, ↓reduceIte, Nat.reduceEqDiff, List.map_cons, List.map_nil, Int.reduceEq, Int.lt_irrefl, fr]
      refine sto_slice km1 (by kernel_rfl) 3 (by simp) _ _ _ ?_
      intro w29 k29 g29 z29
      have hW4 := hW3.arr hoA' g28 km1 (by
        have k := k29
        simp only [MV.cells, List.length_append, List.length_cons, List.length_nil, Nat.zero_add] at k ⊢
        exact k) g29
      simp (disch := first | with_reducible assumption | omega) only [push_cast, x_blk, x_cd, ↓reduceIte, Nat.reduceEqDiff, List.map_cons, List.map_nil, Int.reduceEq, Int.lt_irrefl, fr]
      exact hJ2 _ _ ⟨j + 1, fs, _, A, Aa', Ae, c, ca', ce, by omega, hQ3, hs, (by simp only [push_cast, ↓reduceIte, Nat.reduceEqDiff, true_and, and_true, and_self, eq_self, fr]), hW4⟩ (by simp only [push_cast, ↓reduceIte, Nat.reduceEqDiff, intOf, fr]; omega)
    · have hQ3 := hnew fun u hu e => by
        obtain ⟨i, hi⟩ := List.mem_iff_getElem?.1 hu
        exact hno _ (kvP_has hi) (congrArg _ ((hsm (hQ1.lt u hu)).2 e))
      have hel := ends_grow (m := m) (L := L) (ar := ar) (n := k + 1) hkl t
      simp (disch := first | with_reducible assumption | omega) only [push_cast, x_blk, x_cd, ↓reduceIte, Nat.reduceEqDiff, List.map_cons, List.map_nil, Int.reduceEq, Int.lt_irrefl, fr, hgp0, hdl, hop'.ld ty_ag_3 t hdp, Int.natCast_nonneg, e_mapUpdate]
      refine map_new keyed_i hmt hW.map (key_i (hp64 t)) hno _ ?_
      intro w22 m22 g22 z22
      rw [← kvP_snoc] at m22
      have f22 := hW.fo.grew g22 (.inr fun e => hW.map.ne_own hW.fo e.symm)
      rw [← ni_len fs] at fr
      have hz22 := hW.bel.size
      simp (disch := first | with_reducible assumption | omega) only [push_cast, x_blk, x_cd, ↓reduceIte, Nat.reduceEqDiff, List.map_cons, List.map_nil, Int.reduceEq, Int.lt_irrefl, fr]
      refine app_int slT_22 f22 (t : Int) (by rw [ni_len]; omega) (by omega) ?_
      intro A' c' w23 o23 g23 hA23 hs23 hz23
      rw [← ni_snoc] at o23
      have hW3 := hW.new m22 g22 f22 o23 g23 hA23
      rw [← hel] at hW3
      rw [ni_len] at fr
      simp (disch := first | with_reducible assumption | omega) only [push_cast, x_blk, x_cd, ↓reduceIte, Nat.reduceEqDiff, List.map_cons, List.map_nil, Int.reduceEq, Int.lt_irrefl, fr]
      have km := hW3.mac
      simp (disch := first | with_reducible assumption | omega) only [push_cast, x_blk, x_cd, ↓reduceIte, Nat.reduceEqDiff, List.map_cons, List.map_nil, Int.reduceEq, Int.lt_irrefl, fr, km.m3 ty_ag_23, bl_arrow, bs_rec arrEnc slT_23 _ (by decide)]
      refine app_rec arrEnc slT_23 hW3.ar (⟨(k : Int), (j : Int), (fs.length : Nat)⟩ : Arr) (by omega) (by omega) hW3.bel.size ?_
      intro Aa' ca' w28 hoA' g28 hA28 hs28 hz28
      have km1 := km.grown g28.by_ (fun e => hW3.ar.ne_blk km (by decide) e.symm)
      simp (disch := first | with_reducible assumption | omega) only [push_cast, x_blk, x_cd, ↓reduceIte, Nat.reduceEqDiff, List.map_cons, List.map_nil, Int.reduceEq, Int.lt_irrefl, fr]
      refine sto_slice km1 (by kernel_rfl) 3 (by simp) _ _ _ ?_
      intro w29 k29 g29 z29
      have hW4 := hW3.arr hoA' g28 km1 (by
        have k := k29
        simp only [MV.cells, List.length_append, List.length_cons, List.length_nil, Nat.zero_add] at k ⊢
        exact k) g29
      simp (disch := first | with_reducible assumption | omega) only [push_cast, x_blk, x_cd, ↓reduceIte, Nat.reduceEqDiff, List.map_cons, List.map_nil, Int.reduceEq, Int.lt_irrefl, fr]
      rw [← hT'] at hW4 hQ3
      exact hJ2 _ _ ⟨j + 1, _, _, A', Aa', Ae, c', ca', ce, by omega, hQ3, by rw [List.getElem?_append_left hkl]; exact hs, (by simp only [push_cast, ↓reduceIte, Nat.reduceEqDiff, true_and, and_true, and_self, eq_self, fr, ni_len, List.length_append, List.length_cons, List.length_nil]), hW4⟩ (by simp only [push_cast, ↓reduceIte, Nat.reduceEqDiff, intOf, fr]; omega)
end Go.Proofs.YtcjedgiglimipaaDoor
