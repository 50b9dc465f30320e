/-
  Chapter 8's reference: the least machine: by its contract; the law LeastMakes.
-/
import Derived.Test.YtcjedgiglimipaaDoorZApa
import Derived.Test.YtcjedgiglimipaaDoorZLawLea
namespace Go.Proofs.YtcjedgiglimipaaDoor
set_option linter.unusedSimpArgs false
set_option linter.unusedVariables false
set_option linter.unusedSectionVars false
open Go.RowKit

theorem ref8_Least {w : World} {a : MV} {m : Mach} (h : IsM (· < w.heap.size) w a m) (hf : m.Fits) (p1 : m.May) (h6 : m.states ≤ 6) :
    Cal Tryd.prog 27 [a.val m] w fun v w' => ∃ (d : MV) (dm : Mach), v = d.val dm ∧ IsM (· < w'.heap.size) w' d dm ∧ Below w.heap.size w w' ∧ LeastOf m.events (langS m m.starts) dm := by
  have e5 : ∀ (a : MV) (m : Mach), tySize Tryd.prog 25 = some (a.cells m).length := fun a m => ty_sz_25
  refine cal_ref8_Least (by simp) 100000 fun Q hQ => ?_
  simp (disch := first | with_reducible assumption | omega) only [push_cast, x_blk, x_cd, ↓reduceIte, Nat.reduceEqDiff, List.map_cons, List.map_nil, Int.reduceEq, Int.lt_irrefl, F_ref8_Least]
  refine blk_of (box_agg _ (a.cells m)) ?_
  intro w1 k1 b1 z1
  simp (disch := first | with_reducible assumption | omega) only [push_cast, x_blk, x_cd, ↓reduceIte, Nat.reduceEqDiff, List.map_cons, List.map_nil, Int.reduceEq, Int.lt_irrefl]
  refine blk_of (cs := mv0.cells mach0) al_25 ?_
  intro w2 k2 b2 z2
  replace k1 := k1.below b2 k1.lt
  have bb := b1.trans (b2.mono b1.size)
  simp (disch := first | with_reducible assumption | omega) only [push_cast, x_blk, x_cd, ↓reduceIte, Nat.reduceEqDiff, List.map_cons, List.map_nil, Int.reduceEq, Int.lt_irrefl, k1.mA ty_ag_25 ty_sz_25]
  clear k1
  refine call_of (ref6_Make (h.up bb) hf) ?_
  rintro v w4 ⟨ad, d, RA, rc, hs, e, rfl, hd, _, _, b4, hsp⟩
  obtain ⟨rfl, ar, hD, rfl⟩ := make_ok p1 h6 hsp
  replace k2 := k2.below b4 k2.lt
  replace bb := bb.trans (b4.mono bb.size)
  generalize hLL : hs.map (·.l) = L at *
  have hDM := DM.of hD
  simp (disch := first | with_reducible assumption | omega) only [push_cast, x_blk, x_cd, ↓reduceIte, Nat.reduceEqDiff, List.map_cons, List.map_nil, Int.reduceEq, Int.lt_irrefl]
  refine blk_of (cs := mv0.cells mach0) al_25 ?_
  intro w5 k5 b5 z5
  simp (disch := first | with_reducible assumption | omega) only [push_cast, x_blk, x_cd, ↓reduceIte, Nat.reduceEqDiff, List.map_cons, List.map_nil, Int.reduceEq, Int.lt_irrefl]
  refine sto_mach k5 rfl ad (detOf m L ar) ?_
  intro w6 k6 g6 z6
  have b6 := g6.below b5 b5.size (by intro a ha; injection ha with ha; subst ha; exact Nat.le_refl _)
  replace hd := hd.up b6
  replace k2 := k2.below b6 k2.lt
  replace bb := bb.trans (b6.mono bb.size)
  simp (disch := first | with_reducible assumption | omega) only [push_cast, x_blk, x_cd, ↓reduceIte, Nat.reduceEqDiff, List.map_cons, List.map_nil, Int.reduceEq, Int.lt_irrefl, k6.mA ty_ag_25 ty_sz_25]
  refine call_of (ref8_Apart hD hd) ?_
  rintro v w7 ⟨gT, os, B, rfl, gT0, kT, ol, Bl, b7, hrow, hgb⟩
  replace hd := hd.up b7
  replace k2 := k2.below b7 k2.lt
  replace k6 := k6.below b7 k6.lt
  replace bb := bb.trans (b7.mono bb.size)
  have hd0 := hDM.d0
  have hdn := hDM.dn
  have he8 := hDM.e8
  have hev := hDM.ev
  have hst := hDM.st
  have hrE := hDM.ends
  have g2l := k2.lt
  have g4l := k6.lt
  have gTl := kT.lt
  have z2' : w.heap.size ≤ w1.heap.size := by omega
  have hsT : (some (⟨gT, 0, none⟩ : Addr)).isSome = true := rfl
  generalize hg4 : w4.heap.size = gd at *
  generalize hg2 : w1.heap.size = g2 at *
  clear b1 b2 b4 b5 b6 b7 z1 z2 z5 z6 k5 g6
  have oS := own_int1 w7 0 3
  have bS : Below w7.heap.size w7 (w7.alloc (.cells [.int .i64 0].toArray 3)) := (Below.refl _ _).alloc (Nat.le_refl _) _
  have zS : (w7.alloc (.cells [.int .i64 0].toArray 3)).heap.size = w7.heap.size + 1 := by simp
  simp (disch := first | with_reducible assumption | omega) only [push_cast, x_blk, x_cd, ↓reduceIte, Nat.reduceEqDiff, List.map_cons, List.map_nil, Int.reduceEq, Int.lt_irrefl, k6.m1 ty_ag_3, hev, bs_22]
  generalize w7.alloc (.cells [.int .i64 0].toArray 3) = w11 at *
  simp (disch := first | with_reducible assumption | omega) only [push_cast, x_blk, x_cd, ↓reduceIte, Nat.reduceEqDiff, List.map_cons, List.map_nil, Int.reduceEq, Int.lt_irrefl, bl_mach12]
  refine blk_of (cs := mv0.cells mach0) al_25 ?_
  intro w12 k12 b12 z12
  simp (disch := first | with_reducible assumption | omega) only [push_cast, x_blk, x_cd, ↓reduceIte, Nat.reduceEqDiff, List.map_cons, List.map_nil, Int.reduceEq, Int.lt_irrefl]
  refine sto_blk k12 (cs := MV.cells ⟨some ⟨w7.heap.size, 0, none⟩, 1, none, 0, none, 0⟩ ⟨0, m.events.toNat, [0], [], []⟩) (e5 _ _) rfl (by rfl) ?_
  intro w13 k13 g13 z13
  have b13 := g13.below b12 b12.size (by intro a ha; injection ha with ha; subst ha; exact Nat.le_refl _)
  replace oS := oS.below b13 (Nat.le_refl _)
  replace bS := bS.trans (b13.mono (by omega))
  have oF := own_int1 w13 0 3
  have bF : Below w13.heap.size w13 (w13.alloc (.cells [.int .i64 0].toArray 3)) := (Below.refl _ _).alloc (Nat.le_refl _) _
  have gFl := bS.size
  have gSl : w7.heap.size < w13.heap.size := (oS.block rfl).2
  simp (disch := first | with_reducible assumption | omega) only [push_cast, x_blk, x_cd, ↓reduceIte, Nat.reduceEqDiff, List.map_cons, List.map_nil, Int.reduceEq, Int.lt_irrefl, bs_22]
  generalize w13.alloc (.cells [.int .i64 0].toArray 3) = w16 at *
  have hLQ := LQ.start hD
  have hLV : LV w7 w11.heap.size w7.heap.size m.events.toNat [0] [] [] (some ⟨w13.heap.size, 0, none⟩) none none 1 0 0 w16 :=
    ⟨k13.below bF k13.lt, oS.below bF (Nat.le_refl _), oF.base gFl, Own.nil _ _ _ _, Own.nil _ _ _ _, .inr (by simp; omega), .inr (by simp), .inr (by simp), bS.trans (bF.mono gFl), by omega⟩
  have he0 : endsG nilG (ndL m L ar [0]) 0 = [] := rfl
  rw [← he0] at hLV
  refine loop_rule (fun f w' => ∃ (k : Nat) (fs : List Nat) (ao : List Arr) (A Aa Ae : Option Addr) (c ca ce : Nat), k ≤ fs.length ∧ LQ m L ar k 0 fs ao ∧
      (f 2 = .pointer (some ⟨g2, 0, none⟩) ∧ f 3 = .pointer (some ⟨gd, 0, none⟩) ∧ f 6 = .slice (some ⟨gT, 0, none⟩) L.length L.length ∧ f 7 = .pointer (some ⟨w11.heap.size, 0, none⟩) ∧ f 8 = .slice A fs.length c ∧ f 9 = .int .i64 k) ∧
      LV w7 w11.heap.size w7.heap.size m.events.toNat fs ao (endsG nilG (ndL m L ar fs) k) A Aa Ae c ca ce w')
    (fun f _ => 300 - (intOf (f 9)).toNat) ⟨0, [0], [], _, none, none, 1, 0, 0, by omega, hLQ, ⟨rfl, rfl, rfl, rfl, rfl, rfl⟩, hLV⟩ ?_
  clear hLQ hLV he0 oF bF gFl gSl oS k13 bS k12 b12 z12 b13 g13 z13
  rintro f w17 ⟨k, fs, ao, A, Aa, Ae, c, ca, ce, hk, hQ1, fr, hW⟩ J hJ
  have hfl := hQ1.len
  have bl := hW.bel
  have k6' := k6.below bl g4l
  by_cases hlt : (k : Int) < (fs.length : Int)
  case neg =>
    have hke : fs.length = k := by omega
    have hmE : ((m.events.toNat : Nat) : Int) = m.events := hD.ev
    have hdone := hQ1.done hD.l256 hke
    have k2' := k2.below bl g2l
    have bbl := bb.trans (bl.mono bb.size)
    have hz10 := bb.size
    simp (disch := first | with_reducible assumption | omega) only [push_cast, x_blk, x_cd, ↓reduceIte, Nat.reduceEqDiff, List.map_cons, List.map_nil, Int.reduceEq, Int.lt_irrefl, L_ref8_Least_2, fr, hlt]
    refine sto_cell hW.mac (by kernel_rfl) 0 (by simp) _ _ ?_
    intro w18 k18 g18 z18
    have k18' : Blk w18 w11.heap.size 25 (MV.cells ⟨some ⟨w7.heap.size, 0, none⟩, 1, Aa, ca, Ae, ce⟩ ⟨fs.length, m.events.toNat, [0], ao, endsG nilG (ndL m L ar fs) k⟩) := k18
    have k28 := k2'.grown g18.by_ (by have := hW.go0; simp; omega)
    simp (disch := first | with_reducible assumption | omega) only [push_cast, x_blk, x_cd, ↓reduceIte, Nat.reduceEqDiff, List.map_cons, List.map_nil, Int.reduceEq, Int.lt_irrefl, fr, k18'.mA ty_ag_25 ty_sz_25]
    refine sto_mach k28 rfl _ _ ?_
    intro w19 k19 g19 z19
    simp (disch := first | with_reducible assumption | omega) only [push_cast, x_blk, x_cd, ↓reduceIte, Nat.reduceEqDiff, List.map_cons, List.map_nil, Int.reduceEq, Int.lt_irrefl, fr]
    have s0' := hW.s0.grew g18 (.inr (hW.s0.ne_blk hW.mac (by decide)))
    have e0' := hW.eo.grew g18 (.inr (hW.eo.ne_blk hW.mac (by decide)))
    have a0' := hW.ar.grew g18 (.inr (hW.ar.ne_blk hW.mac (by decide)))
    have bl8 := g18.below bbl bbl.size (by intro a ha; injection ha with ha; subst ha; have := hW.go0; show w.heap.size ≤ w11.heap.size; omega)
    have bl9 := g19.below bl8 bl8.size (by intro a ha; injection ha with ha; subst ha; exact z2')
    have kp : ∀ b, w7.heap.size ≤ b ∧ b < w18.heap.size → w19.heap[b]? = w18.heap[b]? ∧ b < w19.heap.size := fun b hb => ⟨g19.by_.block b hb.2 (by simp; omega), by omega⟩
    exact fin_cell k19 ty_ag_25 (e5 _ _) (by simp only [push_cast, ↓reduceIte, Nat.reduceEqDiff, Int.reduceEq, fr]) (hQ _ _ ⟨⟨some ⟨w7.heap.size, 0, none⟩, 1, Aa, ca, Ae, ce⟩, ⟨fs.length, m.events.toNat, [0], ao, endsG nilG (ndL m L ar fs) k⟩, rfl,
      ⟨(((OwnI.ints s0').both (OwnI.ints s0').lt).mono fun b hb => (⟨hb.1.1, hb.2⟩ : w7.heap.size ≤ b ∧ b < w18.heap.size)).keep' kp, (Arrs.of_recs (((OwnR.recs a0' arrEnc (by decide)).both (Recs.lt arrEnc (by decide) (OwnR.recs a0' arrEnc (by decide)))).mono fun b hb => (⟨hb.1.1, hb.2⟩ : w7.heap.size ≤ b ∧ b < w18.heap.size))).keep' kp,
        (((OwnI.ints e0').both (OwnI.ints e0').lt).mono fun b hb => (⟨hb.1.1, hb.2⟩ : w7.heap.size ≤ b ∧ b < w18.heap.size)).keep' kp⟩, bl9, by rw [hke, hmE]; exact hdone⟩)
  have hkl : k < fs.length := by omega
  obtain ⟨s, hs⟩ : ∃ s, fs[k]? = some s := ⟨_, List.getElem?_eq_getElem hkl⟩
  have hsL := hQ1.lt s (List.mem_of_getElem? hs)
  have hmu : 300 - (intOf (f 9)).toNat = 300 - k := by rw [fr.2.2.2.2.2]; simp [intOf]
  rw [hmu] at hJ
  have hk300 : k < 300 := by omega
  have bd : Below w17.heap.size w17 w17.drew := (Same.refl w17).drew.below _
  replace hW := hW.below bd
  have k6d := k6'.below bd k6'.lt
  have hIf := OwnI.ints hW.fo
  have hkn : k < (ni fs).length := by rw [ni_len]; exact hkl
  have hAs := hIf.isSome (by omega)
  have hns := ni_at hs
  have hrl := row_lenH hrE
  simp (disch := first | with_reducible assumption | omega) only [push_cast, x_blk, x_cd, ↓reduceIte, Nat.reduceEqDiff, List.map_cons, List.map_nil, Int.reduceEq, Int.lt_irrefl, L_ref8_Least_2, fr, hlt, hkl, hAs, hIf.ld ty_ag_3 k hkn, hns, k6d.m4 ty_ag_22]
  refine call_of (ref1_Has (hd.up hW.bel).ends ad.ce (s : Int) (by omega)) ?_
  rintro v w18 ⟨rfl, s18⟩
  replace hW := hW.below (s18.below _)
  have hen := ends_next (m := m) (L := L) (ar := ar) hs
  have hel := endsG_len nilG (ndL m L ar fs) k
  by_cases q : (s : Int) ∈ (detOf m L ar).ends
  case' pos =>
    rw [if_pos q] at hen
    simp (disch := first | with_reducible assumption | omega) only [push_cast, x_blk, x_cd, ↓reduceIte, Nat.reduceEqDiff, List.map_cons, List.map_nil, Int.reduceEq, Int.lt_irrefl, decide_eq_true q, fr, hW.mac.m4 ty_ag_22]
    refine app_int slT_22 hW.eo (k : Int) (by omega) hW.bel.size ?_
    intro Ae2 ce2 w19 o19 g19 hA19 hs19 hz19
    have km := hW.mac.grown g19.by_ (fun e => hW.eo.ne_blk hW.mac (by decide) e.symm)
    simp (disch := first | with_reducible assumption | omega) only [push_cast, x_blk, x_cd, ↓reduceIte, Nat.reduceEqDiff, List.map_cons, List.map_nil, Int.reduceEq, Int.lt_irrefl, fr]
    refine sto_slice km (by kernel_rfl) 4 (by simp) _ _ _ ?_
    intro w20 k20 g20 z20
    have hW2 := hW.ends o19 g19 hA19 km (by
      have k := k20
      simp only [MV.cells, List.length_append, List.length_cons, List.length_nil, Nat.zero_add] at k ⊢
      exact k) g20
    rw [← hen] at hW2
  case' neg =>
    rw [if_neg q] at hen
    have hW2 := hW
    rw [← hen] at hW2
    simp (disch := first | with_reducible assumption | omega) only [push_cast, x_blk, x_cd, ↓reduceIte, Nat.reduceEqDiff, List.map_cons, List.map_nil, Int.reduceEq, Int.lt_irrefl, decide_eq_false q, fr]
  all_goals
    refine loop_rule (fun f w' => ∃ (j : Nat) (fs : List Nat) (ao : List Arr) (A Aa Ae : Option Addr) (c ca ce : Nat), j ≤ m.events.toNat ∧ LQ m L ar k j fs ao ∧ fs[k]? = some s ∧
        (f 2 = .pointer (some ⟨g2, 0, none⟩) ∧ f 3 = .pointer (some ⟨gd, 0, none⟩) ∧ f 6 = .slice (some ⟨gT, 0, none⟩) L.length L.length ∧ f 7 = .pointer (some ⟨w11.heap.size, 0, none⟩) ∧ f 8 = .slice A fs.length c ∧ f 9 = .int .i64 k ∧ f 10 = .int .i64 j) ∧
        LV w7 w11.heap.size w7.heap.size m.events.toNat fs ao (endsG nilG (ndL m L ar fs) (k + 1)) A Aa Ae c ca ce w')
      (fun f _ => m.events.toNat - (intOf (f 10)).toNat) ⟨0, fs, ao, A, Aa, _, c, ca, _, by omega, hQ1, hs, (by simp only [push_cast, ↓reduceIte, Nat.reduceEqDiff, true_and, and_true, and_self, eq_self, fr]), hW2⟩ ?_
    clear hW2 hW fr hQ1 hs hIf hkn hAs hns hen hel hmu bl k6d bd
    rintro f w21 ⟨j, fs, ao, A, Aa, Ae, c, ca, ce, hj, hQ1, hs, fr, hW⟩ J2 hJ2
    have hkl : k < fs.length := (List.getElem?_eq_some_iff.1 hs).1
    have hfl := hQ1.len
    have bl := hW.bel
    have k6' := k6.below bl g4l
    by_cases hjE : (j : Int) < (m.events.toNat : Int)
    case neg =>
      have hje : j = m.events.toNat := by omega
      rw [hje] at hQ1
      simp (disch := first | with_reducible assumption | omega) only [push_cast, x_blk, x_cd, ↓reduceIte, Nat.reduceEqDiff, List.map_cons, List.map_nil, Int.reduceEq, Int.lt_irrefl, L_ref8_Least_1, fr, hjE, hje, Int.lt_irrefl, k6'.m1 ty_ag_3, hev]
      refine hJ _ _ ⟨k + 1, fs, ao, A, Aa, Ae, c, ca, ce, by omega, hQ1.round, (by simp only [push_cast, ↓reduceIte, Nat.reduceEqDiff, true_and, and_true, and_self, eq_self, fr]), hW⟩ ?_
      simp only [push_cast, ↓reduceIte, Nat.reduceEqDiff, intOf, fr]
      omega
    have hjn : j < m.events.toNat := by omega
    have hmu2 : m.events.toNat - (intOf (f 10)).toNat = m.events.toNat - j := by rw [fr.2.2.2.2.2.2]; simp [intOf]
    rw [hmu2] at hJ2
    have bd : Below w21.heap.size w21 w21.drew := (Same.refl w21).drew.below _
    have hW0 := hW.below bd
    have k6d := k6'.below bd k6'.lt
    have hIf := OwnI.ints hW0.fo
    have hkn : k < (ni fs).length := by rw [ni_len]; exact hkl
    have hAs := hIf.isSome (by omega)
    have hns := ni_at hs
    simp (disch := first | with_reducible assumption | omega) only [push_cast, x_blk, x_cd, ↓reduceIte, Nat.reduceEqDiff, List.map_cons, List.map_nil, Int.reduceEq, Int.lt_irrefl, L_ref8_Least_1, fr, hjE, k6'.m1 ty_ag_3, hev, hkl, hAs, hIf.ld ty_ag_3 k hkn, hns, k6d.mA ty_ag_25 ty_sz_25]
    refine call_of (ref8_to hD (hd.up hW0.bel) hsL hjn) ?_
    rintro v w22 ⟨rfl, b22⟩
    replace hW := hW0.below b22
    clear hW0 hIf hkn hAs hns k6d bd k6' bl
    have hold := fun {i u : Nat} (hi : fs[i]? = some u) => hQ1.old hD hjn hs hi
    have hnew := hQ1.new hD hjn hs
    have hdl := hDM.dl_lt hsL hjn
    have hsm := fun {u : Nat} (hu : u < L.length) => (hgb u (dl (detOf m L ar) m.events.toNat s j) hu hdl).trans (dm_same hD hu hdl)
    have hal := hQ1.arr.len (by rw [evs_len]; exact hj)
    rw [evs_len] at hal
    have hkE : k * m.events.toNat ≤ 256 * 8 := Nat.mul_le_mul (by omega) he8
    have hDE : L.length * m.events.toNat ≤ 256 * 8 := Nat.mul_le_mul hdn he8
    generalize hT' : dl (detOf m L ar) m.events.toNat s j = t at *
    simp (disch := first | with_reducible assumption | omega) only [push_cast, x_blk, x_cd, ↓reduceIte, Nat.reduceEqDiff, List.map_cons, List.map_nil, Int.reduceEq, Int.lt_irrefl, fr]
    refine loop_rule (fun f w' => ∃ n : Nat, n ≤ fs.length ∧ (∀ i u, i < n → fs[i]? = some u → gb B u t = true) ∧ (f 2 = .pointer (some ⟨g2, 0, none⟩) ∧ f 3 = .pointer (some ⟨gd, 0, none⟩) ∧ f 6 = .slice (some ⟨gT, 0, none⟩) L.length L.length ∧ f 7 = .pointer (some ⟨w11.heap.size, 0, none⟩) ∧ f 8 = .slice A fs.length c ∧ f 9 = .int .i64 k ∧ f 10 = .int .i64 j ∧ f 11 = .int .i64 t ∧ f 12 = .int .i64 n) ∧
        LV w7 w11.heap.size w7.heap.size m.events.toNat fs ao (endsG nilG (ndL m L ar fs) (k + 1)) A Aa Ae c ca ce w')
      (fun f _ => fs.length - (intOf (f 12)).toNat) ⟨0, by omega, fun i u hi => absurd hi (by omega), (by simp only [push_cast, ↓reduceIte, Nat.reduceEqDiff, true_and, and_true, and_self, eq_self, fr]), hW⟩ ?_
    clear hW fr
    rintro f w23 ⟨n, hn, hpre, fr, hW⟩ J3 hJ3
    have bl := hW.bel
    have kT' := kT.below bl gTl
    by_cases hlt : (n : Int) < (fs.length : Int)
    case neg =>
      have hne : n = fs.length := by omega
      have hQ3 := hnew fun u hu e => by
        obtain ⟨i, hi⟩ := List.mem_iff_getElem?.1 hu
        have h1 := hpre i u (by have := (List.getElem?_eq_some_iff.1 hi).1; omega) hi
        rw [(hsm (hQ1.lt u hu)).2 e] at h1
        cases h1
      have hel := ends_grow (m := m) (L := L) (ar := ar) (n := k + 1) hkl t
      subst hne
      rw [← ni_len fs] at fr
      simp (disch := first | with_reducible assumption | omega) only [push_cast, x_blk, x_cd, ↓reduceIte, Nat.reduceEqDiff, List.map_cons, List.map_nil, Int.reduceEq, Int.lt_irrefl, L_ref8_Least_0, fr, Int.lt_irrefl, eq_self]
      refine app_int slT_22 hW.fo (t : Int) (by rw [ni_len]; omega) hW.bel.size ?_
      intro A' c' w24 o24 g24 hA24 hs24 hz24
      rw [← ni_snoc] at o24
      have hW3 := hW.new o24 g24 hA24
      rw [← hel] at hW3
      rw [ni_len] at fr
      simp (disch := first | with_reducible assumption | omega) only [push_cast, x_blk, x_cd, ↓reduceIte, Nat.reduceEqDiff, List.map_cons, List.map_nil, Int.reduceEq, Int.lt_irrefl, fr, ni_len]
      have km := hW3.mac
      simp (disch := first | with_reducible assumption | omega) only [push_cast, x_blk, x_cd, ↓reduceIte, Nat.reduceEqDiff, List.map_cons, List.map_nil, Int.reduceEq, Int.lt_irrefl, fr, km.m3 ty_ag_23, bl_arrow, bs_rec arrEnc slT_23 _ (by decide)]
      refine app_rec arrEnc slT_23 hW3.ar (⟨(k : Int), (j : Int), (fs.length : Nat)⟩ : Arr) (by omega) (by omega) hW3.bel.size ?_
      intro Aa' ca' w28 hoA' g28 hA28 hs28 hz28
      have km1 := km.grown g28.by_ (fun e => hW3.ar.ne_blk km (by decide) e.symm)
      simp (disch := first | with_reducible assumption | omega) only [push_cast, x_blk, x_cd, ↓reduceIte, Nat.reduceEqDiff, List.map_cons, List.map_nil, Int.reduceEq, Int.lt_irrefl, fr]
      refine sto_slice km1 (by kernel_rfl) 3 (by simp) _ _ _ ?_
      intro w29 k29 g29 z29
      have hW4 := hW3.arr hoA' g28 km1 (by
        have k := k29
        simp only [MV.cells, List.length_append, List.length_cons, List.length_nil, Nat.zero_add] at k ⊢
        exact k) g29
      simp (disch := first | with_reducible assumption | omega) only [push_cast, x_blk, x_cd, ↓reduceIte, Nat.reduceEqDiff, List.map_cons, List.map_nil, Int.reduceEq, Int.lt_irrefl, fr]
      rw [← hT'] at hW4 hQ3
      exact hJ2 _ _ ⟨j + 1, _, _, A', Aa', Ae, c', ca', ce, by omega, hQ3, by rw [List.getElem?_append_left hkl]; exact hs, (by simp only [push_cast, ↓reduceIte, Nat.reduceEqDiff, true_and, and_true, and_self, eq_self, fr, ni_len, List.length_append, List.length_cons, List.length_nil]), hW4⟩ (by simp only [push_cast, ↓reduceIte, Nat.reduceEqDiff, intOf, fr]; omega)
    have hnl : n < fs.length := by omega
    obtain ⟨u, hu⟩ : ∃ u, fs[n]? = some u := ⟨_, List.getElem?_eq_getElem hnl⟩
    have huL := hQ1.lt u (List.mem_of_getElem? hu)
    obtain ⟨g, hg, _, hrow1, hrl0⟩ := hrow u huL
    have hrow2 := hrow1.below bl hrow1.lt
    have hsg : (some (⟨g, 0, none⟩ : Addr)).isSome = true := rfl
    have hIf := OwnI.ints hW.fo
    have hkn : n < (ni fs).length := by rw [ni_len]; exact hnl
    have hAs := hIf.isSome (by omega)
    have hns := ni_at hu
    have hlen : u < (os.map (slO L.length)).length := by rw [List.length_map, ol]; exact huL
    have hgd : (os.map (slO L.length)).getD u undef = .slice (some ⟨g, 0, none⟩) L.length L.length := by rw [List.getD_eq_getElem?_getD, List.getElem?_map, hg]; rfl
    have hrl : t < ((B.getD u []).map Value.bool).length := by rw [List.length_map, hrl0]; exact hdl
    have hrd : ((B.getD u []).map Value.bool).getD t undef = .bool (gb B u t) := by
      have h1 := hrl
      rw [List.length_map] at h1
      unfold gb
      exact getD_map _ _ _ _ _ h1
    have hnne : ¬ (n : Int) = (fs.length : Int) := by omega
    cases hx : gb B u t
    case true =>
      rw [hx] at hrd
      simp (disch := first | with_reducible assumption | omega) only [push_cast, x_blk, x_cd, ↓reduceIte, Nat.reduceEqDiff, List.map_cons, List.map_nil, Int.reduceEq, Int.lt_irrefl, L_ref8_Least_0, fr, hlt, hnl, hAs, hIf.ld ty_ag_3 n hkn, hns, hsT, hsg, huL, hdl, Int.natCast_nonneg, eA_zero, kT'.ld ty_ag_100 u hlen, hgd, hrow2.ld ty_ag_4 t hrl, hrd]
      exact hJ3 _ _ ⟨n + 1, by omega, fun i u' hi hu' => by
        by_cases c : i = n
        · subst c; rw [hu] at hu'; injection hu' with hu'; subst hu'; exact hx
        · exact hpre i u' (by omega) hu', (by simp only [push_cast, ↓reduceIte, Nat.reduceEqDiff, true_and, and_true, and_self, eq_self, fr]), hW⟩ (by simp only [push_cast, ↓reduceIte, Nat.reduceEqDiff, intOf, fr]; omega)
    rw [hx] at hrd
    have hQ3 := hold hu ((hsm huL).1 hx)
    have hW3 := hW
    simp (disch := first | with_reducible assumption | omega) only [push_cast, x_blk, x_cd, ↓reduceIte, Nat.reduceEqDiff, List.map_cons, List.map_nil, Int.reduceEq, Int.lt_irrefl, L_ref8_Least_0, fr, hlt, hnl, hAs, hIf.ld ty_ag_3 n hkn, hns, hsT, hsg, huL, hdl, Int.natCast_nonneg, eA_zero, kT'.ld ty_ag_100 u hlen, hgd, hrow2.ld ty_ag_4 t hrl, hrd, hnne]
    have km := hW3.mac
    simp (disch := first | with_reducible assumption | omega) only [push_cast, x_blk, x_cd, ↓reduceIte, Nat.reduceEqDiff, List.map_cons, List.map_nil, Int.reduceEq, Int.lt_irrefl, fr, km.m3 ty_ag_23, bl_arrow, bs_rec arrEnc slT_23 _ (by decide)]
    refine app_rec arrEnc slT_23 hW3.ar (⟨(k : Int), (j : Int), (n : Nat)⟩ : Arr) (by omega) (by omega) hW3.bel.size ?_
    intro Aa' ca' w28 hoA' g28 hA28 hs28 hz28
    have km1 := km.grown g28.by_ (fun e => hW3.ar.ne_blk km (by decide) e.symm)
    simp (disch := first | with_reducible assumption | omega) only [push_cast, x_blk, x_cd, ↓reduceIte, Nat.reduceEqDiff, List.map_cons, List.map_nil, Int.reduceEq, Int.lt_irrefl, fr]
    refine sto_slice km1 (by kernel_rfl) 3 (by simp) _ _ _ ?_
    intro w29 k29 g29 z29
    have hW4 := hW3.arr hoA' g28 km1 (by
      have k := k29
      simp only [MV.cells, List.length_append, List.length_cons, List.length_nil, Nat.zero_add] at k ⊢
      exact k) g29
    simp (disch := first | with_reducible assumption | omega) only [push_cast, x_blk, x_cd, ↓reduceIte, Nat.reduceEqDiff, List.map_cons, List.map_nil, Int.reduceEq, Int.lt_irrefl, fr]
    exact hJ2 _ _ ⟨j + 1, fs, _, A, Aa', Ae, c, ca', ce, by omega, hQ3, hs, (by simp only [push_cast, ↓reduceIte, Nat.reduceEqDiff, true_and, and_true, and_self, eq_self, fr]), hW4⟩ (by simp only [push_cast, ↓reduceIte, Nat.reduceEqDiff, intOf, fr]; omega)

theorem law_LeastMakes {w : World} (hT : Tab w) {a0 : MV} {m0 : Mach} (h : IsM (· < w.heap.size) w a0 m0) (hf : m0.Fits) :
    Cal Tryd.prog 6 [a0.val m0] w fun v w' => v = .bool true ∧ Below w.heap.size w w' := by
  refine cal_law_LeastMakes (by simp) 100000 fun Q hQ => ?_
  simp (disch := first | with_reducible assumption | omega) only [push_cast, x_blk, x_cd, ↓reduceIte, Nat.reduceEqDiff, List.map_cons, List.map_nil, Int.reduceEq, Int.lt_irrefl, F_law_LeastMakes]
  refine blk_of (box_agg _ (a0.cells m0)) ?_
  intro w1 k1 b1 z1
  have bb := b1
  simp (disch := first | with_reducible assumption | omega) only [push_cast, x_blk, x_cd, ↓reduceIte, Nat.reduceEqDiff, List.map_cons, List.map_nil, Int.reduceEq, Int.lt_irrefl, k1.mA ty_ag_25 ty_sz_25]
  refine call_of (least_Least (h.up bb) hf (hT.below bb hT.lt)) ?_
  rintro v w5 ⟨d, dm, e, rfl, hd, b5, or1⟩
  replace k1 := k1.below b5 k1.lt
  replace bb := bb.trans (b5.mono bb.size)
  simp (disch := first | with_reducible assumption | omega) only [push_cast, x_blk, x_cd, ↓reduceIte, Nat.reduceEqDiff, List.map_cons, List.map_nil, Int.reduceEq, Int.lt_irrefl]
  refine blk_of (cs := mv0.cells mach0) al_25 ?_
  intro w6 k6 b6 z6
  simp (disch := first | with_reducible assumption | omega) only [push_cast, x_blk, x_cd, ↓reduceIte, Nat.reduceEqDiff, List.map_cons, List.map_nil, Int.reduceEq, Int.lt_irrefl]
  refine sto_mach k6 rfl d dm ?_
  intro w7 k7 g7 z7
  have b7 := g7.below b6 b6.size (by intro a ha; injection ha with ha; subst ha; exact Nat.le_refl _)
  replace hd := hd.up b7
  replace k1 := k1.below b7 k1.lt
  replace bb := bb.trans (b7.mono bb.size)
  simp (disch := first | with_reducible assumption | omega) only [push_cast, x_blk, x_cd, ↓reduceIte, Nat.reduceEqDiff, List.map_cons, List.map_nil, Int.reduceEq, Int.lt_irrefl, k1.mA ty_ag_25 ty_sz_25]
  refine call_of (ref2_May (h.up bb) hf) ?_
  rintro v w8 ⟨rfl, b8⟩
  replace k1 := k1.below b8 k1.lt
  replace k7 := k7.below b8 k7.lt
  replace hd := hd.up b8
  replace bb := bb.trans (b8.mono bb.size)
  by_cases p1 : m0.May
  case neg =>
    have hh : dm = mach0 ∧ e = 2 := by
      rcases or1 with ⟨_, q, _, r⟩ | ⟨q, _⟩ | ⟨q, _⟩
      · exact ⟨q, r⟩
      · exact absurd q.1 p1
      · exact absurd q.1 p1
    obtain ⟨rfl, rfl⟩ := hh
    simp (disch := first | with_reducible assumption | omega) only [push_cast, x_blk, x_cd, ↓reduceIte, Nat.reduceEqDiff, List.map_cons, List.map_nil, Int.reduceEq, Int.lt_irrefl, p1, eq_self, k7.mA ty_ag_25 ty_sz_25, mach0_built]
    refine call_of (law_machines hd (mach0_is (· < w8.heap.size) w8) (by decide) (by decide) (by decide)) ?_
    rintro v w9 ⟨rfl, b9⟩
    rw [decide_eq_true rfl]
    simp (disch := first | with_reducible assumption | omega) only [push_cast, x_blk, x_cd, ↓reduceIte, Nat.reduceEqDiff, List.map_cons, List.map_nil, Int.reduceEq, Int.lt_irrefl]
    exact fin_1 (hQ _ _ ⟨(by simp only [push_cast, ↓reduceIte, Nat.reduceEqDiff, Int.reduceEq]), bb.trans (b9.mono bb.size)⟩)
  by_cases p2 : (6 : Int) < m0.states
  · have hh : dm = mach0 ∧ e = 1 := by
      rcases or1 with ⟨q, _⟩ | ⟨_, q, _, r⟩ | ⟨q, _⟩
      · exact absurd p1 q
      · exact ⟨q, r⟩
      · exact absurd q.2 (by omega)
    obtain ⟨rfl, rfl⟩ := hh
    simp (disch := first | with_reducible assumption | omega) only [push_cast, x_blk, x_cd, ↓reduceIte, Nat.reduceEqDiff, List.map_cons, List.map_nil, Int.reduceEq, Int.lt_irrefl, p1, p2, eq_self, k1.m0 ty_ag_3, k7.mA ty_ag_25 ty_sz_25, mach0_built]
    refine call_of (law_machines hd (mach0_is (· < w8.heap.size) w8) (by decide) (by decide) (by decide)) ?_
    rintro v w9 ⟨rfl, b9⟩
    rw [decide_eq_true rfl]
    simp (disch := first | with_reducible assumption | omega) only [push_cast, x_blk, x_cd, ↓reduceIte, Nat.reduceEqDiff, List.map_cons, List.map_nil, Int.reduceEq, Int.lt_irrefl]
    exact fin_1 (hQ _ _ ⟨(by simp only [push_cast, ↓reduceIte, Nat.reduceEqDiff, Int.reduceEq]), bb.trans (b9.mono bb.size)⟩)
  have hh : LeastOf m0.events (lgM m0) dm ∧ e = 0 := by
    rcases or1 with ⟨q, _⟩ | ⟨q, _⟩ | ⟨_, q⟩
    · exact absurd p1 q
    · exact absurd q.2 p2
    · exact q
  obtain ⟨L1, rfl⟩ := hh
  have e0 : 0 ≤ m0.events := by have := p1.2.2.1; omega
  have e8 : m0.events ≤ 8 := p1.2.2.2.1
  obtain ⟨_, l1, l2, l3⟩ := least_lens e0 e8 L1
  simp (disch := first | with_reducible assumption | omega) only [push_cast, x_blk, x_cd, ↓reduceIte, Nat.reduceEqDiff, List.map_cons, List.map_nil, Int.reduceEq, Int.lt_irrefl, p1, p2, k1.m0 ty_ag_3, k1.mA ty_ag_25 ty_sz_25]
  refine call_of (ref8_Least (h.up bb) hf p1 (by omega)) ?_
  rintro v w9 ⟨u, um, rfl, hu, b9, L2⟩
  obtain rfl := L1.unique L2
  replace k7 := k7.below b9 k7.lt
  replace hd := hd.up b9
  replace bb := bb.trans (b9.mono bb.size)
  simp (disch := first | with_reducible assumption | omega) only [push_cast, x_blk, x_cd, ↓reduceIte, Nat.reduceEqDiff, List.map_cons, List.map_nil, Int.reduceEq, Int.lt_irrefl]
  refine blk_of (cs := mv0.cells mach0) al_25 ?_
  intro w10 k10 b10 z10
  simp (disch := first | with_reducible assumption | omega) only [push_cast, x_blk, x_cd, ↓reduceIte, Nat.reduceEqDiff, List.map_cons, List.map_nil, Int.reduceEq, Int.lt_irrefl]
  refine sto_mach k10 rfl u dm ?_
  intro w11 k11 g11 z11
  have b11 := g11.below b10 b10.size (by intro a ha; injection ha with ha; subst ha; exact Nat.le_refl _)
  replace hd := hd.up b11
  replace hu := hu.up b11
  replace k7 := k7.below b11 k7.lt
  replace bb := bb.trans (b11.mono bb.size)
  simp (disch := first | with_reducible assumption | omega) only [push_cast, x_blk, x_cd, ↓reduceIte, Nat.reduceEqDiff, List.map_cons, List.map_nil, Int.reduceEq, Int.lt_irrefl, eq_self, k7.mA ty_ag_25 ty_sz_25, k11.mA ty_ag_25 ty_sz_25]
  refine call_of (law_machines hd hu l1 l2 l3) ?_
  rintro v w12 ⟨rfl, b12⟩
  rw [decide_eq_true rfl]
  simp (disch := first | with_reducible assumption | omega) only [push_cast, x_blk, x_cd, ↓reduceIte, Nat.reduceEqDiff, List.map_cons, List.map_nil, Int.reduceEq, Int.lt_irrefl]
  exact fin_1 (hQ _ _ ⟨(by simp only [push_cast, ↓reduceIte, Nat.reduceEqDiff, Int.reduceEq]), bb.trans (b12.mono bb.size)⟩)
end Go.Proofs.YtcjedgiglimipaaDoor
