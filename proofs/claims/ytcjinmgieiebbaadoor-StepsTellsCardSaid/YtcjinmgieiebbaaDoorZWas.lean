/-
  Chapter 11: the program's Was, which goes over a list from behind: by its contract.
-/
import Derived.Test.YtcjinmgieiebbaaDoorZBeg
import Derived.Test.YtcjinmgieiebbaaDoorZStpB
namespace Go.Proofs.YtcjinmgieiebbaaDoor
set_option linter.unusedSimpArgs false
set_option linter.unusedVariables false
set_option linter.unusedSectionVars false
open Go.RowKit

noncomputable abbrev wasL (p : Plt) (u v : List Int) : List Int := onlyL (estL p u) (backsL p v) true
theorem wasL_row {p : Plt} (h : p.m.May) (u v : List Int) : IsRow (wasL p u v) p.m.states := IsRow.of_strict (only_strict (estL_row h u).strict) fun x hx => by
  have := (estL_row h u).mem (mem_onlyT.1 hx).1
  omega
theorem steps_Was {w : World} {a : PV} {p : Plt} (ha : IsP (· < w.heap.size) w a p) (hf : p.Fits) (hT : Tab w) {A : Option Addr} {c : Nat} {l : List Int} (h : Ints (· < w.heap.size) w A l) (n1 : l.length ≤ 17592186043904)
    {A2 : Option Addr} {c2 : Nat} {l2 : List Int} (h2 : Ints (· < w.heap.size) w A2 l2) (n2 : l2.length ≤ 17592186043904) :
    Cal Tryd.prog 36 [a.val p, .slice A l.length c, .slice A2 l2.length c2] w (PltRes (wasL p l l2) p (AllIn l p.seen ∧ AllIn l2 p.seen) w) := by
  refine cal_of_marks Tryd.func36 rfl rfl c_steps_Was k_steps_Was (by simp) (pltRes_own _ p _ w) ?_
  intro code act hc hfit
  obtain ⟨cA, r1, rfl, hA, hc⟩ := inv_sq hc
  obtain ⟨cB, r2, rfl, hB, hc⟩ := inv_sq hc
  obtain ⟨cC1, r3, rfl, hC, hc⟩ := inv_sq hc
  obtain ⟨cM, r4, rfl, hM, hc⟩ := inv_sq hc
  obtain ⟨cC2, r5, rfl, hC2, hc⟩ := inv_sq hc
  obtain ⟨cD', cE, rfl, hD, hE⟩ := inv_sq hc
  obtain ⟨cD, cbl, rfl, hDD, hbl⟩ := inv_sq hD
  obtain ⟨crf, rfl, hrf⟩ := inv_bl hbl
  refine wps_seq (wps_cons (fun _ _ h => wps_seq (wps_cons (fun _ _ h => wps_seq (wps_cons (fun _ _ h => wps_seq (wps_cons (fun _ _ h => wps_seq (wps_cons (fun _ _ h => wps_seq (wps_seq h)) h)) h)) h)) h)) ?_)
  refine segs (k1 := [cA, cB, cC1, cM, cC2, cD]) (k2 := [.block 3 crf, cE]) (n := 100000) (R := fun f w' => PltRes (wasL p l l2) p (AllIn l p.seen ∧ AllIn l2 p.seen) w (.tuple #[f 6, f 7]) w')
    (E := fun f w' => ∃ gs g Bn, w.heap.size < gs ∧ gs < g ∧ g < Bn ∧ Bn < w'.heap.size ∧ (f 3 = .pointer (some ⟨w.heap.size, 0, none⟩) ∧ f 8 = .pointer (some ⟨gs, 0, none⟩) ∧ f 11 = .pointer (some ⟨g, 0, none⟩) ∧ f 46 = .func (.func 102) #[] #[.pointer (some ⟨Bn, 0, none⟩)]) ∧
      Blk w' w.heap.size 27 (a.cells p) ∧ Blk w' gs 64 (setCells (wordsOf (estL p l))) ∧ Blk w' g 64 (setCells (wordsOf (allP p))) ∧ Blk w' Bn 22 [.slice A2 l2.length c2] ∧ Below w.heap.size w w' ∧ p.May ∧ AllIn l p.seen ∧ AllIn l2 p.seen) mixed hfit ?_ ?_ ?_
  · show x _ _ _ _ [.c (cC _ cA), .c (cC _ cB), .c (cC _ cC1), .c (cC _ cM), .c (cC _ cC2), .c (cC _ cD), .lp _] _ _ _
    rw [hA, hB, hC, hM, hC2, hDD]
    clear hA hB hC hM hC2 hDD hD hE hrf hbl hc
    simp (disch := first | with_reducible assumption | omega) only [push_cast, x_blk, x_cd, ↓reduceIte, Nat.reduceEqDiff, List.map_cons, List.map_nil, Int.reduceEq, Int.lt_irrefl]
    refine blk_of (box_agg _ (a.cells p)) ?_
    intro w1 k1 b1 z1
    simp (disch := first | with_reducible assumption | omega) only [push_cast, x_blk, x_cd, ↓reduceIte, Nat.reduceEqDiff, List.map_cons, List.map_nil, Int.reduceEq, Int.lt_irrefl, k1.pA']
    refine call_of (current_May (ha.up b1) hf) ?_
    rintro v w2 ⟨rfl, b2⟩
    replace k1 := k1.below b2 k1.lt
    have bb := b1.trans (b2.mono b1.size)
    by_cases p1 : p.May
    case neg =>
      simp (disch := first | with_reducible assumption | omega) only [push_cast, x_blk, x_cd, ↓reduceIte, Nat.reduceEqDiff, List.map_cons, List.map_nil, Int.reduceEq, Int.lt_irrefl, decide_eq_false p1]
      exact ⟨none, 0, [], 2, (by simp only [push_cast, ↓reduceIte, Nat.reduceEqDiff, Int.reduceEq, List.length_nil]), Own.nil _ _ _ _, bb, fun hh => absurd hh.1 p1, fun _ => ⟨rfl, rfl⟩, fun hh => absurd hh.1 p1⟩
    have hm := p1.1
    have hst : p.m.states ≤ 256 := hm.2.1
    simp (disch := first | with_reducible assumption | omega) only [push_cast, x_blk, x_cd, ↓reduceIte, Nat.reduceEqDiff, List.map_cons, List.map_nil, Int.reduceEq, Int.lt_irrefl, decide_eq_true p1, k1.pA']
    refine call_of (current_Seen (ha.up bb) hf (h.up bb) n1) ?_
    rintro v w3 ⟨rfl, b3⟩
    replace k1 := k1.below b3 k1.lt
    replace bb := bb.trans (b3.mono bb.size)
    by_cases p2 : AllIn l p.seen
    case neg =>
      simp (disch := first | with_reducible assumption | omega) only [push_cast, x_blk, x_cd, ↓reduceIte, Nat.reduceEqDiff, List.map_cons, List.map_nil, Int.reduceEq, Int.lt_irrefl, decide_eq_false p2]
      exact ⟨none, 0, [], 6, (by simp only [push_cast, ↓reduceIte, Nat.reduceEqDiff, Int.reduceEq, List.length_nil]), Own.nil _ _ _ _, bb, fun hh => absurd hh.2.1 p2, fun hh => absurd p1 hh, fun _ => ⟨rfl, rfl⟩⟩
    simp (disch := first | with_reducible assumption | omega) only [push_cast, x_blk, x_cd, ↓reduceIte, Nat.reduceEqDiff, List.map_cons, List.map_nil, Int.reduceEq, Int.lt_irrefl, decide_eq_true p2, k1.pA']
    refine call_of (current_Seen (ha.up bb) hf (h2.up bb) n2) ?_
    rintro v w3' ⟨rfl, b3'⟩
    replace k1 := k1.below b3' k1.lt
    replace bb := bb.trans (b3'.mono bb.size)
    by_cases p3 : AllIn l2 p.seen
    case neg =>
      simp (disch := first | with_reducible assumption | omega) only [push_cast, x_blk, x_cd, ↓reduceIte, Nat.reduceEqDiff, List.map_cons, List.map_nil, Int.reduceEq, Int.lt_irrefl, decide_eq_false p3]
      exact ⟨none, 0, [], 6, (by simp only [push_cast, ↓reduceIte, Nat.reduceEqDiff, Int.reduceEq, List.length_nil]), Own.nil _ _ _ _, bb, fun hh => absurd hh.2.2 p3, fun hh => absurd p1 hh, fun _ => ⟨rfl, rfl⟩⟩
    simp (disch := first | with_reducible assumption | omega) only [push_cast, x_blk, x_cd, ↓reduceIte, Nat.reduceEqDiff, List.map_cons, List.map_nil, Int.reduceEq, Int.lt_irrefl, decide_eq_true p3, k1.pA']
    refine call_of (current_First (ha.up bb) hf hm) ?_
    rintro v w4 ⟨rfl, b4⟩
    replace k1 := k1.below b4 k1.lt
    replace bb := bb.trans (b4.mono bb.size)
    simp (disch := first | with_reducible assumption | omega) only [push_cast, x_blk, x_cd, ↓reduceIte, Nat.reduceEqDiff, List.map_cons, List.map_nil, Int.reduceEq, Int.lt_irrefl]
    refine blk_of (cs := setCells (wordsOf [])) al_64 ?_
    intro w5 k5 b5 z5
    have lg : w.heap.size < w4.heap.size := k1.lt
    replace k1 := k1.below b5 k1.lt
    replace bb := bb.trans (b5.mono bb.size)
    simp (disch := first | with_reducible assumption | omega) only [push_cast, x_blk, x_cd, ↓reduceIte, Nat.reduceEqDiff, List.map_cons, List.map_nil, Int.reduceEq, Int.lt_irrefl]
    refine sto_blk k5 (cs := setCells (wordsOf (firstP p))) (e4_set _) (by rw [setCells_4, setCells_4]) (setCells_one _) ?_
    intro w6 k6 g6 z6
    replace k1 := k1.grown g6.by_ (by simp; omega)
    replace bb := g6.below bb bb.size (by intro a ha; injection ha with ha; subst ha; show w.heap.size ≤ w4.heap.size; omega)
    have hsn : ∀ k, k < l.length → estL p (l.take (k + 1)) = nextP p (estL p (l.take k)) (l.getD k 0) := fun k hk => by
      unfold estL
      rw [take_snoc _ 0 k hk, List.foldl_append]; rfl
    simp (disch := first | with_reducible assumption | omega) only [push_cast, x_blk, x_cd, ↓reduceIte, Nat.reduceEqDiff, List.map_cons, List.map_nil, Int.reduceEq, Int.lt_irrefl]
    refine loop_rule (fun f w' => ∃ k : Nat, k ≤ l.length ∧ (f 2 = .slice A2 l2.length c2 ∧ f 3 = .pointer (some ⟨w.heap.size, 0, none⟩) ∧ f 8 = .pointer (some ⟨w4.heap.size, 0, none⟩) ∧ f 31 = .slice A l.length c ∧ f 32 = .int .i64 l.length ∧ f 33 = .int .i64 k) ∧
        Blk w' w.heap.size 27 (a.cells p) ∧ Blk w' w4.heap.size 64 (setCells (wordsOf (estL p (l.take k)))) ∧ Below w.heap.size w w')
      (fun f _ => l.length - (intOf (f 33)).toNat) ⟨0, Nat.zero_le _, ⟨rfl, rfl, rfl, rfl, rfl, rfl⟩, k1, k6, bb⟩ ?_
    clear k1 k6 bb g6
    rintro f w7 ⟨k, hk, fr, k1, k6, bb⟩ J hJ
    by_cases hlt : k < l.length
    case pos =>
      have hI := h.up bb
      have hAs := hI.isSome (by omega)
      simp (disch := first | with_reducible assumption | omega) only [push_cast, x_blk, x_cd, ↓reduceIte, Nat.reduceEqDiff, List.map_cons, List.map_nil, Int.reduceEq, Int.lt_irrefl, L_steps_Was_0, fr, hlt, hI.ld ty_ag_3, k1.pA', k6.setA (wordsOf_words _) ty_ag_64 ty_sz_64]
      refine call_of (current_Next (ha.up bb) hf hm _ _) ?_
      rintro v w8 ⟨rfl, b8⟩
      replace k1 := k1.below b8 k1.lt
      replace k6 := k6.below b8 k6.lt
      replace bb := bb.trans (b8.mono bb.size)
      simp (disch := first | with_reducible assumption | omega) only [push_cast, x_blk, x_cd, ↓reduceIte, Nat.reduceEqDiff, List.map_cons, List.map_nil, Int.reduceEq, Int.lt_irrefl, fr]
      refine sto_blk k6 (cs := setCells (wordsOf (nextP p (estL p (l.take k)) (l.getD k 0)))) (e4_set _) (by rw [setCells_4, setCells_4]) (setCells_one _) ?_
      intro w9 k9 g9 z9
      simp (disch := first | with_reducible assumption | omega) only [push_cast, x_blk, x_cd, ↓reduceIte, Nat.reduceEqDiff, List.map_cons, List.map_nil, Int.reduceEq, Int.lt_irrefl, fr]
      exact hJ _ _ ⟨k + 1, hlt, (by simp only [push_cast, ↓reduceIte, Nat.reduceEqDiff, true_and, and_true, and_self, eq_self, fr]), k1.grown g9.by_ (by simp; omega), by rw [hsn k hlt]; exact k9, g9.below bb bb.size (by intro a ha; injection ha with ha; subst ha; show w.heap.size ≤ w4.heap.size; omega)⟩ (by simp only [push_cast, ↓reduceIte, Nat.reduceEqDiff, intOf, fr]; omega)
    obtain rfl : k = l.length := by omega
    rw [List.take_length] at k6
    clear hJ
    simp (disch := first | with_reducible assumption | omega) only [push_cast, x_blk, x_cd, ↓reduceIte, Nat.reduceEqDiff, List.map_cons, List.map_nil, Int.reduceEq, Int.lt_irrefl, L_steps_Was_0, fr, Nat.lt_irrefl, k1.pM]
    refine call_of (initial_All (ha.up bb).m (by have := hm.1; omega) hst) ?_
    rintro v w8 ⟨rfl, b8⟩
    replace k1 := k1.below b8 k1.lt
    replace k6 := k6.below b8 k6.lt
    replace bb := bb.trans (b8.mono bb.size)
    simp (disch := first | with_reducible assumption | omega) only [push_cast, x_blk, x_cd, ↓reduceIte, Nat.reduceEqDiff, List.map_cons, List.map_nil, Int.reduceEq, Int.lt_irrefl]
    refine blk_of (cs := setCells (wordsOf [])) al_64 ?_
    intro w9 k9 b9 z9
    have lg4 : w4.heap.size < w8.heap.size := k6.lt
    replace k1 := k1.below b9 k1.lt
    replace k6 := k6.below b9 k6.lt
    replace bb := bb.trans (b9.mono bb.size)
    simp (disch := first | with_reducible assumption | omega) only [push_cast, x_blk, x_cd, ↓reduceIte, Nat.reduceEqDiff, List.map_cons, List.map_nil, Int.reduceEq, Int.lt_irrefl]
    refine sto_blk k9 (cs := setCells (wordsOf (allP p))) (e4_set _) (by rw [setCells_4, setCells_4]) (setCells_one _) ?_
    intro w10 k10 g10 z10
    replace k1 := k1.grown g10.by_ (by simp; omega)
    replace k6 := k6.grown g10.by_ (by simp; omega)
    replace bb := g10.below bb bb.size (by intro a ha; injection ha with ha; subst ha; show w.heap.size ≤ w8.heap.size; omega)
    simp (disch := first | with_reducible assumption | omega) only [push_cast, x_blk, x_cd, ↓reduceIte, Nat.reduceEqDiff, List.map_cons, List.map_nil, Int.reduceEq, Int.lt_irrefl, fr]
    refine call_of slices_Backward ?_
    rintro v w11 ⟨rfl, k11, b11, z11⟩
    replace k1 := k1.below b11 k1.lt
    replace k6 := k6.below b11 k6.lt
    replace k10 := k10.below b11 k10.lt
    replace bb := bb.trans (b11.mono bb.size)
    simp (disch := first | with_reducible assumption | omega) only [push_cast, x_blk, x_cd, ↓reduceIte, Nat.reduceEqDiff, List.map_cons, List.map_nil, Int.reduceEq, Int.lt_irrefl]
    exact ⟨w4.heap.size, w8.heap.size, w10.heap.size, lg, lg4, by omega, by omega, (by simp only [push_cast, ↓reduceIte, Nat.reduceEqDiff, Int.reduceEq, and_self, eq_self, fr]), k1, k6, k10, k11, bb, p1, p2, p3⟩
  · rintro a1 f w1 hf1 ⟨gs, g, Bn, hgs, hgg, hgB, hB1, fr, k1, ks, kg, kB, bb, p1, p2, p3⟩
    have hm := p1.1
    have hst : p.m.states ≤ 256 := hm.2.1
    have hI := h2.up bb
    refine wps_block (range_x hrf hf1 fr.2.2.2 (enters_of Tryd.func102 (by kernel_rfl) rfl)
      (backward_stops 3 Bn (But w1.heap.size g) l2 A2 c2 n2 w1 (fun W W' hk hS => sees_but hk hB1 (by omega) (fun b hl hb => ⟨by have := hI.block hl; omega, by have := h2.block hl; omega⟩) hS) kB hI)
      (Below.refl _ _) But.trans (butK_b (Nat.le_refl _)) (fun W => But.refl _ _ W) (fun _ => rfl)
      (fun pre W => Blk W g 64 (setCells (wordsOf (backF p pre))) ∧ Below g w1 W) ?_ ⟨kg, Below.refl _ _⟩ (fun x => upd (upd (upd f 47 (.int .i64 x.1)) 48 (.int .i64 x.2)) 13 (.int .i64 x.2)) ?_ ?_ ?_)
    · rintro pre W W' row ⟨h1, h2⟩ hgr hr
      exact ⟨blk_grown h1 hgr fun r e => (hr r e).2, h2.grown hgr (by have := h2.size; omega) fun r e => by have := (hr r e).1; omega⟩
    · intro x W
      refine ⟨1000, ?_⟩
      simp (disch := first | with_reducible assumption | omega) only [push_cast, x_blk, x_cd, ↓reduceIte, Nat.reduceEqDiff, List.map_cons, List.map_nil, Int.reduceEq, Int.lt_irrefl, updL]
      first | trivial | exact ⟨(by simp only [push_cast, ↓reduceIte, Nat.reduceEqDiff, true_and, and_true, and_self, eq_self, fr]), rfl⟩
    · rintro pre x W ⟨h1, h2⟩ _
      refine ⟨1000, ?_⟩
      have kP := k1.below h2 (by omega)
      have bW : Below w.heap.size w W := bb.trans (h2.mono (by omega))
      have hgl := h1.lt
      simp (disch := first | with_reducible assumption | omega) only [push_cast, x_blk, x_cd, ↓reduceIte, Nat.reduceEqDiff, List.map_cons, List.map_nil, Int.reduceEq, Int.lt_irrefl, fr, kP.pA', h1.setA (wordsOf_words _) ty_ag_64 ty_sz_64]
      refine call_of (initial_Back (ha.up bW) hf hm _ _) ?_
      rintro v W1 ⟨rfl, b1⟩
      replace h1 := h1.below b1 h1.lt
      simp (disch := first | with_reducible assumption | omega) only [push_cast, x_blk, x_cd, ↓reduceIte, Nat.reduceEqDiff, List.map_cons, List.map_nil, Int.reduceEq, Int.lt_irrefl, fr]
      refine sto_blk h1 (cs := setCells (wordsOf (backP p (backF p pre) x.2))) (e4_set _) (by rw [setCells_4, setCells_4]) (setCells_one _) ?_
      intro W2 kW gW zW
      simp (disch := first | with_reducible assumption | omega) only [push_cast, x_blk, x_cd, ↓reduceIte, Nat.reduceEqDiff, List.map_cons, List.map_nil, Int.reduceEq, Int.lt_irrefl, fr]
      have hz1 := b1.size
      have hz2 := h2.size
      exact ⟨(KeepsFrom.of_below b1 (Nat.le_refl _)).trans (KeepsFrom.of_grown (g := g) gW.by_ (by omega)), (But.of_below b1 hz2).trans (But.of_grown (g := g) gW.by_ (by omega)), by rw [backF_snoc]; exact kW,
        gW.below (h2.trans (b1.mono (by omega))) (by omega) (by intro a ha; injection ha with ha; subst ha; exact Nat.le_refl _)⟩
    · rintro D xs a2 W hD hS ⟨h1, h3⟩ hWD hf2
      rw [backF_rev hS] at h1
      refine segs_end (k1 := [cE]) (n := 100000) (R := fun f w' => PltRes (wasL p l l2) p (AllIn l p.seen ∧ AllIn l2 p.seen) w (.tuple #[f 6, f 7]) w' ∧ Below W.heap.size W w') mixed hf2 ?_ ?_
      · show x _ _ _ _ [.c (cC _ cE), .lp _] _ _ _
        rw [hE]
        clear hA hB hC hM hC2 hDD hD hE hrf hbl hc
        have kS := ks.below h3 hgg
        have bW : Below w.heap.size w W := bb.trans (h3.mono (by omega))
        have hrow := wasL_row hm l l2
        have hzW := h3.size
        simp (disch := first | with_reducible assumption | omega) only [push_cast, x_blk, x_cd, ↓reduceIte, Nat.reduceEqDiff, List.map_cons, List.map_nil, Int.reduceEq, Int.lt_irrefl, fr, h1.setA (wordsOf_words _) ty_ag_64 ty_sz_64, kS.setA (wordsOf_words _) ty_ag_64 ty_sz_64]
        refine call_of (steps_meet _ _) ?_
        rintro v w9 ⟨rfl, b9⟩
        have b9W := bW.trans (b9.mono bW.size)
        simp (disch := first | with_reducible assumption | omega) only [push_cast, x_blk, x_cd, ↓reduceIte, Nat.reduceEqDiff, List.map_cons, List.map_nil, Int.reduceEq, Int.lt_irrefl]
        refine call_of (set_Row' hrow.strict (hrow.small hst) (hT.below b9W hT.lt)) ?_
        rintro v w10 ⟨O, co, rfl, ho, b10⟩
        have zz := b9.size
        simp (disch := first | with_reducible assumption | omega) only [push_cast, x_blk, x_cd, ↓reduceIte, Nat.reduceEqDiff, List.map_cons, List.map_nil, Int.reduceEq, Int.lt_irrefl]
        exact ⟨⟨O, co, _, 0, rfl, ho.base b9W.size, b9W.trans (b10.mono b9W.size), fun _ => ⟨rfl, rfl⟩, fun hh => absurd p1 hh, fun hh => absurd ⟨p2, p3⟩ hh.2⟩, b9.trans (b10.mono (by omega))⟩
      · rintro e a3 f3 w3 he hf3 ⟨hR, hb3⟩
        refine finM_2 (Ds := [D]) he hf3 (clean_one ?_) (fun E hE => by simp at hE; subst hE; have := bb.size; omega) hR
        rw [hb3.block D (Array.getElem?_eq_some_iff.1 hWD).1]
        exact hWD
  · rintro a1 f w1 hf1 hR
    exact finM_2 (Ds := []) (.inr rfl) hf1 (clean_nil _) (fun E hE => absurd hE (by simp)) hR
end Go.Proofs.YtcjinmgieiebbaaDoor
