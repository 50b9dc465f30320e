/-
  Chapter 10: the program's Began, which goes over a list from behind: by its contract.
-/
import Derived.Test.YtcjinmgieiebbaaDoorBack
namespace Go.Proofs.YtcjinmgieiebbaaDoor
set_option linter.unusedSimpArgs false
set_option linter.unusedVariables false
set_option linter.unusedSectionVars false
open Go.RowKit

def PltRes (o' : List Int) (p : Plt) (ok : Prop) (w : World) (v : Value) (w' : World) : Prop :=
  ∃ O co o e, v = .tuple #[.slice O o.length co, .int .i64 e] ∧ OwnI w.heap.size 3 w' O co o ∧ Below w.heap.size w w' ∧
    (p.May ∧ ok → e = 0 ∧ o = o') ∧ (¬ p.May → e = 2 ∧ o = []) ∧ (p.May ∧ ¬ ok → e = 6 ∧ o = [])
theorem pltRes_own (o' : List Int) (p : Plt) (ok : Prop) (w : World) : OwnFrom w.heap.size (PltRes o' p ok w) := by
  rintro v W W' row ⟨O, co, o, e, rfl, ho, hb, h⟩ hg hr
  exact ⟨O, co, o, e, rfl, owni_grown ho hg (fun r e => (hr r e).2), hb.grown hg hb.size (fun r e => (hr r e).1), h⟩
noncomputable def backF (p : Plt) (l : List (Int × Int)) : List Int := l.foldl (fun s x => backP p s x.2) (allP p)
theorem backF_snoc (p : Plt) (l : List (Int × Int)) (x : Int × Int) : backF p (l ++ [x]) = backP p (backF p l) x.2 := by unfold backF; rw [List.foldl_append]; rfl
theorem backF_rev {p : Plt} {l : List (Int × Int)} {word : List Int} (h : l.map (·.2) = word.reverse) : backF p l = backsL p word := by
  have e : backF p l = (l.map (·.2)).foldl (backP p) (allP p) := by unfold backF; rw [List.foldl_map]
  rw [e, h, List.foldl_reverse]
  rfl

theorem initial_Began {w : World} {a : PV} {p : Plt} (ha : IsP (· < w.heap.size) w a p) (hf : p.Fits) (hC : p.m.starts.length ≤ a.m.cs) (hT : Tab w) {A : Option Addr} {c : Nat} {l : List Int} (h : Ints (· < w.heap.size) w A l) (n1 : l.length ≤ 17592186043904) :
    Cal Tryd.prog 32 [a.val p, .slice A l.length c] w (PltRes (onlyL (backsL p l) p.m.starts true) p (AllIn l p.seen) w) := by
  have hlS := hf.m.lenS
  refine cal_of_marks Tryd.func32 rfl rfl c_initial_Began k_initial_Began (by simp) (pltRes_own _ p _ w) ?_
  intro code act hc hfit
  obtain ⟨cA, r1, rfl, hA, hc⟩ := inv_sq hc
  obtain ⟨cB, r2, rfl, hB, hc⟩ := inv_sq hc
  obtain ⟨cC1, r3, rfl, hC, hc⟩ := inv_sq hc
  obtain ⟨cD', cE, rfl, hD, hE⟩ := inv_sq hc
  obtain ⟨cD, cbl, rfl, hDD, hbl⟩ := inv_sq hD
  obtain ⟨crf, rfl, hrf⟩ := inv_bl hbl
  refine wps_seq (wps_cons (fun _ _ h => wps_seq (wps_cons (fun _ _ h => wps_seq (wps_cons (fun _ _ h => wps_seq (wps_seq h)) h)) h)) ?_)
  refine segs (k1 := [cA, cB, cC1, cD]) (k2 := [.block 1 crf, cE]) (n := 100000) (R := fun f w' => PltRes (onlyL (backsL p l) p.m.starts true) p (AllIn l p.seen) w (.tuple #[f 4, f 5]) w')
    (E := fun f w' => ∃ g Bn, w.heap.size < g ∧ g < Bn ∧ Bn < w'.heap.size ∧ (f 2 = .pointer (some ⟨w.heap.size, 0, none⟩) ∧ f 5 = .int .i64 0 ∧ f 6 = .pointer (some ⟨g, 0, none⟩) ∧ f 24 = .func (.func 102) #[] #[.pointer (some ⟨Bn, 0, none⟩)]) ∧
      Blk w' w.heap.size 27 (a.cells p) ∧ Blk w' g 64 (setCells (wordsOf (allP p))) ∧ Blk w' Bn 22 [.slice A l.length c] ∧ Below w.heap.size w w' ∧ p.May ∧ AllIn l p.seen) mixed hfit ?_ ?_ ?_
  · show x _ _ _ _ [.c (cC _ cA), .c (cC _ cB), .c (cC _ cC1), .c (cC _ cD), .lp _] _ _ _
    rw [hA, hB, hC, hDD]
    simp (disch := first | with_reducible assumption | omega) only [push_cast, x_blk, x_cd, ↓reduceIte, Nat.reduceEqDiff, List.map_cons, List.map_nil, Int.reduceEq, Int.lt_irrefl]
    refine blk_of (box_agg _ (a.cells p)) ?_
    intro w1 k1 b1 z1
    simp (disch := first | with_reducible assumption | omega) only [push_cast, x_blk, x_cd, ↓reduceIte, Nat.reduceEqDiff, List.map_cons, List.map_nil, Int.reduceEq, Int.lt_irrefl, k1.pA']
    refine call_of (current_May (ha.up b1) hf) ?_
    rintro v w2 ⟨rfl, b2⟩
    replace k1 := k1.below b2 k1.lt
    have bb := b1.trans (b2.mono b1.size)
    by_cases p1 : p.May
    case neg =>
      simp (disch := first | with_reducible assumption | omega) only [push_cast, x_blk, x_cd, ↓reduceIte, Nat.reduceEqDiff, List.map_cons, List.map_nil, Int.reduceEq, Int.lt_irrefl, decide_eq_false p1]
      exact ⟨none, 0, [], 2, (by simp only [push_cast, ↓reduceIte, Nat.reduceEqDiff, Int.reduceEq, List.length_nil]), Own.nil _ _ _ _, bb, fun hh => absurd hh.1 p1, fun _ => ⟨rfl, rfl⟩, fun hh => absurd hh.1 p1⟩
    have hm := p1.1
    have hst : p.m.states ≤ 256 := hm.2.1
    simp (disch := first | with_reducible assumption | omega) only [push_cast, x_blk, x_cd, ↓reduceIte, Nat.reduceEqDiff, List.map_cons, List.map_nil, Int.reduceEq, Int.lt_irrefl, decide_eq_true p1, k1.pA']
    refine call_of (current_Seen (ha.up bb) hf (h.up bb) n1) ?_
    rintro v w3 ⟨rfl, b3⟩
    replace k1 := k1.below b3 k1.lt
    replace bb := bb.trans (b3.mono bb.size)
    by_cases p2 : AllIn l p.seen
    case neg =>
      simp (disch := first | with_reducible assumption | omega) only [push_cast, x_blk, x_cd, ↓reduceIte, Nat.reduceEqDiff, List.map_cons, List.map_nil, Int.reduceEq, Int.lt_irrefl, decide_eq_false p2]
      exact ⟨none, 0, [], 6, (by simp only [push_cast, ↓reduceIte, Nat.reduceEqDiff, Int.reduceEq, List.length_nil]), Own.nil _ _ _ _, bb, fun hh => absurd hh.2 p2, fun hh => absurd p1 hh, fun _ => ⟨rfl, rfl⟩⟩
    simp (disch := first | with_reducible assumption | omega) only [push_cast, x_blk, x_cd, ↓reduceIte, Nat.reduceEqDiff, List.map_cons, List.map_nil, Int.reduceEq, Int.lt_irrefl, decide_eq_true p2, k1.pM]
    refine call_of (initial_All (ha.up bb).m (by have := hm.1; omega) hst) ?_
    rintro v w4 ⟨rfl, b4⟩
    replace k1 := k1.below b4 k1.lt
    replace bb := bb.trans (b4.mono bb.size)
    simp (disch := first | with_reducible assumption | omega) only [push_cast, x_blk, x_cd, ↓reduceIte, Nat.reduceEqDiff, List.map_cons, List.map_nil, Int.reduceEq, Int.lt_irrefl]
    refine blk_of (cs := setCells (wordsOf [])) al_64 ?_
    intro w5 k5 b5 z5
    have lg : w.heap.size < w4.heap.size := k1.lt
    replace k1 := k1.below b5 k1.lt
    replace bb := bb.trans (b5.mono bb.size)
    simp (disch := first | with_reducible assumption | omega) only [push_cast, x_blk, x_cd, ↓reduceIte, Nat.reduceEqDiff, List.map_cons, List.map_nil, Int.reduceEq, Int.lt_irrefl]
    refine sto_blk k5 (cs := setCells (wordsOf (allP p))) (e4_set _) (by rw [setCells_4, setCells_4]) (setCells_one _) ?_
    intro w6 k6 g6 z6
    replace k1 := k1.grown g6.by_ (by simp; omega)
    replace bb := g6.below bb bb.size (by intro a ha; injection ha with ha; subst ha; show w.heap.size ≤ w4.heap.size; omega)
    simp (disch := first | with_reducible assumption | omega) only [push_cast, x_blk, x_cd, ↓reduceIte, Nat.reduceEqDiff, List.map_cons, List.map_nil, Int.reduceEq, Int.lt_irrefl]
    refine call_of slices_Backward ?_
    rintro v w7 ⟨rfl, k7, b7, z7⟩
    replace k1 := k1.below b7 k1.lt
    replace k6 := k6.below b7 k6.lt
    replace bb := bb.trans (b7.mono bb.size)
    simp (disch := first | with_reducible assumption | omega) only [push_cast, x_blk, x_cd, ↓reduceIte, Nat.reduceEqDiff, List.map_cons, List.map_nil, Int.reduceEq, Int.lt_irrefl]
    exact ⟨w4.heap.size, w6.heap.size, lg, by omega, by omega, (by simp only [push_cast, ↓reduceIte, Nat.reduceEqDiff, Int.reduceEq, and_self, eq_self]), k1, k6, k7, bb, p1, p2⟩
  · rintro a1 f w1 hf1 ⟨g, Bn, hg0, hgB, hB1, fr, k1, kg, kB, bb, p1, p2⟩
    have hm := p1.1
    have hst : p.m.states ≤ 256 := hm.2.1
    have hI := h.up bb
    refine wps_block (range_x hrf hf1 fr.2.2.2 (enters_of Tryd.func102 (by kernel_rfl) rfl)
      (backward_stops 3 Bn (But w1.heap.size g) l A c n1 w1 (fun W W' hk hS => sees_but hk hB1 (by omega) (fun b hl hb => ⟨by have := hI.block hl; omega, by have := h.block hl; omega⟩) hS) kB hI)
      (Below.refl _ _) But.trans (butK_b (Nat.le_refl _)) (fun W => But.refl _ _ W) (fun _ => rfl)
      (fun pre W => Blk W g 64 (setCells (wordsOf (backF p pre))) ∧ Below g w1 W) ?_ ⟨kg, Below.refl _ _⟩ (fun x => upd (upd (upd f 25 (.int .i64 x.1)) 26 (.int .i64 x.2)) 8 (.int .i64 x.2)) ?_ ?_ ?_)
    · rintro pre W W' row ⟨h1, h2⟩ hgr hr
      exact ⟨blk_grown h1 hgr fun r e => (hr r e).2, h2.grown hgr (by have := h2.size; omega) fun r e => by have := (hr r e).1; omega⟩
    · intro x W
      refine ⟨1000, ?_⟩
      simp (disch := first | with_reducible assumption | omega) only [push_cast, x_blk, x_cd, ↓reduceIte, Nat.reduceEqDiff, List.map_cons, List.map_nil, Int.reduceEq, Int.lt_irrefl, updL]
      first | trivial | exact ⟨(by simp only [push_cast, ↓reduceIte, Nat.reduceEqDiff, true_and, and_true, and_self, eq_self, fr]), rfl⟩
    · rintro pre x W ⟨h1, h2⟩ _
      refine ⟨1000, ?_⟩
      have kP := k1.below h2 hg0
      have bW : Below w.heap.size w W := bb.trans (h2.mono (by omega))
      have hgl := h1.lt
      simp (disch := first | with_reducible assumption | omega) only [push_cast, x_blk, x_cd, ↓reduceIte, Nat.reduceEqDiff, List.map_cons, List.map_nil, Int.reduceEq, Int.lt_irrefl, fr, kP.pA', h1.setA (wordsOf_words _) ty_ag_64 ty_sz_64]
      refine call_of (initial_Back (ha.up bW) hf hm _ _) ?_
      rintro v W1 ⟨rfl, b1⟩
      replace h1 := h1.below b1 h1.lt
      simp (disch := first | with_reducible assumption | omega) only [push_cast, x_blk, x_cd, ↓reduceIte, Nat.reduceEqDiff, List.map_cons, List.map_nil, Int.reduceEq, Int.lt_irrefl, fr]
      refine sto_blk h1 (cs := setCells (wordsOf (backP p (backF p pre) x.2))) (e4_set _) (by rw [setCells_4, setCells_4]) (setCells_one _) ?_
      intro W2 kW gW zW
      simp (disch := first | with_reducible assumption | omega) only [push_cast, x_blk, x_cd, ↓reduceIte, Nat.reduceEqDiff, List.map_cons, List.map_nil, Int.reduceEq, Int.lt_irrefl, fr]
      have hz1 := b1.size
      have hz2 := h2.size
      exact ⟨(KeepsFrom.of_below b1 (Nat.le_refl _)).trans (KeepsFrom.of_grown (g := g) gW.by_ (by omega)), (But.of_below b1 hz2).trans (But.of_grown (g := g) gW.by_ (by omega)), by rw [backF_snoc]; exact kW,
        gW.below (h2.trans (b1.mono (by omega))) (by omega) (by intro a ha; injection ha with ha; subst ha; exact Nat.le_refl _)⟩
    · rintro D xs a2 W hD hS ⟨h1, h2⟩ hWD hf2
      rw [backF_rev hS] at h1
      refine segs_end (k1 := [cE]) (n := 100000) (R := fun f w' => PltRes (onlyL (backsL p l) p.m.starts true) p (AllIn l p.seen) w (.tuple #[f 4, f 5]) w' ∧ Below W.heap.size W w') mixed hf2 ?_ ?_
      · show x _ _ _ _ [.c (cC _ cE), .lp _] _ _ _
        rw [hE]
        have kP := k1.below h2 hg0
        have bW : Below w.heap.size w W := bb.trans (h2.mono (by omega))
        have hrow := (backsL_UB p1.1 l).1
        have hsr := may_starts hm
        have n2 : (backsL p l).length ≤ 256 := small_len hrow.strict (hrow.small hst)
        have bu : Below W.heap.size W W.drew := drawn (Below.refl _ _)
        replace h1 := h1.below bu h1.lt
        replace kP := kP.below bu kP.lt
        replace bW := bW.trans (bu.mono bW.size)
        clear hA hB hC hD hDD hE hrf hbl hc
        have zu := bu.size
        simp (disch := first | with_reducible assumption | omega) only [push_cast, x_blk, x_cd, ↓reduceIte, Nat.reduceEqDiff, List.map_cons, List.map_nil, Int.reduceEq, Int.lt_irrefl, fr, h1.setA (wordsOf_words _) ty_ag_64 ty_sz_64, kP.p2]
        refine call_of (set_Row' hrow.strict (hrow.small hst) (hT.below bW hT.lt)) ?_
        rintro v w9 ⟨O, co, rfl, ho, b9⟩
        have hcO := ho.cap
        simp (disch := first | with_reducible assumption | omega) only [push_cast, x_blk, x_cd, ↓reduceIte, Nat.reduceEqDiff, List.map_cons, List.map_nil, Int.reduceEq, Int.lt_irrefl]
        refine ⟨b9, ?_⟩
        have b9W := bW.trans (b9.mono bW.size)
        refine call_of (row_Meet (OwnI.ints ho).lt (ha.up b9W).m.starts hcO hC (by omega) (by omega)) ?_
        rintro v w10 ⟨O3, co3, o3, e3, rfl, ho3, b10, hy3, _⟩
        have r1 : IsRow (backsL p l) 2147483648 := IsRow.of_strict hrow.strict fun x hx => by have := hrow.mem hx; omega
        have r2 : IsRow p.m.starts 2147483648 := IsRow.of_strict hsr.strict fun x hx => by have := hsr.mem hx; omega
        obtain ⟨rfl, he3⟩ := hy3 ⟨r1, r2⟩
        rw [meet_eq hrow.strict hsr.strict] at he3
        subst he3
        simp (disch := first | with_reducible assumption | omega) only [push_cast, x_blk, x_cd, ↓reduceIte, Nat.reduceEqDiff, List.map_cons, List.map_nil, Int.reduceEq, Int.lt_irrefl]
        have zz := b9.size
        refine ⟨b9.trans (b10.mono (by omega)), ?_⟩
        exact ⟨⟨O3, co3, _, 0, rfl, ho3.base b9W.size, b9W.trans (b10.mono b9W.size), fun _ => ⟨rfl, rfl⟩, fun hh => absurd p1 hh, fun hh => absurd p2 hh.2⟩, (bu.trans (b9.mono (by omega))).trans (b10.mono (by omega))⟩
      · rintro e a3 f3 w3 he hf3 ⟨hR, hb3⟩
        refine finM_2 (Ds := [D]) he hf3 (clean_one ?_) (fun E hE => by simp at hE; subst hE; have := bb.size; omega) hR
        rw [hb3.block D (Array.getElem?_eq_some_iff.1 hWD).1]
        exact hWD
  · rintro a1 f w1 hf1 hR
    exact finM_2 (Ds := []) (.inr rfl) hf1 (clean_nil _) (fun E hE => absurd hE (by simp)) hR
end Go.Proofs.YtcjinmgieiebbaaDoor
