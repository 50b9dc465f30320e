/-
  Chapter 5: the program's all: what sets have, joined over a set's numbers: by its contract.
-/
import Derived.Test.YtcjedgiglimipaaDoorZIn
import Derived.Test.YtcjedgiglimipaaDoorZJoin
import Derived.Test.YtcjedgiglimipaaDoorZSetAll
namespace Go.Proofs.YtcjedgiglimipaaDoor
set_option linter.unusedSimpArgs false
set_option linter.unusedVariables false
set_option linter.unusedSectionVars false
open Go.RowKit

theorem blk_grown' {g t : Nat} {cs : List Value} {W W' : World} {row : Option Nat} (h : Blk W g t cs) (hg : W.grownBy W' row) (hr : ∀ r, row = some r → ∃ o : Obj, W.heap[r]? = some o ∧ o.isCells = false) : Blk W' g t cs :=
  (hg.block g h.lt (fun e => by
    obtain ⟨o, ho, hc⟩ := hr g e.symm
    rw [show W.heap[g]? = _ from h] at ho
    cases ho; cases hc)).trans h
/-- What they have, joined. -/
def allF (L : List (List Int)) (xs : List Int) : List Int := xs.flatMap fun x => L.getD x.toNat []
theorem e4_set' (l : List Int) : tySize Tryd.prog 76 = some (setCells (wordsOf l)).length := by rw [setCells_len, (wordsOf_words l).1]; exact ty_sz_76
theorem hide_all {w : World} (hT : Tab w) {A : Option Addr} {c : Nat} {L : List (List Int)} (hL : Recs setC 4 (· < w.heap.size) w A L) (nL : L.length ≤ 256) {S : List Int} (hS : ∀ x ∈ S, 0 ≤ x ∧ x < L.length) :
    Cal Tryd.prog 51 [.slice A L.length c, setV S] w fun v w' => v = setV (allF L (rowS S)) ∧ Below w.heap.size w w' := by
  refine cal_of_marks Tryd.func51 rfl rfl c_hide_all k_hide_all (by simp) (fun v W W' row h hg hr => ⟨h.1, h.2.grown hg h.2.size fun r e => (hr r e).1⟩) ?_
  intro code act hc hfit
  obtain ⟨cA, r1, rfl, hA, hc⟩ := inv_sq hc
  obtain ⟨cB, r2, rfl, hB, hc⟩ := inv_sq hc
  obtain ⟨cD', cE, rfl, hD, hE⟩ := inv_sq hc
  obtain ⟨cD, cbl, rfl, hDD, hbl⟩ := inv_sq hD
  obtain ⟨crf, rfl, hrf⟩ := inv_bl hbl
  refine wps_seq (wps_cons (fun _ _ h => wps_seq (wps_cons (fun _ _ h => wps_seq (wps_seq h)) h)) ?_)
  refine segs (k1 := [cA, cB, cD]) (k2 := [.block 0 crf, cE]) (n := 100000) (R := fun _ _ => False)
    (E := fun f w' => ∃ gl gr go Bn, w.heap.size ≤ gl ∧ gl < gr ∧ gr < go ∧ go < Bn ∧ Bn < w'.heap.size ∧ (f 2 = .pointer (some ⟨gl, 0, none⟩) ∧ f 4 = .pointer (some ⟨gr, 0, none⟩) ∧ f 5 = .pointer (some ⟨go, 0, none⟩) ∧ f 8 = .func (.func 97) #[] #[.pointer (some ⟨Bn, 0, none⟩)]) ∧
      Blk w' gl 72 [.slice A L.length c] ∧ Blk w' gr 76 (setCells (wordsOf [])) ∧ Blk w' go 76 (setCells (wordsOf [])) ∧ Blk w' Bn 76 (setCells (wordsOf S)) ∧ Below w.heap.size w w') mixed hfit ?_ ?_ (fun _ _ _ _ h => h.elim)
  · show x _ _ _ _ [.c (cC _ cA), .c (cC _ cB), .c (cC _ cD), .lp _] _ _ _
    rw [hA, hB, hDD]
    clear hA hB hDD hD hE hrf hbl hc
    simp (disch := first | with_reducible assumption | omega) only [push_cast, x_blk, x_cd, ↓reduceIte, Nat.reduceEqDiff, List.map_cons, List.map_nil, Int.reduceEq, Int.lt_irrefl]
    refine blk_of (cs := [.slice A L.length c]) (box_eq _ _) ?_
    intro w1 k1 b1 z1
    simp (disch := first | with_reducible assumption | omega) only [push_cast, x_blk, x_cd, ↓reduceIte, Nat.reduceEqDiff, List.map_cons, List.map_nil, Int.reduceEq, Int.lt_irrefl]
    refine blk_of (box_agg _ (setCells (wordsOf S))) ?_
    intro w2 k2 b2 z2
    replace k1 := k1.below b2 k1.lt
    have bb := b1.trans (b2.mono b1.size)
    simp (disch := first | with_reducible assumption | omega) only [push_cast, x_blk, x_cd, ↓reduceIte, Nat.reduceEqDiff, List.map_cons, List.map_nil, Int.reduceEq, Int.lt_irrefl]
    refine blk_of (cs := setCells (wordsOf [])) al_76 ?_
    intro w3 k3 b3 z3
    replace k1 := k1.below b3 k1.lt
    replace k2 := k2.below b3 k2.lt
    replace bb := bb.trans (b3.mono bb.size)
    simp (disch := first | with_reducible assumption | omega) only [push_cast, x_blk, x_cd, ↓reduceIte, Nat.reduceEqDiff, List.map_cons, List.map_nil, Int.reduceEq, Int.lt_irrefl]
    refine blk_of (cs := setCells (wordsOf [])) al_76 ?_
    intro w4 k4 b4 z4
    replace k1 := k1.below b4 k1.lt
    replace k2 := k2.below b4 k2.lt
    replace k3 := k3.below b4 k3.lt
    replace bb := bb.trans (b4.mono bb.size)
    simp (disch := first | with_reducible assumption | omega) only [push_cast, x_blk, x_cd, ↓reduceIte, Nat.reduceEqDiff, List.map_cons, List.map_nil, Int.reduceEq, Int.lt_irrefl, k2.setA (wordsOf_words _) ty_ag_76 ty_sz_76]
    refine call_of (set_All S _) ?_
    rintro v w5 ⟨rfl, k5, b5, z5⟩
    simp (disch := first | with_reducible assumption | omega) only [push_cast, x_blk, x_cd, ↓reduceIte, Nat.reduceEqDiff, List.map_cons, List.map_nil, Int.reduceEq, Int.lt_irrefl]
    exact ⟨w.heap.size, w2.heap.size, w3.heap.size, w4.heap.size, Nat.le_refl _, by omega, by omega, by omega, by omega, (by simp only [push_cast, ↓reduceIte, Nat.reduceEqDiff, Int.reduceEq, and_self, eq_self]), k1.below b5 k1.lt, k3.below b5 k3.lt, k4.below b5 k4.lt, k5, bb.trans (b5.mono bb.size)⟩
  · rintro a1 f w1 hf1 ⟨gl, gr, go, Bn, h0, h1, h2, h3, h4, fr, kl, kr, ko, kB, bb⟩
    refine wps_block (range_x mixed hrf hf1 fr.2.2.2 (enters_of Tryd.func97 (by kernel_rfl) rfl)
      (set_All_stops 3 Bn w.heap.size S w1 (hT.below bb hT.lt) hT.lt kB) (Below.refl _ _) belowK_t (belowK_b bb.size) (fun W => Below.refl _ _) (fun _ => rfl)
      (fun (pre : List {x : Int // x ∈ S}) W => Blk W go 76 (setCells (wordsOf (allF L (pre.map (·.1))))) ∧ Below go w1 W) ?_ ⟨ko, Below.refl _ _⟩ (fun x => upd (upd f 9 (.int .i64 x.1)) 6 (.int .i64 x.1)) ?_ ?_ ?_)
    · rintro pre W W' row ⟨g1, g2⟩ hgr hr
      exact ⟨blk_grown' g1 hgr fun r e => (hr r e).2, g2.grown hgr (by have := g2.size; omega) fun r e => by have := (hr r e).1; omega⟩
    · intro x W
      refine ⟨1000, ?_⟩
      simp (disch := first | with_reducible assumption | omega) only [push_cast, x_blk, x_cd, ↓reduceIte, Nat.reduceEqDiff, List.map_cons, List.map_nil, Int.reduceEq, Int.lt_irrefl, updL]
      first | trivial | exact ⟨(by simp only [push_cast, ↓reduceIte, Nat.reduceEqDiff, true_and, and_true, and_self, eq_self, fr]), rfl⟩
    · rintro pre x W ⟨g1, g2⟩ _
      refine ⟨1000, ?_⟩
      have kL := kl.below g2 (by omega)
      have bW : Below w.heap.size w W := bb.trans (g2.mono (by omega))
      obtain ⟨x0, x1⟩ := hS x.1 x.2
      obtain ⟨n, hn⟩ : ∃ n : Nat, x.1 = n := ⟨x.1.toNat, by omega⟩
      have hnl : n < L.length := by omega
      have hLn : L[n]? = some (L[n]'hnl) := List.getElem?_eq_getElem hnl
      have hgd : L.getD n [] = L[n]'hnl := by rw [List.getD_eq_getElem?_getD, hLn]; rfl
      generalize L[n]'hnl = s at hLn hgd
      have hLW := hL.below bW
      have hA := hLW.isSome (by omega)
      have hld := fun {K : Fr → World → Prop} {f : Fr} {d : Option Nat} {w' : World} => hLW.ldAll (P := Tryd.prog) (K := K) (f := f) (d := d) (w := w') setEnc ty_ag_76 hLn ty_sz_76
      have hl0 := fun {K : Fr → World → Prop} {f : Fr} {d : Option Nat} {w' : World} => kL.ld (P := Tryd.prog) (K := K) (f := f) (d := d) (w := w') ty_ag_72 0 (by simp)
      have hgl := g1.lt
      simp (disch := first | with_reducible assumption | omega) only [push_cast, x_blk, x_cd, ↓reduceIte, Nat.reduceEqDiff, List.map_cons, List.map_nil, Int.reduceEq, Int.lt_irrefl, fr, hn, hnl, hl0, hld]
      refine call_of (set_Join (l2 := s) g1) ?_
      rintro v W1 ⟨rfl, k1, gr1⟩
      simp (disch := first | with_reducible assumption | omega) only [push_cast, x_blk, x_cd, ↓reduceIte, Nat.reduceEqDiff, List.map_cons, List.map_nil, Int.reduceEq, Int.lt_irrefl, fr]
      exact ⟨KeepsFrom.of_grown (g := go) gr1.by_ (by omega), gr1.below (Below.refl _ _) (by have := bW.size; omega) (by intro a ha; injection ha with ha; subst ha; show w.heap.size ≤ go; omega), by
        rw [List.map_append, List.map_singleton, hn]
        unfold allF at k1 ⊢
        rw [List.flatMap_append, List.flatMap_singleton, Int.toNat_natCast, hgd]
        exact k1, gr1.below g2 (by have := g2.size; omega) (by intro a ha; injection ha with ha; subst ha; exact Nat.le_refl _)⟩
    · rintro D xs a2 W hDl hxs ⟨g1, g2⟩ hWD hf2
      rw [hxs] at g1
      have kR := kr.below g2 (by omega)
      have bW : Below w.heap.size w W := bb.trans (g2.mono (by omega))
      refine segs_end (k1 := [cE]) (n := 100000) (R := fun f w' => f 4 = .pointer (some ⟨gr, 0, none⟩) ∧ Blk w' gr 76 (setCells (wordsOf (allF L (rowS S)))) ∧ Below w.heap.size w w' ∧ w'.heap[D]? = some (.deferred (some []))) mixed hf2 ?_ ?_
      · show x _ _ _ _ [.c (cC _ cE), .lp _] _ _ _
        rw [hE]
        clear hA hB hDD hD hE hrf hbl hc
        simp (disch := first | with_reducible assumption | omega) only [push_cast, x_blk, x_cd, ↓reduceIte, Nat.reduceEqDiff, List.map_cons, List.map_nil, Int.reduceEq, Int.lt_irrefl, fr, g1.setA (wordsOf_words _) ty_ag_76 ty_sz_76]
        refine sto_blk kR (cs := setCells (wordsOf (allF L (rowS S)))) (e4_set' _) (by rw [setCells_len, setCells_len, (wordsOf_words _).1, (wordsOf_words _).1]) (setCells_one _) ?_
        intro W2 k2 g2' z2
        simp (disch := first | with_reducible assumption | omega) only [push_cast, x_blk, x_cd, ↓reduceIte, Nat.reduceEqDiff, List.map_cons, List.map_nil, Int.reduceEq, Int.lt_irrefl, fr]
        refine ⟨(by simp only [push_cast, ↓reduceIte, Nat.reduceEqDiff, true_and, and_true, and_self, eq_self, fr]), k2, g2'.below bW bW.size (by intro a ha; injection ha with ha; subst ha; show w.heap.size ≤ gr; omega), ?_⟩
        rw [g2'.by_.block D (Array.getElem?_eq_some_iff.1 hWD).1 (by simp; omega)]
        exact hWD
      · rintro e a3 f3 w3 he hf3 ⟨hx3, k3, b3, hD3⟩
        exact finM_cell (Ds := [D]) he hf3 (clean_one hD3) (fun E hE => by simp at hE; subst hE; have := bb.size; omega) (fun _ _ _ _ h hg hr => blk_grown' h hg fun r e => (hr r e).2) k3
          (fun hk hx h => fin_cell hk ty_ag_76 (e4_set' _) hx h) hx3 ⟨rfl, b3⟩
end Go.Proofs.YtcjedgiglimipaaDoor
