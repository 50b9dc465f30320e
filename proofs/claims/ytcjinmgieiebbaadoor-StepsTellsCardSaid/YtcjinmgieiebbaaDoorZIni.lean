/-
  Chapter 10: the program's All, Back, lesser, Places, Leak: by their contracts.
-/
import Derived.Test.YtcjinmgieiebbaaDoorZIniP
import Derived.Test.YtcjinmgieiebbaaDoorZCurC
namespace Go.Proofs.YtcjinmgieiebbaaDoor
set_option linter.unusedSimpArgs false
set_option linter.unusedVariables false
set_option linter.unusedSectionVars false
open Go.RowKit

theorem evs_snoc (k : Nat) : evs (k + 1) = evs k ++ [(k : Int)] := by unfold evs; rw [List.range_succ, List.map_append]; rfl
theorem initial_All {w : World} {a : MV} {m : Mach} (h : IsM (· < w.heap.size) w a m) (h0 : 0 ≤ m.states) (h1 : m.states ≤ 256) :
    Cal Tryd.prog 70 [a.val m] w fun v w' => v = setV (evs m.states.toNat) ∧ Below w.heap.size w w' := by
  refine cal_initial_All (by simp) 100000 fun Q hQ => ?_
  simp (disch := first | with_reducible assumption | omega) only [push_cast, x_blk, x_cd, ↓reduceIte, Nat.reduceEqDiff, List.map_cons, List.map_nil, Int.reduceEq, Int.lt_irrefl, F_initial_All]
  refine blk_of (box_agg _ (a.cells m)) ?_
  intro w1 k1 b1 z1
  simp (disch := first | with_reducible assumption | omega) only [push_cast, x_blk, x_cd, ↓reduceIte, Nat.reduceEqDiff, List.map_cons, List.map_nil, Int.reduceEq, Int.lt_irrefl]
  refine blk_of (cs := setCells (wordsOf [])) al_64 ?_
  intro w2 k2 b2 z2
  replace k1 := k1.below b2 k1.lt
  have bb := b1.trans (b2.mono b1.size)
  simp (disch := first | with_reducible assumption | omega) only [push_cast, x_blk, x_cd, ↓reduceIte, Nat.reduceEqDiff, List.map_cons, List.map_nil, Int.reduceEq, Int.lt_irrefl]
  refine blk_of (cs := setCells (wordsOf [])) al_64 ?_
  intro w3 k3 b3 z3
  replace k1 := k1.below b3 k1.lt
  replace k2 := k2.below b3 k2.lt
  replace bb := bb.trans (b3.mono bb.size)
  simp (disch := first | with_reducible assumption | omega) only [push_cast, x_blk, x_cd, ↓reduceIte, Nat.reduceEqDiff, List.map_cons, List.map_nil, Int.reduceEq, Int.lt_irrefl, k1.m0 ty_ag_3]
  refine loop_rule (fun f w' => ∃ k : Nat, (k : Int) ≤ m.states ∧ (f 2 = .pointer (some ⟨w1.heap.size, 0, none⟩) ∧ f 3 = .pointer (some ⟨w2.heap.size, 0, none⟩) ∧ f 6 = .int .i64 m.states ∧ f 7 = .int .i64 k) ∧
      Blk w' w1.heap.size 64 (setCells (wordsOf [])) ∧ Blk w' w2.heap.size 64 (setCells (wordsOf (evs k))) ∧ Below w.heap.size w w')
    (fun f _ => m.states.toNat - (intOf (f 7)).toNat) ⟨0, h0, ⟨rfl, rfl, rfl, rfl⟩, k2, k3, bb⟩ ?_
  clear k1 k2 k3 bb
  rintro f w4 ⟨k, hk, fr, k2, k3, bb⟩ J hJ
  by_cases hlt : (k : Int) < m.states
  case neg =>
    obtain rfl : k = m.states.toNat := by omega
    simp (disch := first | with_reducible assumption | omega) only [push_cast, x_blk, x_cd, ↓reduceIte, Nat.reduceEqDiff, List.map_cons, List.map_nil, Int.reduceEq, Int.lt_irrefl, L_initial_All_0, fr, hlt, k3.setA (wordsOf_words _) ty_ag_64 ty_sz_64]
    refine sto_blk k2 (cs := setCells (wordsOf (evs m.states.toNat))) (e4_set _) (by rw [setCells_4, setCells_4]) (setCells_one _) ?_
    intro w5 k5 g5 z5
    simp (disch := first | with_reducible assumption | omega) only [push_cast, x_blk, x_cd, ↓reduceIte, Nat.reduceEqDiff, List.map_cons, List.map_nil, Int.reduceEq, Int.lt_irrefl]
    exact fin_cell k5 ty_ag_64 (e4_set _) (by simp only [push_cast, ↓reduceIte, Nat.reduceEqDiff, Int.reduceEq, fr]) (hQ _ _ ⟨rfl, g5.below bb bb.size (by intro a ha; injection ha with ha; subst ha; show w.heap.size ≤ w1.heap.size; omega)⟩)
  simp (disch := first | with_reducible assumption | omega) only [push_cast, x_blk, x_cd, ↓reduceIte, Nat.reduceEqDiff, List.map_cons, List.map_nil, Int.reduceEq, Int.lt_irrefl, L_initial_All_0, fr, hlt]
  refine call_of (set_Add' k (by omega) (by omega) k3) ?_
  rintro v w5 ⟨rfl, k5, g5, z5⟩
  simp (disch := first | with_reducible assumption | omega) only [push_cast, x_blk, x_cd, ↓reduceIte, Nat.reduceEqDiff, List.map_cons, List.map_nil, Int.reduceEq, Int.lt_irrefl, fr]
  exact hJ _ _ ⟨k + 1, by omega, (by simp only [push_cast, ↓reduceIte, Nat.reduceEqDiff, true_and, and_true, and_self, eq_self, fr]), k2.grown g5.by_ (by simp; omega), by rw [evs_snoc]; exact k5, g5.below bb bb.size (by intro a ha; injection ha with ha; subst ha; show w.heap.size ≤ w2.heap.size; omega)⟩ (by simp only [push_cast, ↓reduceIte, Nat.reduceEqDiff, intOf, fr]; omega)
theorem initial_Back {w : World} {a : PV} {p : Plt} (ha : IsP (· < w.heap.size) w a p) (hf : p.Fits) (hm : p.m.May) (s : List Int) (e : Int) :
    Cal Tryd.prog 72 [a.val p, setV s, .int .i64 e] w fun v w' => v = setV (backP p s e) ∧ Below w.heap.size w w' := by
  have hr := May.arSmall hm
  have nA := hm.2.2.2.2.1
  have nP := hf.lenP
  have hE : ∀ q ∈ unR p.m p.seen, 0 ≤ q.2 ∧ q.2 < 256 := hr.eds (unA p.seen) true
  have hEE : eds (unA p.seen) true p.m.arrows = unR p.m p.seen := rfl
  have hpre : Small (preT p.m.arrows s e) := fun x hx => by have := preT_range hm s e x hx; have := hm.2.1; omega
  refine cal_initial_Back (by simp) 100000 fun Q hQ => ?_
  simp (disch := first | with_reducible assumption | omega) only [push_cast, x_blk, x_cd, ↓reduceIte, Nat.reduceEqDiff, List.map_cons, List.map_nil, Int.reduceEq, Int.lt_irrefl, F_initial_Back]
  refine blk_of (box_agg _ (a.cells p)) ?_
  intro w1 kP b1 z1
  simp (disch := first | with_reducible assumption | omega) only [push_cast, x_blk, x_cd, ↓reduceIte, Nat.reduceEqDiff, List.map_cons, List.map_nil, Int.reduceEq, Int.lt_irrefl]
  refine blk_of (box_agg _ (setCells (wordsOf s))) ?_
  intro w2 k1 b2 z2
  replace kP := kP.below b2 kP.lt
  have bb := b1.trans (b2.mono b1.size)
  simp (disch := first | with_reducible assumption | omega) only [push_cast, x_blk, x_cd, ↓reduceIte, Nat.reduceEqDiff, List.map_cons, List.map_nil, Int.reduceEq, Int.lt_irrefl]
  refine blk_of (cs := setCells (wordsOf [])) al_64 ?_
  intro w3 k2 b3 z3
  replace kP := kP.below b3 kP.lt
  replace k1 := k1.below b3 k1.lt
  replace bb := bb.trans (b3.mono bb.size)
  simp (disch := first | with_reducible assumption | omega) only [push_cast, x_blk, x_cd, ↓reduceIte, Nat.reduceEqDiff, List.map_cons, List.map_nil, Int.reduceEq, Int.lt_irrefl]
  refine blk_of (cs := setCells (wordsOf [])) al_64 ?_
  intro w4 k3 b4 z4
  replace kP := kP.below b4 kP.lt
  replace k1 := k1.below b4 k1.lt
  replace k2 := k2.below b4 k2.lt
  replace bb := bb.trans (b4.mono bb.size)
  simp (disch := first | with_reducible assumption | omega) only [push_cast, x_blk, x_cd, ↓reduceIte, Nat.reduceEqDiff, List.map_cons, List.map_nil, Int.reduceEq, Int.lt_irrefl, kP.p3]
  refine loop_rule (fun f' w' => ∃ k : Nat, k ≤ p.m.arrows.length ∧ (f' 2 = .int .i64 e ∧ f' 3 = .pointer (some ⟨w.heap.size, 0, none⟩) ∧ f' 4 = .pointer (some ⟨w1.heap.size, 0, none⟩) ∧ f' 6 = .pointer (some ⟨w2.heap.size, 0, none⟩) ∧ f' 7 = .pointer (some ⟨w3.heap.size, 0, none⟩) ∧ f' 15 = .slice a.m.Aa p.m.arrows.length a.m.ca ∧ f' 16 = .int .i64 p.m.arrows.length ∧ f' 17 = .int .i64 k) ∧
      Blk w' w.heap.size 27 (a.cells p) ∧ Blk w' w1.heap.size 64 (setCells (wordsOf s)) ∧ Blk w' w2.heap.size 64 (setCells (wordsOf [])) ∧ Blk w' w3.heap.size 64 (setCells (wordsOf (preT (p.m.arrows.take k) s e))) ∧ Below w.heap.size w w')
    (fun f' _ => p.m.arrows.length - (intOf (f' 17)).toNat) ⟨0, Nat.zero_le _, ⟨rfl, rfl, rfl, rfl, rfl, rfl, rfl, rfl⟩, kP, k1, k2, k3, bb⟩ ?_
  clear kP k1 k2 k3 bb
  rintro f w7 ⟨k, hk, fr, kP, k1, k2, k3, bb⟩ J hJ
  have zb := bb.size
  by_cases hlt : k < p.m.arrows.length
  case pos =>
    have hI := (ha.up bb).m.arrows
    have hA := hI.isSome (by omega)
    have hsn := preT_snoc p.m.arrows s e k hlt
    have hym := getD_mem p.m.arrows default k hlt
    simp (disch := first | with_reducible assumption | omega) only [push_cast, x_blk, x_cd, ↓reduceIte, Nat.reduceEqDiff, List.map_cons, List.map_nil, Int.reduceEq, Int.lt_irrefl, L_initial_Back_2, fr, hlt, hI.ldA ty_ag_91 ty_sz_91]
    refine blk_of al_91 ?_
    intro w8 k8 b8 z8
    simp (disch := first | with_reducible assumption | omega) only [push_cast, x_blk, x_cd, ↓reduceIte, Nat.reduceEqDiff, List.map_cons, List.map_nil, Int.reduceEq, Int.lt_irrefl]
    refine sto_blk k8 (cs := arrCells (p.m.arrows.getD k default)) ty_sz_91 rfl (by simp [arrCells, Value.oneCell']) ?_
    intro w9 k9 g9 z9
    generalize hy : p.m.arrows.getD k default = y at *
    obtain ⟨hyf, hyt⟩ := hr y hym
    have b9 : Below w7.heap.size w7 w9 := g9.below b8 (by omega) (by intro a ha; injection ha with ha; subst ha; exact Nat.le_refl _)
    replace kP := kP.below b9 kP.lt
    replace k1 := k1.below b9 k1.lt
    replace k2 := k2.below b9 k2.lt
    replace k3 := k3.below b9 k3.lt
    replace bb := bb.trans (b9.mono bb.size)
    by_cases q1 : y.evt = e
    case neg =>
      rw [if_neg (fun hh => q1 hh.1)] at hsn
      simp (disch := first | with_reducible assumption | omega) only [push_cast, x_blk, x_cd, ↓reduceIte, Nat.reduceEqDiff, List.map_cons, List.map_nil, Int.reduceEq, Int.lt_irrefl, fr, k9.a1 ty_ag_3, q1]
      exact hJ _ _ ⟨k + 1, hlt, (by simp only [push_cast, ↓reduceIte, Nat.reduceEqDiff, true_and, and_true, and_self, eq_self, fr]), kP, k1, k2, by rw [hsn]; exact k3, bb⟩ (by simp only [push_cast, ↓reduceIte, Nat.reduceEqDiff, intOf, fr]; omega)
    simp (disch := first | with_reducible assumption | omega) only [push_cast, x_blk, x_cd, ↓reduceIte, Nat.reduceEqDiff, List.map_cons, List.map_nil, Int.reduceEq, Int.lt_irrefl, fr, k9.a1 ty_ag_3, q1, eq_self, k9.a2 ty_ag_3, k1.setA (wordsOf_words _) ty_ag_64 ty_sz_64]
    refine call_of (set_Has' _ y.to_ hyt.1 hyt.2 _) ?_
    rintro v w10 ⟨rfl, b10⟩
    replace kP := kP.below b10 kP.lt
    replace k1 := k1.below b10 k1.lt
    replace k2 := k2.below b10 k2.lt
    replace k3 := k3.below b10 k3.lt
    replace k9 := k9.below b10 k9.lt
    replace bb := bb.trans (b10.mono bb.size)
    by_cases q2 : y.to_ ∈ s
    case neg =>
      rw [if_neg (fun hh => q2 hh.2)] at hsn
      simp (disch := first | with_reducible assumption | omega) only [push_cast, x_blk, x_cd, ↓reduceIte, Nat.reduceEqDiff, List.map_cons, List.map_nil, Int.reduceEq, Int.lt_irrefl, fr, decide_eq_false q2]
      exact hJ _ _ ⟨k + 1, hlt, (by simp only [push_cast, ↓reduceIte, Nat.reduceEqDiff, true_and, and_true, and_self, eq_self, fr]), kP, k1, k2, by rw [hsn]; exact k3, bb⟩ (by simp only [push_cast, ↓reduceIte, Nat.reduceEqDiff, intOf, fr]; omega)
    rw [if_pos ⟨q1, q2⟩] at hsn
    simp (disch := first | with_reducible assumption | omega) only [push_cast, x_blk, x_cd, ↓reduceIte, Nat.reduceEqDiff, List.map_cons, List.map_nil, Int.reduceEq, Int.lt_irrefl, fr, decide_eq_true q2, k9.a0 ty_ag_3]
    refine call_of (set_Add' y.frm hyf.1 hyf.2 k3) ?_
    rintro v w12 ⟨rfl, k12, g12, z12⟩
    simp (disch := first | with_reducible assumption | omega) only [push_cast, x_blk, x_cd, ↓reduceIte, Nat.reduceEqDiff, List.map_cons, List.map_nil, Int.reduceEq, Int.lt_irrefl, fr]
    exact hJ _ _ ⟨k + 1, hlt, (by simp only [push_cast, ↓reduceIte, Nat.reduceEqDiff, true_and, and_true, and_self, eq_self, fr]), kP.grown g12.by_ (by simp; omega), k1.grown g12.by_ (by simp; omega), k2.grown g12.by_ (by simp; omega), by rw [hsn]; exact k12, g12.below bb bb.size (by intro a ha; injection ha with ha; subst ha; show w.heap.size ≤ w3.heap.size; omega)⟩ (by simp only [push_cast, ↓reduceIte, Nat.reduceEqDiff, intOf, fr]; omega)
  obtain rfl : k = p.m.arrows.length := by omega
  rw [List.take_length] at k3
  simp (disch := first | with_reducible assumption | omega) only [push_cast, x_blk, x_cd, ↓reduceIte, Nat.reduceEqDiff, List.map_cons, List.map_nil, Int.reduceEq, Int.lt_irrefl, L_initial_Back_2, fr, Nat.lt_irrefl, bl_set0]
  refine blk_of (cs := setCells (wordsOf [])) al_64 ?_
  intro w8 k8 b8 z8
  have lM := kP.lt
  have l1 := k1.lt
  have l2 := k2.lt
  have lz := k3.lt
  replace kP := kP.below b8 kP.lt
  replace k1 := k1.below b8 k1.lt
  replace k2 := k2.below b8 k2.lt
  replace k3 := k3.below b8 k3.lt
  replace bb := bb.trans (b8.mono bb.size)
  simp (disch := first | with_reducible assumption | omega) only [push_cast, x_blk, x_cd, ↓reduceIte, Nat.reduceEqDiff, List.map_cons, List.map_nil, Int.reduceEq, Int.lt_irrefl]
  refine sto_blk k8 (cs := setCells (wordsOf [])) (e4_set []) (by rw [setCells_4]) (setCells_one _) ?_
  intro w9 k9 g9 z9
  replace kP := kP.grown g9.by_ (by simp; omega)
  replace k1 := k1.grown g9.by_ (by simp; omega)
  replace k2 := k2.grown g9.by_ (by simp; omega)
  replace k3 := k3.grown g9.by_ (by simp; omega)
  replace bb := g9.below bb bb.size (by intro a ha; injection ha with ha; subst ha; show w.heap.size ≤ w7.heap.size; omega)
  simp (disch := first | with_reducible assumption | omega) only [push_cast, x_blk, x_cd, ↓reduceIte, Nat.reduceEqDiff, List.map_cons, List.map_nil, Int.reduceEq, Int.lt_irrefl, fr]
  refine loop_ix (fun n f' w' => ∃ (g : Nat) (was l' : List Int), n = left was l' ∧ (f' 3 = .pointer (some ⟨w.heap.size, 0, none⟩) ∧ f' 6 = .pointer (some ⟨w2.heap.size, 0, none⟩) ∧ f' 7 = .pointer (some ⟨w3.heap.size, 0, none⟩) ∧ f' 10 = .pointer (some ⟨g, 0, none⟩)) ∧
      Spread (unR p.m p.seen) (preT p.m.arrows s e) was l' ∧ w3.heap.size < g ∧ Blk w' w.heap.size 27 (a.cells p) ∧ Blk w' w2.heap.size 64 (setCells (wordsOf [])) ∧ Blk w' w3.heap.size 64 (setCells (wordsOf l')) ∧ Blk w' g 64 (setCells (wordsOf was)) ∧ Below w.heap.size w w')
    (n0 := left [] (preT p.m.arrows s e)) ⟨w7.heap.size, [], _, rfl, (by simp only [push_cast, ↓reduceIte, Nat.reduceEqDiff, true_and, and_true, and_self, eq_self, fr]), Spread.start _ hpre, by omega, kP, k2, k3, k9, bb⟩ ?_
  clear kP k1 k2 k3 k9 k8 bb g9
  rintro _ f w5 ⟨g, was, l', rfl, fr, hS, hg, kP, k2, k1, k3, bb⟩ J hJ
  have zb := bb.size
  by_cases hw : wordsOf was = wordsOf l'
  · simp (disch := first | with_reducible assumption | omega) only [push_cast, x_blk, x_cd, ↓reduceIte, Nat.reduceEqDiff, List.map_cons, List.map_nil, Int.reduceEq, Int.lt_irrefl, L_initial_Back_1, fr, neq_set, decide_eq_true hw, k1.setA (wordsOf_words _) ty_ag_64 ty_sz_64, k3.setA (wordsOf_words _) ty_ag_64 ty_sz_64]
    refine sto_blk k2 (cs := setCells (wordsOf l')) (e4_set l') (by rw [setCells_4, setCells_4]) (setCells_one _) ?_
    intro w6 k6 g6 z6
    simp (disch := first | with_reducible assumption | omega) only [push_cast, x_blk, x_cd, ↓reduceIte, Nat.reduceEqDiff, List.map_cons, List.map_nil, Int.reduceEq, Int.lt_irrefl]
    exact fin_cell k6 ty_ag_64 (e4_set l') (by simp only [push_cast, ↓reduceIte, Nat.reduceEqDiff, true_and, and_true, and_self, eq_self, fr]) (hQ _ _ ⟨hS.done hw, g6.below bb bb.size (by intro a ha; injection ha with ha; subst ha; show w.heap.size ≤ w2.heap.size; omega)⟩)
  have hlt := left_lt hS.small hE hw
  have hnx := hS.next hE
  simp (disch := first | with_reducible assumption | omega) only [push_cast, x_blk, x_cd, ↓reduceIte, Nat.reduceEqDiff, List.map_cons, List.map_nil, Int.reduceEq, Int.lt_irrefl, L_initial_Back_1, fr, neq_set, decide_eq_false hw, k1.setA (wordsOf_words _) ty_ag_64 ty_sz_64, k3.setA (wordsOf_words _) ty_ag_64 ty_sz_64]
  refine sto_blk k3 (cs := setCells (wordsOf l')) (e4_set l') (by rw [setCells_4, setCells_4]) (setCells_one _) ?_
  intro w6 k6 g6 z6
  replace kP := kP.grown g6.by_ (by simp; omega)
  replace k1 := k1.grown g6.by_ (by simp; omega)
  replace k2 := k2.grown g6.by_ (by simp; omega)
  replace bb := g6.below bb bb.size (by intro a ha; injection ha with ha; subst ha; show w.heap.size ≤ g; omega)
  simp (disch := first | with_reducible assumption | omega) only [push_cast, x_blk, x_cd, ↓reduceIte, Nat.reduceEqDiff, List.map_cons, List.map_nil, Int.reduceEq, Int.lt_irrefl, fr, kP.p3]
  refine loop_rule (fun f' w' => ∃ k : Nat, k ≤ p.m.arrows.length ∧ (f' 3 = .pointer (some ⟨w.heap.size, 0, none⟩) ∧ f' 6 = .pointer (some ⟨w2.heap.size, 0, none⟩) ∧ f' 7 = .pointer (some ⟨w3.heap.size, 0, none⟩) ∧ f' 10 = .pointer (some ⟨g, 0, none⟩) ∧ f' 42 = .slice a.m.Aa p.m.arrows.length a.m.ca ∧ f' 43 = .int .i64 p.m.arrows.length ∧ f' 44 = .int .i64 k) ∧
      Blk w' w.heap.size 27 (a.cells p) ∧ Blk w' w3.heap.size 64 (setCells (wordsOf (passK (unA p.seen) true p.m.arrows l' k))) ∧ Blk w' w2.heap.size 64 (setCells (wordsOf [])) ∧ Blk w' g 64 (setCells (wordsOf l')) ∧ Below w.heap.size w w')
    (fun f' _ => p.m.arrows.length - (intOf (f' 44)).toNat) ⟨0, Nat.zero_le _, (by simp only [push_cast, ↓reduceIte, Nat.reduceEqDiff, true_and, and_true, and_self, eq_self, fr]), kP, k1, k2, k6, bb⟩ ?_
  clear kP k1 k2 k6 bb fr
  rintro f w7 ⟨k, hk, fr, kP, k1, k2, k3, bb⟩ J2 hJ2
  have zb := bb.size
  by_cases hlt2 : k < p.m.arrows.length
  case neg =>
    obtain rfl : k = p.m.arrows.length := by omega
    rw [passK_all, hEE] at k1
    simp (disch := first | with_reducible assumption | omega) only [push_cast, x_blk, x_cd, ↓reduceIte, Nat.reduceEqDiff, List.map_cons, List.map_nil, Int.reduceEq, Int.lt_irrefl, L_initial_Back_0, fr, Nat.lt_irrefl, k3.setA (wordsOf_words _) ty_ag_64 ty_sz_64]
    refine blk_of (cs := setCells (wordsOf [])) al_64 ?_
    intro w8 k8 b8 z8
    have lM := kP.lt
    have l1 := k1.lt
    have l2 := k2.lt
    replace kP := kP.below b8 kP.lt
    replace k1 := k1.below b8 k1.lt
    replace k2 := k2.below b8 k2.lt
    replace bb := bb.trans (b8.mono bb.size)
    simp (disch := first | with_reducible assumption | omega) only [push_cast, x_blk, x_cd, ↓reduceIte, Nat.reduceEqDiff, List.map_cons, List.map_nil, Int.reduceEq, Int.lt_irrefl, fr]
    refine sto_blk k8 (cs := setCells (wordsOf l')) (e4_set l') (by rw [setCells_4, setCells_4]) (setCells_one _) ?_
    intro w9 k9 g9 z9
    replace kP := kP.grown g9.by_ (by simp; omega)
    replace k1 := k1.grown g9.by_ (by simp; omega)
    replace k2 := k2.grown g9.by_ (by simp; omega)
    replace bb := g9.below bb bb.size (by intro a ha; injection ha with ha; subst ha; exact zb)
    simp (disch := first | with_reducible assumption | omega) only [push_cast, x_blk, x_cd, ↓reduceIte, Nat.reduceEqDiff, List.map_cons, List.map_nil, Int.reduceEq, Int.lt_irrefl, fr]
    exact hJ _ _ _ ⟨w7.heap.size, l', passL (unR p.m p.seen) l', rfl, (by simp only [push_cast, ↓reduceIte, Nat.reduceEqDiff, true_and, and_true, and_self, eq_self, fr]), hnx, by omega, kP, k2, k1, k9, bb⟩ hlt
  have hI := (ha.up bb).m.arrows
  have hA := hI.isSome (by omega)
  have hsn := passK_succ (unA p.seen) true p.m.arrows l' k hlt2
  have hym := getD_mem p.m.arrows default k hlt2
  simp (disch := first | with_reducible assumption | omega) only [push_cast, x_blk, x_cd, ↓reduceIte, Nat.reduceEqDiff, List.map_cons, List.map_nil, Int.reduceEq, Int.lt_irrefl, L_initial_Back_0, fr, hlt2, hI.ldA ty_ag_91 ty_sz_91]
  refine blk_of al_91 ?_
  intro w8 k8 b8 z8
  simp (disch := first | with_reducible assumption | omega) only [push_cast, x_blk, x_cd, ↓reduceIte, Nat.reduceEqDiff, List.map_cons, List.map_nil, Int.reduceEq, Int.lt_irrefl]
  refine sto_blk k8 (cs := arrCells (p.m.arrows.getD k default)) ty_sz_91 rfl (by simp [arrCells, Value.oneCell']) ?_
  intro w9 k9 g9 z9
  generalize hy : p.m.arrows.getD k default = y at *
  obtain ⟨hyf, hyt⟩ := hr y hym
  have b9 : Below w7.heap.size w7 w9 := g9.below b8 (by omega) (by intro a ha; injection ha with ha; subst ha; exact Nat.le_refl _)
  replace kP := kP.below b9 kP.lt
  replace k1 := k1.below b9 k1.lt
  replace k2 := k2.below b9 k2.lt
  replace k3 := k3.below b9 k3.lt
  replace bb := bb.trans (b9.mono bb.size)
  simp (disch := first | with_reducible assumption | omega) only [push_cast, x_blk, x_cd, ↓reduceIte, Nat.reduceEqDiff, List.map_cons, List.map_nil, Int.reduceEq, Int.lt_irrefl, fr, k9.a2 ty_ag_3, k1.setA (wordsOf_words _) ty_ag_64 ty_sz_64]
  refine call_of (set_Has' _ y.to_ hyt.1 hyt.2 _) ?_
  rintro v w10 ⟨rfl, b10⟩
  replace kP := kP.below b10 kP.lt
  replace k1 := k1.below b10 k1.lt
  replace k2 := k2.below b10 k2.lt
  replace k3 := k3.below b10 k3.lt
  replace k9 := k9.below b10 k9.lt
  replace bb := bb.trans (b10.mono bb.size)
  by_cases q2 : y.to_ ∈ passK (unA p.seen) true p.m.arrows l' k
  case neg =>
    rw [if_neg (fun hh => q2 hh.2)] at hsn
    simp (disch := first | with_reducible assumption | omega) only [push_cast, x_blk, x_cd, ↓reduceIte, Nat.reduceEqDiff, List.map_cons, List.map_nil, Int.reduceEq, Int.lt_irrefl, fr, decide_eq_false q2]
    exact hJ2 _ _ ⟨k + 1, hlt2, (by simp only [push_cast, ↓reduceIte, Nat.reduceEqDiff, true_and, and_true, and_self, eq_self, fr]), kP, by rw [hsn]; exact k1, k2, k3, bb⟩ (by simp only [push_cast, ↓reduceIte, Nat.reduceEqDiff, intOf, fr]; omega)
  simp (disch := first | with_reducible assumption | omega) only [push_cast, x_blk, x_cd, ↓reduceIte, Nat.reduceEqDiff, List.map_cons, List.map_nil, Int.reduceEq, Int.lt_irrefl, fr, decide_eq_true q2, kP.p5, k9.a1 ty_ag_3]
  refine call_of (row_Has (ha.up bb).seen a.cp y.evt (by omega)) ?_
  rintro v w11 ⟨rfl, s11⟩
  replace kP := kP.same s11
  replace k1 := k1.same s11
  replace k2 := k2.same s11
  replace k3 := k3.same s11
  replace k9 := k9.same s11
  replace bb := bb.trans (s11.below _)
  by_cases q3 : y.evt ∈ p.seen
  · rw [if_neg (fun hh => by have := hh.1; simp [unA, q3] at this)] at hsn
    simp (disch := first | with_reducible assumption | omega) only [push_cast, x_blk, x_cd, ↓reduceIte, Nat.reduceEqDiff, List.map_cons, List.map_nil, Int.reduceEq, Int.lt_irrefl, fr, decide_eq_true q3]
    exact hJ2 _ _ ⟨k + 1, hlt2, (by simp only [push_cast, ↓reduceIte, Nat.reduceEqDiff, true_and, and_true, and_self, eq_self, fr]), kP, by rw [hsn]; exact k1, k2, k3, bb⟩ (by simp only [push_cast, ↓reduceIte, Nat.reduceEqDiff, intOf, fr]; omega)
  rw [if_pos ⟨by simp [unA, q3], q2⟩] at hsn
  simp (disch := first | with_reducible assumption | omega) only [push_cast, x_blk, x_cd, ↓reduceIte, Nat.reduceEqDiff, List.map_cons, List.map_nil, Int.reduceEq, Int.lt_irrefl, fr, decide_eq_false q3, k9.a0 ty_ag_3]
  refine call_of (set_Add' y.frm hyf.1 hyf.2 k1) ?_
  rintro v w12 ⟨rfl, k12, g12, z12⟩
  simp (disch := first | with_reducible assumption | omega) only [push_cast, x_blk, x_cd, ↓reduceIte, Nat.reduceEqDiff, List.map_cons, List.map_nil, Int.reduceEq, Int.lt_irrefl, fr]
  exact hJ2 _ _ ⟨k + 1, hlt2, (by simp only [push_cast, ↓reduceIte, Nat.reduceEqDiff, true_and, and_true, and_self, eq_self, fr]), kP.grown g12.by_ (by simp; omega), by rw [hsn]; exact k12, k2.grown g12.by_ (by simp; omega), k3.grown g12.by_ (by simp; omega), g12.below bb bb.size (by intro a ha; injection ha with ha; subst ha; show w.heap.size ≤ w3.heap.size; omega)⟩ (by simp only [push_cast, ↓reduceIte, Nat.reduceEqDiff, intOf, fr]; omega)

theorem slices_Compare {ok ok' : Nat → Prop} {w : World} {A A' : Option Addr} {l m : List Int} (h : Ints ok w A l) (h' : Ints ok' w A' m) (c c' : Nat) (hl : l.length ≤ 9223372036854775807) :
    Cal Tryd.prog 105 [.slice A l.length c, .slice A' m.length c'] w fun v w' => ∃ z : Int, v = .int .i64 z ∧ (-1 ≤ z ∧ z ≤ 1) ∧ (l.length = m.length → (z < 0 ↔ Shl l m) ∧ (z = 0 ↔ l = m)) ∧ Same w w' := by
  refine cal_slices_Compare (by simp) 100000 fun Q hQ => ?_
  simp (disch := first | with_reducible assumption | omega) only [push_cast, x_blk, x_cd, ↓reduceIte, Nat.reduceEqDiff, List.map_cons, List.map_nil, Int.reduceEq, Int.lt_irrefl, F_slices_Compare]
  refine loop_rule (fun f w' => ∃ k : Nat, k ≤ l.length ∧ (f 0 = .slice A l.length c ∧ f 1 = .slice A' m.length c' ∧ f 9 = .slice A l.length c ∧ f 10 = .int .i64 l.length ∧ f 11 = .int .i64 k) ∧ (∀ i, i < k → i < m.length ∧ l.getD i 0 = m.getD i 0) ∧ Same w w')
    (fun f _ => l.length - (intOf (f 11)).toNat) ⟨0, Nat.zero_le _, ⟨rfl, rfl, rfl, rfl, rfl⟩, fun i hi => absurd hi (by omega), Same.refl w⟩ ?_
  rintro f w1 ⟨k, hk, fr, hp, s1⟩ J hJ
  by_cases hlt : k < l.length
  case neg =>
    by_cases c1 : (l.length : Int) < (m.length : Int)
    · simp (disch := first | with_reducible assumption | omega) only [push_cast, x_blk, x_cd, ↓reduceIte, Nat.reduceEqDiff, List.map_cons, List.map_nil, Int.reduceEq, Int.lt_irrefl, L_slices_Compare_0, fr, hlt, c1]
      exact fin_1 (hQ _ _ ⟨-1, (by simp only [push_cast, ↓reduceIte, Nat.reduceEqDiff, Int.reduceEq]), by omega, fun e => by omega, s1⟩)
    · simp (disch := first | with_reducible assumption | omega) only [push_cast, x_blk, x_cd, ↓reduceIte, Nat.reduceEqDiff, List.map_cons, List.map_nil, Int.reduceEq, Int.lt_irrefl, L_slices_Compare_0, fr, hlt, c1]
      refine fin_1 (hQ _ _ ⟨0, (by simp only [push_cast, ↓reduceIte, Nat.reduceEqDiff, Int.reduceEq]), by omega, fun e => ?_, s1⟩)
      have : l = m := ext_getD 0 e fun i hi => (hp i (by omega)).2
      subst this
      exact ⟨⟨fun h => absurd h (by omega), fun h => absurd h (Shl.irrefl _)⟩, by simp⟩
  have hI := h.same s1
  have hI' := h'.same s1
  have hA := hI.isSome (by omega)
  by_cases c1 : k < m.length
  case neg =>
    have c1' : (m.length : Int) ≤ (k : Int) := by omega
    simp (disch := first | with_reducible assumption | omega) only [push_cast, x_blk, x_cd, ↓reduceIte, Nat.reduceEqDiff, List.map_cons, List.map_nil, Int.reduceEq, Int.lt_irrefl, L_slices_Compare_0, fr, hlt, hI.ld ty_ag_3, c1']
    exact fin_1 (hQ _ _ ⟨1, (by simp only [push_cast, ↓reduceIte, Nat.reduceEqDiff, Int.reduceEq]), by omega, fun e => by omega, s1⟩)
  have c1' : ¬ (m.length : Int) ≤ (k : Int) := by omega
  have hA' := hI'.isSome (by omega)
  simp (disch := first | with_reducible assumption | omega) only [push_cast, x_blk, x_cd, ↓reduceIte, Nat.reduceEqDiff, List.map_cons, List.map_nil, Int.reduceEq, Int.lt_irrefl, L_slices_Compare_0, fr, hlt, hI.ld ty_ag_3, hI'.ld ty_ag_3, c1, c1']
  refine call_of (cmp_Compare _ _ _) ?_
  rintro v w2 ⟨rfl, s2⟩
  have s12 := s1.trans s2
  by_cases c2 : l.getD k 0 = m.getD k 0
  · have e0 : cmpI (l.getD k 0) (m.getD k 0) = 0 := by unfold cmpI; rw [if_neg (by omega), if_neg (by omega)]
    simp (disch := first | with_reducible assumption | omega) only [push_cast, x_blk, x_cd, ↓reduceIte, Nat.reduceEqDiff, List.map_cons, List.map_nil, Int.reduceEq, Int.lt_irrefl, e0, fr, eq_self]
    exact hJ _ _ ⟨k + 1, hlt, (by simp only [push_cast, ↓reduceIte, Nat.reduceEqDiff, true_and, and_true, and_self, eq_self, fr]), fun i hi => if e : i = k then e ▸ ⟨c1, c2⟩ else hp i (by omega), s12⟩ (by simp only [push_cast, ↓reduceIte, Nat.reduceEqDiff, intOf, fr]; omega)
  · have hne : ¬ cmpI (l.getD k 0) (m.getD k 0) = 0 := by unfold cmpI; split; omega; split; omega; omega
    simp (disch := first | with_reducible assumption | omega) only [push_cast, x_blk, x_cd, ↓reduceIte, Nat.reduceEqDiff, List.map_cons, List.map_nil, Int.reduceEq, Int.lt_irrefl, hne]
    refine fin_1 (hQ _ _ ⟨cmpI (l.getD k 0) (m.getD k 0), (by simp only [push_cast, ↓reduceIte, Nat.reduceEqDiff, Int.reduceEq]), by unfold cmpI; split; omega; split <;> omega, fun e => ⟨⟨fun hz => ?_, fun hs => ?_⟩, fun hz => absurd hz hne, fun he => by rw [he] at c2; exact absurd rfl c2⟩, s12⟩)
    · refine .inr ⟨e, k, hlt, fun j hj => (hp j hj).2, ?_⟩
      unfold cmpI at hz
      split at hz
      · assumption
      · split at hz <;> omega
    · rcases hs with hs | ⟨_, i, hi, he, hs⟩
      · omega
      · rcases Nat.lt_trichotomy i k with d | rfl | d
        · rw [(hp i d).2] at hs; omega
        · unfold cmpI; rw [if_pos hs]; omega
        · exact absurd (he k d) c2
theorem initial_lesser {ok ok' : Nat → Prop} {w : World} {A A' : Option Addr} {l m : List Int} (h : Ints ok w A l) (h' : Ints ok' w A' m) (c c' : Nat) (hl : l.length ≤ 9223372036854775807) :
    Cal Tryd.prog 76 [.slice A l.length c, .slice A' m.length c'] w fun v w' => v = .bool (decide (Shl l m)) ∧ Same w w' := by
  refine cal_initial_lesser (by simp) 100000 fun Q hQ => ?_
  by_cases hlen : (l.length : Int) = (m.length : Int)
  case neg =>
    have r : decide (Shl l m) = decide ((l.length : Int) < (m.length : Int)) := decide_eq_decide.2 ⟨fun h => by rcases h with h | ⟨h, _⟩ <;> omega, fun h => .inl (by omega)⟩
    simp (disch := first | with_reducible assumption | omega) only [push_cast, x_blk, x_cd, ↓reduceIte, Nat.reduceEqDiff, List.map_cons, List.map_nil, Int.reduceEq, Int.lt_irrefl, F_initial_lesser, hlen]
    exact fin_1 (hQ _ _ ⟨(by simp only [push_cast, ↓reduceIte, Nat.reduceEqDiff, Int.reduceEq, r]), Same.refl _⟩)
  simp (disch := first | with_reducible assumption | omega) only [push_cast, x_blk, x_cd, ↓reduceIte, Nat.reduceEqDiff, List.map_cons, List.map_nil, Int.reduceEq, Int.lt_irrefl, F_initial_lesser, hlen, eq_self]
  refine call_of (slices_Compare h h' c c' hl) ?_
  rintro v w2 ⟨z, rfl, _, hz, s2⟩
  have r : decide (Shl l m) = decide (z < 0) := decide_eq_decide.2 (hz (by omega)).1.symm
  simp (disch := first | with_reducible assumption | omega) only [push_cast, x_blk, x_cd, ↓reduceIte, Nat.reduceEqDiff, List.map_cons, List.map_nil, Int.reduceEq, Int.lt_irrefl]
  exact fin_1 (hQ _ _ ⟨(by simp only [push_cast, ↓reduceIte, Nat.reduceEqDiff, Int.reduceEq, r]), s2⟩)
end Go.Proofs.YtcjinmgieiebbaaDoor
