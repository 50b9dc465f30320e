/-
  Chapters 2 and 9: what unseen events lead to, where a plant may be: the program's Wide, Within, May, First, Next, Seen, Estimate, Tells: by their contracts.
-/
import Derived.Test.YtcjinmgieiebbaaDoorZReachD
import Derived.Test.YtcjinmgieiebbaaDoorZArgs
namespace Go.Proofs.YtcjinmgieiebbaaDoor
set_option linter.unusedSimpArgs false
set_option linter.unusedVariables false
set_option linter.unusedSectionVars false
open Go.RowKit

theorem machine_Wide {w : World} {a : MV} {m : Mach} (ha : IsM (· < w.heap.size) w a m) (hm : m.May) {l : List Int} (hs : Small l) {A2 : Option Addr} {c2 : Nat} {seen : List Int} (h2 : Ints (· < w.heap.size) w A2 seen) (n2 : seen.length ≤ 17592186043904) :
    Cal Tryd.prog 88 [a.val m, setV l, .slice A2 seen.length c2] w fun v w' => v = setV (wideL m seen l) ∧ Below w.heap.size w w' := by
  have hr := May.arSmall hm
  have nA := hm.2.2.2.2.1
  have hE : ∀ e ∈ unE m seen, 0 ≤ e.2 ∧ e.2 < 256 := hr.eds (unA seen) false
  have hEE : eds (unA seen) false m.arrows = unE m seen := rfl
  refine cal_machine_Wide (by simp) 100000 fun Q hQ => ?_
  simp (disch := first | with_reducible assumption | omega) only [push_cast, x_blk, x_cd, ↓reduceIte, Nat.reduceEqDiff, List.map_cons, List.map_nil, Int.reduceEq, Int.lt_irrefl, F_machine_Wide]
  refine blk_of (box_agg _ (a.cells m)) ?_
  intro w1 kM b1 z1
  simp (disch := first | with_reducible assumption | omega) only [push_cast, x_blk, x_cd, ↓reduceIte, Nat.reduceEqDiff, List.map_cons, List.map_nil, Int.reduceEq, Int.lt_irrefl]
  refine blk_of (box_agg _ (setCells (wordsOf l))) ?_
  intro w2 k1 b2 z2
  replace kM := kM.below b2 kM.lt
  have bb := b1.trans (b2.mono b1.size)
  simp (disch := first | with_reducible assumption | omega) only [push_cast, x_blk, x_cd, ↓reduceIte, Nat.reduceEqDiff, List.map_cons, List.map_nil, Int.reduceEq, Int.lt_irrefl]
  refine blk_of (cs := setCells (wordsOf [])) al_64 ?_
  intro w3 k2 b3 z3
  replace kM := kM.below b3 kM.lt
  replace k1 := k1.below b3 k1.lt
  replace bb := bb.trans (b3.mono bb.size)
  simp (disch := first | with_reducible assumption | omega) only [push_cast, x_blk, x_cd, ↓reduceIte, Nat.reduceEqDiff, List.map_cons, List.map_nil, Int.reduceEq, Int.lt_irrefl, bl_set0]
  refine blk_of (cs := setCells (wordsOf [])) al_64 ?_
  intro w4 k3 b4 z4
  replace kM := kM.below b4 kM.lt
  replace k1 := k1.below b4 k1.lt
  replace k2 := k2.below b4 k2.lt
  replace bb := bb.trans (b4.mono bb.size)
  simp (disch := first | with_reducible assumption | omega) only [push_cast, x_blk, x_cd, ↓reduceIte, Nat.reduceEqDiff, List.map_cons, List.map_nil, Int.reduceEq, Int.lt_irrefl]
  refine sto_blk k3 (cs := setCells (wordsOf [])) (e4_set []) (by rw [setCells_4]) (setCells_one _) ?_
  intro w5 k4 g4 z5
  replace kM := kM.grown g4.by_ (by simp; omega)
  replace k1 := k1.grown g4.by_ (by simp; omega)
  replace k2 := k2.grown g4.by_ (by simp; omega)
  replace bb := g4.below bb bb.size (by intro a ha; injection ha with ha; subst ha; show w.heap.size ≤ w3.heap.size; omega)
  simp (disch := first | with_reducible assumption | omega) only [push_cast, x_blk, x_cd, ↓reduceIte, Nat.reduceEqDiff, List.map_cons, List.map_nil, Int.reduceEq, Int.lt_irrefl]
  refine loop_ix (fun n f' w' => ∃ (g : Nat) (was l' : List Int), n = left was l' ∧ (f' 2 = .slice A2 seen.length c2 ∧ f' 3 = .pointer (some ⟨w.heap.size, 0, none⟩) ∧ f' 4 = .pointer (some ⟨w1.heap.size, 0, none⟩) ∧ f' 6 = .pointer (some ⟨w2.heap.size, 0, none⟩) ∧ f' 7 = .pointer (some ⟨g, 0, none⟩)) ∧
      Spread (unE m seen) l was l' ∧ w2.heap.size < g ∧ Blk w' w.heap.size 25 (a.cells m) ∧ Blk w' w1.heap.size 64 (setCells (wordsOf l')) ∧ Blk w' w2.heap.size 64 (setCells (wordsOf [])) ∧ Blk w' g 64 (setCells (wordsOf was)) ∧ Below w.heap.size w w')
    (n0 := left [] l) ⟨w3.heap.size, [], l, rfl, ⟨rfl, rfl, rfl, rfl, rfl⟩, Spread.start _ hs, by omega, kM, k1, k2, k4, bb⟩ ?_
  clear kM k1 k2 k4 bb g4
  rintro _ f w5 ⟨g, was, l', rfl, fr, hS, hg, kM, k1, k2, k3, bb⟩ J hJ
  have zb := bb.size
  by_cases hw : wordsOf was = wordsOf l'
  · simp (disch := first | with_reducible assumption | omega) only [push_cast, x_blk, x_cd, ↓reduceIte, Nat.reduceEqDiff, List.map_cons, List.map_nil, Int.reduceEq, Int.lt_irrefl, L_machine_Wide_1, fr, neq_set, decide_eq_true hw, k1.setA (wordsOf_words _) ty_ag_64 ty_sz_64, k3.setA (wordsOf_words _) ty_ag_64 ty_sz_64]
    refine sto_blk k2 (cs := setCells (wordsOf l')) (e4_set l') (by rw [setCells_4, setCells_4]) (setCells_one _) ?_
    intro w6 k6 g6 z6
    simp (disch := first | with_reducible assumption | omega) only [push_cast, x_blk, x_cd, ↓reduceIte, Nat.reduceEqDiff, List.map_cons, List.map_nil, Int.reduceEq, Int.lt_irrefl]
    exact fin_cell k6 ty_ag_64 (e4_set l') (by simp only [push_cast, ↓reduceIte, Nat.reduceEqDiff, true_and, and_true, and_self, eq_self, fr]) (hQ _ _ ⟨hS.done hw, g6.below bb bb.size (by intro a ha; injection ha with ha; subst ha; show w.heap.size ≤ w2.heap.size; omega)⟩)
  have hlt := left_lt hS.small hE hw
  have hnx := hS.next hE
  simp (disch := first | with_reducible assumption | omega) only [push_cast, x_blk, x_cd, ↓reduceIte, Nat.reduceEqDiff, List.map_cons, List.map_nil, Int.reduceEq, Int.lt_irrefl, L_machine_Wide_1, fr, neq_set, decide_eq_false hw, k1.setA (wordsOf_words _) ty_ag_64 ty_sz_64, k3.setA (wordsOf_words _) ty_ag_64 ty_sz_64]
  refine sto_blk k3 (cs := setCells (wordsOf l')) (e4_set l') (by rw [setCells_4, setCells_4]) (setCells_one _) ?_
  intro w6 k6 g6 z6
  replace kM := kM.grown g6.by_ (by simp; omega)
  replace k1 := k1.grown g6.by_ (by simp; omega)
  replace k2 := k2.grown g6.by_ (by simp; omega)
  replace bb := g6.below bb bb.size (by intro a ha; injection ha with ha; subst ha; show w.heap.size ≤ g; omega)
  simp (disch := first | with_reducible assumption | omega) only [push_cast, x_blk, x_cd, ↓reduceIte, Nat.reduceEqDiff, List.map_cons, List.map_nil, Int.reduceEq, Int.lt_irrefl, fr, kM.m3 ty_ag_23]
  refine loop_rule (fun f' w' => ∃ k : Nat, k ≤ m.arrows.length ∧ (f' 2 = .slice A2 seen.length c2 ∧ f' 3 = .pointer (some ⟨w.heap.size, 0, none⟩) ∧ f' 4 = .pointer (some ⟨w1.heap.size, 0, none⟩) ∧ f' 6 = .pointer (some ⟨w2.heap.size, 0, none⟩) ∧ f' 7 = .pointer (some ⟨g, 0, none⟩) ∧ f' 16 = .slice a.Aa m.arrows.length a.ca ∧ f' 17 = .int .i64 m.arrows.length ∧ f' 18 = .int .i64 k) ∧
      Blk w' w.heap.size 25 (a.cells m) ∧ Blk w' w1.heap.size 64 (setCells (wordsOf (passK (unA seen) false m.arrows l' k))) ∧ Blk w' w2.heap.size 64 (setCells (wordsOf [])) ∧ Blk w' g 64 (setCells (wordsOf l')) ∧ Below w.heap.size w w')
    (fun f' _ => m.arrows.length - (intOf (f' 18)).toNat) ⟨0, Nat.zero_le _, (by simp only [push_cast, ↓reduceIte, Nat.reduceEqDiff, true_and, and_true, and_self, eq_self, fr]), kM, k1, k2, k6, bb⟩ ?_
  clear kM k1 k2 k6 bb fr
  rintro f w7 ⟨k, hk, fr, kM, k1, k2, k3, bb⟩ J2 hJ2
  have zb := bb.size
  by_cases hlt2 : k < m.arrows.length
  case neg =>
    obtain rfl : k = m.arrows.length := by omega
    rw [passK_all, hEE] at k1
    simp (disch := first | with_reducible assumption | omega) only [push_cast, x_blk, x_cd, ↓reduceIte, Nat.reduceEqDiff, List.map_cons, List.map_nil, Int.reduceEq, Int.lt_irrefl, L_machine_Wide_0, fr, Nat.lt_irrefl, k3.setA (wordsOf_words _) ty_ag_64 ty_sz_64]
    refine blk_of (cs := setCells (wordsOf [])) al_64 ?_
    intro w8 k8 b8 z8
    have lM := kM.lt
    have l1 := k1.lt
    have l2 := k2.lt
    replace kM := kM.below b8 kM.lt
    replace k1 := k1.below b8 k1.lt
    replace k2 := k2.below b8 k2.lt
    replace bb := bb.trans (b8.mono bb.size)
    simp (disch := first | with_reducible assumption | omega) only [push_cast, x_blk, x_cd, ↓reduceIte, Nat.reduceEqDiff, List.map_cons, List.map_nil, Int.reduceEq, Int.lt_irrefl, fr]
    refine sto_blk k8 (cs := setCells (wordsOf l')) (e4_set l') (by rw [setCells_4, setCells_4]) (setCells_one _) ?_
    intro w9 k9 g9 z9
    replace kM := kM.grown g9.by_ (by simp; omega)
    replace k1 := k1.grown g9.by_ (by simp; omega)
    replace k2 := k2.grown g9.by_ (by simp; omega)
    replace bb := g9.below bb bb.size (by intro a ha; injection ha with ha; subst ha; exact zb)
    simp (disch := first | with_reducible assumption | omega) only [push_cast, x_blk, x_cd, ↓reduceIte, Nat.reduceEqDiff, List.map_cons, List.map_nil, Int.reduceEq, Int.lt_irrefl, fr]
    exact hJ _ _ _ ⟨w7.heap.size, l', passL (unE m seen) l', rfl, (by simp only [push_cast, ↓reduceIte, Nat.reduceEqDiff, true_and, and_true, and_self, eq_self, fr]), hnx, by omega, kM, k1, k2, k9, bb⟩ hlt
  have hI := (ha.below bb).arrows
  have hA := hI.isSome (by omega)
  have hsn := passK_succ (unA seen) false m.arrows l' k hlt2
  have hym := getD_mem m.arrows default k hlt2
  simp (disch := first | with_reducible assumption | omega) only [push_cast, x_blk, x_cd, ↓reduceIte, Nat.reduceEqDiff, List.map_cons, List.map_nil, Int.reduceEq, Int.lt_irrefl, L_machine_Wide_0, fr, hlt2, hI.ldA ty_ag_91 ty_sz_91]
  refine blk_of al_91 ?_
  intro w8 k8 b8 z8
  simp (disch := first | with_reducible assumption | omega) only [push_cast, x_blk, x_cd, ↓reduceIte, Nat.reduceEqDiff, List.map_cons, List.map_nil, Int.reduceEq, Int.lt_irrefl]
  refine sto_blk k8 (cs := arrCells (m.arrows.getD k default)) ty_sz_91 rfl (by simp [arrCells, Value.oneCell']) ?_
  intro w9 k9 g9 z9
  generalize hy : m.arrows.getD k default = y at *
  obtain ⟨hyf, hyt⟩ := hr y hym
  have b9 : Below w7.heap.size w7 w9 := g9.below b8 (by omega) (by intro a ha; injection ha with ha; subst ha; exact Nat.le_refl _)
  have l1 := k1.lt
  replace kM := kM.below b9 kM.lt
  replace k1 := k1.below b9 k1.lt
  replace k2 := k2.below b9 k2.lt
  replace k3 := k3.below b9 k3.lt
  replace bb := bb.trans (b9.mono bb.size)
  simp (disch := first | with_reducible assumption | omega) only [push_cast, x_blk, x_cd, ↓reduceIte, Nat.reduceEqDiff, List.map_cons, List.map_nil, Int.reduceEq, Int.lt_irrefl, fr, k9.a0 ty_ag_3, k1.setA (wordsOf_words _) ty_ag_64 ty_sz_64]
  refine call_of (set_Has' _ y.frm hyf.1 hyf.2 _) ?_
  rintro v w10 ⟨rfl, b10⟩
  replace kM := kM.below b10 kM.lt
  replace k1 := k1.below b10 k1.lt
  replace k2 := k2.below b10 k2.lt
  replace k3 := k3.below b10 k3.lt
  replace k9 := k9.below b10 k9.lt
  replace bb := bb.trans (b10.mono bb.size)
  by_cases q2 : y.frm ∈ passK (unA seen) false m.arrows l' k
  case neg =>
    rw [if_neg (fun hh => q2 hh.2)] at hsn
    simp (disch := first | with_reducible assumption | omega) only [push_cast, x_blk, x_cd, ↓reduceIte, Nat.reduceEqDiff, List.map_cons, List.map_nil, Int.reduceEq, Int.lt_irrefl, fr, decide_eq_false q2]
    exact hJ2 _ _ ⟨k + 1, hlt2, (by simp only [push_cast, ↓reduceIte, Nat.reduceEqDiff, true_and, and_true, and_self, eq_self, fr]), kM, by rw [hsn]; exact k1, k2, k3, bb⟩ (by simp only [push_cast, ↓reduceIte, Nat.reduceEqDiff, intOf, fr]; omega)
  simp (disch := first | with_reducible assumption | omega) only [push_cast, x_blk, x_cd, ↓reduceIte, Nat.reduceEqDiff, List.map_cons, List.map_nil, Int.reduceEq, Int.lt_irrefl, fr, decide_eq_true q2, k9.a1 ty_ag_3]
  refine call_of (row_Has (h2.below bb) c2 y.evt (by omega)) ?_
  rintro v w11 ⟨rfl, s11⟩
  replace kM := kM.same s11
  replace k1 := k1.same s11
  replace k2 := k2.same s11
  replace k3 := k3.same s11
  replace k9 := k9.same s11
  replace bb := bb.trans (s11.below _)
  by_cases q3 : y.evt ∈ seen
  · rw [if_neg (fun hh => by have := hh.1; simp [unA, q3] at this)] at hsn
    simp (disch := first | with_reducible assumption | omega) only [push_cast, x_blk, x_cd, ↓reduceIte, Nat.reduceEqDiff, List.map_cons, List.map_nil, Int.reduceEq, Int.lt_irrefl, fr, decide_eq_true q3]
    exact hJ2 _ _ ⟨k + 1, hlt2, (by simp only [push_cast, ↓reduceIte, Nat.reduceEqDiff, true_and, and_true, and_self, eq_self, fr]), kM, by rw [hsn]; exact k1, k2, k3, bb⟩ (by simp only [push_cast, ↓reduceIte, Nat.reduceEqDiff, intOf, fr]; omega)
  rw [if_pos ⟨by simp [unA, q3], q2⟩] at hsn
  simp (disch := first | with_reducible assumption | omega) only [push_cast, x_blk, x_cd, ↓reduceIte, Nat.reduceEqDiff, List.map_cons, List.map_nil, Int.reduceEq, Int.lt_irrefl, fr, decide_eq_false q3, k9.a2 ty_ag_3]
  refine call_of (set_Add' y.to_ hyt.1 hyt.2 k1) ?_
  rintro v w12 ⟨rfl, k12, g12, z12⟩
  simp (disch := first | with_reducible assumption | omega) only [push_cast, x_blk, x_cd, ↓reduceIte, Nat.reduceEqDiff, List.map_cons, List.map_nil, Int.reduceEq, Int.lt_irrefl, fr]
  exact hJ2 _ _ ⟨k + 1, hlt2, (by simp only [push_cast, ↓reduceIte, Nat.reduceEqDiff, true_and, and_true, and_self, eq_self, fr]), kM.grown g12.by_ (by simp; omega), by rw [hsn]; exact k12, k2.grown g12.by_ (by simp; omega), k3.grown g12.by_ (by simp; omega), g12.below bb bb.size (by intro a ha; injection ha with ha; subst ha; show w.heap.size ≤ w1.heap.size; omega)⟩ (by simp only [push_cast, ↓reduceIte, Nat.reduceEqDiff, intOf, fr]; omega)

section
variable {K : Fr → World → Prop} {u w : World} {f : Fr} {d : Option Nat} {g t : Nat} {a : PV} {p : Plt}
theorem Blk.pM (h : Blk u g t (a.cells p)) : Val1 Tryd.prog K (Instr.loadAt 25 (.pointer (some ⟨g, 0, none⟩))) u f d w = K (updO f d (a.m.val p.m)) w :=
  h.ldSub ty_ag_25 0 (vs := a.m.cells p.m) ty_sz_25 fun k v hv => by
    match k, hv with
    | 0, hv => exact hv
    | 1, hv => exact hv
    | 2, hv => exact hv
    | 3, hv => exact hv
    | 4, hv => exact hv
    | k + 5, hv => simp at hv
theorem Blk.pA' (h : Blk u g t (a.cells p)) : Val1 Tryd.prog K (Instr.loadAt 27 (.pointer (some ⟨g, 0, none⟩))) u f d w = K (updO f d (a.val p)) w := h.ldAll ty_ag_27 ty_sz_27
theorem Blk.p0 (h : Blk u g t (a.cells p)) : Val1 Tryd.prog K (Instr.loadAt 3 (.pointer (some ⟨g, 0, none⟩))) u f d w = K (updO f d (.int .i64 p.m.states)) w := h.ld ty_ag_3 0 (by simp)
theorem Blk.p1 (h : Blk u g t (a.cells p)) : Val1 Tryd.prog K (Instr.loadAt 3 (.pointer (some ⟨g, 1, none⟩))) u f d w = K (updO f d (.int .i64 p.m.events)) w := h.ld ty_ag_3 1 (by simp)
theorem Blk.p2 (h : Blk u g t (a.cells p)) : Val1 Tryd.prog K (Instr.loadAt 22 (.pointer (some ⟨g, 2, none⟩))) u f d w = K (updO f d (.slice a.m.As p.m.starts.length a.m.cs)) w := h.ld ty_ag_22 2 (by simp)
theorem Blk.p3 (h : Blk u g t (a.cells p)) : Val1 Tryd.prog K (Instr.loadAt 23 (.pointer (some ⟨g, 3, none⟩))) u f d w = K (updO f d (.slice a.m.Aa p.m.arrows.length a.m.ca)) w := h.ld ty_ag_23 3 (by simp)
theorem Blk.p4 (h : Blk u g t (a.cells p)) : Val1 Tryd.prog K (Instr.loadAt 22 (.pointer (some ⟨g, 4, none⟩))) u f d w = K (updO f d (.slice a.m.Ae p.m.ends.length a.m.ce)) w := h.ld ty_ag_22 4 (by simp)
theorem Blk.p5 (h : Blk u g t (a.cells p)) : Val1 Tryd.prog K (Instr.loadAt 22 (.pointer (some ⟨g, 5, none⟩))) u f d w = K (updO f d (.slice a.Ap p.seen.length a.cp)) w := h.ld ty_ag_22 5 (by simp)
theorem Blk.p6 (h : Blk u g t (a.cells p)) : Val1 Tryd.prog K (Instr.loadAt 22 (.pointer (some ⟨g, 6, none⟩))) u f d w = K (updO f d (.slice a.Aq p.secret.length a.cq)) w := h.ld ty_ag_22 6 (by simp)
end
theorem IsP.up {w w' : World} {a : PV} {p : Plt} (h : IsP (· < w.heap.size) w a p) (b : Below w.heap.size w w') : IsP (· < w'.heap.size) w' a p := (h.below b).mono fun _ hl => Nat.lt_of_lt_of_le hl b.size
def Plt.May (p : Plt) : Prop := p.m.May ∧ p.m.states ≤ 6 ∧ IsRow p.seen p.m.events ∧ IsRow p.secret p.m.states
instance (p : Plt) : Decidable p.May := inferInstanceAs (Decidable (_ ∧ _))
theorem current_May {w : World} {a : PV} {p : Plt} (ha : IsP (· < w.heap.size) w a p) (hf : p.Fits) :
    Cal Tryd.prog 12 [a.val p] w fun v w' => v = .bool (decide p.May) ∧ Below w.heap.size w w' := by
  have nP := hf.lenP
  have nQ := hf.lenQ
  refine cal_current_May (by simp) 100000 fun Q hQ => ?_
  simp (disch := first | with_reducible assumption | omega) only [push_cast, x_blk, x_cd, ↓reduceIte, Nat.reduceEqDiff, List.map_cons, List.map_nil, Int.reduceEq, Int.lt_irrefl, F_current_May]
  refine blk_of (box_agg _ (a.cells p)) ?_
  intro w1 k1 b1 z1
  simp (disch := first | with_reducible assumption | omega) only [push_cast, x_blk, x_cd, ↓reduceIte, Nat.reduceEqDiff, List.map_cons, List.map_nil, Int.reduceEq, Int.lt_irrefl, k1.pM]
  refine call_of (machine_May (ha.up b1).m hf.m) ?_
  rintro v w2 ⟨rfl, b2⟩
  have k2 := k1.below b2 k1.lt
  have bb := b1.trans (b2.mono b1.size)
  by_cases p1 : p.m.May
  case neg =>
    simp (disch := first | with_reducible assumption | omega) only [push_cast, x_blk, x_cd, ↓reduceIte, Nat.reduceEqDiff, List.map_cons, List.map_nil, Int.reduceEq, Int.lt_irrefl, decide_eq_false p1]
    have r : decide p.May = false := decide_eq_false fun hh => p1 hh.1
    exact fin_1 (hQ _ _ ⟨(by simp only [push_cast, ↓reduceIte, Nat.reduceEqDiff, Int.reduceEq, r]), bb⟩)
  by_cases p2 : p.m.states ≤ 6
  case neg =>
    simp (disch := first | with_reducible assumption | omega) only [push_cast, x_blk, x_cd, ↓reduceIte, Nat.reduceEqDiff, List.map_cons, List.map_nil, Int.reduceEq, Int.lt_irrefl, decide_eq_true p1, p2, k2.p0]
    have r : decide p.May = false := decide_eq_false fun hh => p2 hh.2.1
    exact fin_1 (hQ _ _ ⟨(by simp only [push_cast, ↓reduceIte, Nat.reduceEqDiff, Int.reduceEq, r]), bb⟩)
  simp (disch := first | with_reducible assumption | omega) only [push_cast, x_blk, x_cd, ↓reduceIte, Nat.reduceEqDiff, List.map_cons, List.map_nil, Int.reduceEq, Int.lt_irrefl, decide_eq_true p1, p2, k2.p0, k2.p1, k2.p5]
  refine call_of (row_Is (ha.up bb).seen a.cp p.m.events (by omega)) ?_
  rintro v w3 ⟨rfl, s3⟩
  replace k2 := k2.same s3
  replace bb := bb.trans (s3.below _)
  by_cases p3 : IsRow p.seen p.m.events
  case neg =>
    simp (disch := first | with_reducible assumption | omega) only [push_cast, x_blk, x_cd, ↓reduceIte, Nat.reduceEqDiff, List.map_cons, List.map_nil, Int.reduceEq, Int.lt_irrefl, decide_eq_false p3]
    have r : decide p.May = false := decide_eq_false fun hh => p3 hh.2.2.1
    exact fin_1 (hQ _ _ ⟨(by simp only [push_cast, ↓reduceIte, Nat.reduceEqDiff, Int.reduceEq, r]), bb⟩)
  simp (disch := first | with_reducible assumption | omega) only [push_cast, x_blk, x_cd, ↓reduceIte, Nat.reduceEqDiff, List.map_cons, List.map_nil, Int.reduceEq, Int.lt_irrefl, decide_eq_true p3, k2.p0, k2.p6]
  refine call_of (row_Is (ha.up bb).secret a.cq p.m.states (by omega)) ?_
  rintro v w4 ⟨rfl, s4⟩
  replace bb := bb.trans (s4.below _)
  have r : decide p.May = decide (IsRow p.secret p.m.states) := decide_eq_decide.2 ⟨fun h => h.2.2.2, fun h => ⟨p1, p2, p3, h⟩⟩
  simp (disch := first | with_reducible assumption | omega) only [push_cast, x_blk, x_cd, ↓reduceIte, Nat.reduceEqDiff, List.map_cons, List.map_nil, Int.reduceEq, Int.lt_irrefl]
  exact fin_1 (hQ _ _ ⟨(by simp only [push_cast, ↓reduceIte, Nat.reduceEqDiff, Int.reduceEq, r]), bb⟩)
theorem ref9_May {w : World} {a : PV} {p : Plt} (ha : IsP (· < w.heap.size) w a p) (hf : p.Fits) :
    Cal Tryd.prog 15 [a.val p] w fun v w' => v = .bool (decide p.May) ∧ Below w.heap.size w w' := by
  have nP := hf.lenP
  have nQ := hf.lenQ
  refine cal_ref9_May (by simp) 100000 fun Q hQ => ?_
  simp (disch := first | with_reducible assumption | omega) only [push_cast, x_blk, x_cd, ↓reduceIte, Nat.reduceEqDiff, List.map_cons, List.map_nil, Int.reduceEq, Int.lt_irrefl, F_ref9_May]
  refine blk_of (box_agg _ (a.cells p)) ?_
  intro w1 k1 b1 z1
  simp (disch := first | with_reducible assumption | omega) only [push_cast, x_blk, x_cd, ↓reduceIte, Nat.reduceEqDiff, List.map_cons, List.map_nil, Int.reduceEq, Int.lt_irrefl, k1.pM]
  refine blk_of (cs := mv0.cells mach0) al_25 ?_
  intro w2 km b2 z2
  have k2 := k1.below b2 k1.lt
  have bb := b1.trans (b2.mono b1.size)
  simp (disch := first | with_reducible assumption | omega) only [push_cast, x_blk, x_cd, ↓reduceIte, Nat.reduceEqDiff, List.map_cons, List.map_nil, Int.reduceEq, Int.lt_irrefl]
  refine sto_mach km rfl a.m p.m ?_
  intro w3 km g3 z3
  have b3 := g3.below bb bb.size (by intro a ha; injection ha with ha; subst ha; show w.heap.size ≤ w1.heap.size; omega)
  replace k2 := k2.grown g3.by_ (by simp; omega)
  replace bb := b3
  simp (disch := first | with_reducible assumption | omega) only [push_cast, x_blk, x_cd, ↓reduceIte, Nat.reduceEqDiff, List.map_cons, List.map_nil, Int.reduceEq, Int.lt_irrefl, km.mA ty_ag_25 ty_sz_25]
  refine call_of (ref2_May (ha.up bb).m hf.m) ?_
  rintro v w4 ⟨rfl, b4⟩
  replace k2 := k2.below b4 k2.lt
  replace km := km.below b4 km.lt
  replace bb := bb.trans (b4.mono bb.size)
  by_cases p1 : p.m.May
  case neg =>
    simp (disch := first | with_reducible assumption | omega) only [push_cast, x_blk, x_cd, ↓reduceIte, Nat.reduceEqDiff, List.map_cons, List.map_nil, Int.reduceEq, Int.lt_irrefl, decide_eq_false p1]
    have r : decide p.May = false := decide_eq_false fun hh => p1 hh.1
    exact fin_1 (hQ _ _ ⟨(by simp only [push_cast, ↓reduceIte, Nat.reduceEqDiff, Int.reduceEq, r]), bb⟩)
  by_cases p2 : p.m.states ≤ 6
  case neg =>
    simp (disch := first | with_reducible assumption | omega) only [push_cast, x_blk, x_cd, ↓reduceIte, Nat.reduceEqDiff, List.map_cons, List.map_nil, Int.reduceEq, Int.lt_irrefl, decide_eq_true p1, p2, km.m0 ty_ag_3]
    have r : decide p.May = false := decide_eq_false fun hh => p2 hh.2.1
    exact fin_1 (hQ _ _ ⟨(by simp only [push_cast, ↓reduceIte, Nat.reduceEqDiff, Int.reduceEq, r]), bb⟩)
  simp (disch := first | with_reducible assumption | omega) only [push_cast, x_blk, x_cd, ↓reduceIte, Nat.reduceEqDiff, List.map_cons, List.map_nil, Int.reduceEq, Int.lt_irrefl, decide_eq_true p1, p2, km.m0 ty_ag_3, km.m1 ty_ag_3, k2.p5]
  refine call_of (ref1_Is (ha.up bb).seen a.cp p.m.events (by omega)) ?_
  rintro v w5 ⟨rfl, s3⟩
  replace k2 := k2.same s3
  replace km := km.same s3
  replace bb := bb.trans (s3.below _)
  by_cases p3 : IsRow p.seen p.m.events
  case neg =>
    simp (disch := first | with_reducible assumption | omega) only [push_cast, x_blk, x_cd, ↓reduceIte, Nat.reduceEqDiff, List.map_cons, List.map_nil, Int.reduceEq, Int.lt_irrefl, decide_eq_false p3]
    have r : decide p.May = false := decide_eq_false fun hh => p3 hh.2.2.1
    exact fin_1 (hQ _ _ ⟨(by simp only [push_cast, ↓reduceIte, Nat.reduceEqDiff, Int.reduceEq, r]), bb⟩)
  simp (disch := first | with_reducible assumption | omega) only [push_cast, x_blk, x_cd, ↓reduceIte, Nat.reduceEqDiff, List.map_cons, List.map_nil, Int.reduceEq, Int.lt_irrefl, decide_eq_true p3, km.m0 ty_ag_3, k2.p6]
  refine call_of (ref1_Is (ha.up bb).secret a.cq p.m.states (by omega)) ?_
  rintro v w6 ⟨rfl, s4⟩
  replace bb := bb.trans (s4.below _)
  have r : decide p.May = decide (IsRow p.secret p.m.states) := decide_eq_decide.2 ⟨fun h => h.2.2.2, fun h => ⟨p1, p2, p3, h⟩⟩
  simp (disch := first | with_reducible assumption | omega) only [push_cast, x_blk, x_cd, ↓reduceIte, Nat.reduceEqDiff, List.map_cons, List.map_nil, Int.reduceEq, Int.lt_irrefl]
  exact fin_1 (hQ _ _ ⟨(by simp only [push_cast, ↓reduceIte, Nat.reduceEqDiff, Int.reduceEq, r]), bb⟩)

noncomputable def firstP (p : Plt) : List Int := wideL p.m p.seen p.m.starts
noncomputable abbrev nextP (p : Plt) : List Int → Int → List Int := seeL p.m p.seen
noncomputable def estL (p : Plt) (word : List Int) : List Int := word.foldl (nextP p) (firstP p)
theorem firstP_row {p : Plt} (h : p.m.May) : IsRow (firstP p) p.m.states := wideL_row h (row_range (may_starts h))
theorem current_First {w : World} {a : PV} {p : Plt} (ha : IsP (· < w.heap.size) w a p) (hf : p.Fits) (hm : p.m.May) :
    Cal Tryd.prog 45 [a.val p] w fun v w' => v = setV (firstP p) ∧ Below w.heap.size w w' := by
  have hst : p.m.states ≤ 256 := hm.2.1
  refine cal_current_First (by simp) 100000 fun Q hQ => ?_
  simp (disch := first | with_reducible assumption | omega) only [push_cast, x_blk, x_cd, ↓reduceIte, Nat.reduceEqDiff, List.map_cons, List.map_nil, Int.reduceEq, Int.lt_irrefl, F_current_First]
  refine blk_of (box_agg _ (a.cells p)) ?_
  intro w1 k1 b1 z1
  simp (disch := first | with_reducible assumption | omega) only [push_cast, x_blk, x_cd, ↓reduceIte, Nat.reduceEqDiff, List.map_cons, List.map_nil, Int.reduceEq, Int.lt_irrefl]
  refine blk_of (cs := setCells (wordsOf [])) al_64 ?_
  intro w2 k2 b2 z2
  replace k1 := k1.below b2 k1.lt
  have bb := b1.trans (b2.mono b1.size)
  have sd : Same w2 w2.drew := (Same.refl w2).drew
  replace k1 := k1.same sd
  replace k2 := k2.same sd
  replace bb := bb.trans (sd.below _)
  generalize hu : w2.drew = u at *
  simp (disch := first | with_reducible assumption | omega) only [push_cast, x_blk, x_cd, ↓reduceIte, Nat.reduceEqDiff, List.map_cons, List.map_nil, Int.reduceEq, Int.lt_irrefl, hu, k1.pM, k1.p2, k1.p5]
  refine call_of (machine_Of' (ha.up bb).m.starts _ hf.m.lenS ((may_starts hm).small hst)) ?_
  rintro v w3 ⟨rfl, b3⟩
  have bb3 := bb.trans (b3.mono bb.size)
  simp (disch := first | with_reducible assumption | omega) only [push_cast, x_blk, x_cd, ↓reduceIte, Nat.reduceEqDiff, List.map_cons, List.map_nil, Int.reduceEq, Int.lt_irrefl]
  refine ⟨b3, ?_⟩
  refine call_of (machine_Wide (ha.up bb3).m hm ((may_starts hm).small hst) (ha.up bb3).seen hf.lenP) ?_
  rintro v w4 ⟨rfl, b4⟩
  replace b3 := b3.trans (b4.mono b3.size)
  have bb4 := bb.trans (b3.mono bb.size)
  simp (disch := first | with_reducible assumption | omega) only [push_cast, x_blk, x_cd, ↓reduceIte, Nat.reduceEqDiff, List.map_cons, List.map_nil, Int.reduceEq, Int.lt_irrefl]
  refine ⟨b3, ?_⟩
  refine sto_blk (k2.below b3 k2.lt) (cs := setCells (wordsOf (firstP p))) (e4_set _) (by rw [setCells_4, setCells_4]) (setCells_one _) ?_
  intro w5 k5 g5 z5
  simp (disch := first | with_reducible assumption | omega) only [push_cast, x_blk, x_cd, ↓reduceIte, Nat.reduceEqDiff, List.map_cons, List.map_nil, Int.reduceEq, Int.lt_irrefl]
  exact fin_cell k5 ty_ag_64 (e4_set _) (by simp only [push_cast, ↓reduceIte, Nat.reduceEqDiff, Int.reduceEq]) (hQ _ _ ⟨rfl, g5.below bb4 bb4.size (by intro a ha; injection ha with ha; subst ha; show w.heap.size ≤ w1.heap.size; omega)⟩)
theorem current_Next {w : World} {a : PV} {p : Plt} (ha : IsP (· < w.heap.size) w a p) (hf : p.Fits) (hm : p.m.May) (s : List Int) (e : Int) :
    Cal Tryd.prog 46 [a.val p, setV s, .int .i64 e] w fun v w' => v = setV (nextP p s e) ∧ Below w.heap.size w w' := by
  have hst : p.m.states ≤ 256 := hm.2.1
  refine cal_current_Next (by simp) 100000 fun Q hQ => ?_
  simp (disch := first | with_reducible assumption | omega) only [push_cast, x_blk, x_cd, ↓reduceIte, Nat.reduceEqDiff, List.map_cons, List.map_nil, Int.reduceEq, Int.lt_irrefl, F_current_Next]
  refine blk_of (box_agg _ (a.cells p)) ?_
  intro w1 k1 b1 z1
  simp (disch := first | with_reducible assumption | omega) only [push_cast, x_blk, x_cd, ↓reduceIte, Nat.reduceEqDiff, List.map_cons, List.map_nil, Int.reduceEq, Int.lt_irrefl]
  refine blk_of (box_agg _ (setCells (wordsOf s))) ?_
  intro w2 ks b2 z2
  replace k1 := k1.below b2 k1.lt
  have bb := b1.trans (b2.mono b1.size)
  simp (disch := first | with_reducible assumption | omega) only [push_cast, x_blk, x_cd, ↓reduceIte, Nat.reduceEqDiff, List.map_cons, List.map_nil, Int.reduceEq, Int.lt_irrefl]
  refine blk_of (cs := setCells (wordsOf [])) al_64 ?_
  intro w3 k2 b3 z3
  replace k1 := k1.below b3 k1.lt
  replace ks := ks.below b3 ks.lt
  replace bb := bb.trans (b3.mono bb.size)
  have sd : Same w3 w3.drew := (Same.refl w3).drew
  replace k1 := k1.same sd
  replace ks := ks.same sd
  replace k2 := k2.same sd
  replace bb := bb.trans (sd.below _)
  generalize hu : w3.drew = u at *
  simp (disch := first | with_reducible assumption | omega) only [push_cast, x_blk, x_cd, ↓reduceIte, Nat.reduceEqDiff, List.map_cons, List.map_nil, Int.reduceEq, Int.lt_irrefl, hu, k1.pM, k1.p5, ks.setA (wordsOf_words _) ty_ag_64 ty_sz_64]
  refine call_of (machine_Step (ha.up bb).m hm s e) ?_
  rintro v w4 ⟨rfl, b4⟩
  have bb4 := bb.trans (b4.mono bb.size)
  simp (disch := first | with_reducible assumption | omega) only [push_cast, x_blk, x_cd, ↓reduceIte, Nat.reduceEqDiff, List.map_cons, List.map_nil, Int.reduceEq, Int.lt_irrefl]
  refine ⟨b4, ?_⟩
  refine call_of (machine_Wide (ha.up bb4).m hm ((stepL_row hm s e).small hst) (ha.up bb4).seen hf.lenP) ?_
  rintro v w5 ⟨rfl, b5⟩
  replace b4 := b4.trans (b5.mono b4.size)
  replace bb4 := bb.trans (b4.mono bb.size)
  simp (disch := first | with_reducible assumption | omega) only [push_cast, x_blk, x_cd, ↓reduceIte, Nat.reduceEqDiff, List.map_cons, List.map_nil, Int.reduceEq, Int.lt_irrefl]
  refine ⟨b4, ?_⟩
  refine sto_blk (k2.below b4 k2.lt) (cs := setCells (wordsOf (nextP p s e))) (e4_set _) (by rw [setCells_4, setCells_4]) (setCells_one _) ?_
  intro w6 k6 g6 z6
  simp (disch := first | with_reducible assumption | omega) only [push_cast, x_blk, x_cd, ↓reduceIte, Nat.reduceEqDiff, List.map_cons, List.map_nil, Int.reduceEq, Int.lt_irrefl]
  exact fin_cell k6 ty_ag_64 (e4_set _) (by simp only [push_cast, ↓reduceIte, Nat.reduceEqDiff, Int.reduceEq]) (hQ _ _ ⟨rfl, g6.below bb4 bb4.size (by intro a ha; injection ha with ha; subst ha; show w.heap.size ≤ w2.heap.size; omega)⟩)
theorem current_Leak_1 {w : World} {a : PV} {p : Plt} {g : Nat} (hg : Blk w g 27 (a.cells p)) (ha : IsP (· < w.heap.size) w a p) (hf : p.Fits) (hm : p.m.May) (s : List Int) (e : Int) :
    Cal Tryd.prog 49 [setV s, .int .i64 e, .pointer (some ⟨g, 0, none⟩)] w fun v w' => v = setV (nextP p s e) ∧ Below w.heap.size w w' := by
  refine cal_current_Leak_1 (by simp) 100000 fun Q hQ => ?_
  simp (disch := first | with_reducible assumption | omega) only [push_cast, x_blk, x_cd, ↓reduceIte, Nat.reduceEqDiff, List.map_cons, List.map_nil, Int.reduceEq, Int.lt_irrefl, F_current_Leak_1]
  refine blk_of (box_agg _ (setCells (wordsOf s))) ?_
  intro w1 ks b1 z1
  simp (disch := first | with_reducible assumption | omega) only [push_cast, x_blk, x_cd, ↓reduceIte, Nat.reduceEqDiff, List.map_cons, List.map_nil, Int.reduceEq, Int.lt_irrefl]
  refine blk_of (cs := setCells (wordsOf [])) al_64 ?_
  intro w2 k2 b2 z2
  replace ks := ks.below b2 ks.lt
  have bb := b1.trans (b2.mono b1.size)
  have k1 := hg.below bb hg.lt
  simp (disch := first | with_reducible assumption | omega) only [push_cast, x_blk, x_cd, ↓reduceIte, Nat.reduceEqDiff, List.map_cons, List.map_nil, Int.reduceEq, Int.lt_irrefl, k1.pA', ks.setA (wordsOf_words _) ty_ag_64 ty_sz_64]
  refine call_of (current_Next (ha.up bb) hf hm s e) ?_
  rintro v w3 ⟨rfl, b3⟩
  replace bb := bb.trans (b3.mono bb.size)
  simp (disch := first | with_reducible assumption | omega) only [push_cast, x_blk, x_cd, ↓reduceIte, Nat.reduceEqDiff, List.map_cons, List.map_nil, Int.reduceEq, Int.lt_irrefl]
  refine sto_blk (k2.below b3 k2.lt) (cs := setCells (wordsOf (nextP p s e))) (e4_set _) (by rw [setCells_4, setCells_4]) (setCells_one _) ?_
  intro w6 k6 g6 z6
  simp (disch := first | with_reducible assumption | omega) only [push_cast, x_blk, x_cd, ↓reduceIte, Nat.reduceEqDiff, List.map_cons, List.map_nil, Int.reduceEq, Int.lt_irrefl]
  exact fin_cell k6 ty_ag_64 (e4_set _) (by simp only [push_cast, ↓reduceIte, Nat.reduceEqDiff, Int.reduceEq]) (hQ _ _ ⟨rfl, g6.below bb bb.size (by intro a ha; injection ha with ha; subst ha; show w.heap.size ≤ w1.heap.size; omega)⟩)

/-- A list of seen events. -/
def AllIn (l seen : List Int) : Prop := ∀ x ∈ l, x ∈ seen
instance (l seen : List Int) : Decidable (AllIn l seen) := inferInstanceAs (Decidable (∀ x ∈ l, x ∈ seen))
end Go.Proofs.YtcjinmgieiebbaaDoor
