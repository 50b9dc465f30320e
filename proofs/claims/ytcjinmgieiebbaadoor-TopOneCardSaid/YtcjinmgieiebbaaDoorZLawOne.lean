/-
  The law TopOne: it returns true.
-/
import Derived.Test.YtcjinmgieiebbaaDoorZTopO
namespace Go.Proofs.YtcjinmgieiebbaaDoor
set_option linter.unusedSimpArgs false
set_option linter.unusedVariables false
set_option linter.unusedSectionVars false
open Go.RowKit

theorem top_all {w : World} (n : Int) (h0 : 0 ≤ n) (h1 : n ≤ 256) :
    Cal Tryd.prog 41 [.int .i64 n] w fun v w' => ∃ O co, v = .slice O (evs n.toNat).length co ∧ OwnI w.heap.size 3 w' O co (evs n.toNat) ∧ Below w.heap.size w w' := by
  have hsn : ∀ k : Nat, evs (k + 1) = evs k ++ [(k : Int)] := fun k => by unfold evs; rw [List.range_succ, List.map_append]; rfl
  refine cal_top_all (by simp) 100000 fun Q hQ => ?_
  simp (disch := first | with_reducible assumption | omega) only [push_cast, x_blk, x_cd, ↓reduceIte, Nat.reduceEqDiff, List.map_cons, List.map_nil, Int.reduceEq, Int.lt_irrefl, F_top_all]
  refine loop_rule (fun f w' => ∃ (k : Nat) (O : Option Addr) (co : Nat), (k : Int) ≤ n ∧ (f 0 = .int .i64 n ∧ f 3 = .slice O (evs k).length co ∧ f 4 = .int .i64 k) ∧ OwnI w.heap.size 3 w' O co (evs k) ∧ Below w.heap.size w w')
    (fun f _ => n.toNat - (intOf (f 4)).toNat) ⟨0, none, 0, by simpa using h0, ⟨rfl, rfl, rfl⟩, Own.nil _ _ _ _, Below.refl _ _⟩ ?_
  rintro f w2 ⟨k, O, co, hk, fr, ho, b2⟩ J hJ
  by_cases hlt : (k : Int) < n
  case neg =>
    obtain rfl : k = n.toNat := by omega
    simp (disch := first | with_reducible assumption | omega) only [push_cast, x_blk, x_cd, ↓reduceIte, Nat.reduceEqDiff, List.map_cons, List.map_nil, Int.reduceEq, Int.lt_irrefl, L_top_all_0, fr, hlt]
    exact fin_1 (hQ _ _ ⟨O, co, (by simp only [push_cast, ↓reduceIte, Nat.reduceEqDiff, Int.reduceEq, fr]), ho, b2⟩)
  have hl := evs_len k
  simp (disch := first | with_reducible assumption | omega) only [push_cast, x_blk, x_cd, ↓reduceIte, Nat.reduceEqDiff, List.map_cons, List.map_nil, Int.reduceEq, Int.lt_irrefl, L_top_all_0, fr, hlt, bs_22]
  refine app_int slT_22 ho _ (by omega) b2.size ?_
  intro A' c' w3 ho3 hg3 hA3 hs3 hz3
  simp (disch := first | with_reducible assumption | omega) only [push_cast, x_blk, x_cd, ↓reduceIte, Nat.reduceEqDiff, List.map_cons, List.map_nil, Int.reduceEq, Int.lt_irrefl, fr]
  exact hJ _ _ ⟨k + 1, A', c', by omega, (by simp only [push_cast, ↓reduceIte, Nat.reduceEqDiff, true_and, and_true, and_self, eq_self, fr, hsn, List.length_append, List.length_cons, List.length_nil]), by rw [hsn]; exact ho3, hg3.below b2 b2.size ho.geB⟩ (by simp only [push_cast, ↓reduceIte, Nat.reduceEqDiff, intOf, fr]; omega)
theorem ref15_Plain {w : World} {a : PV} {p : Plt} (ha : IsP (· < w.heap.size) w a p) (hf : p.Fits) (hm : p.m.May) :
    Cal Tryd.prog 40 [a.val p] w fun v w' => ∃ b : Bool, v = .bool b ∧ (b = true → PlainM p.m) ∧ Below w.heap.size w w' := by
  have nS := hf.m.lenS
  have m256 := hm.2.1
  have e8 := hm.2.2.2.1
  have e0 := hm.2.2.1
  refine cal_ref15_Plain (by simp) 100000 fun Q hQ => ?_
  simp (disch := first | with_reducible assumption | omega) only [push_cast, x_blk, x_cd, ↓reduceIte, Nat.reduceEqDiff, List.map_cons, List.map_nil, Int.reduceEq, Int.lt_irrefl, F_ref15_Plain]
  refine blk_of (box_agg _ (a.cells p)) ?_
  intro w1 k1 b1 z1
  by_cases c1 : (1 : Int) < (p.m.starts.length : Int)
  · simp (disch := first | with_reducible assumption | omega) only [push_cast, x_blk, x_cd, ↓reduceIte, Nat.reduceEqDiff, List.map_cons, List.map_nil, Int.reduceEq, Int.lt_irrefl, k1.p2, c1]
    exact fin_1 (hQ _ _ ⟨false, (by simp only [push_cast, ↓reduceIte, Nat.reduceEqDiff, Int.reduceEq]), fun h => (by cases h), b1⟩)
  simp (disch := first | with_reducible assumption | omega) only [push_cast, x_blk, x_cd, ↓reduceIte, Nat.reduceEqDiff, List.map_cons, List.map_nil, Int.reduceEq, Int.lt_irrefl, k1.p2, c1]
  refine loop_rule (fun f w' => ∃ k : Nat, (k : Int) ≤ p.m.states ∧ (f 1 = .pointer (some ⟨w.heap.size, 0, none⟩) ∧ f 3 = .int .i64 k) ∧ (∀ s e : Int, 0 ≤ s → s < k → 0 ≤ e → e < p.m.events → (stepL p.m [s] e).length ≤ 1) ∧ Below w1.heap.size w1 w')
    (fun f _ => p.m.states.toNat - (intOf (f 3)).toNat) ⟨0, by have := hm.1; omega, ⟨rfl, rfl⟩, fun s e h0 h1 => absurd h1 (by omega), Below.refl _ _⟩ ?_
  rintro f w2 ⟨k, hk, fr, hpre, b2⟩ J hJ
  have k2 := k1.below b2 k1.lt
  have hmu : (intOf (f 3)).toNat = k := by rw [fr.2]; simp [intOf]
  by_cases hlt : (k : Int) < p.m.states
  case neg =>
    simp (disch := first | with_reducible assumption | omega) only [push_cast, x_blk, x_cd, ↓reduceIte, Nat.reduceEqDiff, List.map_cons, List.map_nil, Int.reduceEq, Int.lt_irrefl, L_ref15_Plain_1, fr, hlt, k2.p0]
    exact fin_1 (hQ _ _ ⟨true, (by simp only [push_cast, ↓reduceIte, Nat.reduceEqDiff, Int.reduceEq]), fun _ => ⟨by omega, fun s e h0 h1 => hpre s e h0 (by omega)⟩, b1.trans (b2.mono b1.size)⟩)
  simp (disch := first | with_reducible assumption | omega) only [push_cast, x_blk, x_cd, ↓reduceIte, Nat.reduceEqDiff, List.map_cons, List.map_nil, Int.reduceEq, Int.lt_irrefl, L_ref15_Plain_1, fr, hlt, k2.p0]
  refine loop_rule (fun f w' => ∃ j : Nat, (j : Int) ≤ p.m.events ∧ (f 1 = .pointer (some ⟨w.heap.size, 0, none⟩) ∧ f 3 = .int .i64 k ∧ f 4 = .int .i64 j) ∧ (∀ e : Int, 0 ≤ e → e < j → (stepL p.m [(k : Int)] e).length ≤ 1) ∧ Below w1.heap.size w1 w')
    (fun f _ => p.m.events.toNat - (intOf (f 4)).toNat) ⟨0, by omega, (by simp only [push_cast, ↓reduceIte, Nat.reduceEqDiff, true_and, and_true, and_self, eq_self, fr]), fun e h0 h1 => absurd h1 (by omega), b2⟩ ?_
  clear fr k2 b2
  rintro f w2 ⟨j, hj, fr, hpre2, b2⟩ J2 hJ2
  have k2 := k1.below b2 k1.lt
  have bb := b1.trans (b2.mono b1.size)
  by_cases hjt : (j : Int) < p.m.events
  case neg =>
    simp (disch := first | with_reducible assumption | omega) only [push_cast, x_blk, x_cd, ↓reduceIte, Nat.reduceEqDiff, List.map_cons, List.map_nil, Int.reduceEq, Int.lt_irrefl, L_ref15_Plain_0, fr, hjt, k2.p1]
    exact hJ _ _ ⟨k + 1, by omega, (by simp only [push_cast, ↓reduceIte, Nat.reduceEqDiff, true_and, and_true, and_self, eq_self, fr]), fun s e h0 h1 h2 h3 => by
      by_cases e1 : s = k
      · rw [e1]; exact hpre2 e h2 (by omega)
      · exact hpre s e h0 (by omega) h2 h3, b2⟩ (by rw [hmu]; simp only [push_cast, ↓reduceIte, Nat.reduceEqDiff, intOf, fr]; omega)
  have oE := own_int1 w2 (k : Int) 3
  have b3 : Below w2.heap.size w2 (w2.alloc (.cells [.int .i64 (k : Int)].toArray 3)) := (Below.refl _ _).alloc (Nat.le_refl _) _
  simp (disch := first | with_reducible assumption | omega) only [push_cast, x_blk, x_cd, ↓reduceIte, Nat.reduceEqDiff, List.map_cons, List.map_nil, Int.reduceEq, Int.lt_irrefl, L_ref15_Plain_0, fr, hjt, k2.p1, k2.pM, bs_22]
  generalize w2.alloc (.cells [.int .i64 (k : Int)].toArray 3) = w3 at *
  have bb3 := bb.trans (b3.mono bb.size)
  refine call_of (ref2_Step (l := [(k : Int)]) (ha.up bb3).m hf.m (OwnI.ints oE).lt (by simp) (j : Int)) ?_
  rintro v w4 ⟨A4, c4, rfl, o4, b4⟩
  have b14 := b2.trans ((b3.trans (b4.mono b3.size)).mono b2.size)
  by_cases q : (1 : Int) < ((stepL p.m [(k : Int)] j).length : Int)
  · simp (disch := first | with_reducible assumption | omega) only [push_cast, x_blk, x_cd, ↓reduceIte, Nat.reduceEqDiff, List.map_cons, List.map_nil, Int.reduceEq, Int.lt_irrefl, fr, q]
    exact fin_1 (hQ _ _ ⟨false, (by simp only [push_cast, ↓reduceIte, Nat.reduceEqDiff, Int.reduceEq]), fun h => (by cases h), b1.trans (b14.mono b1.size)⟩)
  have hrl := row_len (stepL_row hm [(k : Int)] (j : Int))
  simp (disch := first | with_reducible assumption | omega) only [push_cast, x_blk, x_cd, ↓reduceIte, Nat.reduceEqDiff, List.map_cons, List.map_nil, Int.reduceEq, Int.lt_irrefl, fr, q]
  exact hJ2 _ _ ⟨j + 1, by omega, (by simp only [push_cast, ↓reduceIte, Nat.reduceEqDiff, true_and, and_true, and_self, eq_self, fr]), fun e h0 h1 => by
    by_cases e1 : e = j
    · rw [e1]; omega
    · exact hpre2 e h0 (by omega), b14⟩ (by simp only [push_cast, ↓reduceIte, Nat.reduceEqDiff, intOf, fr]; omega)
/-- Two answers by the least word that tells. -/
theorem least_one {A B : List Int → Prop} (hAB : ∀ u, A u ↔ B u) {P : List Int → Prop} {b b' : Bool} {o o' : List Int} (h : (b = false ∧ o = [] ∧ ∀ u, P u → ¬ A u) ∨ (b = true ∧ P o ∧ A o ∧ ∀ u, P u → A u → ¬ Shl u o))
    (h' : (b' = false ∧ o' = [] ∧ ∀ u, P u → ¬ B u) ∨ (b' = true ∧ P o' ∧ B o' ∧ ∀ u, P u → B u → ¬ Shl u o')) : b = b' ∧ o = o' := by
  rcases h with ⟨rfl, rfl, h⟩ | ⟨rfl, p, a, h⟩ <;> rcases h' with ⟨rfl, rfl, h'⟩ | ⟨rfl, p', a', h'⟩
  · exact ⟨rfl, rfl⟩
  · exact absurd ((hAB _).2 a') (h _ p')
  · exact absurd ((hAB _).1 a) (h' _ p)
  · refine ⟨rfl, ?_⟩
    rcases Shl.total o o' with c | c | c
    · exact absurd c (h' _ p ((hAB _).1 a))
    · exact c
    · exact absurd c (h _ p' ((hAB _).2 a'))
theorem law_TopOne {w : World} (hT : Tab w) {a0 : PV} {p0 : Plt} (h : IsP (· < w.heap.size) w a0 p0) (hf : p0.Fits) (_hc : a0.Caps p0) :
    Cal Tryd.prog 11 [a0.val p0] w fun v w' => v = .bool true ∧ Below w.heap.size w w' := by
  refine cal_top_TopOne (by simp) 100000 fun Q hQ => ?_
  simp (disch := first | with_reducible assumption | omega) only [push_cast, x_blk, x_cd, ↓reduceIte, Nat.reduceEqDiff, List.map_cons, List.map_nil, Int.reduceEq, Int.lt_irrefl, F_top_TopOne]
  refine blk_of (box_agg _ (a0.cells p0)) ?_
  intro w1 k1 b1 z1
  have bb := b1
  simp (disch := first | with_reducible assumption | omega) only [push_cast, x_blk, x_cd, ↓reduceIte, Nat.reduceEqDiff, List.map_cons, List.map_nil, Int.reduceEq, Int.lt_irrefl, k1.pA']
  refine call_of (ref9_May (h.up bb) hf) ?_
  rintro v w2 ⟨rfl, b2⟩
  replace k1 := k1.below b2 k1.lt
  replace bb := bb.trans (Below.mono b2 bb.size)
  by_cases p1 : p0.May
  case neg =>
    simp (disch := first | with_reducible assumption | omega) only [push_cast, x_blk, x_cd, ↓reduceIte, Nat.reduceEqDiff, List.map_cons, List.map_nil, Int.reduceEq, Int.lt_irrefl, decide_eq_false p1]
    exact fin_1 (hQ _ _ ⟨(by simp only [push_cast, ↓reduceIte, Nat.reduceEqDiff, Int.reduceEq]), bb⟩)
  by_cases p4 : 4 < p0.m.states
  case pos =>
    simp (disch := first | with_reducible assumption | omega) only [push_cast, x_blk, x_cd, ↓reduceIte, Nat.reduceEqDiff, List.map_cons, List.map_nil, Int.reduceEq, Int.lt_irrefl, decide_eq_true p1, k1.p0, p4]
    exact fin_1 (hQ _ _ ⟨(by simp only [push_cast, ↓reduceIte, Nat.reduceEqDiff, Int.reduceEq]), bb⟩)
  simp (disch := first | with_reducible assumption | omega) only [push_cast, x_blk, x_cd, ↓reduceIte, Nat.reduceEqDiff, List.map_cons, List.map_nil, Int.reduceEq, Int.lt_irrefl, decide_eq_true p1, k1.p0, p4, k1.pA']
  refine call_of (ref15_Plain (h.up bb) hf p1.1) ?_
  rintro v w3 ⟨pl, rfl, hpl, b3⟩
  replace k1 := k1.below b3 k1.lt
  replace bb := bb.trans (Below.mono b3 bb.size)
  cases pl with
  | false =>
    simp (disch := first | with_reducible assumption | omega) only [push_cast, x_blk, x_cd, ↓reduceIte, Nat.reduceEqDiff, List.map_cons, List.map_nil, Int.reduceEq, Int.lt_irrefl]
    exact fin_1 (hQ _ _ ⟨(by simp only [push_cast, ↓reduceIte, Nat.reduceEqDiff, Int.reduceEq]), bb⟩)
  | true =>
  replace hpl := hpl rfl
  have hm := p1.1
  have hst : p0.m.states ≤ 256 := hm.2.1
  have st0 := hm.1
  have lg : w.heap.size < w3.heap.size := k1.lt
  simp (disch := first | with_reducible assumption | omega) only [push_cast, x_blk, x_cd, ↓reduceIte, Nat.reduceEqDiff, List.map_cons, List.map_nil, Int.reduceEq, Int.lt_irrefl, k1.pM]
  refine blk_of (cs := mv0.cells mach0) al_25 ?_
  intro w4 k4 b4 z4
  simp (disch := first | with_reducible assumption | omega) only [push_cast, x_blk, x_cd, ↓reduceIte, Nat.reduceEqDiff, List.map_cons, List.map_nil, Int.reduceEq, Int.lt_irrefl]
  refine sto_mach k4 rfl a0.m p0.m ?_
  intro w5 k5 g5 z5
  have b5 := g5.below b4 b4.size (by intro a ha; injection ha with ha; subst ha; exact Nat.le_refl _)
  replace k1 := k1.below b5 k1.lt
  replace bb := bb.trans (Below.mono b5 bb.size)
  have lg5 := k5.lt
  simp (disch := first | with_reducible assumption | omega) only [push_cast, x_blk, x_cd, ↓reduceIte, Nat.reduceEqDiff, List.map_cons, List.map_nil, Int.reduceEq, Int.lt_irrefl, k5.m0 ty_ag_3]
  refine call_of (top_all p0.m.states (by omega) hst) ?_
  rintro v w6 ⟨O6, c6, rfl, o6, b6⟩
  replace k1 := k1.below b6 k1.lt
  replace bb := bb.trans (Below.mono b6 bb.size)
  replace k5 := k5.below b6 k5.lt
  have n6 := evs_len p0.m.states.toNat
  simp (disch := first | with_reducible assumption | omega) only [push_cast, x_blk, x_cd, ↓reduceIte, Nat.reduceEqDiff, List.map_cons, List.map_nil, Int.reduceEq, Int.lt_irrefl]
  refine sto_slice k5 (by kernel_rfl) 4 (by simp) _ _ _ ?_
  intro w7 k7 g7 z7
  replace k1 := k1.grown g7.by_ (by simp; omega)
  replace bb := g7.below bb bb.size (by intro a ha; injection ha with ha; subst ha; exact Nat.le_of_lt lg)
  have o7 : Ints (· < w7.heap.size) w7 O6 (evs p0.m.states.toNat) := (OwnI.ints (o6.grew g7 (.inr (o6.ne_blk k5 (by decide))))).lt
  obtain ⟨M, hMd⟩ : ∃ M : Mach, M = ⟨p0.m.states, p0.m.events, p0.m.starts, p0.m.arrows, evs p0.m.states.toNat⟩ := ⟨_, rfl⟩
  replace k7 : Blk w7 w3.heap.size 25 (MV.cells ⟨a0.m.As, a0.m.cs, a0.m.Aa, a0.m.ca, O6, c6⟩ M) := by rw [hMd]; exact k7
  simp (disch := first | with_reducible assumption | omega) only [push_cast, x_blk, x_cd, ↓reduceIte, Nat.reduceEqDiff, List.map_cons, List.map_nil, Int.reduceEq, Int.lt_irrefl, k1.pM]
  refine blk_of (cs := mv0.cells mach0) al_25 ?_
  intro w8 k8 b8 z8
  have lg7 := k7.lt
  simp (disch := first | with_reducible assumption | omega) only [push_cast, x_blk, x_cd, ↓reduceIte, Nat.reduceEqDiff, List.map_cons, List.map_nil, Int.reduceEq, Int.lt_irrefl]
  refine sto_mach k8 rfl a0.m p0.m ?_
  intro w9 k9 g9 z9
  have b9 := g9.below b8 b8.size (by intro a ha; injection ha with ha; subst ha; exact Nat.le_refl _)
  replace k1 := k1.below b9 k1.lt
  replace bb := bb.trans (Below.mono b9 bb.size)
  replace k7 := k7.below b9 k7.lt
  simp (disch := first | with_reducible assumption | omega) only [push_cast, x_blk, x_cd, ↓reduceIte, Nat.reduceEqDiff, List.map_cons, List.map_nil, Int.reduceEq, Int.lt_irrefl, k1.p6]
  refine sto_slice k9 (by kernel_rfl) 4 (by simp) _ _ _ ?_
  intro w10 k10 g10 z10
  replace k1 := k1.grown g10.by_ (by simp; omega)
  replace k7 := k7.grown g10.by_ (by simp; omega)
  have b10 : Below w7.heap.size w7 w10 := g10.below b9 b9.size (by intro a ha; injection ha with ha; subst ha; exact Nat.le_refl _)
  replace bb := g10.below bb bb.size (by intro a ha; injection ha with ha; subst ha; show w.heap.size ≤ w7.heap.size; omega)
  obtain ⟨S, hSd⟩ : ∃ S : Mach, S = ⟨p0.m.states, p0.m.events, p0.m.starts, p0.m.arrows, p0.secret⟩ := ⟨_, rfl⟩
  replace k10 : Blk w10 w7.heap.size 25 (MV.cells ⟨a0.m.As, a0.m.cs, a0.m.Aa, a0.m.ca, a0.Aq, a0.cq⟩ S) := by rw [hSd]; exact k10
  replace o7 := o7.up b10
  clear g5 g7 g9 g10 b4 b5 b6 b8 b9 b10 z4 z5 z7 z8 z9 z10 o6 k4 k5 k8 k9
  have rE : IsRow (evs p0.m.states.toNat) p0.m.states := IsRow.of_strict (by unfold evs; rw [Strict, List.pairwise_map]; exact List.pairwise_lt_range.imp fun h => by omega) fun x hx => by have := evs_mem.1 hx; omega
  have hM : M.May := by rw [hMd]; exact ⟨hm.1, hm.2.1, hm.2.2.1, hm.2.2.2.1, hm.2.2.2.2.1, hm.2.2.2.2.2.1, rE, hm.2.2.2.2.2.2.2⟩
  have hS : S.May := by rw [hSd]; exact ⟨hm.1, hm.2.1, hm.2.2.1, hm.2.2.2.1, hm.2.2.2.2.1, hm.2.2.2.2.2.1, p1.2.2.2, hm.2.2.2.2.2.2.2⟩
  have hap := h.up bb
  have iM : IsM (· < w10.heap.size) w10 ⟨a0.m.As, a0.m.cs, a0.m.Aa, a0.m.ca, O6, c6⟩ M := by rw [hMd]; exact ⟨hap.m.starts, hap.m.arrows, o7⟩
  have iS : IsM (· < w10.heap.size) w10 ⟨a0.m.As, a0.m.cs, a0.m.Aa, a0.m.ca, a0.Aq, a0.cq⟩ S := by rw [hSd]; exact ⟨hap.m.starts, hap.m.arrows, hap.secret⟩
  have ha' : S.arrows = M.arrows := by rw [hMd, hSd]
  have hs' : S.starts = M.starts := by rw [hMd, hSd]
  have hev : M.events = S.events := by rw [hMd, hSd]
  have hpM : PlainM M := by rw [hMd]; exact hpl
  have hest : ∀ u, estL p0 u = estM M p0.seen u := fun u => by rw [hMd]; rfl
  have hSe : S.ends = p0.secret := by rw [hSd]
  have hME : ∀ x, 0 ≤ x → x < M.states → x ∈ M.ends := fun x h0 h1 => by rw [hMd] at h1 ⊢; exact evs_mem.2 ⟨h0, by show x < _; simp only at h1; omega⟩
  have hM4 : M.states ≤ 4 := by rw [hMd]; show p0.m.states ≤ 4; omega
  have hS4 : S.states ≤ 4 := by rw [hSd]; show p0.m.states ≤ 4; omega
  have hrow : IsRow p0.seen M.events := by rw [hMd]; exact p1.2.2.1
  clear hMd hSd hap
  generalize (⟨a0.m.As, a0.m.cs, a0.m.Aa, a0.m.ca, O6, c6⟩ : MV) = aM at *
  generalize (⟨a0.m.As, a0.m.cs, a0.m.Aa, a0.m.ca, a0.Aq, a0.cq⟩ : MV) = aS at *
  have nP := p1.seen8
  simp (disch := first | with_reducible assumption | omega) only [push_cast, x_blk, x_cd, ↓reduceIte, Nat.reduceEqDiff, List.map_cons, List.map_nil, Int.reduceEq, Int.lt_irrefl, k1.pA']
  refine call_of (current_Leak (h.up bb) hf) ?_
  rintro v w11 ⟨b, O, co, o, e, rfl, hO, ho, b11, hlk⟩
  replace k1 := k1.below b11 k1.lt
  replace bb := bb.trans (Below.mono b11 bb.size)
  replace k7 := k7.below b11 k7.lt
  replace k10 := k10.below b11 k10.lt
  replace iM := iM.up b11
  replace iS := iS.up b11
  replace hO : Ints (· < w11.heap.size) w11 O o := hO.mono fun _ hb => hb.2
  simp (disch := first | with_reducible assumption | omega) only [push_cast, x_blk, x_cd, ↓reduceIte, Nat.reduceEqDiff, List.map_cons, List.map_nil, Int.reduceEq, Int.lt_irrefl, k7.mA ty_ag_25 ty_sz_25, k10.mA ty_ag_25 ty_sz_25, k1.p5]
  refine call_of (sec_Leak (hT.below bb hT.lt) iM (May.fits hM) iS (May.fits hS) (h.up bb).seen (by omega)) ?_
  rintro v w12 ⟨b', O', co', o', e', rfl, hO', ho', b12, sp⟩
  replace k1 := k1.below b12 k1.lt
  replace bb := bb.trans (Below.mono b12 bb.size)
  replace hO := hO.up b12
  replace hO' : Ints (· < w12.heap.size) w12 O' o' := hO'.mono fun _ hb => hb.2
  obtain ⟨L, ar, hD, hF⟩ := (sec_cases sp).2.2.2.2 ⟨hM, hS⟩ hev hrow ⟨by omega, hS4⟩
  have hstrict : p0.seen.Pairwise (· < ·) := hrow.strict
  have he : e = 0 := by
    rcases hlk with ⟨hh, _⟩ | ⟨_, hh, _⟩
    · exact absurd p1 hh
    · exact hh
  have he' : e' = 0 := by
    rcases hF with ⟨⟨k, hk⟩, _⟩ | ⟨hh, _⟩
    · have := plain_few hM ha' hs' hpM hD hstrict hM4 k; omega
    · exact hh
  subst he he'
  obtain ⟨rfl, rfl⟩ : b = b' ∧ o = o' := by
    refine least_one (A := fun u => TellsL (estL p0 u) p0.secret) (B := fun u => sLeak M S L (sEst M S L ar p0.seen u) = true) (P := fun u => AllIn u p0.seen) (fun u => ?_) ?_ ?_
    · rw [plain_leak hM ha' hs' hpM hD hME, hest, hSe]
    · cases b
      · exact .inl ⟨rfl, lk_none p1 hlk⟩
      · exact .inr ⟨rfl, lk_some p1 hlk⟩
    · cases b'
      · obtain ⟨q1, q2⟩ := found_none hstrict hF
        exact .inl ⟨rfl, q1, fun u hu hh => by rw [q2 u hu] at hh; cases hh⟩
      · obtain ⟨_, q1, q2, q3⟩ := found_some hstrict hF
        exact .inr ⟨rfl, q1, q2, q3⟩
  simp (disch := first | with_reducible assumption | omega) only [push_cast, x_blk, x_cd, ↓reduceIte, Nat.reduceEqDiff, List.map_cons, List.map_nil, Int.reduceEq, Int.lt_irrefl, eq_self, beq_self_eq_true]
  refine call_of (ref1_Same hO hO' co co' (by omega)) ?_
  rintro v w13 ⟨rfl, s13⟩
  have b13 := s13.below w12.heap.size
  replace k1 := k1.below b13 k1.lt
  replace bb := bb.trans (Below.mono b13 bb.size)
  simp (disch := first | with_reducible assumption | omega) only [push_cast, x_blk, x_cd, ↓reduceIte, Nat.reduceEqDiff, List.map_cons, List.map_nil, Int.reduceEq, Int.lt_irrefl, decide_eq_true rfl, eq_self, decide_true, k1.pA']
  refine call_of (current_May (h.up bb) hf) ?_
  rintro v w14 ⟨rfl, b14⟩
  simp (disch := first | with_reducible assumption | omega) only [push_cast, x_blk, x_cd, ↓reduceIte, Nat.reduceEqDiff, List.map_cons, List.map_nil, Int.reduceEq, Int.lt_irrefl, decide_eq_true p1]
  exact fin_1 (hQ _ _ ⟨(by simp only [push_cast, ↓reduceIte, Nat.reduceEqDiff, Int.reduceEq]), bb.trans (b14.mono bb.size)⟩)
end Go.Proofs.YtcjinmgieiebbaaDoor
