/-
  Chapter 4's reference: Beside: by its contract.
-/
import Derived.Test.YtcjedgiglimipaaDoorZRef4B
namespace Go.Proofs.YtcjedgiglimipaaDoor
set_option linter.unusedSimpArgs false
set_option linter.unusedVariables false
set_option linter.unusedSectionVars false
open Go.RowKit

set_option maxHeartbeats 4000000 in
theorem ref4_Beside {w : World} {a b : MV} {ma mb : Mach} (ha : IsM (· < w.heap.size) w a ma) (hfa : ma.Fits) (hb : IsM (· < w.heap.size) w b mb) (hfb : mb.Fits)
    {A1 : Option Addr} {c1 : Nat} {ofA : List Int} (h1 : Ints (· < w.heap.size) w A1 ofA) (n1 : ofA.length ≤ 17592186043904) {A2 : Option Addr} {c2 : Nat} {ofB : List Int} (h2 : Ints (· < w.heap.size) w A2 ofB) (n2 : ofB.length ≤ 17592186043904) :
    Cal Tryd.prog 42 [a.val ma, b.val mb, .slice A1 ofA.length c1, .slice A2 ofB.length c2] w (BesRes ma mb ofA ofB w) := by
  have e5 : ∀ (a : MV) (m : Mach), tySize Tryd.prog 25 = some (a.cells m).length := fun a m => ty_sz_25
  refine cal_ref4_Beside (by simp) 1000000 fun Q hQ => ?_
  simp (disch := first | with_reducible assumption | omega) only [push_cast, x_blk, x_cd, ↓reduceIte, Nat.reduceEqDiff, List.map_cons, List.map_nil, Int.reduceEq, Int.lt_irrefl, F_ref4_Beside]
  refine blk_of (box_agg _ (a.cells ma)) ?_
  intro w1 k1 b1 z1
  simp (disch := first | with_reducible assumption | omega) only [push_cast, x_blk, x_cd, ↓reduceIte, Nat.reduceEqDiff, List.map_cons, List.map_nil, Int.reduceEq, Int.lt_irrefl]
  refine blk_of (box_agg _ (b.cells mb)) ?_
  intro w2 k2 b2 z2
  replace k1 := k1.below b2 k1.lt
  simp (disch := first | with_reducible assumption | omega) only [push_cast, x_blk, x_cd, ↓reduceIte, Nat.reduceEqDiff, List.map_cons, List.map_nil, Int.reduceEq, Int.lt_irrefl]
  refine blk_of (cs := mv0.cells mach0) al_25 ?_
  intro w3 k3 b3 z3
  replace k1 := k1.below b3 k1.lt
  replace k2 := k2.below b3 k2.lt
  simp (disch := first | with_reducible assumption | omega) only [push_cast, x_blk, x_cd, ↓reduceIte, Nat.reduceEqDiff, List.map_cons, List.map_nil, Int.reduceEq, Int.lt_irrefl, mach0_built]
  refine blk_of (cs := mv0.cells mach0) al_25 ?_
  intro w3' k4 b3' z3'
  replace k1 := k1.below b3' k1.lt
  replace k2 := k2.below b3' k2.lt
  replace k3 := k3.below b3' k3.lt
  have bb := ((b1.trans (b2.mono b1.size)).trans (b3.mono (b1.trans (b2.mono b1.size)).size))
  have hw1 : w1.heap.size = w.heap.size + 1 := z1
  have hw2 : w2.heap.size = w.heap.size + 2 := by omega
  have hw3 : w3.heap.size = w.heap.size + 3 := by omega
  replace bb := bb.trans (b3'.mono bb.size)
  simp (disch := first | with_reducible assumption | omega) only [push_cast, x_blk, x_cd, ↓reduceIte, Nat.reduceEqDiff, List.map_cons, List.map_nil, Int.reduceEq, Int.lt_irrefl]
  refine sto_blk k4 (cs := mv0.cells mach0) (e5 _ _) rfl (by rfl) ?_
  intro w31 k41 g31 z31
  replace k1 := k1.grown g31.by_ (by simp; omega)
  replace k2 := k2.grown g31.by_ (by simp; omega)
  replace k3 := k3.grown g31.by_ (by simp; omega)
  replace bb := g31.below bb bb.size (by intro a ha; injection ha with ha; subst ha; show w.heap.size ≤ w3.heap.size; omega)
  replace k4 := k41
  simp (disch := first | with_reducible assumption | omega) only [push_cast, x_blk, x_cd, ↓reduceIte, Nat.reduceEqDiff, List.map_cons, List.map_nil, Int.reduceEq, Int.lt_irrefl, k1.mA ty_ag_25 ty_sz_25]
  refine call_of (ref2_May (ha.up bb) hfa) ?_
  rintro r w4 ⟨rfl, b4⟩
  replace k1 := k1.below b4 k1.lt
  replace k2 := k2.below b4 k2.lt
  replace k3 := k3.below b4 k3.lt
  replace k4 := k4.below b4 k4.lt
  replace bb := bb.trans (b4.mono bb.size)
  by_cases p1 : ma.May
  case neg =>
    simp (disch := first | with_reducible assumption | omega) only [push_cast, x_blk, x_cd, ↓reduceIte, Nat.reduceEqDiff, List.map_cons, List.map_nil, Int.reduceEq, Int.lt_irrefl, decide_eq_false p1]
    simp (disch := first | with_reducible assumption | omega) only [push_cast, x_blk, x_cd, ↓reduceIte, Nat.reduceEqDiff, List.map_cons, List.map_nil, Int.reduceEq, Int.lt_irrefl, k4.mA ty_ag_25 ty_sz_25]
    refine sto_blk k3 (cs := mv0.cells mach0) (e5 _ _) rfl (by rfl) ?_
    intro w9 k9 g9 z9
    simp (disch := first | with_reducible assumption | omega) only [push_cast, x_blk, x_cd, ↓reduceIte, Nat.reduceEqDiff, List.map_cons, List.map_nil, Int.reduceEq, Int.lt_irrefl]
    exact fin_c3 k9 ty_ag_25 (e5 _ _) (by simp only [push_cast, ↓reduceIte, Nat.reduceEqDiff, Int.reduceEq]) (hQ _ _ ⟨mv0, mach0, none, 0, [], _, (by simp only [push_cast, ↓reduceIte, Nat.reduceEqDiff, Int.reduceEq, List.length_nil]), mach0_is _ _, Recs.nil _ _ _, fun x hx => absurd hx (by simp), g9.below bb bb.size (by intro a ha; injection ha with ha; subst ha; show w.heap.size ≤ w2.heap.size; omega), .inl ⟨fun h => p1 h.1, rfl, rfl, rfl⟩⟩)
  simp (disch := first | with_reducible assumption | omega) only [push_cast, x_blk, x_cd, ↓reduceIte, Nat.reduceEqDiff, List.map_cons, List.map_nil, Int.reduceEq, Int.lt_irrefl, decide_eq_true p1, k2.mA ty_ag_25 ty_sz_25]
  refine call_of (ref2_May (hb.up bb) hfb) ?_
  rintro r w5 ⟨rfl, b5⟩
  replace k1 := k1.below b5 k1.lt
  replace k2 := k2.below b5 k2.lt
  replace k3 := k3.below b5 k3.lt
  replace k4 := k4.below b5 k4.lt
  replace bb := bb.trans (b5.mono bb.size)
  by_cases p2 : mb.May
  case neg =>
    simp (disch := first | with_reducible assumption | omega) only [push_cast, x_blk, x_cd, ↓reduceIte, Nat.reduceEqDiff, List.map_cons, List.map_nil, Int.reduceEq, Int.lt_irrefl, decide_eq_false p2]
    simp (disch := first | with_reducible assumption | omega) only [push_cast, x_blk, x_cd, ↓reduceIte, Nat.reduceEqDiff, List.map_cons, List.map_nil, Int.reduceEq, Int.lt_irrefl, k4.mA ty_ag_25 ty_sz_25]
    refine sto_blk k3 (cs := mv0.cells mach0) (e5 _ _) rfl (by rfl) ?_
    intro w9 k9 g9 z9
    simp (disch := first | with_reducible assumption | omega) only [push_cast, x_blk, x_cd, ↓reduceIte, Nat.reduceEqDiff, List.map_cons, List.map_nil, Int.reduceEq, Int.lt_irrefl]
    exact fin_c3 k9 ty_ag_25 (e5 _ _) (by simp only [push_cast, ↓reduceIte, Nat.reduceEqDiff, Int.reduceEq]) (hQ _ _ ⟨mv0, mach0, none, 0, [], _, (by simp only [push_cast, ↓reduceIte, Nat.reduceEqDiff, Int.reduceEq, List.length_nil]), mach0_is _ _, Recs.nil _ _ _, fun x hx => absurd hx (by simp), g9.below bb bb.size (by intro a ha; injection ha with ha; subst ha; show w.heap.size ≤ w2.heap.size; omega), .inl ⟨fun h => p2 h.2, rfl, rfl, rfl⟩⟩)
  by_cases p3 : ma.events = mb.events
  case neg =>
    simp (disch := first | with_reducible assumption | omega) only [push_cast, x_blk, x_cd, ↓reduceIte, Nat.reduceEqDiff, List.map_cons, List.map_nil, Int.reduceEq, Int.lt_irrefl, decide_eq_true p2, k1.m1 ty_ag_3, k2.m1 ty_ag_3, decide_eq_true p3, decide_eq_false p3, p3]
    simp (disch := first | with_reducible assumption | omega) only [push_cast, x_blk, x_cd, ↓reduceIte, Nat.reduceEqDiff, List.map_cons, List.map_nil, Int.reduceEq, Int.lt_irrefl, k4.mA ty_ag_25 ty_sz_25]
    refine sto_blk k3 (cs := mv0.cells mach0) (e5 _ _) rfl (by rfl) ?_
    intro w9 k9 g9 z9
    simp (disch := first | with_reducible assumption | omega) only [push_cast, x_blk, x_cd, ↓reduceIte, Nat.reduceEqDiff, List.map_cons, List.map_nil, Int.reduceEq, Int.lt_irrefl]
    exact fin_c3 k9 ty_ag_25 (e5 _ _) (by simp only [push_cast, ↓reduceIte, Nat.reduceEqDiff, Int.reduceEq]) (hQ _ _ ⟨mv0, mach0, none, 0, [], _, (by simp only [push_cast, ↓reduceIte, Nat.reduceEqDiff, Int.reduceEq, List.length_nil]), mach0_is _ _, Recs.nil _ _ _, fun x hx => absurd hx (by simp), g9.below bb bb.size (by intro a ha; injection ha with ha; subst ha; show w.heap.size ≤ w2.heap.size; omega), .inr (.inl ⟨⟨p1, p2⟩, p3, rfl, rfl, rfl⟩)⟩)
  simp (disch := first | with_reducible assumption | omega) only [push_cast, x_blk, x_cd, ↓reduceIte, Nat.reduceEqDiff, List.map_cons, List.map_nil, Int.reduceEq, Int.lt_irrefl, decide_eq_true p2, k1.m1 ty_ag_3, k2.m1 ty_ag_3, p3, eq_self]
  refine call_of (ref1_Is (h1.below bb) c1 mb.events (by omega)) ?_
  rintro r w6 ⟨rfl, s6⟩
  replace k1 := k1.same s6
  replace k2 := k2.same s6
  replace k3 := k3.same s6
  replace k4 := k4.same s6
  replace bb := bb.trans (s6.below _)
  by_cases p4 : IsRow ofA mb.events
  case neg =>
    simp (disch := first | with_reducible assumption | omega) only [push_cast, x_blk, x_cd, ↓reduceIte, Nat.reduceEqDiff, List.map_cons, List.map_nil, Int.reduceEq, Int.lt_irrefl, decide_eq_false p4]
    simp (disch := first | with_reducible assumption | omega) only [push_cast, x_blk, x_cd, ↓reduceIte, Nat.reduceEqDiff, List.map_cons, List.map_nil, Int.reduceEq, Int.lt_irrefl, k4.mA ty_ag_25 ty_sz_25]
    refine sto_blk k3 (cs := mv0.cells mach0) (e5 _ _) rfl (by rfl) ?_
    intro w9 k9 g9 z9
    simp (disch := first | with_reducible assumption | omega) only [push_cast, x_blk, x_cd, ↓reduceIte, Nat.reduceEqDiff, List.map_cons, List.map_nil, Int.reduceEq, Int.lt_irrefl]
    exact fin_c3 k9 ty_ag_25 (e5 _ _) (by simp only [push_cast, ↓reduceIte, Nat.reduceEqDiff, Int.reduceEq]) (hQ _ _ ⟨mv0, mach0, none, 0, [], _, (by simp only [push_cast, ↓reduceIte, Nat.reduceEqDiff, Int.reduceEq, List.length_nil]), mach0_is _ _, Recs.nil _ _ _, fun x hx => absurd hx (by simp), g9.below bb bb.size (by intro a ha; injection ha with ha; subst ha; show w.heap.size ≤ w2.heap.size; omega), .inr (.inr (.inl ⟨⟨p1, p2⟩, p3, fun h => p4 (p3 ▸ h.1), rfl, rfl, rfl⟩))⟩)
  simp (disch := first | with_reducible assumption | omega) only [push_cast, x_blk, x_cd, ↓reduceIte, Nat.reduceEqDiff, List.map_cons, List.map_nil, Int.reduceEq, Int.lt_irrefl, decide_eq_true p4, k1.m1 ty_ag_3, p3]
  refine call_of (ref1_Is (h2.below bb) c2 mb.events (by omega)) ?_
  rintro r w7 ⟨rfl, s7⟩
  replace k1 := k1.same s7
  replace k2 := k2.same s7
  replace k3 := k3.same s7
  replace k4 := k4.same s7
  replace bb := bb.trans (s7.below _)
  by_cases p5 : IsRow ofB mb.events
  case neg =>
    simp (disch := first | with_reducible assumption | omega) only [push_cast, x_blk, x_cd, ↓reduceIte, Nat.reduceEqDiff, List.map_cons, List.map_nil, Int.reduceEq, Int.lt_irrefl, decide_eq_false p5]
    simp (disch := first | with_reducible assumption | omega) only [push_cast, x_blk, x_cd, ↓reduceIte, Nat.reduceEqDiff, List.map_cons, List.map_nil, Int.reduceEq, Int.lt_irrefl, k4.mA ty_ag_25 ty_sz_25]
    refine sto_blk k3 (cs := mv0.cells mach0) (e5 _ _) rfl (by rfl) ?_
    intro w9 k9 g9 z9
    simp (disch := first | with_reducible assumption | omega) only [push_cast, x_blk, x_cd, ↓reduceIte, Nat.reduceEqDiff, List.map_cons, List.map_nil, Int.reduceEq, Int.lt_irrefl]
    exact fin_c3 k9 ty_ag_25 (e5 _ _) (by simp only [push_cast, ↓reduceIte, Nat.reduceEqDiff, Int.reduceEq]) (hQ _ _ ⟨mv0, mach0, none, 0, [], _, (by simp only [push_cast, ↓reduceIte, Nat.reduceEqDiff, Int.reduceEq, List.length_nil]), mach0_is _ _, Recs.nil _ _ _, fun x hx => absurd hx (by simp), g9.below bb bb.size (by intro a ha; injection ha with ha; subst ha; show w.heap.size ≤ w2.heap.size; omega), .inr (.inr (.inl ⟨⟨p1, p2⟩, p3, fun h => p5 (p3 ▸ h.2), rfl, rfl, rfl⟩))⟩)
  simp (disch := first | with_reducible assumption | omega) only [push_cast, x_blk, x_cd, ↓reduceIte, Nat.reduceEqDiff, List.map_cons, List.map_nil, Int.reduceEq, Int.lt_irrefl, decide_eq_true p5]
  have hrow : IsRow ofA ma.events ∧ IsRow ofB ma.events := ⟨p3 ▸ p4, p3 ▸ p5⟩
  clear p4 p5
  rw [hw1] at k2
  rw [hw2] at k3
  rw [hw3] at k4
  have ha7 := ha.up bb
  have hb7 := hb.up bb
  have i1 := h1.up bb
  have i2 := h2.up bb
  have lsa := hfa.lenS
  have lsb := hfb.lenS
  have lea := hfa.lenE
  have leb := hfb.lenE
  clear b1 b2 b3 b3' b4 b5 s6 s7 z1 z2 z3 z3' z31 g31 k41
  have hzw := bb.size
  have l1 := k1.lt
  have l2 := k2.lt
  have l3 := k3.lt
  have l4 := k4.lt
  simp (disch := first | with_reducible assumption | omega) only [push_cast, x_blk, x_cd, ↓reduceIte, Nat.reduceEqDiff, List.map_cons, List.map_nil, Int.reduceEq, Int.lt_irrefl, k1.m1 ty_ag_3, bl_mach1]
  refine blk_of (cs := mv0.cells mach0) al_25 ?_
  intro w8 k8 b8 z8
  simp (disch := first | with_reducible assumption | omega) only [push_cast, x_blk, x_cd, ↓reduceIte, Nat.reduceEqDiff, List.map_cons, List.map_nil, Int.reduceEq, Int.lt_irrefl]
  refine sto_mach k8 rfl mv0 ⟨0, ma.events, [], [], []⟩ ?_
  intro w9 k9 g9 z9
  have W0 : R4W w7.heap.size w7 w9 w7.heap.size mv0 ⟨0, ma.events, [], [], []⟩ none 0 [] none 0 [] :=
    ⟨k9, Own.nil _ _ _ _, Own.nil _ _ _ _, .inl rfl, Own.nil _ _ _ _, fun x hx => absurd hx (by simp), Own.nil _ _ _ _, Own.nil _ _ _ _, .inl rfl, Nat.le_refl _, g9.below b8 b8.size (by intro a ha; injection ha with ha; subst ha; exact Nat.le_refl _)⟩
  clear k8 b8 z8 k9 g9 z9
  generalize hBz : w7.heap.size = Bz at *
  have hBw7 : Bz ≤ w7.heap.size := by omega
  have nA := row_256 p1 (may_starts p1)
  have nB := row_256 p2 (may_starts p2)
  have hSl := bsStart_len p1 p2
  have n8 : ma.events.toNat ≤ 8 := by have := p1.2.2.2.1; omega
  have hev : ((ma.events.toNat : Nat) : Int) = ma.events := by have := p1.2.2.1; omega
  simp (disch := first | with_reducible assumption | omega) only [push_cast, x_blk, x_cd, ↓reduceIte, Nat.reduceEqDiff, List.map_cons, List.map_nil, Int.reduceEq, Int.lt_irrefl]
  refine loop_rule (fun f w' => ∃ (i : Nat) (d : MV) (P : Option Addr) (cp : Nat) (hs : List Hd), i ≤ ma.starts.length ∧ ((f 2 = .slice A1 ofA.length c1 ∧ f 3 = .slice A2 ofB.length c2 ∧ f 4 = .pointer (some ⟨w.heap.size, 0, none⟩) ∧ f 5 = .pointer (some ⟨w.heap.size + 1, 0, none⟩) ∧ f 8 = .pointer (some ⟨w.heap.size + 2, 0, none⟩) ∧ f 11 = .pointer (some ⟨w.heap.size + 3, 0, none⟩) ∧ f 12 = .pointer (some ⟨Bz, 0, none⟩)) ∧ f 10 = .int .i64 0 ∧ f 13 = .slice P hs.length cp ∧ f 14 = .int .i64 i) ∧
      hs.map (·.l) = ((ma.starts.take i).flatMap fun s => mb.starts.map fun t => ((s, t) : Pr)).map prL ∧
      R4W Bz w7 w' Bz d ⟨0, ma.events, evs ((ma.starts.take i).flatMap fun s => mb.starts.map fun t => ((s, t) : Pr)).length, [], []⟩ P cp hs none 0 [])
    (fun f _ => ma.starts.length - (intOf (f 14)).toNat) ⟨0, mv0, none, 0, [], Nat.zero_le _, ⟨⟨rfl, rfl, rfl, (by simp only [push_cast, ↓reduceIte, Nat.reduceEqDiff, Int.reduceEq, hw1]), (by simp only [push_cast, ↓reduceIte, Nat.reduceEqDiff, Int.reduceEq, hw2]), (by simp only [push_cast, ↓reduceIte, Nat.reduceEqDiff, Int.reduceEq, hw3]), rfl⟩, rfl, rfl, rfl⟩, rfl, W0⟩ ?_
  clear W0 hw1 hw2 hw3
  rintro f w11 ⟨i, d, P, cp, hs, hi, fr, hv, W⟩ J hJ
  have hzB : Bz ≤ w11.heap.size := by have := W.bel.size; omega
  have hpre0 := (starts_prefix0 ma mb i).length_le
  have k1' := k1.below W.bel (by omega)
  by_cases hil : i < ma.starts.length
  case neg =>
    obtain rfl : i = ma.starts.length := by omega
    rw [List.take_length] at W hv
    have hlr := rows_len hv
    simp (disch := first | with_reducible assumption | omega) only [push_cast, x_blk, x_cd, ↓reduceIte, Nat.reduceEqDiff, List.map_cons, List.map_nil, Int.reduceEq, Int.lt_irrefl, L_ref4_Beside_5, fr, Nat.lt_irrefl, Int.lt_irrefl, k1'.m2 ty_ag_22]
    clear J hJ hpre0 hil hi k1'
    replace W : R4W Bz w7 w11 Bz d ⟨0, ma.events, evs (bsStart ma mb).length, [], []⟩ P cp hs none 0 [] := W
    replace hv : hs.map (·.l) = (bsStart ma mb).map prL := hv
    generalize hSg : evs (bsStart ma mb).length = S at W
    refine loop_rule (fun f w' => ∃ (k : Nat) (d : MV) (P : Option Addr) (cp : Nat) (hs : List Hd) (A3 : Option Addr) (c3 : Nat) (T : List Tr) (st : FSt), k ≤ 256 ∧ ((f 2 = .slice A1 ofA.length c1 ∧ f 3 = .slice A2 ofB.length c2 ∧ f 4 = .pointer (some ⟨w.heap.size, 0, none⟩) ∧ f 5 = .pointer (some ⟨w.heap.size + 1, 0, none⟩) ∧ f 8 = .pointer (some ⟨w.heap.size + 2, 0, none⟩) ∧ f 11 = .pointer (some ⟨w.heap.size + 3, 0, none⟩) ∧ f 12 = .pointer (some ⟨Bz, 0, none⟩)) ∧ f 10 = .int .i64 0 ∧ f 13 = .slice P hs.length cp ∧ f 16 = .slice A3 st.ar.length c3 ∧ f 17 = .int .i64 k) ∧
        hs.map (·.l) = st.ps.map prL ∧ FK ma mb ofA ofB k T st ∧ (st.Ok ∨ k = 0 ∧ st.ar = []) ∧ bsRun ma mb ofA ofB (300 - k) k st = bsAll ma mb ofA ofB ∧
        R4W Bz w7 w' Bz d ⟨0, ma.events, S, [], []⟩ P cp hs A3 c3 st.ar)
      (fun f _ => 300 - (intOf (f 17)).toNat) ⟨0, d, P, cp, hs, none, 0, [], ⟨bsStart ma mb, []⟩, by omega, (by simp only [push_cast, ↓reduceIte, Nat.reduceEqDiff, true_and, and_true, and_self, eq_self, fr, List.length_nil]), hv, FK.start p1 p2, .inr ⟨rfl, rfl⟩, rfl, W⟩ ?_
    clear W hzB fr hv hlr
    rintro f w12 ⟨k, d, P, cp, hs, A3, c3, T, st, hk256, fr, hv, hF, hOk, hRun, W⟩ J hJ
    have hzB : Bz ≤ w12.heap.size := by have := W.bel.size; omega
    have hlr := rows_len hv
    have hstep := bsRun_step (a := ma) (b := mb) (ofA := ofA) (ofB := ofB) k (by omega) st
    rw [hRun] at hstep
    have hmuK : 300 - (intOf (f 17)).toNat = 300 - k := by rw [fr.2.2.2.2]; simp [intOf]
    rw [hmuK] at hJ
    by_cases hkl : k < st.ps.length
    case neg =>
      rw [if_neg hkl] at hstep
      have hFF := bsAll_some p1 p2 hstep
      have hn256 : ¬ ((256 : Int) < (st.ps.length : Int)) := by have := hFF.ok.1; omega
      have har := hFF.ok.2
      simp (disch := first | with_reducible assumption | omega) only [push_cast, x_blk, x_cd, ↓reduceIte, Nat.reduceEqDiff, List.map_cons, List.map_nil, Int.reduceEq, Int.lt_irrefl, L_ref4_Beside_3, fr, hlr, hkl, hn256, decide_false]
      refine call_of (ref2_Sort (Arrs.of_recs (Recs.lt arrEnc (by decide) (OwnR.recs W.ar arrEnc (by decide)))) (by omega)) ?_
      rintro r w13 ⟨O, co, rfl, o13, b13⟩
      have W13 := W.below b13 hzB
      simp (disch := first | with_reducible assumption | omega) only [push_cast, x_blk, x_cd, ↓reduceIte, Nat.reduceEqDiff, List.map_cons, List.map_nil, Int.reduceEq, Int.lt_irrefl, fr]
      refine sto_slice W13.blk (by kernel_rfl) 3 (by simp) _ _ _ ?_
      intro w14 k14 g14 z14
      have W14 := W.sort hzB o13 b13 (w2 := w14) (by
        have k := k14
        simp only [MV.cells] at k ⊢
        exact k) g14
      have hz14 : Bz ≤ w14.heap.size := by have := W14.bel.size; omega
      simp (disch := first | with_reducible assumption | omega) only [push_cast, x_blk, x_cd, ↓reduceIte, Nat.reduceEqDiff, List.map_cons, List.map_nil, Int.reduceEq, Int.lt_irrefl, fr, hlr]
      refine sto_cell W14.blk (by kernel_rfl) 0 (by simp) _ _ ?_
      intro w15 k15 g15 z15
      have W15 := W14.sto (w1 := w15) hz14 (d' := ⟨d.As, d.cs, O, co, d.Ae, d.ce⟩) (dm' := ⟨(st.ps.length : Nat), ma.events, S, sortA st.ar, []⟩) k15 g15 ⟨rfl, rfl, rfl⟩ ⟨rfl, rfl, rfl⟩ ⟨rfl, rfl, rfl⟩
      have hz15 : Bz ≤ w15.heap.size := by have := W15.bel.size; omega
      clear W W13 W14 k14 k15 g14 g15 z14 z15 o13 b13
      simp (disch := first | with_reducible assumption | omega) only [push_cast, x_blk, ↓reduceIte, Nat.reduceEqDiff, fr, hlr]
      refine cut (fun f' w' => ((f' 2 = .slice A1 ofA.length c1 ∧ f' 3 = .slice A2 ofB.length c2 ∧ f' 4 = .pointer (some ⟨w.heap.size, 0, none⟩) ∧ f' 5 = .pointer (some ⟨w.heap.size + 1, 0, none⟩) ∧ f' 8 = .pointer (some ⟨w.heap.size + 2, 0, none⟩) ∧ f' 11 = .pointer (some ⟨w.heap.size + 3, 0, none⟩) ∧ f' 12 = .pointer (some ⟨Bz, 0, none⟩)) ∧ f' 10 = .int .i64 0 ∧ f' 13 = .slice P hs.length cp) ∧
          R4W Bz w7 w' Bz ⟨d.As, d.cs, O, co, d.Ae, d.ce⟩ ⟨(max st.ps.length 1 : Nat), ma.events, S, sortA st.ar, []⟩ P cp hs A3 c3 st.ar) 1000 900000 (by omega) ?_ ?_
      · intro E' hE
        by_cases c0 : (st.ps.length : Int) = 0
        · have hm1 : (max st.ps.length 1 : Nat) = 1 := by omega
          simp (disch := first | with_reducible assumption | omega) only [push_cast, x_blk, x_cd, ↓reduceIte, Nat.reduceEqDiff, List.map_cons, List.map_nil, Int.reduceEq, Int.lt_irrefl, fr, hlr, c0, eq_self]
          refine sto_cell W15.blk (by kernel_rfl) 0 (by simp) _ _ ?_
          intro w16 k16 g16 z16
          have W16 := W15.sto (w1 := w16) hz15 (d' := ⟨d.As, d.cs, O, co, d.Ae, d.ce⟩) (dm' := ⟨(1 : Nat), ma.events, S, sortA st.ar, []⟩) k16 g16 ⟨rfl, rfl, rfl⟩ ⟨rfl, rfl, rfl⟩ ⟨rfl, rfl, rfl⟩
          exact hE _ _ ⟨(by simp only [push_cast, ↓reduceIte, Nat.reduceEqDiff, true_and, and_true, and_self, eq_self, fr]), by rw [hm1]; exact W16⟩
        · have hm1 : (max st.ps.length 1 : Nat) = st.ps.length := by omega
          simp (disch := first | with_reducible assumption | omega) only [push_cast, x_blk, x_cd, ↓reduceIte, Nat.reduceEqDiff, List.map_cons, List.map_nil, Int.reduceEq, Int.lt_irrefl, fr, hlr, c0]
          exact hE _ _ ⟨(by simp only [push_cast, ↓reduceIte, Nat.reduceEqDiff, true_and, and_true, and_self, eq_self, fr]), by rw [hm1]; exact W15⟩
      clear W15 fr hz15
      rintro f w16 ⟨fr, W⟩
      have hzB : Bz ≤ w16.heap.size := by have := W.bel.size; omega
      simp (disch := first | with_reducible assumption | omega) only [push_cast, x_blk, x_cd, ↓reduceIte, Nat.reduceEqDiff, List.map_cons, List.map_nil, Int.reduceEq, Int.lt_irrefl, fr]
      refine loop_rule (fun f w' => ∃ (n : Nat) (A5 : Option Addr) (c5 : Nat), n ≤ st.ps.length ∧ ((f 2 = .slice A1 ofA.length c1 ∧ f 3 = .slice A2 ofB.length c2 ∧ f 4 = .pointer (some ⟨w.heap.size, 0, none⟩) ∧ f 5 = .pointer (some ⟨w.heap.size + 1, 0, none⟩) ∧ f 8 = .pointer (some ⟨w.heap.size + 2, 0, none⟩) ∧ f 11 = .pointer (some ⟨w.heap.size + 3, 0, none⟩) ∧ f 12 = .pointer (some ⟨Bz, 0, none⟩)) ∧ f 10 = .int .i64 0 ∧ f 13 = .slice P hs.length cp ∧ f 24 = .int .i64 n) ∧
          R4W Bz w7 w' Bz ⟨d.As, d.cs, O, co, A5, c5⟩ ⟨(max st.ps.length 1 : Nat), ma.events, S, sortA st.ar, endK ma mb st.ps n⟩ P cp hs A3 c3 st.ar)
        (fun f _ => st.ps.length - (intOf (f 24)).toNat) ⟨0, d.Ae, d.ce, Nat.zero_le _, (by simp only [push_cast, ↓reduceIte, Nat.reduceEqDiff, true_and, and_true, and_self, eq_self, fr]), W⟩ ?_
      clear W fr hzB
      rintro f w17 ⟨n, A5, c5, hn, fr, W⟩ J2 hJ2
      have hzB : Bz ≤ w17.heap.size := by have := W.bel.size; omega
      by_cases hnl : n < st.ps.length
      case neg =>
        obtain rfl : n = st.ps.length := by omega
        have k3' := k3.below W.bel (by omega)
        simp (disch := first | with_reducible assumption | omega) only [push_cast, x_blk, x_cd, ↓reduceIte, Nat.reduceEqDiff, List.map_cons, List.map_nil, Int.reduceEq, Int.lt_irrefl, L_ref4_Beside_0, fr, hlr, Nat.lt_irrefl, Int.lt_irrefl, W.blk.mA ty_ag_25 ty_sz_25]
        refine sto_mach k3' rfl _ _ ?_
        intro w18 k18 g18 z18
        simp (disch := first | with_reducible assumption | omega) only [push_cast, x_blk, x_cd, ↓reduceIte, Nat.reduceEqDiff, List.map_cons, List.map_nil, Int.reduceEq, Int.lt_irrefl, fr]
        have kp : ∀ x, Bz ≤ x ∧ x < w17.heap.size → w18.heap[x]? = w17.heap[x]? ∧ x < w18.heap.size := fun x hx => ⟨g18.by_.block x hx.2 (by have := hx.1; simp; omega), by omega⟩
        have hbA : Below w.heap.size w w18 := g18.below (bb.trans (W.bel.mono (by omega))) (by have := W.bel.size; omega) (by intro a ha; injection ha with ha; subst ha; show w.heap.size ≤ w.heap.size + 2; omega)
        have i1' := (((OwnI.ints W.st).both (OwnI.ints W.st).lt).mono fun x hx => (⟨hx.1.1, hx.2⟩ : Bz ≤ x ∧ x < w17.heap.size)).keep' kp
        have i2' := (((OwnI.ints W.es).both (OwnI.ints W.es).lt).mono fun x hx => (⟨hx.1.1, hx.2⟩ : Bz ≤ x ∧ x < w17.heap.size)).keep' kp
        have i3' := (Arrs.of_recs (((OwnR.recs W.so arrEnc (by decide)).both (Recs.lt arrEnc (by decide) (OwnR.recs W.so arrEnc (by decide)))).mono fun x hx => (⟨hx.1.1, hx.2⟩ : Bz ≤ x ∧ x < w17.heap.size))).keep' kp
        have i4' := (((OwnR.recs W.nm hdEnc (by decide)).both (Recs.lt hdEnc (by decide) (OwnR.recs W.nm hdEnc (by decide)))).mono fun x hx => (⟨hx.1.1, hx.2⟩ : Bz ≤ x ∧ x < w17.heap.size)).keep' kp
        have i5' : RowsAt (· < w18.heap.size) w18 hs := rx_lt (rx_keep W.rows (KeepT.grewB (es := [3]) k3' (Nat.zero_le _) (by decide) g18))
        refine fin_c3 k18 ty_ag_25 (e5 _ _) (by simp only [push_cast, ↓reduceIte, Nat.reduceEqDiff, Int.reduceEq, fr]) (hQ _ _ ⟨⟨d.As, d.cs, O, co, A5, c5⟩, ⟨(max st.ps.length 1 : Nat), ma.events, S, sortA st.ar, endK ma mb st.ps st.ps.length⟩, P, cp, hs, 0, (by simp only [push_cast, ↓reduceIte, Nat.reduceEqDiff, Int.reduceEq, fr, hlr]), ⟨i1', i3', i2'⟩, i4', i5', hbA, .inr (.inr (.inr (.inr ⟨⟨p1, p2⟩, p3, hrow, st, hstep, ?_, hv, rfl⟩)))⟩)
        rw [endK_all, ← hSg]; rfl
      have hnl' : n < hs.length := by omega
      obtain ⟨h, hh⟩ : ∃ h, hs[n]? = some h := ⟨_, List.getElem?_eq_getElem hnl'⟩
      obtain ⟨q, hq, hql⟩ := rows_at hv hh
      have hqd : st.ps.getD n default = q := by rw [List.getD_eq_getElem?_getD, hq]; rfl
      have hen := endK_succ ma mb st.ps n
      rw [hqd] at hen
      have hel := endK_len ma mb st.ps n
      have dd : Same w17 w17.drew := (Same.refl w17).drew
      replace W := W.below (dd.below _) hzB
      generalize hud : w17.drew = u at *
      have hzu : Bz ≤ u.heap.size := by rw [← hud]; exact hzB
      have k1u := k1.below W.bel (by omega)
      have k2u := k2.below W.bel (by omega)
      have rps := OwnR.recs W.nm hdEnc (by decide)
      have hAp := rps.isSome (by omega)
      have lr0 := fun {K : Fr → World → Prop} {f : Fr} {d : Option Nat} {w : World} => rps.ld0 (P := Tryd.prog) (K := K) (f := f) (d := d) (w := w) ty_ag_22 hh rfl
      simp only [Nat.mul_one] at lr0
      have hI := W.rows h (List.mem_of_getElem? hh)
      rw [hql] at hI lr0
      have hAh := hI.isSome (show 0 < 2 by decide)
      have q0 : ∀ {K : Fr → World → Prop} {f : Fr} {d : Option Nat} {w : World}, Val1 Tryd.prog K (Instr.loadAt 3 (.pointer (some (eA h.A 0)))) u f d w = K (updO f d (.int .i64 q.1)) w := fun {K f d w} => hI.ld ty_ag_3 0 (show 0 < 2 by decide)
      have q1 : ∀ {K : Fr → World → Prop} {f : Fr} {d : Option Nat} {w : World}, Val1 Tryd.prog K (Instr.loadAt 3 (.pointer (some (eA h.A 1)))) u f d w = K (updO f d (.int .i64 q.2)) w := fun {K f d w} => hI.ld ty_ag_3 1 (show 1 < 2 by decide)
      have hl2 : (prL q).length = 2 := rfl
      simp (disch := first | with_reducible assumption | omega) only [push_cast, x_blk, x_cd, ↓reduceIte, Nat.reduceEqDiff, List.map_cons, List.map_nil, Int.reduceEq, Int.lt_irrefl, L_ref4_Beside_0, fr, hlr, hnl, hnl', hud, k1u.m4 ty_ag_22, hAp, lr0, hAh, hl2, q0, Nat.zero_mul, Int.toNat_zero, Int.toNat_one, Nat.one_mul, Nat.reduceMul, Nat.reduceLT, Int.reduceLT, Int.reduceLE, Int.reduceToNat]
      refine call_of (ref1_Has (ha7.below W.bel).ends a.ce q.1 (by omega)) ?_
      rintro r w18 ⟨rfl, s18⟩
      have W8 := W.below (s18.below _) hzu
      by_cases c1 : q.1 ∈ ma.ends
      case neg =>
        rw [if_neg (fun h => c1 h.1), List.append_nil] at hen
        simp (disch := first | with_reducible assumption | omega) only [push_cast, x_blk, x_cd, ↓reduceIte, Nat.reduceEqDiff, List.map_cons, List.map_nil, Int.reduceEq, Int.lt_irrefl, fr, decide_eq_false c1]
        refine ⟨s18.below _, s18.below _, ?_⟩
        exact hJ2 _ _ ⟨n + 1, A5, c5, hnl, (by simp only [push_cast, ↓reduceIte, Nat.reduceEqDiff, true_and, and_true, and_self, eq_self, fr]), by rw [hen]; exact W8⟩ (by simp only [push_cast, ↓reduceIte, Nat.reduceEqDiff, intOf, fr]; omega)
      simp (disch := first | with_reducible assumption | omega) only [push_cast, x_blk, x_cd, ↓reduceIte, Nat.reduceEqDiff, List.map_cons, List.map_nil, Int.reduceEq, Int.lt_irrefl, fr, decide_eq_true c1, hlr, hnl, hnl', k2u.m4 ty_ag_22, hAp, lr0, hAh, hl2, q1, Nat.zero_mul, Int.toNat_zero, Int.toNat_one, Nat.one_mul, Nat.reduceMul, Nat.reduceLT, Int.reduceLT, Int.reduceLE, Int.reduceToNat]
      refine ⟨s18.below _, ?_⟩
      refine call_of (ref1_Has (hb7.below W8.bel).ends b.ce q.2 (by omega)) ?_
      rintro r w19 ⟨rfl, s19⟩
      have hz18 : Bz ≤ w18.heap.size := by rw [s18.heap]; exact hzu
      have W9 := W8.below (s19.below _) hz18
      have hz19 : Bz ≤ w19.heap.size := by rw [s19.heap]; exact hz18
      have s1819 := s18.trans s19
      by_cases c2 : q.2 ∈ mb.ends
      case neg =>
        rw [if_neg (fun h => c2 h.2), List.append_nil] at hen
        simp (disch := first | with_reducible assumption | omega) only [push_cast, x_blk, x_cd, ↓reduceIte, Nat.reduceEqDiff, List.map_cons, List.map_nil, Int.reduceEq, Int.lt_irrefl, fr, decide_eq_false c2]
        refine ⟨s1819.below _, ?_⟩
        exact hJ2 _ _ ⟨n + 1, A5, c5, hnl, (by simp only [push_cast, ↓reduceIte, Nat.reduceEqDiff, true_and, and_true, and_self, eq_self, fr]), by rw [hen]; exact W9⟩ (by simp only [push_cast, ↓reduceIte, Nat.reduceEqDiff, intOf, fr]; omega)
      rw [if_pos ⟨c1, c2⟩] at hen
      have le4 : ∀ {K : Fr → World → Prop} {f : Fr} {d' : Option Nat} {w : World}, Val1 Tryd.prog K (Instr.loadAt 22 (.pointer (some ⟨Bz, 4, none⟩))) w19 f d' w = K (updO f d' (.slice A5 (endK ma mb st.ps n).length c5)) w := fun {K f d' w} => W9.blk.m4 ty_ag_22
      simp (disch := first | with_reducible assumption | omega) only [push_cast, x_blk, x_cd, ↓reduceIte, Nat.reduceEqDiff, List.map_cons, List.map_nil, Int.reduceEq, Int.lt_irrefl, fr, decide_eq_true c2, le4, bs_22]
      refine ⟨s1819.below _, ?_⟩
      refine app_int slT_22 W9.es (n : Int) (by show (endK ma mb st.ps n).length + 1 ≤ _; omega) hz19 ?_
      intro A5' c5' w20 o20 g20 hA20 hs20 z20
      have k20 := W9.blk.grown g20.by_ (fun e => W9.es.ne_blk W9.blk (by decide) e.symm)
      simp (disch := first | with_reducible assumption | omega) only [push_cast, x_blk, x_cd, ↓reduceIte, Nat.reduceEqDiff, List.map_cons, List.map_nil, Int.reduceEq, Int.lt_irrefl, fr]
      refine sto_slice k20 (by kernel_rfl) 4 (by simp) _ _ _ ?_
      intro w21 k21 g21 z21
      have k21' : Blk w21 Bz 25 ((⟨d.As, d.cs, O, co, A5', c5'⟩ : MV).cells ⟨(max st.ps.length 1 : Nat), ma.events, S, sortA st.ar, endK ma mb st.ps n ++ [(n : Int)]⟩) := by
        have k := k21
        simp only [MV.cells, List.length_append, List.length_cons, List.length_nil, Nat.zero_add] at k ⊢
        exact k
      have W21 := W9.end_ hz19 o20 g20 hA20 k21' g21
      simp (disch := first | with_reducible assumption | omega) only [push_cast, x_blk, x_cd, ↓reduceIte, Nat.reduceEqDiff, List.map_cons, List.map_nil, Int.reduceEq, Int.lt_irrefl, fr]
      exact hJ2 _ _ ⟨n + 1, A5', c5', hnl, (by simp only [push_cast, ↓reduceIte, Nat.reduceEqDiff, true_and, and_true, and_self, eq_self, fr]), by rw [hen]; exact W21⟩ (by simp only [push_cast, ↓reduceIte, Nat.reduceEqDiff, intOf, fr]; omega)
    rw [if_pos hkl] at hstep
    have hk0 : k < 256 := by
      rcases hOk with h | h
      · have := h.1; omega
      · omega
    have hT4 : st.ar.length ≤ 4096 := by
      rcases hOk with h | h
      · exact h.2
      · rw [h.2]; simp
    obtain ⟨p, hp⟩ : ∃ p, st.ps[k]? = some p := ⟨_, List.getElem?_eq_getElem hkl⟩
    have hpd : st.ps.getD k default = p := by rw [List.getD_eq_getElem?_getD, hp]; rfl
    have hpin := hF.in_ hkl
    rw [hpd] at hpin
    have hmid := fun (j : Nat) {L : List Pr} => hF.mid (L := L) p1 p2 hkl j
    rw [hpd] at hmid
    have hArl0 : ∀ {j : Nat} {L : List Pr} {sm : FSt}, j ≤ 8 → FM ma mb ofA ofB k T st j L sm → L.length ≤ 65536 → sm.ar.length ≤ 1000000 := fun {j L sm} hj hM hL => hM.arLen hF p1 p2 hkl hT4 hL hj
    have hN := hF.next p1 p2 hkl
    simp (disch := first | with_reducible assumption | omega) only [push_cast, x_blk, x_cd, ↓reduceIte, Nat.reduceEqDiff, List.map_cons, List.map_nil, Int.reduceEq, Int.lt_irrefl, L_ref4_Beside_3, fr, hlr, hkl]
    refine loop_rule (fun f w' => ∃ (j : Nat) (P : Option Addr) (cp : Nat) (hs : List Hd) (A3 : Option Addr) (c3 : Nat), j ≤ ma.events.toNat ∧ ((f 2 = .slice A1 ofA.length c1 ∧ f 3 = .slice A2 ofB.length c2 ∧ f 4 = .pointer (some ⟨w.heap.size, 0, none⟩) ∧ f 5 = .pointer (some ⟨w.heap.size + 1, 0, none⟩) ∧ f 8 = .pointer (some ⟨w.heap.size + 2, 0, none⟩) ∧ f 11 = .pointer (some ⟨w.heap.size + 3, 0, none⟩) ∧ f 12 = .pointer (some ⟨Bz, 0, none⟩)) ∧ f 10 = .int .i64 0 ∧ f 13 = .slice P hs.length cp ∧ f 16 = .slice A3 (bsMid ma mb ofA ofB k st j []).ar.length c3 ∧ f 17 = .int .i64 k ∧ f 18 = .int .i64 j) ∧
        hs.map (·.l) = (bsMid ma mb ofA ofB k st j []).ps.map prL ∧
        R4W Bz w7 w' Bz d ⟨0, ma.events, S, [], []⟩ P cp hs A3 c3 (bsMid ma mb ofA ofB k st j []).ar)
      (fun f _ => ma.events.toNat - (intOf (f 18)).toNat) ⟨0, P, cp, hs, A3, c3, Nat.zero_le _, (by simp only [push_cast, ↓reduceIte, Nat.reduceEqDiff, true_and, and_true, and_self, eq_self, fr, bsMid_zero]), hv, W⟩ ?_
    clear W hzB fr hv hlr hF hmuK
    rintro f w12 ⟨j, P, cp, hs, A3, c3, hj, fr, hv, W⟩ J2 hJ2
    have hzB : Bz ≤ w12.heap.size := by have := W.bel.size; omega
    have k1' := k1.below W.bel (by omega)
    by_cases hjl : (j : Int) < ma.events
    case neg =>
      obtain rfl : j = ma.events.toNat := by omega
      rw [bsMid_end] at W hv
      rw [bsMid_end] at fr
      have hlr := rows_len hv
      have k3' := k3.below W.bel (by omega)
      have k4' := k4.below W.bel (by omega)
      by_cases d1 : (bsK ma mb ofA ofB k st).ps.length ≤ 256
      · have d1' : ¬ ((256 : Int) < ((bsK ma mb ofA ofB k st).ps.length : Int)) := by omega
        by_cases d2 : (bsK ma mb ofA ofB k st).ar.length ≤ 4096
        · have d2' : ¬ ((4096 : Int) < ((bsK ma mb ofA ofB k st).ar.length : Int)) := by omega
          rw [if_pos ⟨d1, d2⟩] at hstep
          simp (disch := first | with_reducible assumption | omega) only [push_cast, x_blk, x_cd, ↓reduceIte, Nat.reduceEqDiff, List.map_cons, List.map_nil, Int.reduceEq, Int.lt_irrefl, L_ref4_Beside_2, fr, hlr, hjl, k1'.m1 ty_ag_3, d1', d2', decide_false]
          exact hJ _ _ ⟨k + 1, d, P, cp, hs, A3, c3, _, _, by omega, (by simp only [push_cast, ↓reduceIte, Nat.reduceEqDiff, true_and, and_true, and_self, eq_self, fr]), hv, hN, .inl ⟨d1, d2⟩, hstep.symm, W⟩ (by simp only [push_cast, ↓reduceIte, Nat.reduceEqDiff, intOf, fr]; omega)
        · have d2' : ((4096 : Int) < ((bsK ma mb ofA ofB k st).ar.length : Int)) := by omega
          rw [if_neg (fun h => d2 h.2)] at hstep
          simp (disch := first | with_reducible assumption | omega) only [push_cast, x_blk, x_cd, ↓reduceIte, Nat.reduceEqDiff, List.map_cons, List.map_nil, Int.reduceEq, Int.lt_irrefl, L_ref4_Beside_2, fr, hlr, hjl, k1'.m1 ty_ag_3, d1', d2', decide_false, decide_true, k4'.mA ty_ag_25 ty_sz_25]
          refine sto_blk k3' (cs := mv0.cells mach0) (e5 _ _) rfl (by rfl) ?_
          intro w19 k19 g19 z19
          simp (disch := first | with_reducible assumption | omega) only [push_cast, x_blk, x_cd, ↓reduceIte, Nat.reduceEqDiff, List.map_cons, List.map_nil, Int.reduceEq, Int.lt_irrefl, fr]
          have hbA : Below w.heap.size w w19 := g19.below (bb.trans (W.bel.mono (by omega))) (by have := W.bel.size; omega) (by intro a ha; injection ha with ha; subst ha; show w.heap.size ≤ w.heap.size + 2; omega)
          exact fin_c3 k19 ty_ag_25 (e5 _ _) (by simp only [push_cast, ↓reduceIte, Nat.reduceEqDiff, Int.reduceEq, fr]) (hQ _ _ ⟨mv0, mach0, none, 0, [], _, (by simp only [push_cast, ↓reduceIte, Nat.reduceEqDiff, Int.reduceEq, List.length_nil]), mach0_is _ _, Recs.nil _ _ _, fun x hx => absurd hx (by simp), hbA, .inr (.inr (.inr (.inl ⟨⟨p1, p2⟩, p3, hrow, hstep, rfl, rfl, rfl⟩)))⟩)
      · have d1' : ((256 : Int) < ((bsK ma mb ofA ofB k st).ps.length : Int)) := by omega
        rw [if_neg (fun h => d1 h.1)] at hstep
        simp (disch := first | with_reducible assumption | omega) only [push_cast, x_blk, x_cd, ↓reduceIte, Nat.reduceEqDiff, List.map_cons, List.map_nil, Int.reduceEq, Int.lt_irrefl, L_ref4_Beside_2, fr, hlr, hjl, k1'.m1 ty_ag_3, d1', decide_true, k4'.mA ty_ag_25 ty_sz_25]
        refine sto_blk k3' (cs := mv0.cells mach0) (e5 _ _) rfl (by rfl) ?_
        intro w19 k19 g19 z19
        simp (disch := first | with_reducible assumption | omega) only [push_cast, x_blk, x_cd, ↓reduceIte, Nat.reduceEqDiff, List.map_cons, List.map_nil, Int.reduceEq, Int.lt_irrefl, fr]
        have hbA : Below w.heap.size w w19 := g19.below (bb.trans (W.bel.mono (by omega))) (by have := W.bel.size; omega) (by intro a ha; injection ha with ha; subst ha; show w.heap.size ≤ w.heap.size + 2; omega)
        exact fin_c3 k19 ty_ag_25 (e5 _ _) (by simp only [push_cast, ↓reduceIte, Nat.reduceEqDiff, Int.reduceEq, fr]) (hQ _ _ ⟨mv0, mach0, none, 0, [], _, (by simp only [push_cast, ↓reduceIte, Nat.reduceEqDiff, Int.reduceEq, List.length_nil]), mach0_is _ _, Recs.nil _ _ _, fun x hx => absurd hx (by simp), hbA, .inr (.inr (.inr (.inl ⟨⟨p1, p2⟩, p3, hrow, hstep, rfl, rfl, rfl⟩)))⟩)
    have hjn : j < ma.events.toNat := by omega
    simp (disch := first | with_reducible assumption | omega) only [push_cast, x_blk, x_cd, ↓reduceIte, Nat.reduceEqDiff, List.map_cons, List.map_nil, Int.reduceEq, Int.lt_irrefl, L_ref4_Beside_2, fr, hjl, k1'.m1 ty_ag_3]
    refine call_of (ref1_Has (i1.below W.bel) c1 (j : Int) (by omega)) ?_
    rintro r w13 ⟨rfl, s13⟩
    replace W := W.below (s13.below _) hzB
    have hzB1 : Bz ≤ w13.heap.size := by rw [s13.heap]; exact hzB
    simp (disch := first | with_reducible assumption | omega) only [push_cast, x_blk, x_cd, ↓reduceIte, Nat.reduceEqDiff, List.map_cons, List.map_nil, Int.reduceEq, Int.lt_irrefl, fr]
    refine call_of (ref1_Has (i2.below W.bel) c2 (j : Int) (by omega)) ?_
    rintro r w14 ⟨rfl, s14⟩
    replace W := W.below (s14.below _) hzB1
    have hzB2 : Bz ≤ w14.heap.size := by rw [s14.heap]; exact hzB1
    have dd : Same w14 w14.drew := (Same.refl w14).drew
    replace W := W.below (dd.below _) hzB2
    generalize hud : w14.drew = u at *
    have hzu : Bz ≤ u.heap.size := by rw [← hud]; exact hzB2
    have hmuJ : ma.events.toNat - (intOf (f 18)).toNat = ma.events.toNat - j := by rw [fr.2.2.2.2.2]; simp [intOf]
    rw [hmuJ] at hJ2
    have hnx := bsMid_next (a := ma) (b := mb) (ofA := ofA) (ofB := ofB) k st hjn
    rw [hpd] at hnx
    have hmidj := fun {L : List Pr} => hmid j (L := L)
    have hArl := fun {L : List Pr} {sm : FSt} => hArl0 (j := j) (L := L) (sm := sm) (by omega)
    have hM0 := hmidj (L := []) (fun q hq => absurd hq (by simp))
    have hlr := rows_len hv
    have hkh : k < hs.length := by have := hM0.pre.length_le; omega
    obtain ⟨h, hh⟩ : ∃ h, hs[k]? = some h := ⟨_, List.getElem?_eq_getElem hkh⟩
    have hql : h.l = prL p := by
      obtain ⟨q, hq, hql⟩ := rows_at hv hh
      rw [prefix_getElem? hM0.pre hkl, hp] at hq
      injection hq with hq
      rw [hql, hq]
    have k1u := k1.below W.bel (by omega)
    have k2u := k2.below W.bel (by omega)
    have rps := OwnR.recs W.nm hdEnc (by decide)
    have hAp := rps.isSome (by omega)
    have lr0 := fun {K : Fr → World → Prop} {f : Fr} {d : Option Nat} {w : World} => rps.ld0 (P := Tryd.prog) (K := K) (f := f) (d := d) (w := w) ty_ag_22 hh rfl
    simp only [Nat.mul_one] at lr0
    have hI := (rx_lt W.rows) h (List.mem_of_getElem? hh)
    rw [hql] at hI lr0
    have hkh' : (k : Int) < (hs.length : Int) := by omega
    simp (disch := first | with_reducible assumption | omega) only [push_cast, x_blk, x_cd, ↓reduceIte, Nat.reduceEqDiff, List.map_cons, List.map_nil, Int.reduceEq, Int.lt_irrefl, fr, hud, hkh, hkh', k1u.mA ty_ag_25 ty_sz_25, k2u.mA ty_ag_25 ty_sz_25, hAp, lr0]
    refine call_of (ref4_leads (IsM.lt' (ha7.below W.bel) hzu) hfa p1 (IsM.lt' (hb7.below W.bel) hzu) hfb p2 hpin hI (j : Int) _ _) ?_
    rintro r w15 ⟨R, cr, lh, rfl, oR, rR, hvR, b15⟩
    have hlds : (if (decide ((j : Int) ∈ ofA) || decide ((j : Int) ∈ ofB)) = true then (bsTo ma p.1 (j : Int) (decide ((j : Int) ∈ ofA))).flatMap fun s => (bsTo mb p.2 (j : Int) (decide ((j : Int) ∈ ofB))).map fun t => ((s, t) : Pr) else []) = bsLds ma mb ofA ofB p (j : Int) := by
      unfold bsLds
      by_cases ho : (j : Int) ∈ ofA ∨ (j : Int) ∈ ofB
      · rw [if_pos ho, if_pos (by simpa using ho)]
      · rw [if_neg ho, if_neg (by simpa using ho)]
    rw [hlds] at hvR
    have hldsl := bsLds_len (ofA := ofA) (ofB := ofB) (e := (j : Int)) p1 p2 hpin
    have hX : ∀ x, u.heap.size ≤ x → some x ≠ d.As.map (·.block) := fun x hx e => by have := W.st.ltB e; omega
    have hY : ∀ x, u.heap.size ≤ x → some x ≠ d.Ae.map (·.block) := fun x hx e => by have := W.es.ltB e; omega
    have hfar : R = none ∨ R.map (·.block) ≠ P.map (·.block) := by
      cases R with
      | none => exact .inl rfl
      | some a =>
        refine .inr fun e => ?_
        have h2 := W.nm.ltB (b := a.block) e
        have h3 := oR.geB a rfl
        omega
    replace W := W.below b15 hzu
    have hzB3 : Bz ≤ w15.heap.size := by have := b15.size; omega
    replace oR := oR.base hzu
    have hlR := rows_len hvR
    have hBc : Bz ≤ u.heap.size := hzu
    generalize u.heap.size = Bc at *
    clear s13 s14 dd hI lr0 hAp rps k1u k2u hql hh hkh hkh' hM0 k1' hlds hzB hzB1 hzB2 b15
    generalize hL : bsLds ma mb ofA ofB p (j : Int) = L at *
    have hLin : ∀ q ∈ L, q ∈ bsLds ma mb ofA ofB p (j : Int) := fun q hq => by rw [hL]; exact hq
    simp (disch := first | with_reducible assumption | omega) only [push_cast, x_blk, x_cd, ↓reduceIte, Nat.reduceEqDiff, List.map_cons, List.map_nil, Int.reduceEq, Int.lt_irrefl, fr]
    refine loop_rule (fun f w' => ∃ (n : Nat) (P : Option Addr) (cp : Nat) (hs : List Hd) (A3 : Option Addr) (c3 : Nat), n ≤ lh.length ∧ ((f 2 = .slice A1 ofA.length c1 ∧ f 3 = .slice A2 ofB.length c2 ∧ f 4 = .pointer (some ⟨w.heap.size, 0, none⟩) ∧ f 5 = .pointer (some ⟨w.heap.size + 1, 0, none⟩) ∧ f 8 = .pointer (some ⟨w.heap.size + 2, 0, none⟩) ∧ f 11 = .pointer (some ⟨w.heap.size + 3, 0, none⟩) ∧ f 12 = .pointer (some ⟨Bz, 0, none⟩)) ∧ f 10 = .int .i64 0 ∧ f 13 = .slice P hs.length cp ∧ f 16 = .slice A3 (bsMid ma mb ofA ofB k st j (L.take n)).ar.length c3 ∧ f 17 = .int .i64 k ∧ f 18 = .int .i64 j ∧ f 21 = .slice R lh.length cr ∧ f 22 = .int .i64 n) ∧
        hs.map (·.l) = (bsMid ma mb ofA ofB k st j (L.take n)).ps.map prL ∧
        R4W Bz w7 w' Bz d ⟨0, ma.events, S, [], []⟩ P cp hs A3 c3 (bsMid ma mb ofA ofB k st j (L.take n)).ar ∧ OwnR Hd.cells Bz 22 1 w' R cr lh ∧ (R = none ∨ R.map (·.block) ≠ P.map (·.block)) ∧ RowsAt (FrB Bc w') w' lh)
      (fun f _ => lh.length - (intOf (f 22)).toNat) ⟨0, P, cp, hs, A3, c3, Nat.zero_le _, (by simp only [push_cast, ↓reduceIte, Nat.reduceEqDiff, true_and, and_true, and_self, eq_self, fr, List.take_zero]), by rw [List.take_zero]; exact hv, by rw [List.take_zero]; exact W, oR, hfar, rR⟩ ?_
    clear W fr hv hlr hzB3 oR hfar rR hmuJ
    rintro f w12 ⟨n, P, cp, hs, A3, c3, hn, fr, hv, W, oR, hfar, rR⟩ J3 hJ3
    have hzB : Bz ≤ w12.heap.size := by have := W.bel.size; omega
    by_cases hnl : n < lh.length
    case neg =>
      obtain rfl : n = lh.length := by omega
      have htk : L.take lh.length = L := by rw [hlR]; exact List.take_length
      rw [htk, hnx] at W hv
      rw [htk, hnx] at fr
      simp (disch := first | with_reducible assumption | omega) only [push_cast, x_blk, x_cd, ↓reduceIte, Nat.reduceEqDiff, List.map_cons, List.map_nil, Int.reduceEq, Int.lt_irrefl, L_ref4_Beside_1, fr, Nat.lt_irrefl, Int.lt_irrefl]
      exact hJ2 _ _ ⟨j + 1, P, cp, hs, A3, c3, hjn, (by simp only [push_cast, ↓reduceIte, Nat.reduceEqDiff, true_and, and_true, and_self, eq_self, fr]), hv, W⟩ (by simp only [push_cast, ↓reduceIte, Nat.reduceEqDiff, intOf, fr]; omega)
    have dd : Same w12 w12.drew := (Same.refl w12).drew
    replace W := W.below (dd.below _) hzB
    replace oR := oR.same dd
    replace rR := frb_keep rR (KeepT.same dd)
    generalize hud2 : w12.drew = u2 at *
    have hzu2 : Bz ≤ u2.heap.size := by rw [← hud2]; exact hzB
    obtain ⟨y, hy⟩ : ∃ y, lh[n]? = some y := ⟨_, List.getElem?_eq_getElem hnl⟩
    obtain ⟨q, hq, hyl⟩ := rows_at hvR hy
    have hnL : n < L.length := by omega
    have hqd : L.getD n default = q := by rw [List.getD_eq_getElem?_getD, hq]; rfl
    have htk : L.take (n + 1) = L.take n ++ [q] := by rw [take_snoc L default n hnL, hqd]
    have hqL : q ∈ L := List.mem_of_getElem? hq
    have hM := hmidj (L := L.take n) (fun x hx => List.mem_of_mem_take hx)
    have hsn := bsMid_snoc (a := ma) (b := mb) (ofA := ofA) (ofB := ofB) k st j (L.take n) q
    rw [← htk] at hsn
    have hl1 := hM.psLen p1 p2
    have hl2 : (bsMid ma mb ofA ofB k st j (L.take n)).ar.length ≤ 1000000 := hArl hM (by have := List.length_take_le n L; omega)
    generalize bsMid ma mb ofA ofB k st j (L.take n) = sm at *
    have hlr := rows_len hv
    have rrs := OwnR.recs oR hdEnc (by decide)
    have hAr := rrs.isSome (by omega)
    have lr0 := fun {w' : World} (o : OwnR Hd.cells Bz 22 1 w' R cr lh) {K : Fr → World → Prop} {f : Fr} {d : Option Nat} {w : World} => (OwnR.recs o hdEnc (by decide)).ld0 (P := Tryd.prog) (K := K) (f := f) (d := d) (w := w) ty_ag_22 hy rfl
    simp only [Nat.mul_one] at lr0
    have hI := rR y (List.mem_of_getElem? hy)
    rw [hyl] at hI lr0
    have hAy := hI.isSome (show 0 < 2 by decide)
    have q0 : ∀ {K : Fr → World → Prop} {f : Fr} {d : Option Nat} {w : World}, Val1 Tryd.prog K (Instr.loadAt 3 (.pointer (some (eA y.A 0)))) u2 f d w = K (updO f d (.int .i64 q.1)) w := fun {K f d w} => hI.ld ty_ag_3 0 (show 0 < 2 by decide)
    have q1 : ∀ {K : Fr → World → Prop} {f : Fr} {d : Option Nat} {w : World}, Val1 Tryd.prog K (Instr.loadAt 3 (.pointer (some (eA y.A 1)))) u2 f d w = K (updO f d (.int .i64 q.2)) w := fun {K f d w} => hI.ld ty_ag_3 1 (show 1 < 2 by decide)
    have hl2q : (prL q).length = 2 := rfl
    have hnl' : (n : Int) < (lh.length : Int) := by omega
    simp (disch := first | with_reducible assumption | omega) only [push_cast, x_blk, x_cd, ↓reduceIte, Nat.reduceEqDiff, List.map_cons, List.map_nil, Int.reduceEq, Int.lt_irrefl, L_ref4_Beside_1, fr, hud2, hnl, hnl', hAr, lr0 oR, hAy, hl2q, q0, q1, Nat.zero_mul, Int.toNat_zero, Int.toNat_one, Nat.one_mul, Nat.reduceMul, Nat.reduceLT, Int.reduceLT, Int.reduceLE, Int.reduceToNat]
    refine call_of (ref4_find (Recs.lt hdEnc (by decide) (OwnR.recs W.nm hdEnc (by decide))) (rx_lt W.rows) hv (by omega) q) ?_
    rintro r w13 ⟨rfl, s13⟩
    replace W := W.below (s13.below _) hzu2
    replace oR := oR.same s13
    replace rR := frb_keep rR (KeepT.same s13)
    have hz13 : Bz ≤ w13.heap.size := by rw [s13.heap]; exact hzu2
    clear hI q0 q1 rrs dd s13
    by_cases hqp : q ∈ sm.ps
    · have hfl := fnd_lt hqp
      have hst : bsMid ma mb ofA ofB k st j (L.take (n + 1)) = ⟨sm.ps, sm.ar ++ [⟨k, j, (fnd q sm.ps : Nat)⟩]⟩ := by rw [hsn]; unfold bsPut; rw [if_pos hqp]
      have hne : ¬ ((fnd q sm.ps : Nat) : Int) = (sm.ps.length : Int) := by omega
      simp (disch := first | with_reducible assumption | omega) only [push_cast, x_blk, x_cd, ↓reduceIte, Nat.reduceEqDiff, List.map_cons, List.map_nil, Int.reduceEq, Int.lt_irrefl, fr, hlr, hne, bl_arrow, bs_rec arrEnc slT_23 _ (by decide)]
      refine app_rec arrEnc slT_23 W.ar (⟨(k : Int), (j : Int), (fnd q sm.ps : Nat)⟩ : Arr) (by omega) (by omega) hz13 ?_
      intro A' c' w15 o15 g15 hA15 hs15 z15
      have W15 := W.arr hz13 o15 g15 hA15
      have kt : KeepT [3] 0 w13 w15 := KeepT.grew W.ar (Nat.zero_le _) (by decide) g15
      have oR15 := oR.grew g15 (own_far oR W.ar (by decide))
      simp (disch := first | with_reducible assumption | omega) only [push_cast, x_blk, x_cd, ↓reduceIte, Nat.reduceEqDiff, List.map_cons, List.map_nil, Int.reduceEq, Int.lt_irrefl, fr]
      exact hJ3 _ _ ⟨n + 1, P, cp, hs, A', c', hnl, (by simp only [push_cast, ↓reduceIte, Nat.reduceEqDiff, true_and, and_true, and_self, eq_self, fr, hst, List.length_append, List.length_cons, List.length_nil]), by rw [hst]; exact hv, by rw [hst]; exact W15, oR15, hfar, frb_keep rR kt⟩ (by simp only [push_cast, ↓reduceIte, Nat.reduceEqDiff, intOf, fr]; omega)
    · have hfn := fnd_none hqp
      have hst : bsMid ma mb ofA ofB k st j (L.take (n + 1)) = ⟨sm.ps ++ [q], sm.ar ++ [⟨k, j, (fnd q sm.ps : Nat)⟩]⟩ := by rw [hsn]; unfold bsPut; rw [if_neg hqp]
      have hyc : (Value.slice y.A (prL q).length y.c) = .slice y.A y.l.length y.c := by rw [hyl]
      simp (disch := first | with_reducible assumption | omega) only [push_cast, x_blk, x_cd, ↓reduceIte, Nat.reduceEqDiff, List.map_cons, List.map_nil, Int.reduceEq, Int.lt_irrefl, fr, hlr, hfn, eq_self, hnl, hnl', hAr, lr0 oR, bs_44, hyc]
      refine app_rec' hdEnc slT_44 hlr W.nm y (by omega) (by omega) hz13 ?_
      intro P' cp' w14 o14 g14 hA14 hs14 z14
      have hIy := rR y (List.mem_of_getElem? hy)
      have W14 := W.name hz13 (x := y) (hIy.mono fun x hx => ⟨hx.2, hX x hx.1, hY x hx.1⟩) o14 g14
      have kt1 : KeepT [3] 0 w13 w14 := KeepT.grew W.nm (Nat.zero_le _) (by decide) g14
      have oR14 := oR.grew g14 hfar
      have hfar14 := Own.far oR W.nm hfar hA14
      have hz14 : Bz ≤ w14.heap.size := by omega
      simp (disch := first | with_reducible assumption | omega) only [push_cast, x_blk, x_cd, ↓reduceIte, Nat.reduceEqDiff, List.map_cons, List.map_nil, Int.reduceEq, Int.lt_irrefl, fr, bl_arrow, bs_rec arrEnc slT_23 _ (by decide)]
      rw [← hfn]
      refine app_rec arrEnc slT_23 W14.ar (⟨(k : Int), (j : Int), (fnd q sm.ps : Nat)⟩ : Arr) (by omega) (by omega) hz14 ?_
      intro A' c' w15 o15 g15 hA15 hs15 z15
      have W15 := W14.arr hz14 o15 g15 hA15
      have kt : KeepT [3] 0 w14 w15 := KeepT.grew W14.ar (Nat.zero_le _) (by decide) g15
      have oR15 := oR14.grew g15 (own_far oR14 W14.ar (by decide))
      simp (disch := first | with_reducible assumption | omega) only [push_cast, x_blk, x_cd, ↓reduceIte, Nat.reduceEqDiff, List.map_cons, List.map_nil, Int.reduceEq, Int.lt_irrefl, fr]
      exact hJ3 _ _ ⟨n + 1, P', cp', hs ++ [y], A', c', hnl, (by simp only [push_cast, ↓reduceIte, Nat.reduceEqDiff, true_and, and_true, and_self, eq_self, fr, hst, hlr, hfn, List.length_append, List.length_cons, List.length_nil]), by rw [hst, List.map_append, hv, List.map_append, List.map_singleton, hyl]; rfl, by rw [hst]; exact W15, oR15, hfar14, frb_keep rR (kt1.trans kt)⟩ (by simp only [push_cast, ↓reduceIte, Nat.reduceEqDiff, intOf, fr]; omega)
  simp (disch := first | with_reducible assumption | omega) only [push_cast, x_blk, x_cd, ↓reduceIte, Nat.reduceEqDiff, List.map_cons, List.map_nil, Int.reduceEq, Int.lt_irrefl, L_ref4_Beside_5, fr, hil, k1'.m2 ty_ag_22]
  have hmuI : ma.starts.length - (intOf (f 14)).toNat = ma.starts.length - i := by rw [fr.2.2.2]; simp [intOf]
  rw [hmuI] at hJ
  have hnx := startsK ma mb hil
  have hpx := starts_prefix ma mb hil
  generalize hs0 : ma.starts.getD i 0 = s at *
  generalize hps : ((ma.starts.take i).flatMap fun s => mb.starts.map fun t => ((s, t) : Pr)) = ps at *
  refine loop_rule (fun f w' => ∃ (j : Nat) (d : MV) (P : Option Addr) (cp : Nat) (hs : List Hd), j ≤ mb.starts.length ∧ ((f 2 = .slice A1 ofA.length c1 ∧ f 3 = .slice A2 ofB.length c2 ∧ f 4 = .pointer (some ⟨w.heap.size, 0, none⟩) ∧ f 5 = .pointer (some ⟨w.heap.size + 1, 0, none⟩) ∧ f 8 = .pointer (some ⟨w.heap.size + 2, 0, none⟩) ∧ f 11 = .pointer (some ⟨w.heap.size + 3, 0, none⟩) ∧ f 12 = .pointer (some ⟨Bz, 0, none⟩)) ∧ f 10 = .int .i64 0 ∧ f 13 = .slice P hs.length cp ∧ f 14 = .int .i64 i ∧ f 15 = .int .i64 j) ∧
      hs.map (·.l) = (ps ++ (mb.starts.take j).map fun t => ((s, t) : Pr)).map prL ∧
      R4W Bz w7 w' Bz d ⟨0, ma.events, evs (ps ++ (mb.starts.take j).map fun t => ((s, t) : Pr)).length, [], []⟩ P cp hs none 0 [])
    (fun f _ => mb.starts.length - (intOf (f 15)).toNat) ⟨0, d, P, cp, hs, Nat.zero_le _, (by simp only [push_cast, ↓reduceIte, Nat.reduceEqDiff, true_and, and_true, and_self, eq_self, fr]), by simpa using hv, by simpa using W⟩ ?_
  clear W k1' hv hzB fr hmuI
  rintro f w12 ⟨j, d, P, cp, hs, hj, fr, hv, W⟩ J2 hJ2
  have hzB : Bz ≤ w12.heap.size := by have := W.bel.size; omega
  have k2' := k2.below W.bel (by omega)
  by_cases hjl : j < mb.starts.length
  case neg =>
    obtain rfl : j = mb.starts.length := by omega
    rw [List.take_length, ← hnx] at W hv
    simp (disch := first | with_reducible assumption | omega) only [push_cast, x_blk, x_cd, ↓reduceIte, Nat.reduceEqDiff, List.map_cons, List.map_nil, Int.reduceEq, Int.lt_irrefl, L_ref4_Beside_4, fr, Nat.lt_irrefl, Int.lt_irrefl, k2'.m2 ty_ag_22]
    exact hJ _ _ ⟨i + 1, d, P, cp, hs, hil, (by simp only [push_cast, ↓reduceIte, Nat.reduceEqDiff, true_and, and_true, and_self, eq_self, fr]), hv, W⟩ (by simp only [push_cast, ↓reduceIte, Nat.reduceEqDiff, intOf, fr]; omega)
  have hpj := hpx (j + 1)
  have hplx : ps ++ (mb.starts.take (j + 1)).map (fun t => ((s, t) : Pr)) = (ps ++ (mb.starts.take j).map fun t => ((s, t) : Pr)) ++ [((s, mb.starts.getD j 0) : Pr)] := by rw [take_snoc mb.starts 0 j hjl, List.map_append, ← List.append_assoc]; rfl
  rw [hplx] at hpj
  generalize ht : mb.starts.getD j 0 = t at *
  generalize hpl : ps ++ (mb.starts.take j).map (fun t => ((s, t) : Pr)) = pl at *
  have hlen := hpj.length_le
  rw [List.length_append] at hlen
  have hlr := rows_len hv
  have h1l : [((s, t) : Pr)].length = 1 := rfl
  have lst : ∀ {K : Fr → World → Prop} {f : Fr} {d' : Option Nat} {w : World}, Val1 Tryd.prog K (Instr.loadAt 22 (.pointer (some ⟨Bz, 2, none⟩))) w12 f d' w = K (updO f d' (.slice d.As (evs pl.length).length d.cs)) w := fun {K f d' w} => W.blk.m2 ty_ag_22
  have hel := evs_len pl.length
  simp (disch := first | with_reducible assumption | omega) only [push_cast, x_blk, x_cd, ↓reduceIte, Nat.reduceEqDiff, List.map_cons, List.map_nil, Int.reduceEq, Int.lt_irrefl, L_ref4_Beside_4, fr, hjl, k2'.m2 ty_ag_22, lst, hlr, bs_22]
  refine app_int slT_22 W.st (pl.length : Int) (by show (evs pl.length).length + 1 ≤ _; omega) hzB ?_
  intro A' c' w13 o13 g13 hA13 hs13 z13
  have k13 := W.blk.grown g13.by_ (fun e => W.st.ne_blk W.blk (by decide) e.symm)
  simp (disch := first | with_reducible assumption | omega) only [push_cast, x_blk, x_cd, ↓reduceIte, Nat.reduceEqDiff, List.map_cons, List.map_nil, Int.reduceEq, Int.lt_irrefl, fr]
  refine sto_slice k13 (by kernel_rfl) 2 (by simp) _ _ _ ?_
  intro w14 k14 g14 z14
  have hev1 : (evs pl.length ++ [(pl.length : Int)]).length = (evs pl.length).length + 1 := by simp
  have k14' : Blk w14 Bz 25 ((⟨A', c', d.Aa, d.ca, d.Ae, d.ce⟩ : MV).cells ⟨0, ma.events, evs pl.length ++ [(pl.length : Int)], [], []⟩) := by
    have k := k14
    simp only [MV.cells, hev1] at k ⊢
    exact k
  replace W := W.start hzB o13 g13 hA13 k14' g14
  have hl1 : (pl ++ [((s, t) : Pr)]).length = pl.length + 1 := by simp
  simp only [] at W
  rw [← evs_snoc', ← hl1] at W
  have hz14 : Bz ≤ w14.heap.size := by have := W.bel.size; omega
  have dd : Same w14 w14.drew := (Same.refl w14).drew
  replace W := W.below (dd.below _) hz14
  generalize hud : w14.drew = u at *
  have hzu : Bz ≤ u.heap.size := by rw [← hud]; exact hz14
  have k1u := k1.below W.bel (by omega)
  have k2u := k2.below W.bel (by omega)
  have iA := (ha7.below W.bel).starts
  have iB := (hb7.below W.bel).starts
  have hAs := iA.isSome (by omega)
  have hBs := iB.isSome (by omega)
  have ldA := fun {K : Fr → World → Prop} {f : Fr} {d : Option Nat} {w : World} => iA.ld (P := Tryd.prog) (K := K) (f := f) (d := d) (w := w) ty_ag_3 i hil
  have ldB := fun {K : Fr → World → Prop} {f : Fr} {d : Option Nat} {w : World} => iB.ld (P := Tryd.prog) (K := K) (f := f) (d := d) (w := w) ty_ag_3 j hjl
  rw [hs0] at ldA
  rw [ht] at ldB
  simp (disch := first | with_reducible assumption | omega) only [push_cast, x_blk, x_cd, ↓reduceIte, Nat.reduceEqDiff, List.map_cons, List.map_nil, Int.reduceEq, Int.lt_irrefl, fr, hud, hil, hjl, k1u.m2 ty_ag_22, k2u.m2 ty_ag_22, hAs, hBs, ldA, ldB]
  refine bsl2_ty slT_22 _ _ ?_
  intro w15 i15 b15 z15
  have hXs : ∀ x, u.heap.size ≤ x → some x ≠ A'.map (·.block) := fun x hx e => by have := W.st.ltB e; omega
  have hYs : ∀ x, u.heap.size ≤ x → some x ≠ d.Ae.map (·.block) := fun x hx e => by have := W.es.ltB e; omega
  replace W := W.below b15 hzu
  have hz15 : Bz ≤ w15.heap.size := by have := b15.size; omega
  simp (disch := first | with_reducible assumption | omega) only [push_cast, x_blk, x_cd, ↓reduceIte, Nat.reduceEqDiff, List.map_cons, List.map_nil, Int.reduceEq, Int.lt_irrefl, fr, bs_44]
  refine ⟨b15, ?_⟩
  refine ⟨b15.trans ((Below.refl _ _).alloc (by omega) _), ?_⟩
  refine app_rec hdEnc slT_44 W.nm ⟨some ⟨u.heap.size, 0, none⟩, 2, prL (s, t)⟩ (by omega) (by omega) hz15 ?_
  intro P' cp' w16 o16 g16 hA16 hs16 z16
  have W16 := W.name hz15 (x := ⟨some ⟨u.heap.size, 0, none⟩, 2, prL (s, t)⟩) (i15.mono fun x hx => ⟨hx.2, hXs x (by have := hx.1; omega), hYs x (by have := hx.1; omega)⟩) o16 g16
  simp (disch := first | with_reducible assumption | omega) only [push_cast, x_blk, x_cd, ↓reduceIte, Nat.reduceEqDiff, List.map_cons, List.map_nil, Int.reduceEq, Int.lt_irrefl, fr]
  exact hJ2 _ _ ⟨j + 1, ⟨A', c', d.Aa, d.ca, d.Ae, d.ce⟩, P', cp', hs ++ [⟨some ⟨u.heap.size, 0, none⟩, 2, prL (s, t)⟩], hjl, (by simp only [push_cast, ↓reduceIte, Nat.reduceEqDiff, true_and, and_true, and_self, eq_self, fr, List.length_append, List.length_cons, List.length_nil]), by rw [hplx, List.map_append, hv, List.map_append]; rfl, by rw [hplx]; exact W16⟩ (by simp only [push_cast, ↓reduceIte, Nat.reduceEqDiff, intOf, fr]; omega)
end Go.Proofs.YtcjedgiglimipaaDoor
