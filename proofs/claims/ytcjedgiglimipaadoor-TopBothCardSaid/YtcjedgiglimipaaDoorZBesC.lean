/-
  Chapter 4: the program's Beside: by its contract.
-/
import Derived.Test.YtcjedgiglimipaaDoorZBesB
namespace Go.Proofs.YtcjedgiglimipaaDoor
set_option linter.unusedSimpArgs false
set_option linter.unusedVariables false
set_option linter.unusedSectionVars false
open Go.RowKit

theorem IsM.lt' {B : Nat} {w : World} {a : MV} {m : Mach} (h : IsM (· < B) w a m) (hB : B ≤ w.heap.size) : IsM (· < w.heap.size) w a m := h.mono fun _ hb => Nat.lt_of_lt_of_le hb hB
theorem prodK (xs ys : List Int) {i : Nat} (hi : i < xs.length) : (xs.take (i + 1)).flatMap (fun s => ys.map fun t => ((s, t) : Pr)) = (xs.take i).flatMap (fun s => ys.map fun t => (s, t)) ++ ys.map fun t => (xs.getD i 0, t) := by
  rw [take_snoc xs 0 i hi, List.flatMap_append]; simp
theorem prod_prefix (xs ys : List Int) {i : Nat} (hi : i < xs.length) (j : Nat) : ((xs.take i).flatMap (fun s => ys.map fun t => ((s, t) : Pr)) ++ (ys.take j).map fun t => (xs.getD i 0, t)) <+: xs.flatMap fun s => ys.map fun t => ((s, t) : Pr) := by
  have h1 : (xs.flatMap fun s => ys.map fun t => ((s, t) : Pr)) = ((xs.take (i + 1)) ++ xs.drop (i + 1)).flatMap fun s => ys.map fun t => ((s, t) : Pr) := by rw [List.take_append_drop]
  rw [h1, List.flatMap_append, prodK xs ys hi]
  conv => rhs; rw [← List.take_append_drop j ys, List.map_append]
  rw [List.append_assoc, List.append_assoc]
  rw [← List.append_assoc]
  simp only [List.take_append_drop]
  exact List.prefix_append _ _
theorem prod_prefix0 (xs ys : List Int) (i : Nat) : ((xs.take i).flatMap (fun s => ys.map fun t => ((s, t) : Pr))) <+: xs.flatMap fun s => ys.map fun t => ((s, t) : Pr) := by
  conv => rhs; rw [← List.take_append_drop i xs, List.flatMap_append]
  exact List.prefix_append _ _
theorem startsK (a b : Mach) {i : Nat} (hi : i < a.starts.length) : (a.starts.take (i + 1)).flatMap (fun s => b.starts.map fun t => ((s, t) : Pr)) = (a.starts.take i).flatMap (fun s => b.starts.map fun t => (s, t)) ++ b.starts.map fun t => (a.starts.getD i 0, t) := prodK _ _ hi
theorem evs_snoc' (k : Nat) : evs (k + 1) = evs k ++ [(k : Int)] := by unfold evs; rw [List.range_succ, List.map_append]; rfl
theorem starts_prefix (a b : Mach) {i : Nat} (hi : i < a.starts.length) (j : Nat) : ((a.starts.take i).flatMap (fun s => b.starts.map fun t => ((s, t) : Pr)) ++ (b.starts.take j).map fun t => (a.starts.getD i 0, t)) <+: bsStart a b := prod_prefix _ _ hi j
theorem starts_prefix0 (a b : Mach) (i : Nat) : ((a.starts.take i).flatMap (fun s => b.starts.map fun t => ((s, t) : Pr))) <+: bsStart a b := prod_prefix0 _ _ i
theorem bsStart_len {a b : Mach} (ha : a.May) (hb : b.May) : (bsStart a b).length ≤ 65536 := by
  unfold bsStart
  rw [prod_len]
  exact Nat.le_trans (Nat.mul_le_mul (row_256 ha (may_starts ha)) (row_256 hb (may_starts hb))) (by decide)
set_option maxHeartbeats 4000000 in
theorem bes_Beside {w : World} {a b : MV} {ma mb : Mach} (ha : IsM (· < w.heap.size) w a ma) (hfa : ma.Fits) (hb : IsM (· < w.heap.size) w b mb) (hfb : mb.Fits) (hT : Tab w)
    {A1 : Option Addr} {c1 : Nat} {ofA : List Int} (h1 : Ints (· < w.heap.size) w A1 ofA) (n1 : ofA.length ≤ 17592186043904) {A2 : Option Addr} {c2 : Nat} {ofB : List Int} (h2 : Ints (· < w.heap.size) w A2 ofB) (n2 : ofB.length ≤ 17592186043904) :
    Cal Tryd.prog 41 [a.val ma, b.val mb, .slice A1 ofA.length c1, .slice A2 ofB.length c2] w (BesRes ma mb ofA ofB w) := by
  have e5 : ∀ (a : MV) (m : Mach), tySize Tryd.prog 25 = some (a.cells m).length := fun a m => ty_sz_25
  refine cal_beside_Beside (by simp) 1000000 fun Q hQ => ?_
  simp (disch := first | with_reducible assumption | omega) only [push_cast, x_blk, x_cd, ↓reduceIte, Nat.reduceEqDiff, List.map_cons, List.map_nil, Int.reduceEq, Int.lt_irrefl, F_beside_Beside]
  refine blk_of (box_agg _ (a.cells ma)) ?_
  intro w1 k1 b1 z1
  simp (disch := first | with_reducible assumption | omega) only [push_cast, x_blk, x_cd, ↓reduceIte, Nat.reduceEqDiff, List.map_cons, List.map_nil, Int.reduceEq, Int.lt_irrefl]
  refine blk_of (box_agg _ (b.cells mb)) ?_
  intro w2 k2 b2 z2
  replace k1 := k1.below b2 k1.lt
  simp (disch := first | with_reducible assumption | omega) only [push_cast, x_blk, x_cd, ↓reduceIte, Nat.reduceEqDiff, List.map_cons, List.map_nil, Int.reduceEq, Int.lt_irrefl]
  refine blk_of (cs := mv0.cells mach0) al_25 ?_
  intro w3 k3 b3 z3
  replace k1 := k1.below b3 k1.lt
  replace k2 := k2.below b3 k2.lt
  have bb := (b1.trans (b2.mono b1.size)).trans (b3.mono (b1.trans (b2.mono b1.size)).size)
  have hw1 : w1.heap.size = w.heap.size + 1 := z1
  have hw2 : w2.heap.size = w.heap.size + 2 := by omega
  simp (disch := first | with_reducible assumption | omega) only [push_cast, x_blk, x_cd, ↓reduceIte, Nat.reduceEqDiff, List.map_cons, List.map_nil, Int.reduceEq, Int.lt_irrefl, k1.mA ty_ag_25 ty_sz_25]
  refine call_of (machine_May (ha.up bb) hfa) ?_
  rintro r w4 ⟨rfl, b4⟩
  replace k1 := k1.below b4 k1.lt
  replace k2 := k2.below b4 k2.lt
  replace k3 := k3.below b4 k3.lt
  replace bb := bb.trans (b4.mono bb.size)
  by_cases p1 : ma.May
  case neg =>
    simp (disch := first | with_reducible assumption | omega) only [push_cast, x_blk, x_cd, ↓reduceIte, Nat.reduceEqDiff, List.map_cons, List.map_nil, Int.reduceEq, Int.lt_irrefl, decide_eq_false p1, mach0_built]
    refine sto_blk k3 (cs := mv0.cells mach0) (e5 _ _) rfl (by rfl) ?_
    intro w9 k9 g9 z9
    simp (disch := first | with_reducible assumption | omega) only [push_cast, x_blk, x_cd, ↓reduceIte, Nat.reduceEqDiff, List.map_cons, List.map_nil, Int.reduceEq, Int.lt_irrefl]
    exact fin_c3 k9 ty_ag_25 (e5 _ _) (by simp only [push_cast, ↓reduceIte, Nat.reduceEqDiff, Int.reduceEq]) (hQ _ _ ⟨mv0, mach0, none, 0, [], _, (by simp only [push_cast, ↓reduceIte, Nat.reduceEqDiff, Int.reduceEq, List.length_nil]), mach0_is _ _, Recs.nil _ _ _, fun x hx => absurd hx (by simp), g9.below bb bb.size (by intro a ha; injection ha with ha; subst ha; show w.heap.size ≤ w2.heap.size; omega), .inl ⟨fun h => p1 h.1, rfl, rfl, rfl⟩⟩)
  simp (disch := first | with_reducible assumption | omega) only [push_cast, x_blk, x_cd, ↓reduceIte, Nat.reduceEqDiff, List.map_cons, List.map_nil, Int.reduceEq, Int.lt_irrefl, decide_eq_true p1, k2.mA ty_ag_25 ty_sz_25]
  refine call_of (machine_May (hb.up bb) hfb) ?_
  rintro r w5 ⟨rfl, b5⟩
  replace k1 := k1.below b5 k1.lt
  replace k2 := k2.below b5 k2.lt
  replace k3 := k3.below b5 k3.lt
  replace bb := bb.trans (b5.mono bb.size)
  by_cases p2 : mb.May
  case neg =>
    simp (disch := first | with_reducible assumption | omega) only [push_cast, x_blk, x_cd, ↓reduceIte, Nat.reduceEqDiff, List.map_cons, List.map_nil, Int.reduceEq, Int.lt_irrefl, decide_eq_false p2, mach0_built]
    refine sto_blk k3 (cs := mv0.cells mach0) (e5 _ _) rfl (by rfl) ?_
    intro w9 k9 g9 z9
    simp (disch := first | with_reducible assumption | omega) only [push_cast, x_blk, x_cd, ↓reduceIte, Nat.reduceEqDiff, List.map_cons, List.map_nil, Int.reduceEq, Int.lt_irrefl]
    exact fin_c3 k9 ty_ag_25 (e5 _ _) (by simp only [push_cast, ↓reduceIte, Nat.reduceEqDiff, Int.reduceEq]) (hQ _ _ ⟨mv0, mach0, none, 0, [], _, (by simp only [push_cast, ↓reduceIte, Nat.reduceEqDiff, Int.reduceEq, List.length_nil]), mach0_is _ _, Recs.nil _ _ _, fun x hx => absurd hx (by simp), g9.below bb bb.size (by intro a ha; injection ha with ha; subst ha; show w.heap.size ≤ w2.heap.size; omega), .inl ⟨fun h => p2 h.2, rfl, rfl, rfl⟩⟩)
  by_cases p3 : ma.events = mb.events
  case neg =>
    simp (disch := first | with_reducible assumption | omega) only [push_cast, x_blk, x_cd, ↓reduceIte, Nat.reduceEqDiff, List.map_cons, List.map_nil, Int.reduceEq, Int.lt_irrefl, decide_eq_true p2, k1.m1 ty_ag_3, k2.m1 ty_ag_3, decide_eq_true p3, decide_eq_false p3, p3, mach0_built]
    refine sto_blk k3 (cs := mv0.cells mach0) (e5 _ _) rfl (by rfl) ?_
    intro w9 k9 g9 z9
    simp (disch := first | with_reducible assumption | omega) only [push_cast, x_blk, x_cd, ↓reduceIte, Nat.reduceEqDiff, List.map_cons, List.map_nil, Int.reduceEq, Int.lt_irrefl]
    exact fin_c3 k9 ty_ag_25 (e5 _ _) (by simp only [push_cast, ↓reduceIte, Nat.reduceEqDiff, Int.reduceEq]) (hQ _ _ ⟨mv0, mach0, none, 0, [], _, (by simp only [push_cast, ↓reduceIte, Nat.reduceEqDiff, Int.reduceEq, List.length_nil]), mach0_is _ _, Recs.nil _ _ _, fun x hx => absurd hx (by simp), g9.below bb bb.size (by intro a ha; injection ha with ha; subst ha; show w.heap.size ≤ w2.heap.size; omega), .inr (.inl ⟨⟨p1, p2⟩, p3, rfl, rfl, rfl⟩)⟩)
  simp (disch := first | with_reducible assumption | omega) only [push_cast, x_blk, x_cd, ↓reduceIte, Nat.reduceEqDiff, List.map_cons, List.map_nil, Int.reduceEq, Int.lt_irrefl, decide_eq_true p2, k1.m1 ty_ag_3, k2.m1 ty_ag_3, p3, eq_self]
  refine call_of (row_Is (h1.below bb) c1 mb.events (by omega)) ?_
  rintro r w6 ⟨rfl, s6⟩
  replace k1 := k1.same s6
  replace k2 := k2.same s6
  replace k3 := k3.same s6
  replace bb := bb.trans (s6.below _)
  by_cases p4 : IsRow ofA mb.events
  case neg =>
    simp (disch := first | with_reducible assumption | omega) only [push_cast, x_blk, x_cd, ↓reduceIte, Nat.reduceEqDiff, List.map_cons, List.map_nil, Int.reduceEq, Int.lt_irrefl, decide_eq_false p4, mach0_built]
    refine sto_blk k3 (cs := mv0.cells mach0) (e5 _ _) rfl (by rfl) ?_
    intro w9 k9 g9 z9
    simp (disch := first | with_reducible assumption | omega) only [push_cast, x_blk, x_cd, ↓reduceIte, Nat.reduceEqDiff, List.map_cons, List.map_nil, Int.reduceEq, Int.lt_irrefl]
    exact fin_c3 k9 ty_ag_25 (e5 _ _) (by simp only [push_cast, ↓reduceIte, Nat.reduceEqDiff, Int.reduceEq]) (hQ _ _ ⟨mv0, mach0, none, 0, [], _, (by simp only [push_cast, ↓reduceIte, Nat.reduceEqDiff, Int.reduceEq, List.length_nil]), mach0_is _ _, Recs.nil _ _ _, fun x hx => absurd hx (by simp), g9.below bb bb.size (by intro a ha; injection ha with ha; subst ha; show w.heap.size ≤ w2.heap.size; omega), .inr (.inr (.inl ⟨⟨p1, p2⟩, p3, fun h => p4 (p3 ▸ h.1), rfl, rfl, rfl⟩))⟩)
  simp (disch := first | with_reducible assumption | omega) only [push_cast, x_blk, x_cd, ↓reduceIte, Nat.reduceEqDiff, List.map_cons, List.map_nil, Int.reduceEq, Int.lt_irrefl, decide_eq_true p4, k1.m1 ty_ag_3, p3]
  refine call_of (row_Is (h2.below bb) c2 mb.events (by omega)) ?_
  rintro r w7 ⟨rfl, s7⟩
  replace k1 := k1.same s7
  replace k2 := k2.same s7
  replace k3 := k3.same s7
  replace bb := bb.trans (s7.below _)
  by_cases p5 : IsRow ofB mb.events
  case neg =>
    simp (disch := first | with_reducible assumption | omega) only [push_cast, x_blk, x_cd, ↓reduceIte, Nat.reduceEqDiff, List.map_cons, List.map_nil, Int.reduceEq, Int.lt_irrefl, decide_eq_false p5, mach0_built]
    refine sto_blk k3 (cs := mv0.cells mach0) (e5 _ _) rfl (by rfl) ?_
    intro w9 k9 g9 z9
    simp (disch := first | with_reducible assumption | omega) only [push_cast, x_blk, x_cd, ↓reduceIte, Nat.reduceEqDiff, List.map_cons, List.map_nil, Int.reduceEq, Int.lt_irrefl]
    exact fin_c3 k9 ty_ag_25 (e5 _ _) (by simp only [push_cast, ↓reduceIte, Nat.reduceEqDiff, Int.reduceEq]) (hQ _ _ ⟨mv0, mach0, none, 0, [], _, (by simp only [push_cast, ↓reduceIte, Nat.reduceEqDiff, Int.reduceEq, List.length_nil]), mach0_is _ _, Recs.nil _ _ _, fun x hx => absurd hx (by simp), g9.below bb bb.size (by intro a ha; injection ha with ha; subst ha; show w.heap.size ≤ w2.heap.size; omega), .inr (.inr (.inl ⟨⟨p1, p2⟩, p3, fun h => p5 (p3 ▸ h.2), rfl, rfl, rfl⟩))⟩)
  simp (disch := first | with_reducible assumption | omega) only [push_cast, x_blk, x_cd, ↓reduceIte, Nat.reduceEqDiff, List.map_cons, List.map_nil, Int.reduceEq, Int.lt_irrefl, decide_eq_true p5]
  have hrow : IsRow ofA ma.events ∧ IsRow ofB ma.events := ⟨p3 ▸ p4, p3 ▸ p5⟩
  clear p4 p5
  rw [hw1] at k2
  rw [hw2] at k3
  have hTb := hT.below bb hT.lt
  have ha7 := ha.up bb
  have hb7 := hb.up bb
  have i1 := h1.up bb
  have i2 := h2.up bb
  have lsa := hfa.lenS
  have lsb := hfb.lenS
  have lea := hfa.lenE
  have leb := hfb.lenE
  clear b1 b2 b3 b4 b5 s6 s7 z1 z2 z3
  have hzw := bb.size
  have l1 := k1.lt
  have l2 := k2.lt
  have l3 := k3.lt
  refine map_made (k := 139) _ ?_
  intro w8 m8 b8 z8
  simp (disch := first | with_reducible assumption | omega) only [push_cast, x_blk, x_cd, ↓reduceIte, Nat.reduceEqDiff, List.map_cons, List.map_nil, Int.reduceEq, Int.lt_irrefl, bl_fin]
  refine blk_of (box_agg _ (fC 0 ⟨none, 0, none, 0, none, 0⟩ 0 0 0 w7.heap.size)) ?_
  intro w9 k9 b9 z9
  replace m8 := m8.below b9 m8.lt
  have b79 := b8.trans (b9.mono b8.size)
  replace k1 := k1.below b79 l1
  have hg9 : w8.heap.size = w7.heap.size + 1 := z8
  rw [hg9] at k9
  simp (disch := first | with_reducible assumption | omega) only [push_cast, x_blk, x_cd, ↓reduceIte, Nat.reduceEqDiff, List.map_cons, List.map_nil, Int.reduceEq, Int.lt_irrefl, k1.m1 ty_ag_3, hg9]
  refine sto_cell k9 (by kernel_rfl) 1 (by rw [fC_len]; decide) _ _ ?_
  intro w10 k10 g10 z10
  have F0 : FinW w7.heap.size w10 (w7.heap.size + 1) w7.heap.size ma.events ⟨none, 0, none, 0, none, 0⟩ [] [] [] :=
    ⟨k10, m8.grown g10.by_ (by simp), Own.nil _ _ _ _, Own.nil _ _ _ _, Own.nil _ _ _ _, by omega, Nat.le_refl _⟩
  have bb10 : Below w7.heap.size w7 w10 := g10.below b79 b79.size (by intro a ha; injection ha with ha; subst ha; show w7.heap.size ≤ w7.heap.size + 1; omega)
  replace k1 := k1.grown g10.by_ (by simp; omega)
  clear k9 m8 b8 b9 z8 z9 g10 z10 k10 b79 hg9
  generalize hBz : w7.heap.size = Bz at *
  have hBw7 : Bz ≤ w7.heap.size := by omega
  have nA := row_256 p1 (may_starts p1)
  have nB := row_256 p2 (may_starts p2)
  have hSl := bsStart_len p1 p2
  have hSn := bsStart_nodup p1 p2
  have hSin := bsStart_in p1 p2
  have sa6 := p1.2.1
  have sb6 := p2.2.1
  have n8 : ma.events.toNat ≤ 8 := by have := p1.2.2.2.1; omega
  have hev : ((ma.events.toNat : Nat) : Int) = ma.events := by have := p1.2.2.1; omega
  have hpI : ∀ {p : Pr}, InPr ma mb p → PrI64 p := fun {p} h => by obtain ⟨⟨q1, q2⟩, q3, q4⟩ := h; exact ⟨⟨by omega, by omega⟩, by omega, by omega⟩
  simp (disch := first | with_reducible assumption | omega) only [push_cast, x_blk, x_cd, ↓reduceIte, Nat.reduceEqDiff, List.map_cons, List.map_nil, Int.reduceEq, Int.lt_irrefl, k1.m2 ty_ag_22]
  replace k1 : Blk w7 w.heap.size 25 (a.cells ma) := k1.keep (bb10.block _ (by omega)).symm
  refine loop_rule (fun f w' => ∃ (i : Nat) (v : FV), i ≤ ma.starts.length ∧ ((f 2 = .slice A1 ofA.length c1 ∧ f 3 = .slice A2 ofB.length c2 ∧ f 4 = .pointer (some ⟨w.heap.size, 0, none⟩) ∧ f 5 = .pointer (some ⟨w.heap.size + 1, 0, none⟩) ∧ f 8 = .pointer (some ⟨w.heap.size + 2, 0, none⟩) ∧ f 11 = .pointer (some ⟨Bz + 1, 0, none⟩)) ∧ f 66 = .slice a.As ma.starts.length a.cs ∧ f 67 = .int .i64 ma.starts.length ∧ f 68 = .int .i64 i) ∧
      FinW Bz w' (Bz + 1) Bz ma.events v (evs ((ma.starts.take i).flatMap fun s => mb.starts.map fun t => ((s, t) : Pr)).length) [] ((ma.starts.take i).flatMap fun s => mb.starts.map fun t => ((s, t) : Pr)) ∧ Below Bz w7 w')
    (fun f _ => ma.starts.length - (intOf (f 68)).toNat) ⟨0, _, Nat.zero_le _, ⟨⟨rfl, rfl, rfl, (by simp only [push_cast, ↓reduceIte, Nat.reduceEqDiff, Int.reduceEq, hw1]), (by simp only [push_cast, ↓reduceIte, Nat.reduceEqDiff, Int.reduceEq, hw2]), rfl⟩, rfl, rfl, rfl⟩, F0, bb10⟩ ?_
  clear F0 bb10 hw1 hw2
  rintro f w11 ⟨i, v, hi, fr, F, bb11⟩ J hJ
  have hzB : Bz ≤ w11.heap.size := by have := bb11.size; omega
  have hpre0 := (starts_prefix0 ma mb i).length_le
  by_cases hil : i < ma.starts.length
  case neg =>
    obtain rfl : i = ma.starts.length := by omega
    rw [List.take_length] at F
    replace F : FinW Bz w11 (Bz + 1) Bz ma.events v (evs (bsStart ma mb).length) [] (bsStart ma mb) := F
    generalize hS : evs (bsStart ma mb).length = S at F
    simp (disch := first | with_reducible assumption | omega) only [push_cast, x_blk, x_cd, ↓reduceIte, Nat.reduceEqDiff, List.map_cons, List.map_nil, Int.reduceEq, Int.lt_irrefl, L_beside_Beside_5, fr, Nat.lt_irrefl, Int.lt_irrefl]
    clear J hJ hpre0 hil hi
    refine loop_rule (fun f w' => ∃ (k : Nat) (v : FV) (T : List Tr) (st : FSt), k ≤ 256 ∧ ((f 2 = .slice A1 ofA.length c1 ∧ f 3 = .slice A2 ofB.length c2 ∧ f 4 = .pointer (some ⟨w.heap.size, 0, none⟩) ∧ f 5 = .pointer (some ⟨w.heap.size + 1, 0, none⟩) ∧ f 8 = .pointer (some ⟨w.heap.size + 2, 0, none⟩) ∧ f 11 = .pointer (some ⟨Bz + 1, 0, none⟩)) ∧ f 16 = .int .i64 k) ∧ FK ma mb ofA ofB k T st ∧ (st.Ok ∨ k = 0 ∧ st.ar = []) ∧ bsRun ma mb ofA ofB (300 - k) k st = bsAll ma mb ofA ofB ∧
        FinW Bz w' (Bz + 1) Bz ma.events v S st.ar st.ps ∧ Below Bz w7 w')
      (fun f _ => 300 - (intOf (f 16)).toNat) ⟨0, v, [], ⟨bsStart ma mb, []⟩, by omega, (by simp only [push_cast, ↓reduceIte, Nat.reduceEqDiff, true_and, and_true, and_self, eq_self, fr]), FK.start p1 p2, .inr ⟨rfl, rfl⟩, rfl, F, bb11⟩ ?_
    clear F bb11 hzB fr
    rintro f w12 ⟨k, v, T, st, hk256, fr, hF, hOk, hRun, F, bb12⟩ J hJ
    have hzB : Bz ≤ w12.heap.size := by have := bb12.size; omega
    have hstep := bsRun_step (a := ma) (b := mb) (ofA := ofA) (ofB := ofB) k (by omega) st
    rw [hRun] at hstep
    have hmuK : 300 - (intOf (f 16)).toNat = 300 - k := by rw [fr.2]; simp [intOf]
    rw [hmuK] at hJ
    have l6 := fun {K : Fr → World → Prop} {f : Fr} {d : Option Nat} {w : World} => bes_ldq (P := Tryd.prog) (K := K) (f := f) (d := d) (w := w) F.blk ty_ag_134 (fC_6 _ _ _ _ _ _)
    by_cases hkl : k < st.ps.length
    case neg =>
      rw [if_neg hkl] at hstep
      have hFF := bsAll_some p1 p2 hstep
      have k1' := k1.below bb12 (by omega)
      have k2' := k2.below bb12 (by omega)
      simp (disch := first | with_reducible assumption | omega) only [push_cast, x_blk, x_cd, ↓reduceIte, Nat.reduceEqDiff, List.map_cons, List.map_nil, Int.reduceEq, Int.lt_irrefl, L_beside_Beside_3, fr, hkl, l6, k1'.mA ty_ag_25 ty_sz_25, k2'.mA ty_ag_25 ty_sz_25]
      refine call_of (bes_done F hzB (by omega) (ha7.below bb12) (hb7.below bb12) lea leb hFF.ok.1 hFF.ok.2 (hFF.asm p1) hFF.nodup) ?_
      rintro r w13 ⟨d, dm, R, cr, hs, rfl, hdm, hd, hR, hrows, hvl, b13⟩
      have bb13 := bb12.trans b13
      have k3' := k3.below bb13 (by omega)
      simp (disch := first | with_reducible assumption | omega) only [push_cast, x_blk, x_cd, ↓reduceIte, Nat.reduceEqDiff, List.map_cons, List.map_nil, Int.reduceEq, Int.lt_irrefl, fr]
      refine sto_mach k3' rfl d dm ?_
      intro w14 k14 g14 z14
      simp (disch := first | with_reducible assumption | omega) only [push_cast, x_blk, x_cd, ↓reduceIte, Nat.reduceEqDiff, List.map_cons, List.map_nil, Int.reduceEq, Int.lt_irrefl, fr]
      have kp : ∀ x, Bz ≤ x ∧ x < w13.heap.size → w14.heap[x]? = w13.heap[x]? ∧ x < w14.heap.size := fun x hx => ⟨g14.by_.block x hx.2 (by have := hx.1; simp; omega), by omega⟩
      have hbA : Below w.heap.size w w14 := g14.below (bb.trans (bb13.mono (by omega))) (by have := bb13.size; omega) (by intro a ha; injection ha with ha; subst ha; show w.heap.size ≤ w.heap.size + 2; omega)
      refine fin_c3 k14 ty_ag_25 (e5 _ _) (by simp only [push_cast, ↓reduceIte, Nat.reduceEqDiff, Int.reduceEq, fr]) (hQ _ _ ⟨d, dm, R, cr, hs, 0, (by simp only [push_cast, ↓reduceIte, Nat.reduceEqDiff, Int.reduceEq, fr]), ⟨hd.starts.keep' kp, hd.arrows.keep' kp, hd.ends.keep' kp⟩, hR.keep' kp, hrows.keep kp, hbA,
        .inr (.inr (.inr (.inr ⟨⟨p1, p2⟩, p3, hrow, st, hstep, ?_, hvl, rfl⟩)))⟩)
      rw [hdm, ← hS]; rfl
    rw [if_pos hkl] at hstep
    have hk0 : k < 256 := by
      rcases hOk with h | h
      · have := h.1; omega
      · omega
    have hT4 : st.ar.length ≤ 4096 := by
      rcases hOk with h | h
      · exact h.2
      · rw [h.2]; simp
    obtain ⟨p, hp⟩ : ∃ p, st.ps[k]? = some p := ⟨_, List.getElem?_eq_getElem hkl⟩
    have hpd : st.ps.getD k default = p := by rw [List.getD_eq_getElem?_getD, hp]; rfl
    have hpin := hF.in_ hkl
    rw [hpd] at hpin
    have rps := OwnR.recs F.ps prEnc (by decide)
    have hAp := rps.isSome (by omega)
    have lpA := fun {K : Fr → World → Prop} {f : Fr} {d : Option Nat} {w : World} => rps.ldAll (P := Tryd.prog) (K := K) (f := f) (d := d) (w := w) prEnc ty_ag_139 hp (prp_sz p)
    simp (disch := first | with_reducible assumption | omega) only [push_cast, x_blk, x_cd, ↓reduceIte, Nat.reduceEqDiff, List.map_cons, List.map_nil, Int.reduceEq, Int.lt_irrefl, L_beside_Beside_3, fr, hkl, l6, hAp, lpA]
    refine blk_of (cs := [.int .i64 0, .int .i64 0]) al_139 ?_
    intro w13 k13 b13 z13
    simp (disch := first | with_reducible assumption | omega) only [push_cast, x_blk, x_cd, ↓reduceIte, Nat.reduceEqDiff, List.map_cons, List.map_nil, Int.reduceEq, Int.lt_irrefl, fr]
    refine sto_blk k13 (cs := prP p) (prp_sz p) rfl rfl ?_
    intro w14 k14 g14 z14
    have b14 := g14.below b13 b13.size (by intro a ha; injection ha with ha; subst ha; exact Nat.le_refl _)
    have hgB := F.blk.lt
    have hgm := F.map.lt
    have BW0 : BW Bz w7 w14 (Bz + 1) Bz w12.heap.size ma.events v S p (bsMid ma mb ofA ofB k st 0 []) :=
      ⟨F.below b14, k14, fun e => by have := F.ps.ltB e; omega, bb12.trans (b14.mono hzB)⟩
    have hq1 : w12.heap.size ≠ Bz + 1 := by omega
    have hq2 : w12.heap.size ≠ Bz := by omega
    have hzq : Bz ≤ w12.heap.size := hzB
    have hmid := fun (j : Nat) {L : List Pr} => hF.mid (L := L) p1 p2 hkl j
    have hArl0 : ∀ {j : Nat} {L : List Pr} {sm : FSt}, j ≤ 8 → FM ma mb ofA ofB k T st j L sm → L.length ≤ 65536 → sm.ar.length ≤ 1000000 := fun {j L sm} hj hM hL => hM.arLen hF p1 p2 hkl hT4 hL hj
    rw [hpd] at hmid
    generalize hq : w12.heap.size = q at *
    clear F rps hAp lpA l6 k13 b13 z13 g14 z14 b14 k14
    have k1' := k1.below BW0.bel (by omega)
    simp (disch := first | with_reducible assumption | omega) only [push_cast, x_blk, x_cd, ↓reduceIte, Nat.reduceEqDiff, List.map_cons, List.map_nil, Int.reduceEq, Int.lt_irrefl, fr, k1'.m1 ty_ag_3]
    refine loop_rule (fun f w' => ∃ (j : Nat) (v : FV), j ≤ ma.events.toNat ∧ ((f 2 = .slice A1 ofA.length c1 ∧ f 3 = .slice A2 ofB.length c2 ∧ f 4 = .pointer (some ⟨w.heap.size, 0, none⟩) ∧ f 5 = .pointer (some ⟨w.heap.size + 1, 0, none⟩) ∧ f 8 = .pointer (some ⟨w.heap.size + 2, 0, none⟩) ∧ f 11 = .pointer (some ⟨Bz + 1, 0, none⟩)) ∧ f 16 = .int .i64 k ∧ f 17 = .pointer (some ⟨q, 0, none⟩) ∧ f 114 = .int .i64 ma.events ∧ f 115 = .int .i64 j) ∧
        BW Bz w7 w' (Bz + 1) Bz q ma.events v S p (bsMid ma mb ofA ofB k st j []))
      (fun f _ => ma.events.toNat - (intOf (f 115)).toNat) ⟨0, v, Nat.zero_le _, (by simp only [push_cast, ↓reduceIte, Nat.reduceEqDiff, true_and, and_true, and_self, eq_self, fr]), BW0⟩ ?_
    clear BW0 k1' fr bb12 hzB
    rintro f w12 ⟨j, v, hj, fr, W⟩ J2 hJ2
    have hzB : Bz ≤ w12.heap.size := by have := W.bel.size; omega
    by_cases hjl : (j : Int) < ma.events
    case neg =>
      obtain rfl : j = ma.events.toNat := by omega
      rw [bsMid_end] at W
      have hN := hF.next p1 p2 hkl
      have lp6 := fun {K : Fr → World → Prop} {f : Fr} {d : Option Nat} {w : World} => bes_ldq (P := Tryd.prog) (K := K) (f := f) (d := d) (w := w) W.fin.blk ty_ag_134 (fC_6 _ _ _ _ _ _)
      have la3 := fun {K : Fr → World → Prop} {f : Fr} {d : Option Nat} {w : World} => bes_ldq (P := Tryd.prog) (K := K) (f := f) (d := d) (w := w) W.fin.blk ty_ag_23 (fC_3 _ _ _ _ _ _)
      have k3' := k3.below W.bel (by omega)
      by_cases d1 : (bsK ma mb ofA ofB k st).ps.length ≤ 256
      · have c1' : ¬ ((256 : Int) < ((bsK ma mb ofA ofB k st).ps.length : Int)) := by omega
        by_cases d2 : (bsK ma mb ofA ofB k st).ar.length ≤ 4096
        · have c2' : ¬ ((4096 : Int) < ((bsK ma mb ofA ofB k st).ar.length : Int)) := by omega
          rw [if_pos ⟨d1, d2⟩] at hstep
          simp (disch := first | with_reducible assumption | omega) only [push_cast, x_blk, x_cd, ↓reduceIte, Nat.reduceEqDiff, List.map_cons, List.map_nil, Int.reduceEq, Int.lt_irrefl, L_beside_Beside_2, fr, hjl, lp6, la3, c1', c2', decide_false]
          exact hJ _ _ ⟨k + 1, v, _, _, by omega, (by simp only [push_cast, ↓reduceIte, Nat.reduceEqDiff, true_and, and_true, and_self, eq_self, fr]), hN, .inl ⟨d1, d2⟩, hstep.symm, W.fin, W.bel⟩ (by simp only [push_cast, ↓reduceIte, Nat.reduceEqDiff, intOf, fr]; omega)
        · have c2' : ((4096 : Int) < ((bsK ma mb ofA ofB k st).ar.length : Int)) := by omega
          rw [if_neg (fun h => d2 h.2)] at hstep
          simp (disch := first | with_reducible assumption | omega) only [push_cast, x_blk, x_cd, ↓reduceIte, Nat.reduceEqDiff, List.map_cons, List.map_nil, Int.reduceEq, Int.lt_irrefl, L_beside_Beside_2, fr, hjl, lp6, la3, c1', c2', decide_false, decide_true, mach0_built]
          refine sto_blk k3' (cs := mv0.cells mach0) (e5 _ _) rfl (by rfl) ?_
          intro w19 k19 g19 z19
          simp (disch := first | with_reducible assumption | omega) only [push_cast, x_blk, x_cd, ↓reduceIte, Nat.reduceEqDiff, List.map_cons, List.map_nil, Int.reduceEq, Int.lt_irrefl, fr]
          have hbA : Below w.heap.size w w19 := g19.below (bb.trans (W.bel.mono (by omega))) (by have := W.bel.size; omega) (by intro a ha; injection ha with ha; subst ha; show w.heap.size ≤ w.heap.size + 2; omega)
          exact fin_c3 k19 ty_ag_25 (e5 _ _) (by simp only [push_cast, ↓reduceIte, Nat.reduceEqDiff, Int.reduceEq, fr]) (hQ _ _ ⟨mv0, mach0, none, 0, [], _, (by simp only [push_cast, ↓reduceIte, Nat.reduceEqDiff, Int.reduceEq, List.length_nil]), mach0_is _ _, Recs.nil _ _ _, fun x hx => absurd hx (by simp), hbA, .inr (.inr (.inr (.inl ⟨⟨p1, p2⟩, p3, hrow, hstep, rfl, rfl, rfl⟩)))⟩)
      · have c1' : ((256 : Int) < ((bsK ma mb ofA ofB k st).ps.length : Int)) := by omega
        rw [if_neg (fun h => d1 h.1)] at hstep
        simp (disch := first | with_reducible assumption | omega) only [push_cast, x_blk, x_cd, ↓reduceIte, Nat.reduceEqDiff, List.map_cons, List.map_nil, Int.reduceEq, Int.lt_irrefl, L_beside_Beside_2, fr, hjl, lp6, la3, c1', decide_true, mach0_built]
        refine sto_blk k3' (cs := mv0.cells mach0) (e5 _ _) rfl (by rfl) ?_
        intro w19 k19 g19 z19
        simp (disch := first | with_reducible assumption | omega) only [push_cast, x_blk, x_cd, ↓reduceIte, Nat.reduceEqDiff, List.map_cons, List.map_nil, Int.reduceEq, Int.lt_irrefl, fr]
        have hbA : Below w.heap.size w w19 := g19.below (bb.trans (W.bel.mono (by omega))) (by have := W.bel.size; omega) (by intro a ha; injection ha with ha; subst ha; show w.heap.size ≤ w.heap.size + 2; omega)
        exact fin_c3 k19 ty_ag_25 (e5 _ _) (by simp only [push_cast, ↓reduceIte, Nat.reduceEqDiff, Int.reduceEq, fr]) (hQ _ _ ⟨mv0, mach0, none, 0, [], _, (by simp only [push_cast, ↓reduceIte, Nat.reduceEqDiff, Int.reduceEq, List.length_nil]), mach0_is _ _, Recs.nil _ _ _, fun x hx => absurd hx (by simp), hbA, .inr (.inr (.inr (.inl ⟨⟨p1, p2⟩, p3, hrow, hstep, rfl, rfl, rfl⟩)))⟩)
    have hjn : j < ma.events.toNat := by omega
    simp (disch := first | with_reducible assumption | omega) only [push_cast, x_blk, x_cd, ↓reduceIte, Nat.reduceEqDiff, List.map_cons, List.map_nil, Int.reduceEq, Int.lt_irrefl, L_beside_Beside_2, fr, hjl]
    refine call_of (row_Has (i1.below W.bel) c1 (j : Int) (by omega)) ?_
    rintro r w13 ⟨rfl, s13⟩
    replace W := W.below (s13.below _) hzB
    simp (disch := first | with_reducible assumption | omega) only [push_cast, x_blk, x_cd, ↓reduceIte, Nat.reduceEqDiff, List.map_cons, List.map_nil, Int.reduceEq, Int.lt_irrefl, fr]
    have hzB1 : Bz ≤ w13.heap.size := by rw [s13.heap]; exact hzB
    refine call_of (row_Has (i2.below W.bel) c2 (j : Int) (by omega)) ?_
    rintro r w14 ⟨rfl, s14⟩
    replace W := W.below (s14.below _) hzB1
    have hzB2 : Bz ≤ w14.heap.size := by rw [s14.heap]; exact hzB1
    have hmuJ : ma.events.toNat - (intOf (f 115)).toNat = ma.events.toNat - j := by rw [fr.2.2.2.2]; simp [intOf]
    rw [hmuJ] at hJ2
    have hnx := bsMid_next (a := ma) (b := mb) (ofA := ofA) (ofB := ofB) k st hjn
    rw [hpd] at hnx
    have hmidj := fun {L : List Pr} => hmid j (L := L)
    have hArl := fun {L : List Pr} {sm : FSt} => hArl0 (j := j) (L := L) (sm := sm) (by omega)
    generalize hA : decide ((j : Int) ∈ ofA) = inA at *
    generalize hB : decide ((j : Int) ∈ ofB) = inB at *
    have hor : (inA = true ∧ True) ∨ (inA = false ∧ inB = true) ∨ (inA = false ∧ inB = false) := by cases inA <;> cases inB <;> simp
    clear s13 s14 hzB hzB1 hF hstep hOk hRun hp
    rcases hor with ⟨eA, eB⟩ | ⟨eA, eB⟩ | ⟨eA, eB⟩
    case' inl => simp (disch := first | with_reducible assumption | omega) only [push_cast, x_blk, x_cd, ↓reduceIte, Nat.reduceEqDiff, List.map_cons, List.map_nil, Int.reduceEq, Int.lt_irrefl, fr, eA]
    case' inr.inl => simp (disch := first | with_reducible assumption | omega) only [push_cast, x_blk, x_cd, ↓reduceIte, Nat.reduceEqDiff, List.map_cons, List.map_nil, Int.reduceEq, Int.lt_irrefl, fr, eA, eB]
    case inr.inr =>
      have ho : ¬ ((j : Int) ∈ ofA ∨ (j : Int) ∈ ofB) := fun h => by
        rcases h with h | h
        · rw [decide_eq_true h] at hA; rw [eA] at hA; cases hA
        · rw [decide_eq_true h] at hB; rw [eB] at hB; cases hB
      have hnil : bsLds ma mb ofA ofB p (j : Int) = [] := by unfold bsLds; rw [if_neg ho]
      rw [hnil] at hnx
      simp (disch := first | with_reducible assumption | omega) only [push_cast, x_blk, x_cd, ↓reduceIte, Nat.reduceEqDiff, List.map_cons, List.map_nil, Int.reduceEq, Int.lt_irrefl, fr, eA, eB]
      exact hJ2 _ _ ⟨j + 1, v, hjn, (by simp only [push_cast, ↓reduceIte, Nat.reduceEqDiff, true_and, and_true, and_self, eq_self, fr]), by rw [← hnx]; exact W⟩ (by simp only [push_cast, ↓reduceIte, Nat.reduceEqDiff, intOf, fr]; omega)
    all_goals
      have ho : (j : Int) ∈ ofA ∨ (j : Int) ∈ ofB := by
        first
          | exact .inl (of_decide_eq_true (hA.trans eA))
          | exact .inr (of_decide_eq_true (hB.trans eB))
      have hlds : bsLds ma mb ofA ofB p (j : Int) = (bsTo ma p.1 (j : Int) inA).flatMap fun s => (bsTo mb p.2 (j : Int) inB).map fun t => ((s, t) : Pr) := by unfold bsLds; rw [if_pos ho, hA, hB]
      have hldsl := bsLds_len (ofA := ofA) (ofB := ofB) (e := (j : Int)) p1 p2 hpin
      have hldin := fun {q : Pr} => bsLds_in (q := q) (ofA := ofA) (ofB := ofB) (e := (j : Int)) p1 p2 hpin
      rw [hlds] at hnx hldsl
      rw [hlds] at hldin
      have k1' := k1.below W.bel (by omega)
      have lp0 : ∀ {K : Fr → World → Prop} {f : Fr} {d : Option Nat} {w : World}, Val1 Tryd.prog K (Instr.loadAt 3 (.pointer (some ⟨q, 0, none⟩))) w14 f d w = K (updO f d (.int .i64 p.1)) w := fun {K f d w} => bes_ldq W.box ty_ag_3 (j := 0) rfl
      simp (disch := first | with_reducible assumption | omega) only [push_cast, x_blk, x_cd, ↓reduceIte, Nat.reduceEqDiff, List.map_cons, List.map_nil, Int.reduceEq, Int.lt_irrefl, fr, k1'.mA ty_ag_25 ty_sz_25, lp0]
      rw [← eA]
      refine call_of (bes_to (IsM.lt' (ha7.below W.bel) hzB2) p1 (hTb.below W.bel (by omega)) hpin.1 (j : Int) inA) ?_
      rintro r w15 ⟨Aa, ca, rfl, oA, b15⟩
      replace W := W.below b15 hzB2
      have hzB3 : Bz ≤ w15.heap.size := by have := b15.size; omega
      have rA : Ints (TyB [3] Bz w15) w15 Aa (bsTo ma p.1 (j : Int) inA) := OwnI.tyb oA (by simp)
      have rowA := bsTo_row p1 hpin.1 (j : Int) inA
      have rowB := bsTo_row p2 hpin.2 (j : Int) inB
      have lA := row_256 p1 rowA
      have lB := row_256 p2 rowB
      clear oA b15 lp0 k1'
      generalize hsA : bsTo ma p.1 (j : Int) inA = sA at *
      generalize hsB : bsTo mb p.2 (j : Int) inB = sB at *
      simp (disch := first | with_reducible assumption | omega) only [push_cast, x_blk, x_cd, ↓reduceIte, Nat.reduceEqDiff, List.map_cons, List.map_nil, Int.reduceEq, Int.lt_irrefl]
      refine loop_rule (fun f w' => ∃ (i : Nat) (v : FV), i ≤ sA.length ∧ ((f 2 = .slice A1 ofA.length c1 ∧ f 3 = .slice A2 ofB.length c2 ∧ f 4 = .pointer (some ⟨w.heap.size, 0, none⟩) ∧ f 5 = .pointer (some ⟨w.heap.size + 1, 0, none⟩) ∧ f 8 = .pointer (some ⟨w.heap.size + 2, 0, none⟩) ∧ f 11 = .pointer (some ⟨Bz + 1, 0, none⟩)) ∧ f 16 = .int .i64 k ∧ f 17 = .pointer (some ⟨q, 0, none⟩) ∧ f 114 = .int .i64 ma.events ∧ f 115 = .int .i64 j ∧ f 18 = .int .i64 j ∧ f 20 = .bool inB ∧ f 135 = .slice Aa sA.length ca ∧ f 136 = .int .i64 sA.length ∧ f 137 = .int .i64 i) ∧
          BW Bz w7 w' (Bz + 1) Bz q ma.events v S p (bsMid ma mb ofA ofB k st j ((sA.take i).flatMap fun s => sB.map fun t => ((s, t) : Pr))) ∧ Ints (TyB [3] Bz w') w' Aa sA)
        (fun f _ => sA.length - (intOf (f 137)).toNat) ⟨0, v, Nat.zero_le _, (by simp only [push_cast, ↓reduceIte, Nat.reduceEqDiff, true_and, and_true, and_self, eq_self, fr, eB]), W, rA⟩ ?_
      clear W rA fr hmuJ hzB2 hzB3
      rintro f w12 ⟨i, v, hi, fr, W, rA⟩ J3 hJ3
      have hzB : Bz ≤ w12.heap.size := by have := W.bel.size; omega
      by_cases hil : i < sA.length
      case neg =>
        obtain rfl : i = sA.length := by omega
        rw [List.take_length, hnx] at W
        simp (disch := first | with_reducible assumption | omega) only [push_cast, x_blk, x_cd, ↓reduceIte, Nat.reduceEqDiff, List.map_cons, List.map_nil, Int.reduceEq, Int.lt_irrefl, L_beside_Beside_1, fr, Nat.lt_irrefl, Int.lt_irrefl]
        exact hJ2 _ _ ⟨j + 1, v, hjn, (by simp only [push_cast, ↓reduceIte, Nat.reduceEqDiff, true_and, and_true, and_self, eq_self, fr]), W⟩ (by simp only [push_cast, ↓reduceIte, Nat.reduceEqDiff, intOf, fr]; omega)
      have hAs := rA.isSome (by omega)
      have k2' := k2.below W.bel (by omega)
      have lp1 : ∀ {K : Fr → World → Prop} {f : Fr} {d : Option Nat} {w : World}, Val1 Tryd.prog K (Instr.loadAt 3 (.pointer (some ⟨q, 1, none⟩))) w12 f d w = K (updO f d (.int .i64 p.2)) w := fun {K f d w} => bes_ldq W.box ty_ag_3 (j := 1) rfl
      simp (disch := first | with_reducible assumption | omega) only [push_cast, x_blk, x_cd, ↓reduceIte, Nat.reduceEqDiff, List.map_cons, List.map_nil, Int.reduceEq, Int.lt_irrefl, L_beside_Beside_1, fr, hil, hAs, rA.ld ty_ag_3 i hil, k2'.mA ty_ag_25 ty_sz_25, lp1]
      refine call_of (bes_to (IsM.lt' (hb7.below W.bel) hzB) p2 (hTb.below W.bel (by omega)) hpin.2 (j : Int) inB) ?_
      rintro r w15 ⟨Ab, cb, rfl, oB, b15⟩
      rw [hsB] at oB ⊢
      replace W := W.below b15 hzB
      replace rA := rA.keepT (KeepT.below b15)
      have rB : Ints (TyB [3] Bz w15) w15 Ab sB := OwnI.tyb oB (by simp)
      clear oB b15 lp1 k2' hAs
      have hmuI : sA.length - (intOf (f 137)).toNat = sA.length - i := by rw [fr.2.2.2.2.2.2.2.2.2]; simp [intOf]
      rw [hmuI] at hJ3
      have hpx := prod_prefix sA sB hil
      have hnI := prodK sA sB hil
      generalize hs : sA.getD i 0 = s at *
      generalize hps : ((sA.take i).flatMap fun s => sB.map fun t => ((s, t) : Pr)) = ps at *
      simp (disch := first | with_reducible assumption | omega) only [push_cast, x_blk, x_cd, ↓reduceIte, Nat.reduceEqDiff, List.map_cons, List.map_nil, Int.reduceEq, Int.lt_irrefl]
      refine loop_rule (fun f w' => ∃ (n : Nat) (v : FV), n ≤ sB.length ∧ ((f 2 = .slice A1 ofA.length c1 ∧ f 3 = .slice A2 ofB.length c2 ∧ f 4 = .pointer (some ⟨w.heap.size, 0, none⟩) ∧ f 5 = .pointer (some ⟨w.heap.size + 1, 0, none⟩) ∧ f 8 = .pointer (some ⟨w.heap.size + 2, 0, none⟩) ∧ f 11 = .pointer (some ⟨Bz + 1, 0, none⟩)) ∧ f 16 = .int .i64 k ∧ f 17 = .pointer (some ⟨q, 0, none⟩) ∧ f 114 = .int .i64 ma.events ∧ f 115 = .int .i64 j ∧ f 18 = .int .i64 j ∧ f 20 = .bool inB ∧ f 135 = .slice Aa sA.length ca ∧ f 136 = .int .i64 sA.length ∧ f 137 = .int .i64 i ∧ f 22 = .int .i64 s ∧ f 146 = .slice Ab sB.length cb ∧ f 147 = .int .i64 sB.length ∧ f 148 = .int .i64 n) ∧
          BW Bz w7 w' (Bz + 1) Bz q ma.events v S p (bsMid ma mb ofA ofB k st j (ps ++ (sB.take n).map fun t => ((s, t) : Pr))) ∧ Ints (TyB [3] Bz w') w' Aa sA ∧ Ints (TyB [3] Bz w') w' Ab sB)
        (fun f _ => sB.length - (intOf (f 148)).toNat) ⟨0, v, Nat.zero_le _, (by simp only [push_cast, ↓reduceIte, Nat.reduceEqDiff, true_and, and_true, and_self, eq_self, fr]), by simpa using W, rA, rB⟩ ?_
      clear W rA rB fr hmuI hzB
      rintro f w12 ⟨n, v, hn, fr, W, rA, rB⟩ J4 hJ4
      have hzB : Bz ≤ w12.heap.size := by have := W.bel.size; omega
      by_cases hnl : n < sB.length
      case neg =>
        obtain rfl : n = sB.length := by omega
        rw [List.take_length, ← hnI] at W
        simp (disch := first | with_reducible assumption | omega) only [push_cast, x_blk, x_cd, ↓reduceIte, Nat.reduceEqDiff, List.map_cons, List.map_nil, Int.reduceEq, Int.lt_irrefl, L_beside_Beside_0, fr, Nat.lt_irrefl, Int.lt_irrefl]
        exact hJ3 _ _ ⟨i + 1, v, hil, (by simp only [push_cast, ↓reduceIte, Nat.reduceEqDiff, true_and, and_true, and_self, eq_self, fr]), W, rA⟩ (by simp only [push_cast, ↓reduceIte, Nat.reduceEqDiff, intOf, fr]; omega)
      have hBs := rB.isSome (by omega)
      have ldB := fun {K : Fr → World → Prop} {f : Fr} {d : Option Nat} {w : World} => rB.ld (P := Tryd.prog) (K := K) (f := f) (d := d) (w := w) ty_ag_3 n hnl
      have dd : Same w12 w12.drew := (Same.refl w12).drew
      replace W := W.below (dd.below _) hzB
      replace rA := rA.keepT (KeepT.same dd)
      have rB' := rB.keepT (KeepT.same dd)
      have hpj := hpx (n + 1)
      have hplx : ps ++ (sB.take (n + 1)).map (fun t => ((s, t) : Pr)) = (ps ++ (sB.take n).map fun t => ((s, t) : Pr)) ++ [((s, sB.getD n 0) : Pr)] := by rw [take_snoc sB 0 n hnl, List.map_append, ← List.append_assoc]; rfl
      rw [hplx] at hpj
      generalize ht : sB.getD n 0 = t at *
      generalize hpl : ps ++ (sB.take n).map (fun t => ((s, t) : Pr)) = pl at *
      have hsub : ∀ x ∈ pl, x ∈ bsLds ma mb ofA ofB p (j : Int) := fun x hx => by rw [hlds]; exact hpj.subset (List.mem_append_left _ hx)
      have hM := hmidj hsub
      have hin : InPr ma mb (s, t) := hldin (hpj.subset (by simp))
      have hlen := hpj.length_le
      rw [List.length_append] at hlen
      have hsn := bsMid_snoc (a := ma) (b := mb) (ofA := ofA) (ofB := ofB) k st j pl (s, t)
      have hnd := hM.fi.nodup
      have hl1 := hM.psLen p1 p2
      have hl2 : (bsMid ma mb ofA ofB k st j pl).ar.length ≤ 1000000 := hArl hM (by have h1 : [((s, t) : Pr)].length = 1 := rfl; omega)
      generalize bsMid ma mb ofA ofB k st j pl = sm at *
      generalize hud : w12.drew = u at *
      have hzu : Bz ≤ u.heap.size := by rw [← hud]; exact hzB
      have lS := fun {K : Fr → World → Prop} {f : Fr} {d : Option Nat} {w : World} => bes_ldq (P := Tryd.prog) (K := K) (f := f) (d := d) (w := w) W.fin.blk ty_ag_23 (fC_3 _ _ _ _ _ _)
      simp (disch := first | with_reducible assumption | omega) only [push_cast, x_blk, x_cd, ↓reduceIte, Nat.reduceEqDiff, List.map_cons, List.map_nil, Int.reduceEq, Int.lt_irrefl, L_beside_Beside_0, fr, hnl, hBs, ldB, hud, bl_prA]
      rw [x_t_two]
      refine ⟨?_, ?_⟩
      · simp (disch := first | with_reducible assumption | omega) only [push_cast, x_blk, x_cd, ↓reduceIte, Nat.reduceEqDiff, List.map_cons, List.map_nil, Int.reduceEq, Int.lt_irrefl, fr, lS]
        refine call_of (bes_number W.fin hzu hnd (by omega) (hpI hin)) ?_
        rintro r w14 ⟨A4, c4, rfl, F1, b14, kt14, kn14, mv14⟩
        have W1 := W.num hq1 hq2 F1 b14 kn14 mv14
        have rA1 := rA.keepT kt14
        have rB1 := rB'.keepT kt14
        have hz14 : Bz ≤ w14.heap.size := by have := b14.size; omega
        simp (disch := first | with_reducible assumption | omega) only [push_cast, x_blk, x_cd, ↓reduceIte, Nat.reduceEqDiff, List.map_cons, List.map_nil, Int.reduceEq, Int.lt_irrefl, fr, bl_arrA, bs_rec arrEnc slT_23 _ (by decide)]
        refine app_rec arrEnc slT_23 W1.fin.ar (⟨(k : Int), (j : Int), (fnd (s, t) sm.ps : Nat)⟩ : Arr) (by show (sm.ar.length + 1) * 24 ≤ _; omega) (by show sm.ar.length + 1 ≤ _; omega) hz14 ?_
        intro A' c' w15 o15 g15 hA15 hs15 z15
        have k15 := W1.fin.blk.grown g15.by_ (fun e => W1.fin.ar.ne_blk W1.fin.blk (by decide) e.symm)
        simp (disch := first | with_reducible assumption | omega) only [push_cast, x_blk, x_cd, ↓reduceIte, Nat.reduceEqDiff, List.map_cons, List.map_nil, Int.reduceEq, Int.lt_irrefl, fr]
        refine sto_slice k15 (by kernel_rfl) 3 (by rw [fC_len]; decide) _ _ _ ?_
        intro w16 k16 g16 z16
        have W16 := W1.arr hq1 hz14 o15 g15 k16 g16
        have kt16 := W1.arrT k15 g15 g16
        simp (disch := first | with_reducible assumption | omega) only [push_cast, x_blk, x_cd, ↓reduceIte, Nat.reduceEqDiff, List.map_cons, List.map_nil, Int.reduceEq, Int.lt_irrefl, fr]
        exact hJ4 _ _ ⟨n + 1, _, hnl, (by simp only [push_cast, ↓reduceIte, Nat.reduceEqDiff, true_and, and_true, and_self, eq_self, fr]), by rw [hplx, hsn]; exact W16, rA1.keepT kt16, rB1.keepT kt16⟩ (by simp only [push_cast, ↓reduceIte, Nat.reduceEqDiff, intOf, fr]; omega)
      rw [x_t_cut]
      simp (disch := first | with_reducible assumption | omega) only [push_cast, x_blk, x_cd, ↓reduceIte, Nat.reduceEqDiff, List.map_cons, List.map_nil, Int.reduceEq, Int.lt_irrefl, fr]
      refine call_of (bes_number W.fin hzu hnd (by omega) (hpI hin)) ?_
      rintro r w14 ⟨A4, c4, rfl, F1, b14, kt14, kn14, mv14⟩
      have W1 := W.num hq1 hq2 F1 b14 kn14 mv14
      have rA1 := rA.keepT kt14
      have rB1 := rB'.keepT kt14
      have hz14 : Bz ≤ w14.heap.size := by have := b14.size; omega
      have lS1 := fun {K : Fr → World → Prop} {f : Fr} {d : Option Nat} {w : World} => bes_ldq (P := Tryd.prog) (K := K) (f := f) (d := d) (w := w) W1.fin.blk ty_ag_23 (fC_3 _ _ _ _ _ _)
      have lS2 := fun {o : Obj} {K : Fr → World → Prop} {f : Fr} {d : Option Nat} {w : World} => bes_ldq (P := Tryd.prog) (K := K) (f := f) (d := d) (w := w) (W1.fin.blk.alloc o) ty_ag_23 (fC_3 _ _ _ _ _ _)
      simp (disch := first | with_reducible assumption | omega) only [push_cast, x_blk, x_cd, ↓reduceIte, Nat.reduceEqDiff, List.map_cons, List.map_nil, Int.reduceEq, Int.lt_irrefl, fr, bl_arrA]
      rw [x_t_two]
      refine ⟨?_, ?_⟩
      · simp (disch := first | with_reducible assumption | omega) only [push_cast, x_blk, x_cd, ↓reduceIte, Nat.reduceEqDiff, List.map_cons, List.map_nil, Int.reduceEq, Int.lt_irrefl, fr, lS1, bs_rec arrEnc slT_23 _ (by decide)]
        refine app_rec arrEnc slT_23 W1.fin.ar (⟨(k : Int), (j : Int), (fnd (s, t) sm.ps : Nat)⟩ : Arr) (by show (sm.ar.length + 1) * 24 ≤ _; omega) (by show sm.ar.length + 1 ≤ _; omega) hz14 ?_
        intro A' c' w15 o15 g15 hA15 hs15 z15
        have k15 := W1.fin.blk.grown g15.by_ (fun e => W1.fin.ar.ne_blk W1.fin.blk (by decide) e.symm)
        simp (disch := first | with_reducible assumption | omega) only [push_cast, x_blk, x_cd, ↓reduceIte, Nat.reduceEqDiff, List.map_cons, List.map_nil, Int.reduceEq, Int.lt_irrefl, fr]
        refine sto_slice k15 (by kernel_rfl) 3 (by rw [fC_len]; decide) _ _ _ ?_
        intro w16 k16 g16 z16
        have W16 := W1.arr hq1 hz14 o15 g15 k16 g16
        have kt16 := W1.arrT k15 g15 g16
        simp (disch := first | with_reducible assumption | omega) only [push_cast, x_blk, x_cd, ↓reduceIte, Nat.reduceEqDiff, List.map_cons, List.map_nil, Int.reduceEq, Int.lt_irrefl, fr]
        exact hJ4 _ _ ⟨n + 1, _, hnl, (by simp only [push_cast, ↓reduceIte, Nat.reduceEqDiff, true_and, and_true, and_self, eq_self, fr]), by rw [hplx, hsn]; exact W16, rA1.keepT kt16, rB1.keepT kt16⟩ (by simp only [push_cast, ↓reduceIte, Nat.reduceEqDiff, intOf, fr]; omega)
      · simp (disch := first | with_reducible assumption | omega) only [push_cast, x_blk, x_cd, ↓reduceIte, Nat.reduceEqDiff, List.map_cons, List.map_nil, Int.reduceEq, Int.lt_irrefl, fr, bs_rec arrEnc slT_23 _ (by decide), lS2]
        refine app_rec arrEnc slT_23 W1.fin.ar (⟨(k : Int), (j : Int), (fnd (s, t) sm.ps : Nat)⟩ : Arr) (by show (sm.ar.length + 1) * 24 ≤ _; omega) (by show sm.ar.length + 1 ≤ _; omega) hz14 ?_
        intro A' c' w15 o15 g15 hA15 hs15 z15
        have k15 := W1.fin.blk.grown g15.by_ (fun e => W1.fin.ar.ne_blk W1.fin.blk (by decide) e.symm)
        simp (disch := first | with_reducible assumption | omega) only [push_cast, x_blk, x_cd, ↓reduceIte, Nat.reduceEqDiff, List.map_cons, List.map_nil, Int.reduceEq, Int.lt_irrefl, fr]
        refine sto_slice k15 (by kernel_rfl) 3 (by rw [fC_len]; decide) _ _ _ ?_
        intro w16 k16 g16 z16
        have W16 := W1.arr hq1 hz14 o15 g15 k16 g16
        have kt16 := W1.arrT k15 g15 g16
        simp (disch := first | with_reducible assumption | omega) only [push_cast, x_blk, x_cd, ↓reduceIte, Nat.reduceEqDiff, List.map_cons, List.map_nil, Int.reduceEq, Int.lt_irrefl, fr]
        exact hJ4 _ _ ⟨n + 1, _, hnl, (by simp only [push_cast, ↓reduceIte, Nat.reduceEqDiff, true_and, and_true, and_self, eq_self, fr]), by rw [hplx, hsn]; exact W16, rA1.keepT kt16, rB1.keepT kt16⟩ (by simp only [push_cast, ↓reduceIte, Nat.reduceEqDiff, intOf, fr]; omega)
  have iA := (ha7.below bb11).starts
  have hAsa := iA.isSome (by omega)
  have k2' := k2.below bb11 (by omega)
  simp (disch := first | with_reducible assumption | omega) only [push_cast, x_blk, x_cd, ↓reduceIte, Nat.reduceEqDiff, List.map_cons, List.map_nil, Int.reduceEq, Int.lt_irrefl, L_beside_Beside_5, fr, hil, hAsa, iA.ld ty_ag_3 i hil, k2'.m2 ty_ag_22]
  generalize hs : ma.starts.getD i 0 = s at *
  have hmuI : ma.starts.length - (intOf (f 68)).toNat = ma.starts.length - i := by rw [fr.2.2.2]; simp [intOf]
  rw [hmuI] at hJ
  have hnx := startsK ma mb hil
  have hpx := starts_prefix ma mb hil
  rw [hs] at hnx hpx
  generalize hps : ((ma.starts.take i).flatMap fun s => mb.starts.map fun t => ((s, t) : Pr)) = ps at *
  refine loop_rule (fun f w' => ∃ (j : Nat) (v : FV), j ≤ mb.starts.length ∧ ((f 2 = .slice A1 ofA.length c1 ∧ f 3 = .slice A2 ofB.length c2 ∧ f 4 = .pointer (some ⟨w.heap.size, 0, none⟩) ∧ f 5 = .pointer (some ⟨w.heap.size + 1, 0, none⟩) ∧ f 8 = .pointer (some ⟨w.heap.size + 2, 0, none⟩) ∧ f 11 = .pointer (some ⟨Bz + 1, 0, none⟩)) ∧ f 66 = .slice a.As ma.starts.length a.cs ∧ f 67 = .int .i64 ma.starts.length ∧ f 68 = .int .i64 i ∧ f 13 = .int .i64 s ∧ f 73 = .slice b.As mb.starts.length b.cs ∧ f 74 = .int .i64 mb.starts.length ∧ f 75 = .int .i64 j) ∧
      FinW Bz w' (Bz + 1) Bz ma.events v (evs (ps ++ (mb.starts.take j).map fun t => ((s, t) : Pr)).length) [] (ps ++ (mb.starts.take j).map fun t => ((s, t) : Pr)) ∧ Below Bz w7 w')
    (fun f _ => mb.starts.length - (intOf (f 75)).toNat) ⟨0, v, Nat.zero_le _, (by simp only [push_cast, ↓reduceIte, Nat.reduceEqDiff, true_and, and_true, and_self, eq_self, fr]), by simpa using F, bb11⟩ ?_
  clear F bb11 iA hAsa k2' hzB fr hmuI
  rintro f w12 ⟨j, v, hj, fr, F, bb12⟩ J2 hJ2
  have hzB : Bz ≤ w12.heap.size := by have := bb12.size; omega
  by_cases hjl : j < mb.starts.length
  case neg =>
    obtain rfl : j = mb.starts.length := by omega
    rw [List.take_length, ← hnx] at F
    simp (disch := first | with_reducible assumption | omega) only [push_cast, x_blk, x_cd, ↓reduceIte, Nat.reduceEqDiff, List.map_cons, List.map_nil, Int.reduceEq, Int.lt_irrefl, L_beside_Beside_4, fr, Nat.lt_irrefl, Int.lt_irrefl]
    exact hJ _ _ ⟨i + 1, v, hil, (by simp only [push_cast, ↓reduceIte, Nat.reduceEqDiff, true_and, and_true, and_self, eq_self, fr]), F, bb12⟩ (by simp only [push_cast, ↓reduceIte, Nat.reduceEqDiff, intOf, fr]; omega)
  have iB := (hb7.below bb12).starts
  have hAsb := iB.isSome (by omega)
  have ldB := fun {K : Fr → World → Prop} {f : Fr} {d : Option Nat} {w : World} => iB.ld (P := Tryd.prog) (K := K) (f := f) (d := d) (w := w) ty_ag_3 j hjl
  have dd : Same w12 w12.drew := (Same.refl w12).drew
  replace F := F.below (dd.below _)
  replace bb12 := bb12.trans (dd.below _)
  have hpj := hpx (j + 1)
  rw [take_snoc mb.starts 0 j hjl, List.map_append, ← List.append_assoc] at hpj
  generalize ht : mb.starts.getD j 0 = t at *
  generalize hpl : ps ++ (mb.starts.take j).map (fun t => ((s, t) : Pr)) = pl at *
  have hnd : (pl ++ [((s, t) : Pr)]).Nodup := hSn.sublist hpj.sublist
  have hin : InPr ma mb (s, t) := hSin _ (hpj.subset (by simp))
  have hlen := hpj.length_le
  rw [List.length_append] at hlen
  have hnin : ((s, t) : Pr) ∉ pl := fun hm => by
    have := (List.nodup_append.1 hnd).2.2 _ hm _ (List.mem_singleton.2 rfl)
    exact this rfl
  have hndp := (List.nodup_append.1 hnd).1
  have hfn := fnd_none hnin
  have hplx : ps ++ (mb.starts.take (j + 1)).map (fun t => ((s, t) : Pr)) = pl ++ [((s, t) : Pr)] := by rw [take_snoc mb.starts 0 j hjl, ht, List.map_append, ← List.append_assoc, hpl]; rfl
  generalize hud : w12.drew = u at *
  have hzu : Bz ≤ u.heap.size := by rw [← hud]; exact hzB
  have lS := fun {K : Fr → World → Prop} {f : Fr} {d : Option Nat} {w : World} => bes_ldq (P := Tryd.prog) (K := K) (f := f) (d := d) (w := w) F.blk ty_ag_22 (fC_2 _ _ _ _ _ _)
  simp (disch := first | with_reducible assumption | omega) only [push_cast, x_blk, x_cd, ↓reduceIte, Nat.reduceEqDiff, List.map_cons, List.map_nil, Int.reduceEq, Int.lt_irrefl, L_beside_Beside_4, fr, hjl, hAsb, ldB, hud, bl_prA]
  rw [x_t_two]
  refine ⟨?_, ?_⟩
  · simp (disch := first | with_reducible assumption | omega) only [push_cast, x_blk, x_cd, ↓reduceIte, Nat.reduceEqDiff, List.map_cons, List.map_nil, Int.reduceEq, Int.lt_irrefl, fr, lS]
    refine call_of (bes_number F hzu hndp (by omega) (hpI hin)) ?_
    rintro r w14 ⟨A4, c4, rfl, F1, b14, _, _, _⟩
    rw [if_neg hnin] at F1
    simp (disch := first | with_reducible assumption | omega) only [push_cast, x_blk, x_cd, ↓reduceIte, Nat.reduceEqDiff, List.map_cons, List.map_nil, Int.reduceEq, Int.lt_irrefl, fr, hfn, bs_22]
    have hS1 : (evs pl.length).length ≤ 65536 := by rw [evs_len]; omega
    have hz14 : Bz ≤ w14.heap.size := by have := b14.size; omega
    refine app_int slT_22 F1.st (pl.length : Int) (by omega) hz14 ?_
    intro A' c' w15 o15 g15 hA15 hs15 z15
    have k15 := F1.blk.grown g15.by_ (fun e => F1.st.ne_blk F1.blk (by decide) e.symm)
    simp (disch := first | with_reducible assumption | omega) only [push_cast, x_blk, x_cd, ↓reduceIte, Nat.reduceEqDiff, List.map_cons, List.map_nil, Int.reduceEq, Int.lt_irrefl, fr]
    refine sto_slice k15 (by kernel_rfl) 2 (by rw [fC_len]; decide) _ _ _ ?_
    intro w16 k16 g16 z16
    have F16 := F1.start o15 g15 k16 g16
    have bb16 := g16.below (g15.below (bb12.trans b14) hz14 F1.st.geB) (by omega) (by intro a ha; injection ha with ha; subst ha; exact F1.gB)
    have hl16 : (pl ++ [((s, t) : Pr)]).length = pl.length + 1 := by simp
    rw [← evs_snoc', ← hl16] at F16
    simp (disch := first | with_reducible assumption | omega) only [push_cast, x_blk, x_cd, ↓reduceIte, Nat.reduceEqDiff, List.map_cons, List.map_nil, Int.reduceEq, Int.lt_irrefl, fr]
    exact hJ2 _ _ ⟨j + 1, _, hjl, (by simp only [push_cast, ↓reduceIte, Nat.reduceEqDiff, true_and, and_true, and_self, eq_self, fr]), by rw [hplx]; exact F16, bb16⟩ (by simp only [push_cast, ↓reduceIte, Nat.reduceEqDiff, intOf, fr]; omega)
  rw [x_t_cut]
  simp (disch := first | with_reducible assumption | omega) only [push_cast, x_blk, x_cd, ↓reduceIte, Nat.reduceEqDiff, List.map_cons, List.map_nil, Int.reduceEq, Int.lt_irrefl, fr]
  refine call_of (bes_number F hzu hndp (by omega) (hpI hin)) ?_
  rintro r w14 ⟨A4, c4, rfl, F1, b14, _, _, _⟩
  rw [if_neg hnin] at F1
  have lS1 := fun {K : Fr → World → Prop} {f : Fr} {d : Option Nat} {w : World} => bes_ldq (P := Tryd.prog) (K := K) (f := f) (d := d) (w := w) F1.blk ty_ag_22 (fC_2 _ _ _ _ _ _)
  have lS2 := fun {o : Obj} {K : Fr → World → Prop} {f : Fr} {d : Option Nat} {w : World} => bes_ldq (P := Tryd.prog) (K := K) (f := f) (d := d) (w := w) (F1.blk.alloc o) ty_ag_22 (fC_2 _ _ _ _ _ _)
  simp (disch := first | with_reducible assumption | omega) only [push_cast, x_blk, x_cd, ↓reduceIte, Nat.reduceEqDiff, List.map_cons, List.map_nil, Int.reduceEq, Int.lt_irrefl, fr, hfn]
  rw [x_t_two]
  refine ⟨?_, ?_⟩
  · simp (disch := first | with_reducible assumption | omega) only [push_cast, x_blk, x_cd, ↓reduceIte, Nat.reduceEqDiff, List.map_cons, List.map_nil, Int.reduceEq, Int.lt_irrefl, fr, hfn, lS1, bs_22]
    have hS1 : (evs pl.length).length ≤ 65536 := by rw [evs_len]; omega
    have hz14 : Bz ≤ w14.heap.size := by have := b14.size; omega
    refine app_int slT_22 F1.st (pl.length : Int) (by omega) hz14 ?_
    intro A' c' w15 o15 g15 hA15 hs15 z15
    have k15 := F1.blk.grown g15.by_ (fun e => F1.st.ne_blk F1.blk (by decide) e.symm)
    simp (disch := first | with_reducible assumption | omega) only [push_cast, x_blk, x_cd, ↓reduceIte, Nat.reduceEqDiff, List.map_cons, List.map_nil, Int.reduceEq, Int.lt_irrefl, fr]
    refine sto_slice k15 (by kernel_rfl) 2 (by rw [fC_len]; decide) _ _ _ ?_
    intro w16 k16 g16 z16
    have F16 := F1.start o15 g15 k16 g16
    have bb16 := g16.below (g15.below (bb12.trans b14) hz14 F1.st.geB) (by omega) (by intro a ha; injection ha with ha; subst ha; exact F1.gB)
    have hl16 : (pl ++ [((s, t) : Pr)]).length = pl.length + 1 := by simp
    rw [← evs_snoc', ← hl16] at F16
    simp (disch := first | with_reducible assumption | omega) only [push_cast, x_blk, x_cd, ↓reduceIte, Nat.reduceEqDiff, List.map_cons, List.map_nil, Int.reduceEq, Int.lt_irrefl, fr]
    exact hJ2 _ _ ⟨j + 1, _, hjl, (by simp only [push_cast, ↓reduceIte, Nat.reduceEqDiff, true_and, and_true, and_self, eq_self, fr]), by rw [hplx]; exact F16, bb16⟩ (by simp only [push_cast, ↓reduceIte, Nat.reduceEqDiff, intOf, fr]; omega)
  · simp (disch := first | with_reducible assumption | omega) only [push_cast, x_blk, x_cd, ↓reduceIte, Nat.reduceEqDiff, List.map_cons, List.map_nil, Int.reduceEq, Int.lt_irrefl, fr, hfn, bs_22, lS2]
    have hS1 : (evs pl.length).length ≤ 65536 := by rw [evs_len]; omega
    have hz14 : Bz ≤ w14.heap.size := by have := b14.size; omega
    refine app_int slT_22 F1.st (pl.length : Int) (by omega) hz14 ?_
    intro A' c' w15 o15 g15 hA15 hs15 z15
    have k15 := F1.blk.grown g15.by_ (fun e => F1.st.ne_blk F1.blk (by decide) e.symm)
    simp (disch := first | with_reducible assumption | omega) only [push_cast, x_blk, x_cd, ↓reduceIte, Nat.reduceEqDiff, List.map_cons, List.map_nil, Int.reduceEq, Int.lt_irrefl, fr]
    refine sto_slice k15 (by kernel_rfl) 2 (by rw [fC_len]; decide) _ _ _ ?_
    intro w16 k16 g16 z16
    have F16 := F1.start o15 g15 k16 g16
    have bb16 := g16.below (g15.below (bb12.trans b14) hz14 F1.st.geB) (by omega) (by intro a ha; injection ha with ha; subst ha; exact F1.gB)
    have hl16 : (pl ++ [((s, t) : Pr)]).length = pl.length + 1 := by simp
    rw [← evs_snoc', ← hl16] at F16
    simp (disch := first | with_reducible assumption | omega) only [push_cast, x_blk, x_cd, ↓reduceIte, Nat.reduceEqDiff, List.map_cons, List.map_nil, Int.reduceEq, Int.lt_irrefl, fr]
    exact hJ2 _ _ ⟨j + 1, _, hjl, (by simp only [push_cast, ↓reduceIte, Nat.reduceEqDiff, true_and, and_true, and_self, eq_self, fr]), by rw [hplx]; exact F16, bb16⟩ (by simp only [push_cast, ↓reduceIte, Nat.reduceEqDiff, intOf, fr]; omega)
end Go.Proofs.YtcjedgiglimipaaDoor
