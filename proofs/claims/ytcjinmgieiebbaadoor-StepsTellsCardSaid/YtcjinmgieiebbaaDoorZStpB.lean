/-
  Chapter 11: the program's Leak: by its contract.
-/
import Derived.Test.YtcjinmgieiebbaaDoorZStp
namespace Go.Proofs.YtcjinmgieiebbaaDoor
set_option linter.unusedSimpArgs false
set_option linter.unusedVariables false
set_option linter.unusedSectionVars false
open Go.RowKit

theorem steps_Leak_1 {w : World} {a : PV} {p : Plt} {g : Nat} (hg : Blk w g 27 (a.cells p)) (ha : IsP (· < w.heap.size) w a p) (hf : p.Fits) (hm : p.m.May) (s : List Int) (e : Int) :
    Cal Tryd.prog 79 [setV s, .int .i64 e, .pointer (some ⟨g, 0, none⟩)] w fun v w' => v = setV (nextP p s e) ∧ Below w.heap.size w w' := by
  refine cal_steps_Leak_1 (by simp) 100000 fun Q hQ => ?_
  simp (disch := first | with_reducible assumption | omega) only [push_cast, x_blk, x_cd, ↓reduceIte, Nat.reduceEqDiff, List.map_cons, List.map_nil, Int.reduceEq, Int.lt_irrefl, F_steps_Leak_1]
  refine blk_of (box_agg _ (setCells (wordsOf s))) ?_
  intro w1 ks b1 z1
  simp (disch := first | with_reducible assumption | omega) only [push_cast, x_blk, x_cd, ↓reduceIte, Nat.reduceEqDiff, List.map_cons, List.map_nil, Int.reduceEq, Int.lt_irrefl]
  refine blk_of (cs := setCells (wordsOf [])) al_64 ?_
  intro w2 k2 b2 z2
  replace ks := ks.below b2 ks.lt
  have bb := b1.trans (b2.mono b1.size)
  have k1 := hg.below bb hg.lt
  simp (disch := first | with_reducible assumption | omega) only [push_cast, x_blk, x_cd, ↓reduceIte, Nat.reduceEqDiff, List.map_cons, List.map_nil, Int.reduceEq, Int.lt_irrefl, k1.pA', ks.setA (wordsOf_words _) ty_ag_64 ty_sz_64]
  refine call_of (current_Next (ha.up bb) hf hm s e) ?_
  rintro v w3 ⟨rfl, b3⟩
  replace bb := bb.trans (b3.mono bb.size)
  simp (disch := first | with_reducible assumption | omega) only [push_cast, x_blk, x_cd, ↓reduceIte, Nat.reduceEqDiff, List.map_cons, List.map_nil, Int.reduceEq, Int.lt_irrefl]
  refine sto_blk (k2.below b3 k2.lt) (cs := setCells (wordsOf (nextP p s e))) (e4_set _) (by rw [setCells_4, setCells_4]) (setCells_one _) ?_
  intro w6 k6 g6 z6
  simp (disch := first | with_reducible assumption | omega) only [push_cast, x_blk, x_cd, ↓reduceIte, Nat.reduceEqDiff, List.map_cons, List.map_nil, Int.reduceEq, Int.lt_irrefl]
  exact fin_cell k6 ty_ag_64 (e4_set _) (by simp only [push_cast, ↓reduceIte, Nat.reduceEqDiff, Int.reduceEq]) (hQ _ _ ⟨rfl, g6.below bb bb.size (by intro a ha; injection ha with ha; subst ha; show w.heap.size ≤ w1.heap.size; omega)⟩)

theorem blt_lk : builtPl Tryd.prog 111 = some ([(0, 1), (1, 1)], [.slice none 0 0, .slice none 0 0]) := by kernel_rfl
theorem bl_lk {K : Fr → World → Prop} {u : World} {f : Fr} {d : Option Nat} {w : World} (p : Kn) :
    Val1 Tryd.prog K (Instr.build 111 #[(0, .slice p.R p.r.length p.cr), (1, .slice p.W p.w.length p.cw)]) u f d w = K (updO f d (.agg p.cells.toArray)) w := by
  have := bld_2 (P := Tryd.prog) (K := K) (u := u) (f := f) (d := d) (w := w) blt_lk rfl rfl rfl (v0 := .slice p.R p.r.length p.cr) (v1 := .slice p.W p.w.length p.cw) rfl rfl
  rw [this]; rfl
/-- What is found among the first places from behind; and one more, of the first places from ahead. -/
def SelO (p : Plt) (most : Int) (ps qs : List Pc) (i : Nat) (z : List Int × List Int) : Prop :=
  ∃ (i' : Nat) (y : Pc), i' < i ∧ qs[i']? = some y ∧ (most < 0 ∨ (y.w.length : Int) ≤ most) ∧ ∃ x ∈ ps, TellsL (onlyL x.s y.s true) p.secret ∧ z = (x.w, y.w)
def SelI (p : Plt) (ps : List Pc) (y : Pc) (j : Nat) (z : List Int × List Int) : Prop := ∃ (j' : Nat) (x : Pc), j' < j ∧ ps[j']? = some x ∧ TellsL (onlyL x.s y.s true) p.secret ∧ z = (x.w, y.w)
theorem SelO.succ_no {p : Plt} {most : Int} {ps qs : List Pc} {i : Nat} {y : Pc} (hy : qs[i]? = some y) (h : ¬ (most < 0 ∨ (y.w.length : Int) ≤ most)) (z : List Int × List Int) : SelO p most ps qs (i + 1) z ↔ SelO p most ps qs i z := by
  constructor
  · rintro ⟨i', y', hi, hy', hs, hx⟩
    by_cases e : i' = i
    · subst e; rw [hy] at hy'; obtain rfl := Option.some.inj hy'; exact absurd hs h
    · exact ⟨i', y', by omega, hy', hs, hx⟩
  · rintro ⟨i', y', hi, hr⟩
    exact ⟨i', y', by omega, hr⟩
theorem SelO.succ_yes {p : Plt} {most : Int} {ps qs : List Pc} {i : Nat} {y : Pc} (hy : qs[i]? = some y) (h : most < 0 ∨ (y.w.length : Int) ≤ most) (z : List Int × List Int) : SelO p most ps qs (i + 1) z ↔ (SelO p most ps qs i z ∨ SelI p ps y ps.length z) := by
  constructor
  · rintro ⟨i', y', hi, hy', hs, x, hx, ht, hz⟩
    by_cases e : i' = i
    · subst e; rw [hy] at hy'; obtain rfl := Option.some.inj hy'
      obtain ⟨j, hj⟩ := List.mem_iff_getElem?.1 hx
      exact .inr ⟨j, x, getElem?_lt hj, hj, ht, hz⟩
    · exact .inl ⟨i', y', by omega, hy', hs, x, hx, ht, hz⟩
  · rintro (⟨i', y', hi, hr⟩ | ⟨j, x, _, hj, ht, hz⟩)
    · exact ⟨i', y', by omega, hr⟩
    · exact ⟨i, y, by omega, hy, h, x, List.mem_of_getElem? hj, ht, hz⟩
theorem SelI.succ_no {p : Plt} {ps : List Pc} {y : Pc} {j : Nat} {x : Pc} (hx : ps[j]? = some x) (h : ¬ TellsL (onlyL x.s y.s true) p.secret) (z : List Int × List Int) : SelI p ps y (j + 1) z ↔ SelI p ps y j z := by
  constructor
  · rintro ⟨j', x', hj, hx', ht, hz⟩
    by_cases e : j' = j
    · subst e; rw [hx] at hx'; obtain rfl := Option.some.inj hx'; exact absurd ht h
    · exact ⟨j', x', by omega, hx', ht, hz⟩
  · rintro ⟨j', x', hj, hr⟩
    exact ⟨j', x', by omega, hr⟩
theorem SelI.succ_yes {p : Plt} {ps : List Pc} {y : Pc} {j : Nat} {x : Pc} (hx : ps[j]? = some x) (h : TellsL (onlyL x.s y.s true) p.secret) (z : List Int × List Int) : SelI p ps y (j + 1) z ↔ (SelI p ps y j z ∨ z = (x.w, y.w)) := by
  constructor
  · rintro ⟨j', x', hj, hx', ht, hz⟩
    by_cases e : j' = j
    · subst e; rw [hx] at hx'; obtain rfl := Option.some.inj hx'; exact .inr hz
    · exact .inl ⟨j', x', by omega, hx', ht, hz⟩
  · rintro (⟨j', x', hj, hr⟩ | hz)
    · exact ⟨j', x', by omega, hr⟩
    · exact ⟨j, x, by omega, hx, h, hz⟩
theorem SelO.all {p : Plt} {most : Int} {ps qs : List Pc} (z : List Int × List Int) : SelO p most ps qs qs.length z ↔ StpSel p most (ps.map Pc.abs) (qs.map Pc.abs) z := by
  constructor
  · rintro ⟨i', y, hi, hy, hs, x, hx, ht, rfl⟩
    exact ⟨y.abs, List.mem_map.2 ⟨y, List.mem_of_getElem? hy, rfl⟩, hs, x.abs, List.mem_map.2 ⟨x, hx, rfl⟩, ht, rfl⟩
  · rintro ⟨y, hy, hs, x, hx, ht, rfl⟩
    obtain ⟨y', hy', rfl⟩ := List.mem_map.1 hy
    obtain ⟨x', hx', rfl⟩ := List.mem_map.1 hx
    obtain ⟨i, hi⟩ := List.mem_iff_getElem?.1 hy'
    exact ⟨i, y', getElem?_lt hi, hi, hs, x', hx', ht, rfl⟩
theorem steps_Leak {w : World} {a : PV} {p : Plt} (ha : IsP (· < w.heap.size) w a p) (hf : p.Fits) (most : Int) : Cal Tryd.prog 37 [a.val p, .int .i64 most] w (StpRes p most w) := by
  refine cal_steps_Leak (by simp) 100000 fun Q hQ => ?_
  simp (disch := first | with_reducible assumption | omega) only [push_cast, x_blk, x_cd, ↓reduceIte, Nat.reduceEqDiff, List.map_cons, List.map_nil, Int.reduceEq, Int.lt_irrefl, F_steps_Leak]
  refine blk_of (box_agg _ (a.cells p)) ?_
  intro w1 k1 b1 z1
  simp (disch := first | with_reducible assumption | omega) only [push_cast, x_blk, x_cd, ↓reduceIte, Nat.reduceEqDiff, List.map_cons, List.map_nil, Int.reduceEq, Int.lt_irrefl, k1.pA']
  refine call_of (current_May (ha.up b1) hf) ?_
  rintro v w2 ⟨rfl, b2⟩
  replace k1 := k1.below b2 k1.lt
  have bb := b1.trans (b2.mono b1.size)
  by_cases p1 : p.May
  case neg =>
    simp (disch := first | with_reducible assumption | omega) only [push_cast, x_blk, x_cd, ↓reduceIte, Nat.reduceEqDiff, List.map_cons, List.map_nil, Int.reduceEq, Int.lt_irrefl, decide_eq_false p1]
    exact fin_4 (hQ _ _ ⟨false, none, 0, [], none, 0, [], 2, (by simp only [push_cast, ↓reduceIte, Nat.reduceEqDiff, Int.reduceEq, List.length_nil]), Ints.nil _ _ _, Ints.nil _ _ _, by simp, by simp, bb, .inl ⟨p1, rfl, rfl, rfl, rfl⟩⟩)
  by_cases p2 : most < -1
  case pos =>
    simp (disch := first | with_reducible assumption | omega) only [push_cast, x_blk, x_cd, ↓reduceIte, Nat.reduceEqDiff, List.map_cons, List.map_nil, Int.reduceEq, Int.lt_irrefl, decide_eq_true p1, p2]
    exact fin_4 (hQ _ _ ⟨false, none, 0, [], none, 0, [], 6, (by simp only [push_cast, ↓reduceIte, Nat.reduceEqDiff, Int.reduceEq, List.length_nil]), Ints.nil _ _ _, Ints.nil _ _ _, by simp, by simp, bb, .inr (.inl ⟨p1, by omega, rfl, rfl, rfl, rfl⟩)⟩)
  by_cases p3 : 1000 < most
  case pos =>
    simp (disch := first | with_reducible assumption | omega) only [push_cast, x_blk, x_cd, ↓reduceIte, Nat.reduceEqDiff, List.map_cons, List.map_nil, Int.reduceEq, Int.lt_irrefl, decide_eq_true p1, p2, p3]
    exact fin_4 (hQ _ _ ⟨false, none, 0, [], none, 0, [], 6, (by simp only [push_cast, ↓reduceIte, Nat.reduceEqDiff, Int.reduceEq, List.length_nil]), Ints.nil _ _ _, Ints.nil _ _ _, by simp, by simp, bb, .inr (.inl ⟨p1, by omega, rfl, rfl, rfl, rfl⟩)⟩)
  have hmost : -1 ≤ most ∧ most ≤ 1000 := by omega
  have hm := p1.1
  have hst : p.m.states ≤ 256 := hm.2.1
  have nP := p1.seen8
  have nQ := hf.lenQ
  have sd : Same w2 w2.drew := (Same.refl w2).drew
  replace k1 := k1.same sd
  replace bb := bb.trans (sd.below _)
  generalize hu : w2.drew = u at *
  simp (disch := first | with_reducible assumption | omega) only [push_cast, x_blk, x_cd, ↓reduceIte, Nat.reduceEqDiff, List.map_cons, List.map_nil, Int.reduceEq, Int.lt_irrefl, decide_eq_true p1, p2, p3, hu, k1.pA', k1.p5]
  refine call_of (current_First (ha.up bb) hf hm) ?_
  rintro v w3 ⟨rfl, b3⟩
  have bb3 := bb.trans (b3.mono bb.size)
  have k3 := k1.below b3 k1.lt
  simp (disch := first | with_reducible assumption | omega) only [push_cast, x_blk, x_cd, ↓reduceIte, Nat.reduceEqDiff, List.map_cons, List.map_nil, Int.reduceEq, Int.lt_irrefl]
  refine ⟨b3, ?_⟩
  refine call_of (current_Places (step := nextP p) (U := fun s => IsRow s 6) (fun s hs => ⟨hs.strict, hs.small (by decide)⟩) (firstP_row6 p1) (ha.up bb3).seen nP (fun s _ e _ => nextP_row6 p1 s e)
    (fun w' hw s hs e he => steps_Leak_1 (k3.below hw k3.lt) (ha.up (bb3.trans (hw.mono bb3.size))) hf hm s e)) ?_
  rintro v w4 ⟨A, c, ps, k, rfl, hR, hro, b4, habs, hkl, h264, hend⟩
  have bb4 := bb3.trans (b4.mono bb3.size)
  have b34 := b3.trans (b4.mono b3.size)
  have k4 := k3.below b4 k3.lt
  have few := row6_few (step := nextP p) (es := p.seen) (firstP_row6 p1) (fun s _ e _ => nextP_row6 p1 s e) k 0
  rw [bPart_zero] at few
  have hpl : ps.length = (bIter (nextP p) p.seen (firstP p) k).length := by rw [← habs, List.length_map]
  have hke : ps.length = k := by omega
  have hkk : (bIter (nextP p) p.seen (firstP p) k).length = k := by omega
  have hrow : ∀ x ∈ ps, IsRow x.s 6 := fun x hx => by
    have hmem : (x.s, x.w) ∈ bIter (nextP p) p.seen (firstP p) k := by rw [← habs]; exact List.mem_map.2 ⟨x, hx, rfl⟩
    exact (bIter_good (step := nextP p) (es := p.seen) (U := fun s => IsRow s 6) (fun s _ e _ => nextP_row6 p1 s e) (firstP_row6 p1) k).univ _ hmem
  have hword : ∀ x ∈ ps, x.w.length ≤ 264 := fun x hx => by
    obtain ⟨i, hi⟩ := List.mem_iff_getElem?.1 hx
    have : (bIter (nextP p) p.seen (firstP p) k)[i]? = some x.abs := by rw [← habs, List.getElem?_map, hi]; rfl
    have h1 : x.w.length ≤ i := bIter_word _ _ _ _ this
    have := getElem?_lt hi
    omega
  simp (disch := first | with_reducible assumption | omega) only [push_cast, x_blk, x_cd, ↓reduceIte, Nat.reduceEqDiff, List.map_cons, List.map_nil, Int.reduceEq, Int.lt_irrefl]
  refine ⟨b34, ?_⟩
  simp (disch := first | with_reducible assumption | omega) only [push_cast, x_blk, x_cd, ↓reduceIte, Nat.reduceEqDiff, List.map_cons, List.map_nil, Int.reduceEq, Int.lt_irrefl, k4.pA']
  refine call_of (initial_Places (ha.up bb4) hf p1) ?_
  rintro v w5 ⟨A2, c2, qs, n, rfl, hR2, hro2, b5, habs2, hnil, h64, hn64⟩
  have bb5 := bb4.trans (b5.mono bb4.size)
  have k5 := k4.below b5 k4.lt
  have good := lays_good (step := backP p) (es := p.seen) (first := allP p) (U := UB p) (fun s _ e _ => UB.back hm s e) (UB.all hm) n
  have hqs : ∀ y ∈ qs, UB p y.s ∧ y.w.length ≤ 64 := fun y hy => by
    have hmem : y.abs ∈ (layP p n).1 := by rw [← habs2]; exact List.mem_map.2 ⟨y, hy, rfl⟩
    exact ⟨good.univ _ hmem, by have := (good.run _ hmem).2.2; exact Nat.le_trans this hn64⟩
  have hR5 : Recs Pc.cells 5 (· < w5.heap.size) w5 A ps := (hR.keep fun b hb => b5.block b hb.2).mono fun b hb => by have := hb.2; have := b5.size; omega
  have hR25 : Recs Pc.cells 5 (· < w5.heap.size) w5 A2 qs := hR2.mono fun b hb => hb.2
  have hw5 : ∀ x ∈ ps, Ints (· < w5.heap.size) w5 x.W x.w := fun x hx => ((hro x hx).keep fun b hb => b5.block b hb.2).mono fun b hb => by have := hb.2; have := b5.size; omega
  have hv5 : ∀ y ∈ qs, Ints (· < w5.heap.size) w5 y.W y.w := fun y hy => (hro2 y hy).mono fun b hb => hb.2
  clear hR hro hR2 hro2 b34 b3 b4 k4 k3 k1 sd b5
  simp (disch := first | with_reducible assumption | omega) only [push_cast, x_blk, x_cd, ↓reduceIte, Nat.reduceEqDiff, List.map_cons, List.map_nil, Int.reduceEq, Int.lt_irrefl]
  refine loop_rule (fun f w' => ∃ (i : Nat) (l : List Kn) (L : Option Addr) (cl : Nat), i ≤ qs.length ∧ l.length ≤ 264 * i ∧ (f 1 = .int .i64 most ∧ f 2 = .pointer (some ⟨w.heap.size, 0, none⟩) ∧ f 8 = .slice L l.length cl ∧ f 9 = .slice A ps.length c ∧ f 33 = .slice A2 qs.length c2 ∧ f 34 = .int .i64 qs.length ∧ f 35 = .int .i64 i) ∧
      (∀ z, z ∈ l.map Kn.abs ↔ SelO p most ps qs i z) ∧ (∀ x ∈ l, LkAt w5 x) ∧ OwnR Kn.cells w5.heap.size 111 2 w' L cl l ∧ Below w5.heap.size w5 w')
    (fun f _ => qs.length - (intOf (f 35)).toNat) ⟨0, [], none, 0, Nat.zero_le _, by simp, ⟨rfl, rfl, rfl, rfl, rfl, rfl, rfl⟩, fun z => ⟨fun h => absurd h (by simp), fun ⟨_, _, h, _⟩ => absurd h (by omega)⟩, fun x hx => absurd hx (by simp), Own.nil _ _ _ _, Below.refl _ _⟩ ?_
  rintro f w6 ⟨i, l, L, cl, hi, hll, fr, hsel, hlk, ho, b6⟩ J hJ
  have bb6 := bb5.trans (b6.mono bb5.size)
  have hmu : (intOf (f 35)).toNat = i := by rw [fr.2.2.2.2.2.2]; simp [intOf]
  by_cases hlt : i < qs.length
  case neg =>
    obtain rfl : i = qs.length := by omega
    have hfin : ∀ z, z ∈ l.map Kn.abs ↔ StpSel p most (bIter (nextP p) p.seen (firstP p) k) (layP p n).1 z := fun z => by rw [hsel z, SelO.all, habs, habs2]
    by_cases hl0 : l.length = 0
    · obtain rfl := List.eq_nil_of_length_eq_zero hl0
      simp (disch := first | with_reducible assumption | omega) only [push_cast, x_blk, x_cd, ↓reduceIte, Nat.reduceEqDiff, List.map_cons, List.map_nil, Int.reduceEq, Int.lt_irrefl, L_steps_Leak_1, fr, Nat.lt_irrefl, List.length_nil, eq_self]
      exact fin_4 (hQ _ _ ⟨false, none, 0, [], none, 0, [], 0, (by simp only [push_cast, ↓reduceIte, Nat.reduceEqDiff, Int.reduceEq, List.length_nil]), Ints.nil _ _ _, Ints.nil _ _ _, by simp, by simp, bb6, .inr (.inr ⟨p1, hmost, rfl, none, best_sel p1 hkk hnil (fun z hz => absurd ((hfin z).2 hz) (by simp)), ⟨rfl, rfl, rfl⟩⟩)⟩)
    · have hl0' : ¬ (l.length : Int) = 0 := by omega
      have hRl := Recs.lt knEnc (by decide) (OwnR.recs ho knEnc (by decide))
      simp (disch := first | with_reducible assumption | omega) only [push_cast, x_blk, x_cd, ↓reduceIte, Nat.reduceEqDiff, List.map_cons, List.map_nil, Int.reduceEq, Int.lt_irrefl, L_steps_Leak_1, fr, Nat.lt_irrefl, hl0']
      refine call_of (slices_MinFunc hRl (fun x hx => (hlk x hx).up b6) (by omega) (by omega)) ?_
      rintro v w7 ⟨m, hml, rfl, hmin, b7⟩
      simp (disch := first | with_reducible assumption | omega) only [push_cast, x_blk, x_cd, ↓reduceIte, Nat.reduceEqDiff, List.map_cons, List.map_nil, Int.reduceEq, Int.lt_irrefl]
      refine blk_of (cs := Kn.cells ⟨none, 0, [], none, 0, []⟩) al_111 ?_
      intro w8 k8 b8 z8
      simp (disch := first | with_reducible assumption | omega) only [push_cast, x_blk, x_cd, ↓reduceIte, Nat.reduceEqDiff, List.map_cons, List.map_nil, Int.reduceEq, Int.lt_irrefl]
      refine sto_blk k8 (cs := Kn.cells m) (e2_lk _) rfl (one_lk _) ?_
      intro w9 k9 g9 z9
      have b79 := g9.below b8 b8.size (by intro a ha; injection ha with ha; subst ha; exact Nat.le_refl _)
      have b69 := b7.trans (b79.mono b7.size)
      have b59 := (b6.trans (b69.mono b6.size)).trans ((Same.refl w9).drew.below _)
      have k9d := k9.drew
      have hm5 := (hlk m hml).up b59
      have bb9 := bb5.trans (b59.mono bb5.size)
      simp (disch := first | with_reducible assumption | omega) only [push_cast, x_blk, x_cd, ↓reduceIte, Nat.reduceEqDiff, List.map_cons, List.map_nil, Int.reduceEq, Int.lt_irrefl, k9d.kn0 ty_ag_22, k9d.kn1 ty_ag_22]
      refine fin_4 (hQ _ _ ⟨true, m.R, m.cr, m.r, m.W, m.cw, m.w, 0, (by simp only [push_cast, ↓reduceIte, Nat.reduceEqDiff, Int.reduceEq]), hm5.r, hm5.w, hm5.nr, hm5.nw, bb9, .inr (.inr ⟨p1, hmost, rfl, some m.abs, best_sel p1 hkk hnil ⟨(hfin _).1 (List.mem_map.2 ⟨m, hml, rfl⟩), fun z hz => ?_⟩, ⟨rfl, rfl, rfl⟩⟩)⟩)
      obtain ⟨y, hy, rfl⟩ := List.mem_map.1 ((hfin z).2 hz)
      exact hmin y hy
  have hyk : qs[i]? = some (qs[i]'hlt) := List.getElem?_eq_getElem hlt
  have hym : qs[i]'hlt ∈ qs := List.getElem_mem hlt
  generalize qs[i]'hlt = y at hyk hym
  obtain ⟨hyU, hyw⟩ := hqs y hym
  have hR6 := hR25.below b6
  have hA6 := hR6.isSome (by omega)
  have hldy := fun {K : Fr → World → Prop} {f : Fr} {d : Option Nat} {w' : World} => hR6.ldAll (P := Tryd.prog) (K := K) (f := f) (d := d) (w := w') pcEnc ty_ag_72 hyk ty_sz_72
  simp (disch := first | with_reducible assumption | omega) only [push_cast, x_blk, x_cd, ↓reduceIte, Nat.reduceEqDiff, List.map_cons, List.map_nil, Int.reduceEq, Int.lt_irrefl, L_steps_Leak_1, fr, hlt, hldy]
  refine blk_of (cs := Pc.cells ⟨[], none, 0, []⟩) al_72 ?_
  intro w8 k8 b8 z8
  simp (disch := first | with_reducible assumption | omega) only [push_cast, x_blk, x_cd, ↓reduceIte, Nat.reduceEqDiff, List.map_cons, List.map_nil, Int.reduceEq, Int.lt_irrefl]
  refine sto_blk k8 (cs := Pc.cells y) (by rw [pcEnc.len]; exact ty_sz_72) (by rw [pcEnc.len, pcEnc.len]) (List.all_eq_true.2 (pcEnc.one y)) ?_
  intro w9 k9 g9 z9
  have b89 := g9.below b8 b8.size (by intro a ha; injection ha with ha; subst ha; exact Nat.le_refl _)
  have hLg : L.map (·.block) ≠ some w6.heap.size := fun e => by have := ho.ltB e.symm; omega
  replace ho := ho.below b89 (Nat.le_refl _)
  have b69 := b6.trans (b89.mono b6.size)
  have hld4 := fun {K : Fr → World → Prop} {f : Fr} {d : Option Nat} {w' : World} => k9.ld (P := Tryd.prog) (K := K) (f := f) (d := d) (w := w') ty_ag_22 4 (by rw [pcEnc.len]; omega)
  have hc4 : (Pc.cells y).getD 4 undef = .slice y.W y.w.length y.cw := by rw [List.getD_eq_getElem?_getD, y.cell4]; rfl
  rw [hc4] at hld4
  have hz6 := b6.size
  by_cases c1 : 0 ≤ most
  case neg =>
    have hshort : most < 0 ∨ (y.w.length : Int) ≤ most := .inl (by omega)
    simp (disch := first | with_reducible assumption | omega) only [push_cast, x_blk, x_cd, ↓reduceIte, Nat.reduceEqDiff, List.map_cons, List.map_nil, Int.reduceEq, Int.lt_irrefl, fr, c1]
    refine loop_rule (fun f' w' => ∃ (j : Nat) (l : List Kn) (L : Option Addr) (cl : Nat), j ≤ ps.length ∧ l.length ≤ 264 * i + j ∧ (f' 1 = .int .i64 most ∧ f' 2 = .pointer (some ⟨w.heap.size, 0, none⟩) ∧ f' 8 = .slice L l.length cl ∧ f' 9 = .slice A ps.length c ∧ f' 11 = .pointer (some ⟨w6.heap.size, 0, none⟩) ∧ f' 33 = .slice A2 qs.length c2 ∧ f' 34 = .int .i64 qs.length ∧ f' 35 = .int .i64 i ∧ f' 48 = .slice A ps.length c ∧ f' 49 = .int .i64 ps.length ∧ f' 50 = .int .i64 j) ∧
        (∀ z, z ∈ l.map Kn.abs ↔ (SelO p most ps qs i z ∨ SelI p ps y j z)) ∧ (∀ x ∈ l, LkAt w5 x) ∧ OwnR Kn.cells w5.heap.size 111 2 w' L cl l ∧ L.map (·.block) ≠ some w6.heap.size ∧ Blk w' w6.heap.size 72 (Pc.cells y) ∧ Below w5.heap.size w5 w')
      (fun f' _ => ps.length - (intOf (f' 50)).toNat) ⟨0, l, L, cl, Nat.zero_le _, by omega, (by simp only [push_cast, ↓reduceIte, Nat.reduceEqDiff, true_and, and_true, and_self, eq_self, fr]), fun z => (hsel z).trans ⟨.inl, fun h => h.elim id fun ⟨_, _, h, _⟩ => absurd h (by omega)⟩, hlk, ho, hLg, k9, b69⟩ ?_
    clear hsel hlk ho hLg k9 b69 fr hldy b6 hll k8 b8 g9 hld4
    rintro f w10 ⟨j, l, L, cl, hj, hll, fr, hsel, hlk, ho, hLg, ky, b10⟩ J2 hJ2
    by_cases hjt : j < ps.length
    case neg =>
      obtain rfl : j = ps.length := by omega
      simp (disch := first | with_reducible assumption | omega) only [push_cast, x_blk, x_cd, ↓reduceIte, Nat.reduceEqDiff, List.map_cons, List.map_nil, Int.reduceEq, Int.lt_irrefl, L_steps_Leak_0, fr, Nat.lt_irrefl]
      exact hJ _ _ ⟨i + 1, l, L, cl, hlt, by omega, (by simp only [push_cast, ↓reduceIte, Nat.reduceEqDiff, true_and, and_true, and_self, eq_self, fr]), fun z => (hsel z).trans (SelO.succ_yes hyk hshort z).symm, hlk, ho, b10⟩ (by rw [hmu]; simp only [push_cast, ↓reduceIte, Nat.reduceEqDiff, intOf, fr]; omega)
    have hxk : ps[j]? = some (ps[j]'hjt) := List.getElem?_eq_getElem hjt
    have hxm : ps[j]'hjt ∈ ps := List.getElem_mem hjt
    generalize ps[j]'hjt = x at hxk hxm
    have hxr := hrow x hxm
    have hxw := hword x hxm
    have hR10 := hR5.below b10
    have hA10 := hR10.isSome (by omega)
    have hldx := fun {K : Fr → World → Prop} {f : Fr} {d : Option Nat} {w' : World} => hR10.ldAll (P := Tryd.prog) (K := K) (f := f) (d := d) (w := w') pcEnc ty_ag_72 hxk ty_sz_72
    simp (disch := first | with_reducible assumption | omega) only [push_cast, x_blk, x_cd, ↓reduceIte, Nat.reduceEqDiff, List.map_cons, List.map_nil, Int.reduceEq, Int.lt_irrefl, L_steps_Leak_0, fr, hjt, hldx]
    refine blk_of (cs := Pc.cells ⟨[], none, 0, []⟩) al_72 ?_
    intro w11 k11 b11 z11
    simp (disch := first | with_reducible assumption | omega) only [push_cast, x_blk, x_cd, ↓reduceIte, Nat.reduceEqDiff, List.map_cons, List.map_nil, Int.reduceEq, Int.lt_irrefl]
    refine sto_blk k11 (cs := Pc.cells x) (by rw [pcEnc.len]; exact ty_sz_72) (by rw [pcEnc.len, pcEnc.len]) (List.all_eq_true.2 (pcEnc.one x)) ?_
    intro w12 k12 g12 z12
    have b1012 := g12.below b11 b11.size (by intro a ha; injection ha with ha; subst ha; exact Nat.le_refl _)
    have kx := k12.drew
    have ky' := (ky.below b1012 ky.lt).drew
    have b12 := (b10.trans (b1012.mono b10.size)).trans ((Same.refl w12).drew.below _)
    have kp := k5.below b12 k5.lt
    have bb12 := bb5.trans (b12.mono bb5.size)
    have ldxs := fun {K : Fr → World → Prop} {f : Fr} {d : Option Nat} {w' : World} => kx.ldSub (P := Tryd.prog) (K := K) (f := f) (d := d) (w := w') ty_ag_64 0 (vs := setCells (wordsOf x.s)) (e4_set _) x.cell0
    have ldys := fun {K : Fr → World → Prop} {f : Fr} {d : Option Nat} {w' : World} => ky'.ldSub (P := Tryd.prog) (K := K) (f := f) (d := d) (w := w') ty_ag_64 0 (vs := setCells (wordsOf y.s)) (e4_set _) y.cell0
    simp (disch := first | with_reducible assumption | omega) only [push_cast, x_blk, x_cd, ↓reduceIte, Nat.reduceEqDiff, List.map_cons, List.map_nil, Int.reduceEq, Int.lt_irrefl, fr, ldxs, ldys, kp.p6]
    refine call_of (steps_meet x.s y.s) ?_
    rintro v w13 ⟨rfl, b13⟩
    have bb13 := bb12.trans (b13.mono bb12.size)
    simp (disch := first | with_reducible assumption | omega) only [push_cast, x_blk, x_cd, ↓reduceIte, Nat.reduceEqDiff, List.map_cons, List.map_nil, Int.reduceEq, Int.lt_irrefl]
    refine ⟨b13, ?_⟩
    refine call_of (current_Tells (fun z hz => hxr.small (by decide) z (mem_onlyT.1 hz).1) (ha.up bb13).secret (by omega) (p1.2.2.2.small hst)) ?_
    rintro v w14 ⟨rfl, b14⟩
    have b1214 := b13.trans (b14.mono b13.size)
    have b514 := b12.trans (b1214.mono b12.size)
    have hz12 : w12.drew.heap.size = w12.heap.size := rfl
    have hz1012 := b1012.size
    have ho14 := (ho.below b1012 (Nat.le_refl _)).same (Same.refl w12).drew |>.below b1214 (Nat.le_refl _)
    have ky14 := ky'.below b1214 ky'.lt
    have kx14 := kx.below b1214 kx.lt
    simp (disch := first | with_reducible assumption | omega) only [push_cast, x_blk, x_cd, ↓reduceIte, Nat.reduceEqDiff, List.map_cons, List.map_nil, Int.reduceEq, Int.lt_irrefl]
    refine ⟨b1214, ?_⟩
    by_cases ht : TellsL (onlyL x.s y.s true) p.secret
    case neg =>
      simp (disch := first | with_reducible assumption | omega) only [push_cast, x_blk, x_cd, ↓reduceIte, Nat.reduceEqDiff, List.map_cons, List.map_nil, Int.reduceEq, Int.lt_irrefl, decide_eq_false ht, fr]
      exact hJ2 _ _ ⟨j + 1, l, L, cl, hjt, by omega, (by simp only [push_cast, ↓reduceIte, Nat.reduceEqDiff, true_and, and_true, and_self, eq_self, fr]), fun z => (hsel z).trans (by rw [SelI.succ_no hxk ht z]), hlk, ho14, hLg, ky14, b514⟩ (by simp only [push_cast, ↓reduceIte, Nat.reduceEqDiff, intOf, fr]; omega)
    have ldxw := fun {K : Fr → World → Prop} {f : Fr} {d : Option Nat} {w' : World} => kx14.ld (P := Tryd.prog) (K := K) (f := f) (d := d) (w := w') ty_ag_22 4 (by rw [pcEnc.len]; omega)
    have ldyw := fun {K : Fr → World → Prop} {f : Fr} {d : Option Nat} {w' : World} => ky14.ld (P := Tryd.prog) (K := K) (f := f) (d := d) (w := w') ty_ag_22 4 (by rw [pcEnc.len]; omega)
    have hcx : (Pc.cells x).getD 4 undef = .slice x.W x.w.length x.cw := by rw [List.getD_eq_getElem?_getD, x.cell4]; rfl
    have hcy : (Pc.cells y).getD 4 undef = .slice y.W y.w.length y.cw := by rw [List.getD_eq_getElem?_getD, y.cell4]; rfl
    rw [hcx] at ldxw
    rw [hcy] at ldyw
    simp (disch := first | with_reducible assumption | omega) only [push_cast, x_blk, x_cd, ↓reduceIte, Nat.reduceEqDiff, List.map_cons, List.map_nil, Int.reduceEq, Int.lt_irrefl, decide_eq_true ht, fr, ldxw, ldyw, bl_lk ⟨x.W, x.cw, x.w, y.W, y.cw, y.w⟩, bs_rec knEnc slT_109 _ (by decide)]
    refine app_rec knEnc slT_109 ho14 ⟨x.W, x.cw, x.w, y.W, y.cw, y.w⟩ (by omega) (by omega) b514.size ?_
    intro A15 c15 w15 oR g15 hA15 hs15 z15
    have hkk14 := ky14.lt
    simp (disch := first | with_reducible assumption | omega) only [push_cast, x_blk, x_cd, ↓reduceIte, Nat.reduceEqDiff, List.map_cons, List.map_nil, Int.reduceEq, Int.lt_irrefl, fr]
    refine hJ2 _ _ ⟨j + 1, l ++ [⟨x.W, x.cw, x.w, y.W, y.cw, y.w⟩], A15, c15, hjt, by simp; omega, (by simp only [push_cast, ↓reduceIte, Nat.reduceEqDiff, true_and, and_true, and_self, eq_self, fr, List.length_append, List.length_cons, List.length_nil]), fun z => ?_, fun r hr => ?_, oR, ?_, ky14.grown g15.by_ (fun e => hLg e.symm), g15.below b514 b514.size ho14.geB⟩ (by simp only [push_cast, ↓reduceIte, Nat.reduceEqDiff, intOf, fr]; omega)
    · rw [List.map_append, List.mem_append, hsel z, SelI.succ_yes hxk ht z, or_assoc]
      refine or_congr Iff.rfl (or_congr Iff.rfl ?_)
      simp [Kn.abs]
    · rcases List.mem_append.1 hr with hr | hr
      · exact hlk r hr
      · rw [List.mem_singleton.1 hr]
        exact ⟨hw5 x hxm, hv5 y hym, by simp only; omega, by simp only; omega⟩
    · rcases hA15 with h | ⟨g, h, hg⟩
      · rw [h]; exact hLg
      · rw [h]
        intro e
        injection e with e
        omega
  by_cases q2 : most < (y.w.length : Int)
  case pos =>
    simp (disch := first | with_reducible assumption | omega) only [push_cast, x_blk, x_cd, ↓reduceIte, Nat.reduceEqDiff, List.map_cons, List.map_nil, Int.reduceEq, Int.lt_irrefl, fr, c1, hld4, q2]
    exact hJ _ _ ⟨i + 1, l, L, cl, hlt, by omega, (by simp only [push_cast, ↓reduceIte, Nat.reduceEqDiff, true_and, and_true, and_self, eq_self, fr]), fun z => (hsel z).trans (SelO.succ_no hyk (by omega) z).symm, hlk, ho, b69⟩ (by rw [hmu]; simp only [push_cast, ↓reduceIte, Nat.reduceEqDiff, intOf, fr]; omega)
  have hshort : most < 0 ∨ (y.w.length : Int) ≤ most := .inr (by omega)
  simp (disch := first | with_reducible assumption | omega) only [push_cast, x_blk, x_cd, ↓reduceIte, Nat.reduceEqDiff, List.map_cons, List.map_nil, Int.reduceEq, Int.lt_irrefl, fr, c1, hld4, q2]
  refine loop_rule (fun f' w' => ∃ (j : Nat) (l : List Kn) (L : Option Addr) (cl : Nat), j ≤ ps.length ∧ l.length ≤ 264 * i + j ∧ (f' 1 = .int .i64 most ∧ f' 2 = .pointer (some ⟨w.heap.size, 0, none⟩) ∧ f' 8 = .slice L l.length cl ∧ f' 9 = .slice A ps.length c ∧ f' 11 = .pointer (some ⟨w6.heap.size, 0, none⟩) ∧ f' 33 = .slice A2 qs.length c2 ∧ f' 34 = .int .i64 qs.length ∧ f' 35 = .int .i64 i ∧ f' 48 = .slice A ps.length c ∧ f' 49 = .int .i64 ps.length ∧ f' 50 = .int .i64 j) ∧
      (∀ z, z ∈ l.map Kn.abs ↔ (SelO p most ps qs i z ∨ SelI p ps y j z)) ∧ (∀ x ∈ l, LkAt w5 x) ∧ OwnR Kn.cells w5.heap.size 111 2 w' L cl l ∧ L.map (·.block) ≠ some w6.heap.size ∧ Blk w' w6.heap.size 72 (Pc.cells y) ∧ Below w5.heap.size w5 w')
    (fun f' _ => ps.length - (intOf (f' 50)).toNat) ⟨0, l, L, cl, Nat.zero_le _, by omega, (by simp only [push_cast, ↓reduceIte, Nat.reduceEqDiff, true_and, and_true, and_self, eq_self, fr]), fun z => (hsel z).trans ⟨.inl, fun h => h.elim id fun ⟨_, _, h, _⟩ => absurd h (by omega)⟩, hlk, ho, hLg, k9, b69⟩ ?_
  clear hsel hlk ho hLg k9 b69 fr hldy b6 hll k8 b8 g9 hld4
  rintro f w10 ⟨j, l, L, cl, hj, hll, fr, hsel, hlk, ho, hLg, ky, b10⟩ J2 hJ2
  by_cases hjt : j < ps.length
  case neg =>
    obtain rfl : j = ps.length := by omega
    simp (disch := first | with_reducible assumption | omega) only [push_cast, x_blk, x_cd, ↓reduceIte, Nat.reduceEqDiff, List.map_cons, List.map_nil, Int.reduceEq, Int.lt_irrefl, L_steps_Leak_0, fr, Nat.lt_irrefl]
    exact hJ _ _ ⟨i + 1, l, L, cl, hlt, by omega, (by simp only [push_cast, ↓reduceIte, Nat.reduceEqDiff, true_and, and_true, and_self, eq_self, fr]), fun z => (hsel z).trans (SelO.succ_yes hyk hshort z).symm, hlk, ho, b10⟩ (by rw [hmu]; simp only [push_cast, ↓reduceIte, Nat.reduceEqDiff, intOf, fr]; omega)
  have hxk : ps[j]? = some (ps[j]'hjt) := List.getElem?_eq_getElem hjt
  have hxm : ps[j]'hjt ∈ ps := List.getElem_mem hjt
  generalize ps[j]'hjt = x at hxk hxm
  have hxr := hrow x hxm
  have hxw := hword x hxm
  have hR10 := hR5.below b10
  have hA10 := hR10.isSome (by omega)
  have hldx := fun {K : Fr → World → Prop} {f : Fr} {d : Option Nat} {w' : World} => hR10.ldAll (P := Tryd.prog) (K := K) (f := f) (d := d) (w := w') pcEnc ty_ag_72 hxk ty_sz_72
  simp (disch := first | with_reducible assumption | omega) only [push_cast, x_blk, x_cd, ↓reduceIte, Nat.reduceEqDiff, List.map_cons, List.map_nil, Int.reduceEq, Int.lt_irrefl, L_steps_Leak_0, fr, hjt, hldx]
  refine blk_of (cs := Pc.cells ⟨[], none, 0, []⟩) al_72 ?_
  intro w11 k11 b11 z11
  simp (disch := first | with_reducible assumption | omega) only [push_cast, x_blk, x_cd, ↓reduceIte, Nat.reduceEqDiff, List.map_cons, List.map_nil, Int.reduceEq, Int.lt_irrefl]
  refine sto_blk k11 (cs := Pc.cells x) (by rw [pcEnc.len]; exact ty_sz_72) (by rw [pcEnc.len, pcEnc.len]) (List.all_eq_true.2 (pcEnc.one x)) ?_
  intro w12 k12 g12 z12
  have b1012 := g12.below b11 b11.size (by intro a ha; injection ha with ha; subst ha; exact Nat.le_refl _)
  have kx := k12.drew
  have ky' := (ky.below b1012 ky.lt).drew
  have b12 := (b10.trans (b1012.mono b10.size)).trans ((Same.refl w12).drew.below _)
  have kp := k5.below b12 k5.lt
  have bb12 := bb5.trans (b12.mono bb5.size)
  have ldxs := fun {K : Fr → World → Prop} {f : Fr} {d : Option Nat} {w' : World} => kx.ldSub (P := Tryd.prog) (K := K) (f := f) (d := d) (w := w') ty_ag_64 0 (vs := setCells (wordsOf x.s)) (e4_set _) x.cell0
  have ldys := fun {K : Fr → World → Prop} {f : Fr} {d : Option Nat} {w' : World} => ky'.ldSub (P := Tryd.prog) (K := K) (f := f) (d := d) (w := w') ty_ag_64 0 (vs := setCells (wordsOf y.s)) (e4_set _) y.cell0
  simp (disch := first | with_reducible assumption | omega) only [push_cast, x_blk, x_cd, ↓reduceIte, Nat.reduceEqDiff, List.map_cons, List.map_nil, Int.reduceEq, Int.lt_irrefl, fr, ldxs, ldys, kp.p6]
  refine call_of (steps_meet x.s y.s) ?_
  rintro v w13 ⟨rfl, b13⟩
  have bb13 := bb12.trans (b13.mono bb12.size)
  simp (disch := first | with_reducible assumption | omega) only [push_cast, x_blk, x_cd, ↓reduceIte, Nat.reduceEqDiff, List.map_cons, List.map_nil, Int.reduceEq, Int.lt_irrefl]
  refine ⟨b13, ?_⟩
  refine call_of (current_Tells (fun z hz => hxr.small (by decide) z (mem_onlyT.1 hz).1) (ha.up bb13).secret (by omega) (p1.2.2.2.small hst)) ?_
  rintro v w14 ⟨rfl, b14⟩
  have b1214 := b13.trans (b14.mono b13.size)
  have b514 := b12.trans (b1214.mono b12.size)
  have hz12 : w12.drew.heap.size = w12.heap.size := rfl
  have hz1012 := b1012.size
  have ho14 := (ho.below b1012 (Nat.le_refl _)).same (Same.refl w12).drew |>.below b1214 (Nat.le_refl _)
  have ky14 := ky'.below b1214 ky'.lt
  have kx14 := kx.below b1214 kx.lt
  simp (disch := first | with_reducible assumption | omega) only [push_cast, x_blk, x_cd, ↓reduceIte, Nat.reduceEqDiff, List.map_cons, List.map_nil, Int.reduceEq, Int.lt_irrefl]
  refine ⟨b1214, ?_⟩
  by_cases ht : TellsL (onlyL x.s y.s true) p.secret
  case neg =>
    simp (disch := first | with_reducible assumption | omega) only [push_cast, x_blk, x_cd, ↓reduceIte, Nat.reduceEqDiff, List.map_cons, List.map_nil, Int.reduceEq, Int.lt_irrefl, decide_eq_false ht, fr]
    exact hJ2 _ _ ⟨j + 1, l, L, cl, hjt, by omega, (by simp only [push_cast, ↓reduceIte, Nat.reduceEqDiff, true_and, and_true, and_self, eq_self, fr]), fun z => (hsel z).trans (by rw [SelI.succ_no hxk ht z]), hlk, ho14, hLg, ky14, b514⟩ (by simp only [push_cast, ↓reduceIte, Nat.reduceEqDiff, intOf, fr]; omega)
  have ldxw := fun {K : Fr → World → Prop} {f : Fr} {d : Option Nat} {w' : World} => kx14.ld (P := Tryd.prog) (K := K) (f := f) (d := d) (w := w') ty_ag_22 4 (by rw [pcEnc.len]; omega)
  have ldyw := fun {K : Fr → World → Prop} {f : Fr} {d : Option Nat} {w' : World} => ky14.ld (P := Tryd.prog) (K := K) (f := f) (d := d) (w := w') ty_ag_22 4 (by rw [pcEnc.len]; omega)
  have hcx : (Pc.cells x).getD 4 undef = .slice x.W x.w.length x.cw := by rw [List.getD_eq_getElem?_getD, x.cell4]; rfl
  have hcy : (Pc.cells y).getD 4 undef = .slice y.W y.w.length y.cw := by rw [List.getD_eq_getElem?_getD, y.cell4]; rfl
  rw [hcx] at ldxw
  rw [hcy] at ldyw
  simp (disch := first | with_reducible assumption | omega) only [push_cast, x_blk, x_cd, ↓reduceIte, Nat.reduceEqDiff, List.map_cons, List.map_nil, Int.reduceEq, Int.lt_irrefl, decide_eq_true ht, fr, ldxw, ldyw, bl_lk ⟨x.W, x.cw, x.w, y.W, y.cw, y.w⟩, bs_rec knEnc slT_109 _ (by decide)]
  refine app_rec knEnc slT_109 ho14 ⟨x.W, x.cw, x.w, y.W, y.cw, y.w⟩ (by omega) (by omega) b514.size ?_
  intro A15 c15 w15 oR g15 hA15 hs15 z15
  have hkk14 := ky14.lt
  simp (disch := first | with_reducible assumption | omega) only [push_cast, x_blk, x_cd, ↓reduceIte, Nat.reduceEqDiff, List.map_cons, List.map_nil, Int.reduceEq, Int.lt_irrefl, fr]
  refine hJ2 _ _ ⟨j + 1, l ++ [⟨x.W, x.cw, x.w, y.W, y.cw, y.w⟩], A15, c15, hjt, by simp; omega, (by simp only [push_cast, ↓reduceIte, Nat.reduceEqDiff, true_and, and_true, and_self, eq_self, fr, List.length_append, List.length_cons, List.length_nil]), fun z => ?_, fun r hr => ?_, oR, ?_, ky14.grown g15.by_ (fun e => hLg e.symm), g15.below b514 b514.size ho14.geB⟩ (by simp only [push_cast, ↓reduceIte, Nat.reduceEqDiff, intOf, fr]; omega)
  · rw [List.map_append, List.mem_append, hsel z, SelI.succ_yes hxk ht z, or_assoc]
    refine or_congr Iff.rfl (or_congr Iff.rfl ?_)
    simp [Kn.abs]
  · rcases List.mem_append.1 hr with hr | hr
    · exact hlk r hr
    · rw [List.mem_singleton.1 hr]
      exact ⟨hw5 x hxm, hv5 y hym, by simp only; omega, by simp only; omega⟩
  · rcases hA15 with h | ⟨g, h, hg⟩
    · rw [h]; exact hLg
    · rw [h]
      intro e
      injection e with e
      omega
end Go.Proofs.YtcjinmgieiebbaaDoor
