/-
  Chapter 5: the law BesideBoth: by its contracts.
-/
import Derived.Test.YtcjedgiglimipaaDoorZLawBes
namespace Go.Proofs.YtcjedgiglimipaaDoor
set_option linter.unusedSimpArgs false
set_option linter.unusedVariables false
set_option linter.unusedSectionVars false
open Go.RowKit

theorem only_word {m n : Mach} (he : m.events = n.events) {l k : List Int} (h : IsWord m l) : IsWord n (onlyL l k true) := fun i hi => by
  have h1 := (mem_onlyT.1 (getD_mem (onlyL l k true) 0 i hi)).1
  obtain ⟨j, hj, hje⟩ := (mem_iff_getD l 0 _).1 h1
  rw [← hje, ← he]
  exact h j hj
theorem only_len (l k : List Int) : (onlyL l k true).length ≤ l.length := by unfold onlyL; exact List.length_filter_le _ _
theorem all_snoc {l k q : List Int} {i : Nat} (hi : i < l.length) : (∀ x ∈ l.take (i + 1), x ∈ k ∨ x ∈ q) ↔ (∀ x ∈ l.take i, x ∈ k ∨ x ∈ q) ∧ (l.getD i 0 ∈ k ∨ l.getD i 0 ∈ q) := by
  rw [take_snoc _ (0 : Int) i hi]
  simp only [List.mem_append, List.mem_singleton]
  constructor
  · exact fun h => ⟨fun x hx => h x (.inl hx), h _ (.inr rfl)⟩
  · rintro ⟨h1, h2⟩ x (hx | rfl)
    · exact h1 x hx
    · exact h2

theorem law_BesideBoth {w : World} (hT : Tab w) {a0 : MV} {m0 : Mach} (h : IsM (· < w.heap.size) w a0 m0) (hf : m0.Fits) {a1 : MV} {m1 : Mach} (h' : IsM (· < w.heap.size) w a1 m1) (hf' : m1.Fits)
    {A2 : Option Addr} {c2 : Nat} {l2 : List Int} (h2 : Ints (· < w.heap.size) w A2 l2) (_b2 : ∀ x ∈ l2, I64 x) (n2 : l2.length ≤ 17592186043904) (_k2 : l2.length ≤ c2)
    {A3 : Option Addr} {c3 : Nat} {l3 : List Int} (h3 : Ints (· < w.heap.size) w A3 l3) (_b3 : ∀ x ∈ l3, I64 x) (n3 : l3.length ≤ 17592186043904) (_k3 : l3.length ≤ c3)
    {A4 : Option Addr} {c4 : Nat} {l4 : List Int} (h4 : Ints (· < w.heap.size) w A4 l4) (_b4 : ∀ x ∈ l4, I64 x) (n4 : l4.length ≤ 17592186043904) (_k4 : l4.length ≤ c4) :
    Cal Tryd.prog 13 [a0.val m0, a1.val m1, .slice A2 l2.length c2, .slice A3 l3.length c3, .slice A4 l4.length c4] w fun v w' => v = .bool true ∧ Below w.heap.size w w' := by
  refine cal_keep_BesideBoth (by simp) 100000 fun Q hQ => ?_
  simp (disch := first | with_reducible assumption | omega) only [push_cast, x_blk, x_cd, ↓reduceIte, Nat.reduceEqDiff, List.map_cons, List.map_nil, Int.reduceEq, Int.lt_irrefl, F_keep_BesideBoth]
  refine blk_of (box_agg _ (a0.cells m0)) ?_
  intro w1 k1 b1 z1
  simp (disch := first | with_reducible assumption | omega) only [push_cast, x_blk, x_cd, ↓reduceIte, Nat.reduceEqDiff, List.map_cons, List.map_nil, Int.reduceEq, Int.lt_irrefl]
  refine blk_of (box_agg _ (a1.cells m1)) ?_
  intro w2 k2 b2 z2
  replace k1 := k1.below b2 k1.lt
  have bb := b1.trans (b2.mono b1.size)
  simp (disch := first | with_reducible assumption | omega) only [push_cast, x_blk, x_cd, ↓reduceIte, Nat.reduceEqDiff, List.map_cons, List.map_nil, Int.reduceEq, Int.lt_irrefl, k1.mA ty_ag_25 ty_sz_25, k2.mA ty_ag_25 ty_sz_25]
  refine call_of (bes_Beside (h.up bb) hf (h'.up bb) hf' (hT.below bb hT.lt) (h2.up bb) n2 (h3.up bb) n3) ?_
  rintro v w5 ⟨d, dm, R, cr, hs, e, rfl, hd, hR, hr, b5, sp⟩
  replace k1 := k1.below b5 k1.lt
  replace k2 := k2.below b5 k2.lt
  replace bb := bb.trans (b5.mono bb.size)
  simp (disch := first | with_reducible assumption | omega) only [push_cast, x_blk, x_cd, ↓reduceIte, Nat.reduceEqDiff, List.map_cons, List.map_nil, Int.reduceEq, Int.lt_irrefl]
  refine blk_of (cs := mv0.cells mach0) al_25 ?_
  intro w6 k6 b6 z6
  simp (disch := first | with_reducible assumption | omega) only [push_cast, x_blk, x_cd, ↓reduceIte, Nat.reduceEqDiff, List.map_cons, List.map_nil, Int.reduceEq, Int.lt_irrefl]
  refine sto_mach k6 rfl d dm ?_
  intro w7 k7 g7 z7
  have b7 := g7.below b6 b6.size (by intro a ha; injection ha with ha; subst ha; exact Nat.le_refl _)
  replace hd := hd.up b7
  replace k1 := k1.below b7 k1.lt
  replace k2 := k2.below b7 k2.lt
  replace bb := bb.trans (b7.mono bb.size)
  have m00 : mach0.states = 0 := rfl
  rcases sp with ⟨_, rfl, _, rfl⟩ | ⟨_, _, rfl, _, rfl⟩ | ⟨_, _, _, rfl, _, rfl⟩ | ⟨_, _, _, _, rfl, _, rfl⟩ | ⟨⟨pa, pb⟩, pe, pr, st, hst, rfl, _, rfl⟩
  case inl =>
    simp (disch := first | with_reducible assumption | omega) only [push_cast, x_blk, x_cd, ↓reduceIte, Nat.reduceEqDiff, List.map_cons, List.map_nil, Int.reduceEq, Int.lt_irrefl, Int.reduceEq, k7.m0 ty_ag_3, m00]
    exact fin_1 (hQ _ _ ⟨(by simp only [push_cast, ↓reduceIte, Nat.reduceEqDiff, Int.reduceEq, m00]), bb⟩)
  case inr.inl =>
    simp (disch := first | with_reducible assumption | omega) only [push_cast, x_blk, x_cd, ↓reduceIte, Nat.reduceEqDiff, List.map_cons, List.map_nil, Int.reduceEq, Int.lt_irrefl, Int.reduceEq, k7.m0 ty_ag_3, m00]
    exact fin_1 (hQ _ _ ⟨(by simp only [push_cast, ↓reduceIte, Nat.reduceEqDiff, Int.reduceEq, m00]), bb⟩)
  case inr.inr.inl =>
    simp (disch := first | with_reducible assumption | omega) only [push_cast, x_blk, x_cd, ↓reduceIte, Nat.reduceEqDiff, List.map_cons, List.map_nil, Int.reduceEq, Int.lt_irrefl, Int.reduceEq, k7.m0 ty_ag_3, m00]
    exact fin_1 (hQ _ _ ⟨(by simp only [push_cast, ↓reduceIte, Nat.reduceEqDiff, Int.reduceEq, m00]), bb⟩)
  case inr.inr.inr.inl =>
    simp (disch := first | with_reducible assumption | omega) only [push_cast, x_blk, x_cd, ↓reduceIte, Nat.reduceEqDiff, List.map_cons, List.map_nil, Int.reduceEq, Int.lt_irrefl, Int.reduceEq, k7.m0 ty_ag_3, m00]
    exact fin_1 (hQ _ _ ⟨(by simp only [push_cast, ↓reduceIte, Nat.reduceEqDiff, Int.reduceEq, m00]), bb⟩)
  have hF := bsAll_some pa pb hst
  have pm := hF.may pa
  have hacc := fun hw => hF.accepts (w := l4) hw
  have s1 : 1 ≤ (bsM m0 m1 st).states := pm.1
  have hev : (bsM m0 m1 st).events = m0.events := rfl
  clear hst hF
  generalize bsM m0 m1 st = dm at *
  simp (disch := first | with_reducible assumption | omega) only [push_cast, x_blk, x_cd, ↓reduceIte, Nat.reduceEqDiff, List.map_cons, List.map_nil, Int.reduceEq, Int.lt_irrefl, Int.reduceEq, eq_self]
  refine loop_rule (fun f w' => ∃ i : Nat, i ≤ l4.length ∧ (f 2 = .slice A2 l2.length c2 ∧ f 3 = .slice A3 l3.length c3 ∧ f 4 = .slice A4 l4.length c4 ∧ f 5 = .pointer (some ⟨w.heap.size, 0, none⟩) ∧ f 6 = .pointer (some ⟨w1.heap.size, 0, none⟩) ∧ f 11 = .pointer (some ⟨w5.heap.size, 0, none⟩) ∧ f 14 = .int .i64 i) ∧
      (∀ j, j < i → 0 ≤ l4.getD j 0 ∧ l4.getD j 0 < m0.events) ∧ Below w7.heap.size w7 w')
    (fun f _ => (l4.length - intOf (f 14)).toNat) ⟨0, by omega, ⟨rfl, rfl, rfl, rfl, rfl, rfl, rfl⟩, fun j hj => absurd hj (by omega), Below.refl _ _⟩ ?_
  rintro f w8 ⟨i, hi, fr, hpre, b8⟩ J hJ
  by_cases hlt : (i : Int) < (l4.length : Int)
  case pos =>
    have bd : Below w8.heap.size w8 w8.drew := (Same.refl w8).drew.below _
    have b9 := b8.trans (bd.mono b8.size)
    have k1' := k1.below b9 k1.lt
    have hI := h4.up (bb.trans (b9.mono bb.size))
    have hil : i < l4.length := by omega
    have hSm := hI.isSome (by omega)
    by_cases q : l4.getD i 0 < 0
    · simp (disch := first | with_reducible assumption | omega) only [push_cast, x_blk, x_cd, ↓reduceIte, Nat.reduceEqDiff, List.map_cons, List.map_nil, Int.reduceEq, Int.lt_irrefl, L_keep_BesideBoth_1, fr, hlt, hSm, hil, hI.ld ty_ag_3 i hil, q, k1'.m1 ty_ag_3]
      exact fin_1 (hQ _ _ ⟨(by simp only [push_cast, ↓reduceIte, Nat.reduceEqDiff, Int.reduceEq]), bb.trans (b9.mono bb.size)⟩)
    by_cases q' : m0.events ≤ l4.getD i 0
    · simp (disch := first | with_reducible assumption | omega) only [push_cast, x_blk, x_cd, ↓reduceIte, Nat.reduceEqDiff, List.map_cons, List.map_nil, Int.reduceEq, Int.lt_irrefl, L_keep_BesideBoth_1, fr, hlt, hSm, hil, hI.ld ty_ag_3 i hil, q, q', k1'.m1 ty_ag_3]
      exact fin_1 (hQ _ _ ⟨(by simp only [push_cast, ↓reduceIte, Nat.reduceEqDiff, Int.reduceEq]), bb.trans (b9.mono bb.size)⟩)
    simp (disch := first | with_reducible assumption | omega) only [push_cast, x_blk, x_cd, ↓reduceIte, Nat.reduceEqDiff, List.map_cons, List.map_nil, Int.reduceEq, Int.lt_irrefl, L_keep_BesideBoth_1, fr, hlt, hSm, hil, hI.ld ty_ag_3 i hil, q, q', k1'.m1 ty_ag_3]
    exact hJ _ _ ⟨i + 1, by omega, (by simp only [push_cast, ↓reduceIte, Nat.reduceEqDiff, true_and, and_true, and_self, eq_self, fr]), fun j hj => if e' : j = i then e' ▸ ⟨by omega, by omega⟩ else hpre j (by omega), b9⟩ (by simp only [push_cast, ↓reduceIte, Nat.reduceEqDiff, intOf, fr]; omega)
  obtain rfl : i = l4.length := by omega
  have hw : IsWord m0 l4 := fun j hj => hpre j hj
  replace hacc := hacc (fun x hx => by
    obtain ⟨j, hj, rfl⟩ := (mem_iff_getD l4 0 x).1 hx
    exact hw j hj)
  replace hd := hd.up b8
  replace k1 := k1.below b8 k1.lt
  replace k2 := k2.below b8 k2.lt
  replace k7 := k7.below b8 k7.lt
  replace bb := bb.trans (b8.mono bb.size)
  have nA := only_len l4 l2
  have nB := only_len l4 l3
  have wA : IsWord m0 (onlyL l4 l2 true) := only_word rfl hw
  have wB : IsWord m1 (onlyL l4 l3 true) := only_word pe hw
  have wD : IsWord dm l4 := fun j hj => by rw [hev]; exact hw j hj
  simp (disch := first | with_reducible assumption | omega) only [push_cast, x_blk, x_cd, ↓reduceIte, Nat.reduceEqDiff, List.map_cons, List.map_nil, Int.reduceEq, Int.lt_irrefl, L_keep_BesideBoth_1, fr, hlt, Int.lt_irrefl]
  refine call_of (hide_Seen (h4.up bb) c4 (h2.up bb) c2 n4 (by omega)) ?_
  rintro v w9 ⟨O, co, rfl, o9, b9⟩
  replace hd := hd.up b9
  replace k1 := k1.below b9 k1.lt
  replace k2 := k2.below b9 k2.lt
  replace k7 := k7.below b9 k7.lt
  replace bb := bb.trans (b9.mono bb.size)
  have i9 := (OwnI.ints o9).lt
  simp (disch := first | with_reducible assumption | omega) only [push_cast, x_blk, x_cd, ↓reduceIte, Nat.reduceEqDiff, List.map_cons, List.map_nil, Int.reduceEq, Int.lt_irrefl, fr]
  refine call_of (hide_Seen (h4.up bb) c4 (h3.up bb) c3 n4 (by omega)) ?_
  rintro v w10 ⟨O', co', rfl, o10, b10⟩
  replace hd := hd.up b10
  replace k1 := k1.below b10 k1.lt
  replace k2 := k2.below b10 k2.lt
  replace k7 := k7.below b10 k7.lt
  replace bb := bb.trans (b10.mono bb.size)
  replace i9 := i9.up b10
  have i10 := (OwnI.ints o10).lt
  clear o9 o10
  generalize onlyL l4 l2 true = la at *
  generalize onlyL l4 l3 true = lb at *
  have qz : ∀ x ∈ l4.take 0, x ∈ l2 ∨ x ∈ l3 := by simp
  simp (disch := first | with_reducible assumption | omega) only [push_cast, x_blk, x_cd, ↓reduceIte, Nat.reduceEqDiff, List.map_cons, List.map_nil, Int.reduceEq, Int.lt_irrefl, fr]
  refine loop_rule (fun f w' => ∃ i : Nat, i ≤ l4.length ∧ (f 2 = .slice A2 l2.length c2 ∧ f 3 = .slice A3 l3.length c3 ∧ f 4 = .slice A4 l4.length c4 ∧ f 5 = .pointer (some ⟨w.heap.size, 0, none⟩) ∧ f 6 = .pointer (some ⟨w1.heap.size, 0, none⟩) ∧ f 11 = .pointer (some ⟨w5.heap.size, 0, none⟩) ∧
      f 15 = .slice O la.length co ∧ f 16 = .slice O' lb.length co' ∧ f 17 = .bool (decide (∀ x ∈ l4.take i, x ∈ l2 ∨ x ∈ l3)) ∧ f 18 = .int .i64 i) ∧ Below w10.heap.size w10 w')
    (fun f _ => (l4.length - intOf (f 18)).toNat) ⟨0, by omega, (by simp only [push_cast, ↓reduceIte, Nat.reduceEqDiff, true_and, and_true, and_self, eq_self, fr, decide_eq_true qz]), Below.refl _ _⟩ ?_
  clear fr hJ hlt hi hpre f
  rintro f w11 ⟨i, hi, fr, b11⟩ J hJ
  have bb11 := bb.trans (b11.mono bb.size)
  by_cases hlt : (i : Int) < (l4.length : Int)
  case pos =>
    have hil : i < l4.length := by omega
    have hI := h4.up bb11
    have hSm := hI.isSome (by omega)
    by_cases q : ∀ x ∈ l4.take i, x ∈ l2 ∨ x ∈ l3
    case neg =>
      have q2 : ¬ ∀ x ∈ l4.take (i + 1), x ∈ l2 ∨ x ∈ l3 := fun hh => q ((all_snoc hil).1 hh).1
      rw [decide_eq_false q] at fr
      simp (disch := first | with_reducible assumption | omega) only [push_cast, x_blk, x_cd, ↓reduceIte, Nat.reduceEqDiff, List.map_cons, List.map_nil, Int.reduceEq, Int.lt_irrefl, L_keep_BesideBoth_0, fr, hlt]
      exact hJ _ _ ⟨i + 1, by omega, (by simp only [push_cast, ↓reduceIte, Nat.reduceEqDiff, true_and, and_true, and_self, eq_self, fr, decide_eq_false q2]), b11⟩ (by simp only [push_cast, ↓reduceIte, Nat.reduceEqDiff, intOf, fr]; omega)
    rw [decide_eq_true q] at fr
    simp (disch := first | with_reducible assumption | omega) only [push_cast, x_blk, x_cd, ↓reduceIte, Nat.reduceEqDiff, List.map_cons, List.map_nil, Int.reduceEq, Int.lt_irrefl, L_keep_BesideBoth_0, fr, hlt, hSm, hil, hI.ld ty_ag_3 i hil]
    refine call_of (keep_has (h2.up bb11) c2 (l4.getD i 0) (by omega)) ?_
    rintro v w12 ⟨rfl, s12⟩
    have b12 := b11.trans (s12.below _)
    have bb12 := bb.trans (b12.mono bb.size)
    have hI' := h4.up bb12
    by_cases q1 : l4.getD i 0 ∈ l2
    · have q2 : ∀ x ∈ l4.take (i + 1), x ∈ l2 ∨ x ∈ l3 := (all_snoc hil).2 ⟨q, .inl q1⟩
      simp (disch := first | with_reducible assumption | omega) only [push_cast, x_blk, x_cd, ↓reduceIte, Nat.reduceEqDiff, List.map_cons, List.map_nil, Int.reduceEq, Int.lt_irrefl, fr, decide_eq_true q1]
      exact hJ _ _ ⟨i + 1, by omega, (by simp only [push_cast, ↓reduceIte, Nat.reduceEqDiff, true_and, and_true, and_self, eq_self, fr, decide_eq_true q2]), b12⟩ (by simp only [push_cast, ↓reduceIte, Nat.reduceEqDiff, intOf, fr]; omega)
    simp (disch := first | with_reducible assumption | omega) only [push_cast, x_blk, x_cd, ↓reduceIte, Nat.reduceEqDiff, List.map_cons, List.map_nil, Int.reduceEq, Int.lt_irrefl, fr, decide_eq_false q1, hSm, hil, hI'.ld ty_ag_3 i hil]
    refine call_of (keep_has (h3.up bb12) c3 (l4.getD i 0) (by omega)) ?_
    rintro v w13 ⟨rfl, s13⟩
    have b13 := b12.trans (s13.below _)
    by_cases q3 : l4.getD i 0 ∈ l3
    · have q2 : ∀ x ∈ l4.take (i + 1), x ∈ l2 ∨ x ∈ l3 := (all_snoc hil).2 ⟨q, .inr q3⟩
      simp (disch := first | with_reducible assumption | omega) only [push_cast, x_blk, x_cd, ↓reduceIte, Nat.reduceEqDiff, List.map_cons, List.map_nil, Int.reduceEq, Int.lt_irrefl, fr, decide_eq_true q3]
      exact hJ _ _ ⟨i + 1, by omega, (by simp only [push_cast, ↓reduceIte, Nat.reduceEqDiff, true_and, and_true, and_self, eq_self, fr, decide_eq_true q2]), b13⟩ (by simp only [push_cast, ↓reduceIte, Nat.reduceEqDiff, intOf, fr]; omega)
    have q2 : ¬ ∀ x ∈ l4.take (i + 1), x ∈ l2 ∨ x ∈ l3 := fun hh => by rcases ((all_snoc hil).1 hh).2 with e | e; exact q1 e; exact q3 e
    simp (disch := first | with_reducible assumption | omega) only [push_cast, x_blk, x_cd, ↓reduceIte, Nat.reduceEqDiff, List.map_cons, List.map_nil, Int.reduceEq, Int.lt_irrefl, fr, decide_eq_false q3]
    exact hJ _ _ ⟨i + 1, by omega, (by simp only [push_cast, ↓reduceIte, Nat.reduceEqDiff, true_and, and_true, and_self, eq_self, fr, decide_eq_false q2]), b13⟩ (by simp only [push_cast, ↓reduceIte, Nat.reduceEqDiff, intOf, fr]; omega)
  obtain rfl : i = l4.length := by omega
  rw [List.take_length] at fr
  replace hd := hd.up b11
  replace i9 := i9.up b11
  replace i10 := i10.up b11
  replace k1 := k1.below b11 k1.lt
  replace k2 := k2.below b11 k2.lt
  replace k7 := k7.below b11 k7.lt
  simp (disch := first | with_reducible assumption | omega) only [push_cast, x_blk, x_cd, ↓reduceIte, Nat.reduceEqDiff, List.map_cons, List.map_nil, Int.reduceEq, Int.lt_irrefl, L_keep_BesideBoth_0, fr, hlt, Int.lt_irrefl, k1.mA ty_ag_25 ty_sz_25]
  refine call_of (machine_Accepts (h.up bb11) hf (hT.below bb11 hT.lt) i9 (by omega)) ?_
  rintro v w12 ⟨x, ex, rfl, b12, y12, _, _⟩
  obtain ⟨rfl, rfl⟩ := y12 ⟨pa, wA⟩
  replace hd := hd.up b12
  replace i10 := i10.up b12
  replace k2 := k2.below b12 k2.lt
  replace k7 := k7.below b12 k7.lt
  have bb12 := bb11.trans (b12.mono bb11.size)
  simp (disch := first | with_reducible assumption | omega) only [push_cast, x_blk, x_cd, ↓reduceIte, Nat.reduceEqDiff, List.map_cons, List.map_nil, Int.reduceEq, Int.lt_irrefl, fr, k2.mA ty_ag_25 ty_sz_25]
  refine call_of (machine_Accepts (h'.up bb12) hf' (hT.below bb12 hT.lt) i10 (by omega)) ?_
  rintro v w13 ⟨y, ey, rfl, b13, y13, _, _⟩
  obtain ⟨rfl, rfl⟩ := y13 ⟨pb, wB⟩
  replace hd := hd.up b13
  replace k7 := k7.below b13 k7.lt
  have bb13 := bb12.trans (b13.mono bb12.size)
  simp (disch := first | with_reducible assumption | omega) only [push_cast, x_blk, x_cd, ↓reduceIte, Nat.reduceEqDiff, List.map_cons, List.map_nil, Int.reduceEq, Int.lt_irrefl, fr, k7.mA ty_ag_25 ty_sz_25]
  refine call_of (machine_Accepts hd (May.fits pm) (hT.below bb13 hT.lt) (h4.up bb13) n4) ?_
  rintro v w14 ⟨z, ez, rfl, b14, y14, _, _⟩
  obtain ⟨rfl, rfl⟩ := y14 ⟨pm, wD⟩
  replace k7 := k7.below b14 k7.lt
  have bb14 := bb13.trans (b14.mono bb13.size)
  have s0 : 0 < dm.states := by omega
  by_cases q : ∀ x ∈ l4, x ∈ l2 ∨ x ∈ l3
  case neg =>
    have qd : ¬ AcceptsL dm l4 := fun hh => q (hacc.1 hh).1
    simp (disch := first | with_reducible assumption | omega) only [push_cast, x_blk, x_cd, ↓reduceIte, Nat.reduceEqDiff, List.map_cons, List.map_nil, Int.reduceEq, Int.lt_irrefl, fr, eq_self, decide_eq_false qd, decide_eq_false q, k7.m0 ty_ag_3, s0]
    exact fin_1 (hQ _ _ ⟨(by simp only [push_cast, ↓reduceIte, Nat.reduceEqDiff, Int.reduceEq]), bb14⟩)
  by_cases qa : AcceptsL m0 la
  case neg =>
    have qd : ¬ AcceptsL dm l4 := fun hh => qa (hacc.1 hh).2.1
    simp (disch := first | with_reducible assumption | omega) only [push_cast, x_blk, x_cd, ↓reduceIte, Nat.reduceEqDiff, List.map_cons, List.map_nil, Int.reduceEq, Int.lt_irrefl, fr, eq_self, decide_eq_false qd, decide_eq_true q, decide_eq_false qa, k7.m0 ty_ag_3, s0]
    exact fin_1 (hQ _ _ ⟨(by simp only [push_cast, ↓reduceIte, Nat.reduceEqDiff, Int.reduceEq]), bb14⟩)
  by_cases qb : AcceptsL m1 lb
  case neg =>
    have qd : ¬ AcceptsL dm l4 := fun hh => qb (hacc.1 hh).2.2
    simp (disch := first | with_reducible assumption | omega) only [push_cast, x_blk, x_cd, ↓reduceIte, Nat.reduceEqDiff, List.map_cons, List.map_nil, Int.reduceEq, Int.lt_irrefl, fr, eq_self, decide_eq_false qd, decide_eq_true q, decide_eq_true qa, decide_eq_false qb, k7.m0 ty_ag_3, s0]
    exact fin_1 (hQ _ _ ⟨(by simp only [push_cast, ↓reduceIte, Nat.reduceEqDiff, Int.reduceEq]), bb14⟩)
  have qd : AcceptsL dm l4 := hacc.2 ⟨q, qa, qb⟩
  simp (disch := first | with_reducible assumption | omega) only [push_cast, x_blk, x_cd, ↓reduceIte, Nat.reduceEqDiff, List.map_cons, List.map_nil, Int.reduceEq, Int.lt_irrefl, fr, eq_self, decide_eq_true qd, decide_eq_true q, decide_eq_true qa, decide_eq_true qb, k7.m0 ty_ag_3, s0]
  exact fin_1 (hQ _ _ ⟨(by simp only [push_cast, ↓reduceIte, Nat.reduceEqDiff, Int.reduceEq]), bb14⟩)
end Go.Proofs.YtcjedgiglimipaaDoor
