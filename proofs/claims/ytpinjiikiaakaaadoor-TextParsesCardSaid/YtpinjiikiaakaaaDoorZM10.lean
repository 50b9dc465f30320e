/-
  slices.Sort on a short row of distinct integers of one's own: by its contract.
-/
import Derived.Test.YtpinjiikiaakaaaDoorZM9
import Derived.Test.YtpinjiikiaakaaaDoorZM8
import Derived.Shelf.SlSortCmp.NoneTotal
namespace Go.Proofs.YtpinjiikiaakaaaDoor
set_option linter.unusedSimpArgs false
set_option linter.unusedVariables false
set_option linter.unusedSectionVars false
open Go.RowKit

abbrev len8 : ByteArray := ByteArray.mk (List.toArray (List.append (List.append [0, 1, 2, 2, 3, 3, 3, 3, 4, 4, 4, 4, 4, 4, 4, 4, 5, 5, 5, 5, 5, 5, 5, 5, 5, 5, 5, 5, 5, 5, 5, 5, 6, 6, 6, 6, 6, 6, 6, 6, 6, 6, 6, 6, 6, 6, 6, 6, 6, 6, 6, 6, 6, 6, 6, 6, 6, 6, 6, 6, 6, 6, 6, 6] [7, 7, 7, 7, 7, 7, 7, 7, 7, 7, 7, 7, 7, 7, 7, 7, 7, 7, 7, 7, 7, 7, 7, 7, 7, 7, 7, 7, 7, 7, 7, 7, 7, 7, 7, 7, 7, 7, 7, 7, 7, 7, 7, 7, 7, 7, 7, 7, 7, 7, 7, 7, 7, 7, 7, 7, 7, 7, 7, 7, 7, 7, 7, 7]) (List.append [8, 8, 8, 8, 8, 8, 8, 8, 8, 8, 8, 8, 8, 8, 8, 8, 8, 8, 8, 8, 8, 8, 8, 8, 8, 8, 8, 8, 8, 8, 8, 8, 8, 8, 8, 8, 8, 8, 8, 8, 8, 8, 8, 8, 8, 8, 8, 8, 8, 8, 8, 8, 8, 8, 8, 8, 8, 8, 8, 8, 8, 8, 8, 8] [8, 8, 8, 8, 8, 8, 8, 8, 8, 8, 8, 8, 8, 8, 8, 8, 8, 8, 8, 8, 8, 8, 8, 8, 8, 8, 8, 8, 8, 8, 8, 8, 8, 8, 8, 8, 8, 8, 8, 8, 8, 8, 8, 8, 8, 8, 8, 8, 8, 8, 8, 8, 8, 8, 8, 8, 8, 8, 8, 8, 8, 8, 8, 8])))
theorem len8_size : len8.size = 256 := by kernel_rfl
theorem math_Len64 {w : World} (n : Nat) (hn : n < 256) : Cal Tryd.prog 79 [.int .u64 n] w fun v w' => (∃ q : Int, v = .int .i64 q) ∧ Same w w' := by
  refine cal_math_bits_Len64 (by simp) 10000 fun Q hQ => ?_
  have h1 : ¬ (4294967296 : Int) ≤ (n : Int) := by omega
  have h2 : ¬ (65536 : Int) ≤ (n : Int) := by omega
  have h3 : ¬ (256 : Int) ≤ (n : Int) := by omega
  simp (disch := first | with_reducible assumption | omega) only [push_cast, x_blk, x_cd, ↓reduceIte, Nat.reduceEqDiff, List.map_cons, List.map_nil, Int.reduceEq, Int.lt_irrefl, F_math_bits_Len64, h1, h2, h3, e_conv]
  rw [eff1_of (v := .int .u8 n) (w' := w) (by simp [convert, run_underlying Tryd.underlying5, run_underlying Tryd.underlying117, Conv.intToInt, IntKind.wrap, IntKind.bits, IntKind.signed]; omega)]
  have hb : byt len8 n < 256 := by unfold byt; have := UInt8.toNat_lt (len8.data.toList.getD n 0); omega
  have hb0 : 0 ≤ byt len8 n := by unfold byt; omega
  have hix := fun {K : Fr → World → Prop} {u : World} {f : Fr} {d : Option Nat} {w : World} => ix_str' (K := K) (u := u) (f := f) (d := d) (w := w) len8 .u8 n (by rw [len8_size]; exact hn)
  generalize byt len8 n = y at *
  simp (disch := first | with_reducible assumption | omega) only [push_cast, x_blk, x_cd, ↓reduceIte, Nat.reduceEqDiff, List.map_cons, List.map_nil, Int.reduceEq, Int.lt_irrefl, hix, e_conv]
  rw [eff1_of (v := .int .i64 y) (w' := w) (by simp [convert, run_underlying Tryd.underlying5, run_underlying Tryd.underlying3, Conv.intToInt, wrap_i64 y (by omega) (by omega)])]
  simp (disch := first | with_reducible assumption | omega) only [push_cast, x_blk, x_cd, ↓reduceIte, Nat.reduceEqDiff, List.map_cons, List.map_nil, Int.reduceEq, Int.lt_irrefl, Int.zero_add]
  exact fin_1 (hQ _ _ ⟨⟨y, (by simp only [push_cast, ↓reduceIte, Nat.reduceEqDiff, Int.reduceEq])⟩, Same.refl w⟩)
theorem math_Len {w : World} (n : Nat) (hn : n < 256) : Cal Tryd.prog 60 [.int .u64 n] w fun v w' => (∃ q : Int, v = .int .i64 q) ∧ Same w w' := by
  refine cal_math_bits_Len (by simp) 10000 fun Q hQ => ?_
  simp (disch := first | with_reducible assumption | omega) only [push_cast, x_blk, x_cd, ↓reduceIte, Nat.reduceEqDiff, List.map_cons, List.map_nil, Int.reduceEq, Int.lt_irrefl, F_math_bits_Len]
  refine call_of (math_Len64 n hn) ?_
  rintro v w1 ⟨⟨q, rfl⟩, s1⟩
  simp (disch := first | with_reducible assumption | omega) only [push_cast, x_blk, x_cd, ↓reduceIte, Nat.reduceEqDiff, List.map_cons, List.map_nil, Int.reduceEq, Int.lt_irrefl]
  exact fin_1 (hQ _ _ ⟨⟨q, (by simp only [push_cast, ↓reduceIte, Nat.reduceEqDiff, Int.reduceEq])⟩, s1⟩)
theorem cmp_Less (a b : Int) (w : World) : Cal Tryd.prog 75 [.int .i64 a, .int .i64 b] w fun v w' => v = .bool (decide (a < b)) ∧ Same w w' := by
  refine cal_cmp_Less (by simp) 10000 fun Q hQ => ?_
  simp (disch := first | with_reducible assumption | omega) only [push_cast, x_blk, x_cd, ↓reduceIte, Nat.reduceEqDiff, List.map_cons, List.map_nil, Int.reduceEq, Int.lt_irrefl, F_cmp_Less]
  refine call_of (cmp_isNaN a w) ?_
  rintro v w1 ⟨rfl, s1⟩
  by_cases h : a < b
  · have e := eq_true h
    simp (disch := first | with_reducible assumption | omega) only [push_cast, x_blk, x_cd, ↓reduceIte, Nat.reduceEqDiff, List.map_cons, List.map_nil, Int.reduceEq, Int.lt_irrefl, e]
    exact fin_1 (hQ _ _ ⟨by simp only [push_cast, ↓reduceIte, Nat.reduceEqDiff, e], s1⟩)
  · have e := eq_false h
    simp (disch := first | with_reducible assumption | omega) only [push_cast, x_blk, x_cd, ↓reduceIte, Nat.reduceEqDiff, List.map_cons, List.map_nil, Int.reduceEq, Int.lt_irrefl, e]
    exact fin_1 (hQ _ _ ⟨by simp only [push_cast, ↓reduceIte, Nat.reduceEqDiff, e], s1⟩)
structure InsI (l0 m : List Int) (i j : Nat) : Prop where
  perm : m.Perm l0
  ord : ∀ p q, p < q → q ≤ i → p ≠ j → q ≠ j → m.getD p 0 < m.getD q 0
  gt : ∀ q, j < q → q ≤ i → m.getD j 0 < m.getD q 0
structure InsO (l0 m : List Int) (i : Nat) : Prop where
  perm : m.Perm l0
  ord : ∀ p q, p < q → q < i → m.getD p 0 < m.getD q 0
theorem InsO.go {l0 m : List Int} {i : Nat} (h : InsO l0 m i) : InsI l0 m i i := ⟨h.perm, fun p q hpq hq _ hn => h.ord p q hpq (by omega), fun q h1 h2 => by omega⟩
theorem getD_swap (m : List Int) (q : Nat) (hq : q + 1 < m.length) (r : Nat) : ((m.set (q + 1) (m.getD q 0)).set q (m.getD (q + 1) 0)).getD r 0 = if r = q then m.getD (q + 1) 0 else if r = q + 1 then m.getD q 0 else m.getD r 0 := by
  simp only [List.getD_eq_getElem?_getD, List.getElem?_set, List.length_set]
  by_cases h1 : r = q
  · subst h1; simp; rw [if_pos (by omega)]; rfl
  · rw [if_neg h1, if_neg (fun e => h1 e.symm)]
    by_cases h2 : r = q + 1
    · subst h2; simp [hq]
    · rw [if_neg h2, if_neg (fun e => h2 e.symm)]
theorem InsI.swap {l0 m : List Int} {i q : Nat} (h : InsI l0 m i (q + 1)) (hi : i < m.length) (hq : q + 1 ≤ i) (hlt : m.getD (q + 1) 0 < m.getD q 0) : InsI l0 ((m.set (q + 1) (m.getD q 0)).set q (m.getD (q + 1) 0)) i q := by
  have hg := getD_swap m q (by omega)
  refine ⟨?_, fun p r hpr hr hp hr' => ?_, fun r h1 h2 => ?_⟩
  · have := List.set_set_perm (show q + 1 < m.length by omega) (show q < m.length by omega)
    rw [List.getD_eq_getElem?_getD, List.getElem?_eq_getElem (show q < m.length by omega), List.getD_eq_getElem?_getD, List.getElem?_eq_getElem (show q + 1 < m.length by omega)]
    exact this.trans h.perm
  · rw [hg, hg, if_neg hp, if_neg hr']
    by_cases a : p = q + 1
    · rw [if_pos a, if_neg (by omega)]; exact h.ord q r (by omega) hr (by omega) (by omega)
    · rw [if_neg a]
      by_cases b : r = q + 1
      · rw [if_pos b]; exact h.ord p q (by omega) (by omega) (by omega) (by omega)
      · rw [if_neg b]; exact h.ord p r hpr hr (by omega) (by omega)
  · rw [hg, hg, if_pos rfl, if_neg (by omega)]
    by_cases b : r = q + 1
    · rw [if_pos b]; exact hlt
    · rw [if_neg b]; exact h.gt r (by omega) h2
theorem InsI.done {l0 m : List Int} {i j : Nat} (h : InsI l0 m i j) (hn : l0.Nodup) (hi : i < m.length) (hj : j ≤ i) (hx : j = 0 ∨ ¬ m.getD j 0 < m.getD (j - 1) 0) : InsO l0 m (i + 1) := by
  have hnm : m.Nodup := h.perm.nodup_iff.2 hn
  have hne : ∀ p q, p < q → q < m.length → m.getD p 0 ≠ m.getD q 0 := fun p q hpq hq he => by
    rw [List.getD_eq_getElem?_getD, List.getD_eq_getElem?_getD, List.getElem?_eq_getElem (show p < m.length by omega), List.getElem?_eq_getElem hq] at he
    exact List.pairwise_iff_getElem.1 hnm p q (by omega) hq hpq he
  refine ⟨h.perm, fun p r hpr hr => ?_⟩
  by_cases a : p = j
  · subst a; exact h.gt r hpr (by omega)
  by_cases b : r = j
  · subst b
    have hx' := hx.resolve_left (by omega)
    have h1 := hne (r - 1) r (by omega) (by omega)
    have h2 : m.getD (r - 1) 0 < m.getD r 0 := by omega
    by_cases c : p = r - 1
    · rw [c]; exact h2
    · have := h.ord p (r - 1) (by omega) (by omega) a (by omega); omega
  · exact h.ord p r hpr (by omega) a b
theorem InsO.sorted {l0 m : List Int} (h : InsO l0 m m.length) : m = sortedL l0 := by
  have hs : Strict m := List.pairwise_iff_getElem.2 fun p q hp hq hpq => by
    have := h.ord p q hpq hq
    rwa [List.getD_eq_getElem?_getD, List.getD_eq_getElem?_getD, List.getElem?_eq_getElem hp, List.getElem?_eq_getElem hq] at this
  exact Strict.ext hs (sortedL_spec l0).1 fun x => by rw [(sortedL_spec l0).2]; exact h.perm.mem_iff
theorem Grew.tr {w w1 w2 : World} {A : Option Addr} (h : Grew w w1 A) (h' : Grew w1 w2 A) : Grew w w2 A :=
  ⟨⟨h'.by_.os.trans h.by_.os, h'.by_.tape.trans h.by_.tape, h'.by_.output.trans h.by_.output, Nat.le_trans h.by_.size h'.by_.size, fun k hk hn => (h'.by_.block k (Nat.lt_of_lt_of_le hk h.by_.size) hn).trans (h.by_.block k hk hn)⟩⟩
theorem Grew.rf (w : World) (A : Option Addr) : Grew w w A := ⟨World.grownBy.refl w _⟩
theorem Grew.sm {w w1 : World} (h : Same w w1) (A : Option Addr) : Grew w w1 A := ⟨⟨(h.below 0).os, (h.below 0).tape, (h.below 0).output, (h.below 0).size, fun k hk _ => by rw [h.heap]⟩⟩
set_option maxHeartbeats 1000000 in
theorem sort_ins {B : Nat} {w : World} {A : Option Addr} {c : Nat} {l : List Int} (o : OwnI B 3 w A c l) (hn : l.Nodup) (hl : l.length ≤ 100) :
    Cal Tryd.prog 69 [.slice A l.length c, .int .i64 0, .int .i64 l.length] w fun v w' => v = .tuple #[] ∧ OwnI B 3 w' A c (sortedL l) ∧ Grew w w' A ∧ (sortedL l).length = l.length := by
  refine cal_slices_insertionSortOrdered (by simp) 100000 fun Q hQ => ?_
  simp (disch := first | with_reducible assumption | omega) only [push_cast, x_blk, x_cd, ↓reduceIte, Nat.reduceEqDiff, List.map_cons, List.map_nil, Int.reduceEq, Int.lt_irrefl, F_slices_insertionSortOrdered]
  refine loop_rule (fun f w' => ∃ (i : Nat) (m : List Int), 1 ≤ i ∧ (i ≤ l.length ∨ i = 1) ∧ m.length = l.length ∧ (f 0 = .slice A m.length c ∧ f 1 = .int .i64 0 ∧ f 2 = .int .i64 m.length ∧ f 6 = .int .i64 i) ∧ InsO l m i ∧ OwnI B 3 w' A c m ∧ Grew w w' A)
    (fun f _ => 200 - (intOf (f 6)).toNat) ⟨1, l, Nat.le_refl _, .inr rfl, rfl, ⟨rfl, rfl, rfl, rfl⟩, ⟨List.Perm.refl _, fun p q h1 h2 => by omega⟩, o, Grew.rf _ _⟩ ?_
  rintro f w1 ⟨i, m, hi1, hi, hml, fr, hI, o1, g1⟩ J hJ
  have hmu : (intOf (f 6)).toNat = i := by rw [fr.2.2.2]; simp [intOf]
  by_cases hlt : i < m.length
  case neg =>
    simp (disch := first | with_reducible assumption | omega) only [push_cast, x_blk, x_cd, ↓reduceIte, Nat.reduceEqDiff, List.map_cons, List.map_nil, Int.reduceEq, Int.lt_irrefl, L_slices_insertionSortOrdered_1, fr, hlt]
    have hs : m = sortedL l := by
      by_cases e : i = m.length
      · subst e; exact hI.sorted
      · have h1 : i = 1 := by omega
        have h0 : m.length = 0 := by omega
        have hm : m = [] := List.eq_nil_of_length_eq_zero h0
        have hl0 : l = [] := List.eq_nil_of_length_eq_zero (by omega)
        rw [hm, hl0]; rfl
    exact fin_0 (hQ _ _ ⟨rfl, by rw [← hs]; exact o1, g1, by rw [← hs]; exact hml⟩)
  simp (disch := first | with_reducible assumption | omega) only [push_cast, x_blk, x_cd, ↓reduceIte, Nat.reduceEqDiff, List.map_cons, List.map_nil, Int.reduceEq, Int.lt_irrefl, L_slices_insertionSortOrdered_1, fr, hlt]
  have sA := o1.isSome (by omega)
  refine loop_rule (fun f w' => ∃ (j : Nat) (m : List Int), j ≤ i ∧ m.length = l.length ∧ (f 0 = .slice A m.length c ∧ f 1 = .int .i64 0 ∧ f 2 = .int .i64 m.length ∧ f 6 = .int .i64 i ∧ f 7 = .int .i64 j) ∧ InsI l m i j ∧ OwnI B 3 w' A c m ∧ Grew w w' A)
    (fun f _ => (intOf (f 7)).toNat) ⟨i, m, Nat.le_refl _, hml, (by simp only [push_cast, ↓reduceIte, Nat.reduceEqDiff, true_and, and_true, and_self, eq_self, fr, fr]), hI.go, o1, g1⟩ ?_
  clear hI o1 g1 fr
  rintro f w2 ⟨j, m', hj, hml', fr, hI, o2, g2⟩ J2 hJ2
  have hmu2 : (intOf (f 7)).toNat = j := by rw [fr.2.2.2.2]; simp [intOf]
  have sd := (Same.refl w2).drew
  have o3 := o2.same sd
  have g3 := g2.tr (Grew.sm sd A)
  generalize hu : w2.drew = u at *
  cases j with
  | zero =>
    simp (disch := first | with_reducible assumption | omega) only [push_cast, x_blk, x_cd, ↓reduceIte, Nat.reduceEqDiff, List.map_cons, List.map_nil, Int.reduceEq, Int.lt_irrefl, L_slices_insertionSortOrdered_0, fr, hu]
    exact hJ _ _ ⟨i + 1, m', by omega, .inl (by omega), hml', (by simp only [push_cast, ↓reduceIte, Nat.reduceEqDiff, true_and, and_true, and_self, eq_self, fr, fr]), hI.done hn (by omega) (Nat.zero_le _) (.inl rfl), o3, g3⟩ (by rw [hmu]; simp only [push_cast, ↓reduceIte, Nat.reduceEqDiff, intOf, fr]; omega)
  | succ q =>
  have t1 : ((q : Int) + 1).toNat = q + 1 := by omega
  have t2 : (q : Int) + 1 - 1 = (q : Int) := by omega
  have hq1 : q + 1 < m'.length := by omega
  have hq0 : q < m'.length := by omega
  have hp0 : (0 : Int) < (q : Int) + 1 := by omega
  have hc1 : (q : Int) + 1 < (m'.length : Int) := by omega
  have ld0 := fun {K : Fr → World → Prop} {f : Fr} {d : Option Nat} {w : World} => (OwnI.ints o3).ld (P := Tryd.prog) (K := K) (f := f) (d := d) (w := w) ty_ag_3 q hq0
  have ld1 := fun {K : Fr → World → Prop} {f : Fr} {d : Option Nat} {w : World} => (OwnI.ints o3).ld (P := Tryd.prog) (K := K) (f := f) (d := d) (w := w) ty_ag_3 (q + 1) hq1
  simp (disch := first | with_reducible assumption | omega) only [push_cast, x_blk, x_cd, ↓reduceIte, Nat.reduceEqDiff, List.map_cons, List.map_nil, Int.reduceEq, Int.lt_irrefl, L_slices_insertionSortOrdered_0, fr, hu, sA, t1, t2, hc1, hq0, ld0, ld1, hp0]
  refine call_of (cmp_Less (m'.getD (q + 1) 0) (m'.getD q 0) u) ?_
  rintro v w3 ⟨rfl, s3⟩
  by_cases hlt2 : m'.getD (q + 1) 0 < m'.getD q 0
  case neg =>
    simp (disch := first | with_reducible assumption | omega) only [push_cast, x_blk, x_cd, ↓reduceIte, Nat.reduceEqDiff, List.map_cons, List.map_nil, Int.reduceEq, Int.lt_irrefl, fr, hlt2]
    exact hJ _ _ ⟨i + 1, m', by omega, .inl (by omega), hml', (by simp only [push_cast, ↓reduceIte, Nat.reduceEqDiff, true_and, and_true, and_self, eq_self, fr, fr]), hI.done hn (by omega) hj (.inr (by rw [Nat.add_sub_cancel]; exact hlt2)), o3.same s3, g3.tr (Grew.sm s3 A)⟩ (by rw [hmu]; simp only [push_cast, ↓reduceIte, Nat.reduceEqDiff, intOf, fr]; omega)
  have el := eq_true hlt2
  simp (disch := first | with_reducible assumption | omega) only [push_cast, x_blk, x_cd, ↓reduceIte, Nat.reduceEqDiff, List.map_cons, List.map_nil, Int.reduceEq, Int.lt_irrefl, fr, el]
  clear ld0 ld1
  have sd2 := s3.trans (Same.refl w3).drew
  have o4 := o3.same sd2
  have g4 := g3.tr (Grew.sm sd2 A)
  generalize hu2 : w3.drew = u2 at *
  obtain ⟨S0, hS0⟩ : ∃ S0 : World → Prop, ∀ w', S0 w' ↔ OwnI B 3 w' A c m' := ⟨_, fun _ => Iff.rfl⟩
  have hSu := (hS0 u2).2 o4
  refine ⟨S0, hSu, ?_⟩
  have q1 := fun {K : Fr → World → Prop} {f : Fr} {d : Option Nat} => valS_of (P := Tryd.prog) (S := S0) (K := K) (f := f) (d := d) (w := u2) (s := Instr.loadAt 3 (.pointer (some (eA A q)))) (v := .int .i64 (m'.getD q 0)) (fun w' hw => by rw [(OwnI.ints ((hS0 w').1 hw)).ld ty_ag_3 q hq0]; rfl) hSu
  have q2 := fun {K : Fr → World → Prop} {f : Fr} {d : Option Nat} => valS_of (P := Tryd.prog) (S := S0) (K := K) (f := f) (d := d) (w := u2) (s := Instr.loadAt 3 (.pointer (some (eA A (q + 1))))) (v := .int .i64 (m'.getD (q + 1) 0)) (fun w' hw => by rw [(OwnI.ints ((hS0 w').1 hw)).ld ty_ag_3 (q + 1) hq1]; rfl) hSu
  simp (disch := first | with_reducible assumption | omega) only [push_cast, x_blk, x_cd, ↓reduceIte, Nat.reduceEqDiff, List.map_cons, List.map_nil, Int.reduceEq, Int.lt_irrefl, fr, q1, q2, sA, t1, t2, hc1, hq0]
  refine sto_int ty_ag_3 ty_sz_int o4 (q + 1) hq1 _ ?_
  intro w5 o5 g5 z5
  refine ⟨fun _ => True, trivial, ?_⟩
  simp (disch := first | with_reducible assumption | omega) only [push_cast, x_blk, x_cd, ↓reduceIte, Nat.reduceEqDiff, List.map_cons, List.map_nil, Int.reduceEq, Int.lt_irrefl, fr, sA, t1, t2, hc1, hq0]
  refine sto_int ty_ag_3 ty_sz_int o5 q (by rw [List.length_set]; exact hq0) _ ?_
  intro w6 o6 g6 z6
  refine ⟨fun _ => True, trivial, ?_⟩
  simp (disch := first | with_reducible assumption | omega) only [push_cast, x_blk, x_cd, ↓reduceIte, Nat.reduceEqDiff, List.map_cons, List.map_nil, Int.reduceEq, Int.lt_irrefl, fr, t2]
  exact hJ2 _ _ ⟨q, _, by omega, by rw [List.length_set, List.length_set]; exact hml', (by simp only [push_cast, ↓reduceIte, Nat.reduceEqDiff, true_and, and_true, and_self, eq_self, fr, List.length_set, t2]), hI.swap (by omega) hj hlt2, o6, g4.tr (g5.tr g6)⟩ (by rw [hmu2]; simp only [push_cast, ↓reduceIte, Nat.reduceEqDiff, intOf, fr, t2]; omega)
theorem sort_pdq {B : Nat} {w : World} {A : Option Addr} {c : Nat} {l : List Int} (o : OwnI B 3 w A c l) (hn : l.Nodup) (hl : l.length ≤ 12) (q : Int) :
    Cal Tryd.prog 59 [.slice A l.length c, .int .i64 0, .int .i64 l.length, .int .i64 q] w fun v w' => v = .tuple #[] ∧ OwnI B 3 w' A c (sortedL l) ∧ Grew w w' A ∧ (sortedL l).length = l.length := by
  refine cal_slices_pdqsortOrdered (by simp) 100000 fun Q hQ => ?_
  simp (disch := first | with_reducible assumption | omega) only [push_cast, x_blk, x_cd, ↓reduceIte, Nat.reduceEqDiff, List.map_cons, List.map_nil, Int.reduceEq, Int.lt_irrefl, F_slices_pdqsortOrdered]
  refine loop_rule (fun f w' => (f 0 = .slice A l.length c ∧ f 1 = .int .i64 0 ∧ f 2 = .int .i64 l.length) ∧ w' = w) (fun _ _ => 0) ⟨⟨rfl, rfl, rfl⟩, rfl⟩ ?_
  rintro f w1 ⟨fr, rfl⟩ J _
  have hc : ((l.length : Int) ≤ 12) = True := eq_true (by omega)
  simp (disch := first | with_reducible assumption | omega) only [push_cast, x_blk, x_cd, ↓reduceIte, Nat.reduceEqDiff, List.map_cons, List.map_nil, Int.reduceEq, Int.lt_irrefl, L_slices_pdqsortOrdered_0, fr, Int.sub_zero, hc]
  refine call_of (sort_ins o hn (by omega)) ?_
  rintro v w2 ⟨rfl, h⟩
  simp (disch := first | with_reducible assumption | omega) only [push_cast, x_blk, x_cd, ↓reduceIte, Nat.reduceEqDiff, List.map_cons, List.map_nil, Int.reduceEq, Int.lt_irrefl]
  exact fin_0 (hQ _ _ ⟨rfl, h⟩)
theorem slices_Sort {B : Nat} {w : World} {A : Option Addr} {c : Nat} {l : List Int} (o : OwnI B 3 w A c l) (hn : l.Nodup) (hl : l.length ≤ 12) :
    Cal Tryd.prog 40 [.slice A l.length c] w fun v w' => v = .tuple #[] ∧ OwnI B 3 w' A c (sortedL l) ∧ Grew w w' A ∧ (sortedL l).length = l.length := by
  refine cal_slices_Sort (by simp) 10000 fun Q hQ => ?_
  simp (disch := first | with_reducible assumption | omega) only [push_cast, x_blk, x_cd, ↓reduceIte, Nat.reduceEqDiff, List.map_cons, List.map_nil, Int.reduceEq, Int.lt_irrefl, F_slices_Sort, e_conv]
  rw [eff1_of (v := .int .u64 l.length) (w' := w) (by simp [convert, run_underlying Tryd.underlying3, run_underlying Tryd.underlying100, Conv.intToInt, IntKind.wrap, IntKind.bits, IntKind.signed]; omega)]
  simp (disch := first | with_reducible assumption | omega) only [push_cast, x_blk, x_cd, ↓reduceIte, Nat.reduceEqDiff, List.map_cons, List.map_nil, Int.reduceEq, Int.lt_irrefl]
  refine call_of (math_Len l.length (by omega)) ?_
  rintro v w1 ⟨⟨q, rfl⟩, s1⟩
  simp (disch := first | with_reducible assumption | omega) only [push_cast, x_blk, x_cd, ↓reduceIte, Nat.reduceEqDiff, List.map_cons, List.map_nil, Int.reduceEq, Int.lt_irrefl]
  refine call_of (sort_pdq (o.same s1) hn hl q) ?_
  rintro v w2 ⟨rfl, h1, h2, h3⟩
  simp (disch := first | with_reducible assumption | omega) only [push_cast, x_blk, x_cd, ↓reduceIte, Nat.reduceEqDiff, List.map_cons, List.map_nil, Int.reduceEq, Int.lt_irrefl]
  exact fin_0 (hQ _ _ ⟨rfl, h1, (Grew.sm s1 A).tr h2, h3⟩)
end Go.Proofs.YtpinjiikiaakaaaDoor

/-
  Names and numbers of a text: number, declared, rows: by their contracts.
-/
namespace Go.Proofs.YtpinjiikiaakaaaDoor
set_option linter.unusedSimpArgs false
set_option linter.unusedVariables false
set_option linter.unusedSectionVars false
open Go.RowKit

theorem Strs.up' {w w' : World} {A : Option Addr} {l : List ByteArray} (h : Strs (· < w.heap.size) w A l) (b : Below w.heap.size w w') : Strs (· < w'.heap.size) w' A l :=
  (Recs.keep h fun _ hl => b.block _ hl).mono fun _ hl => Nat.lt_of_lt_of_le hl b.size
theorem Toks.up {w w' : World} {A : Option Addr} {l : List Tok} (h : Recs Tok.cells 3 (· < w.heap.size) w A l) (b : Below w.heap.size w w') : Recs Tok.cells 3 (· < w'.heap.size) w' A l :=
  (Recs.keep h fun _ hl => b.block _ hl).mono fun _ hl => Nat.lt_of_lt_of_le hl b.size
theorem text_number {w : World} {A : Option Addr} {names : List ByteArray} (h : Strs (· < w.heap.size) w A names) (c : Nat) (hl : names.length ≤ 100) (t : Tok) :
    Cal2 Tryd.prog 38 [.slice A names.length c, .agg t.cells.toArray] w (fun v w' => v = .int .i64 (ixS t.s names) ∧ 0 ≤ ixS t.s names ∧ Below w.heap.size w w')
      (fun ch w' => ch = [{ v := badV 4 t.at_, recovered := false }] ∧ ixS t.s names < 0 ∧ Below w.heap.size w w') := by
  refine cal2_text_number (by simp) 1000 fun Q Qp hQ hP => ?_
  simp (disch := first | with_reducible assumption | omega) only [push_cast, x_blk, x_cd, ↓reduceIte, Nat.reduceEqDiff, List.map_cons, List.map_nil, Int.reduceEq, Int.lt_irrefl, F_text_number]
  refine blk_of (box_agg _ t.cells) ?_
  intro w1 k1 b1 z1
  simp (disch := first | with_reducible assumption | omega) only [push_cast, x_blk, x_cd, ↓reduceIte, Nat.reduceEqDiff, List.map_cons, List.map_nil, Int.reduceEq, Int.lt_irrefl, k1.t1]
  refine call_of (str_Index (h.up' b1) c (by omega) t.s) ?_
  rintro v w2 ⟨rfl, s2⟩
  have bb := b1.trans (s2.below _)
  simp (disch := first | with_reducible assumption | omega) only [push_cast, x_blk, x_cd, ↓reduceIte, Nat.reduceEqDiff, List.map_cons, List.map_nil, Int.reduceEq, Int.lt_irrefl, (k1.same s2).t2]
  refine call2_of (text_must (decide (0 ≤ ixS t.s names)) 4 t.at_ w2) ?_ ?_
  · rintro ch w3 ⟨hch, hp, s3⟩
    exact hP _ _ ⟨hch, by have := of_decide_eq_false hp; omega, bb.trans (s3.below _)⟩
  rintro v w3 ⟨rfl, hp, s3⟩
  simp (disch := first | with_reducible assumption | omega) only [push_cast, x_blk, x_cd, ↓reduceIte, Nat.reduceEqDiff, List.map_cons, List.map_nil, Int.reduceEq, Int.lt_irrefl]
  exact fin_1 (hQ _ _ ⟨by simp only [push_cast, ↓reduceIte, Nat.reduceEqDiff], of_decide_eq_true hp, bb.trans (s3.below _)⟩)
set_option maxHeartbeats 1000000 in
theorem text_declared {w : World} {At : Option Addr} {ts : List Tok} (h : Recs Tok.cells 3 (· < w.heap.size) w At ts) (ct : Nat) (hl : ts.length ≤ 4000) (most : Nat) (hm : most ≤ 100) :
    Cal2 Tryd.prog 15 [.slice At ts.length ct, .int .i64 most] w
      (fun v w' => ∃ S A c, decl most [] ts = .ok S ∧ S.length ≤ most ∧ v = .slice A S.length c ∧ OwnR strE w.heap.size 9 1 w' A c S ∧ Below w.heap.size w w')
      (fun ch w' => ∃ e a, decl most [] ts = .error (e, a) ∧ ch = [{ v := badV e a, recovered := false }] ∧ Below w.heap.size w w') := by
  refine cal2_text_declared (by simp) 100000 fun Q Qp hQ hP => ?_
  simp (disch := first | with_reducible assumption | omega) only [push_cast, x_blk, x_cd, ↓reduceIte, Nat.reduceEqDiff, List.map_cons, List.map_nil, Int.reduceEq, Int.lt_irrefl, F_text_declared]
  refine loop_rule (fun f w' => ∃ (k : Nat) (S : List ByteArray) (A : Option Addr) (c : Nat), k ≤ ts.length ∧ (f 1 = .int .i64 most ∧ f 5 = .slice A S.length c ∧ f 8 = .slice At ts.length ct ∧ f 9 = .int .i64 ts.length ∧ f 10 = .int .i64 k) ∧ decl most [] ts = decl most S (ts.drop k) ∧ S.length ≤ most ∧ OwnR strE w.heap.size 9 1 w' A c S ∧ Below w.heap.size w w')
    (fun f _ => ts.length - (intOf (f 10)).toNat) ⟨0, [], none, 0, Nat.zero_le _, ⟨rfl, rfl, rfl, rfl, rfl⟩, rfl, Nat.zero_le _, Own.nil _ _ _ _, Below.refl _ _⟩ ?_
  rintro f w1 ⟨k, S, A, c, hk, fr, hd, hS, o1, b1⟩ J hJ
  have hmu : (intOf (f 10)).toNat = k := by rw [fr.2.2.2.2]; simp [intOf]
  by_cases hlt : k < ts.length
  case neg =>
    obtain rfl : k = ts.length := by omega
    rw [List.drop_length] at hd
    simp (disch := first | with_reducible assumption | omega) only [push_cast, x_blk, x_cd, ↓reduceIte, Nat.reduceEqDiff, List.map_cons, List.map_nil, Int.reduceEq, Int.lt_irrefl, L_text_declared_0, fr, Nat.lt_irrefl]
    exact fin_1 (hQ _ _ ⟨S, A, c, hd, hS, by simp only [push_cast, ↓reduceIte, Nat.reduceEqDiff], o1, b1⟩)
  have hx : ts[k]? = some ts[k] := List.getElem?_eq_getElem hlt
  have hdk : ts.drop k = ts[k] :: ts.drop (k + 1) := List.drop_eq_getElem_cons hlt
  rw [hdk, decl] at hd
  generalize ts[k] = t at *
  have h1 := Toks.up h b1
  have sA := h.isSome (by omega)
  simp (disch := first | with_reducible assumption | omega) only [push_cast, x_blk, x_cd, ↓reduceIte, Nat.reduceEqDiff, List.map_cons, List.map_nil, Int.reduceEq, Int.lt_irrefl, L_text_declared_0, fr, hlt, sA, Toks.ldA h1 hx]
  refine blk_of (cs := tok0) al_53 ?_
  intro w2 k2 b2 z2
  simp (disch := first | with_reducible assumption | omega) only [push_cast, x_blk, x_cd, ↓reduceIte, Nat.reduceEqDiff, List.map_cons, List.map_nil, Int.reduceEq, Int.lt_irrefl, fr]
  refine sto_blk k2 (cs := t.cells) ty_sz_53 rfl (tok_one _) ?_
  intro w3 k3 g3 z3
  have b23 := g3.below b2 b2.size (by intro a ha; injection ha with ha; subst ha; exact Nat.le_refl _)
  have o3 := o1.below b23 (Nat.le_refl _)
  have bb3 := b1.trans (b23.mono b1.size)
  have sd := (Same.refl w3).drew
  have o4 := o3.same sd
  have k4 := k3.same sd
  have bb4 := bb3.trans (sd.below _)
  generalize hu : w3.drew = u at *
  have hSt := Recs.lt strEnc (by decide) (OwnR.recs o4 strEnc (by decide))
  simp (disch := first | with_reducible assumption | omega) only [push_cast, x_blk, x_cd, ↓reduceIte, Nat.reduceEqDiff, List.map_cons, List.map_nil, Int.reduceEq, Int.lt_irrefl, fr, hu, k4.t1, k4.t2]
  refine call_of (str_Contains hSt c (by omega) t.s) ?_
  rintro v w5 ⟨rfl, s5⟩
  simp (disch := first | with_reducible assumption | omega) only [push_cast, x_blk, x_cd, ↓reduceIte, Nat.reduceEqDiff, List.map_cons, List.map_nil, Int.reduceEq, Int.lt_irrefl, fr]
  refine ⟨s5.below _, ?_⟩
  refine call2_of (text_must (!decide (t.s ∈ S)) 5 t.at_ w5) ?_ ?_
  · rintro ch w6 ⟨hch, hp, s6⟩
    have hin : t.s ∈ S := by simpa using hp
    rw [if_pos hin] at hd
    exact hP _ _ ⟨5, _, hd, hch, bb4.trans ((s5.trans s6).below _)⟩
  rintro v w6 ⟨rfl, hp, s6⟩
  have hin : t.s ∉ S := by simpa using hp
  rw [if_neg hin] at hd
  have s46 := s5.trans s6
  have k6 := k4.same s46
  simp (disch := first | with_reducible assumption | omega) only [push_cast, x_blk, x_cd, ↓reduceIte, Nat.reduceEqDiff, List.map_cons, List.map_nil, Int.reduceEq, Int.lt_irrefl, fr, k6.t2]
  refine call2_of (text_must (decide (S.length < most)) 1 t.at_ w6) ?_ ?_
  · rintro ch w7 ⟨hch, hp, s7⟩
    rw [if_pos (by have := of_decide_eq_false hp; omega)] at hd
    exact hP _ _ ⟨1, _, hd, hch, bb4.trans ((s46.trans s7).below _)⟩
  rintro v w7 ⟨rfl, hp, s7⟩
  have hlm := of_decide_eq_true hp
  rw [if_neg (by omega)] at hd
  have s47 := s46.trans s7
  have k7 := k4.same s47
  have o7 := o4.same s47
  have bb7 := bb4.trans (s47.below w.heap.size)
  simp (disch := first | with_reducible assumption | omega) only [push_cast, x_blk, x_cd, ↓reduceIte, Nat.reduceEqDiff, List.map_cons, List.map_nil, Int.reduceEq, Int.lt_irrefl, fr, k7.t1, bs_22]
  refine app_rec strEnc slT_22 o7 t.s (by omega) (by omega) bb7.size ?_
  intro A' c' w8 o8 g8 _ _ z8
  simp (disch := first | with_reducible assumption | omega) only [push_cast, x_blk, x_cd, ↓reduceIte, Nat.reduceEqDiff, List.map_cons, List.map_nil, Int.reduceEq, Int.lt_irrefl, fr]
  exact hJ _ _ ⟨k + 1, _, A', c', hlt, (by simp only [push_cast, ↓reduceIte, Nat.reduceEqDiff, true_and, and_true, and_self, eq_self, fr, List.length_append, List.length_singleton]), hd, by rw [List.length_append, List.length_singleton]; omega, o8, g8.below bb7 bb7.size o7.geB⟩ (by rw [hmu]; simp only [push_cast, ↓reduceIte, Nat.reduceEqDiff, intOf, fr]; omega)
theorem nodup_below {l : List Int} {n : Nat} (h : l.Nodup) (hb : ∀ x ∈ l, 0 ≤ x ∧ x < (n : Int)) : l.length ≤ n := by
  have := nodup_nat_len n (l.map Int.toNat) (by
    refine List.Pairwise.map _ (fun a b hab => hab) ?_
    refine List.Pairwise.imp_of_mem (fun {a b} ha hb' hab => ?_) h
    have := hb a ha
    have := hb b hb'
    show a.toNat ≠ b.toNat
    omega) (fun x hx => by
    obtain ⟨y, hy, rfl⟩ := List.mem_map.1 hx
    have := hb y hy
    omega)
  simpa using this
theorem ixS_lt {s : ByteArray} {l : List ByteArray} (h : 0 ≤ ixS s l) : ixS s l < l.length := by
  have hm := ixS_mem.1 h
  unfold ixS
  rw [if_pos hm]
  have : l.findIdx (fun x => decide (x = s)) < l.length := List.findIdx_lt_length_of_exists ⟨s, hm, by simp⟩
  omega
set_option maxHeartbeats 1000000 in
theorem text_rows {w : World} {An : Option Addr} {names : List ByteArray} (hn : Strs (· < w.heap.size) w An names) (cn : Nat) (hnl : names.length ≤ 12) {At : Option Addr} {ts : List Tok} (h : Recs Tok.cells 3 (· < w.heap.size) w At ts) (ct : Nat) (hl : ts.length ≤ 4000) :
    Cal2 Tryd.prog 16 [.slice An names.length cn, .slice At ts.length ct] w
      (fun v w' => ∃ r A c, rowF names [] ts = .ok r ∧ v = .slice A (sortedL r).length c ∧ OwnI w.heap.size 3 w' A c (sortedL r) ∧ Below w.heap.size w w')
      (fun ch w' => ∃ e a, rowF names [] ts = .error (e, a) ∧ ch = [{ v := badV e a, recovered := false }] ∧ Below w.heap.size w w') := by
  refine cal2_text_rows (by simp) 100000 fun Q Qp hQ hP => ?_
  simp (disch := first | with_reducible assumption | omega) only [push_cast, x_blk, x_cd, ↓reduceIte, Nat.reduceEqDiff, List.map_cons, List.map_nil, Int.reduceEq, Int.lt_irrefl, F_text_rows]
  refine loop_rule (fun f w' => ∃ (k : Nat) (S : List Int) (A : Option Addr) (c : Nat), k ≤ ts.length ∧ (f 0 = .slice An names.length cn ∧ f 5 = .slice A S.length c ∧ f 9 = .slice At ts.length ct ∧ f 10 = .int .i64 ts.length ∧ f 11 = .int .i64 k) ∧ rowF names [] ts = rowF names S (ts.drop k) ∧ S.Nodup ∧ (∀ x ∈ S, 0 ≤ x ∧ x < (names.length : Int)) ∧ OwnI w.heap.size 3 w' A c S ∧ Below w.heap.size w w')
    (fun f _ => ts.length - (intOf (f 11)).toNat) ⟨0, [], none, 0, Nat.zero_le _, ⟨rfl, rfl, rfl, rfl, rfl⟩, rfl, List.nodup_nil, (fun x hx => by cases hx), Own.nil _ _ _ _, Below.refl _ _⟩ ?_
  rintro f w1 ⟨k, S, A, c, hk, fr, hd, hnd, hb, o1, b1⟩ J hJ
  have hmu : (intOf (f 11)).toNat = k := by rw [fr.2.2.2.2]; simp [intOf]
  have hSl := nodup_below hnd hb
  by_cases hlt : k < ts.length
  case neg =>
    obtain rfl : k = ts.length := by omega
    rw [List.drop_length, rowF] at hd
    simp (disch := first | with_reducible assumption | omega) only [push_cast, x_blk, x_cd, ↓reduceIte, Nat.reduceEqDiff, List.map_cons, List.map_nil, Int.reduceEq, Int.lt_irrefl, L_text_rows_0, fr, Nat.lt_irrefl]
    refine call_of (slices_Sort o1 hnd (by omega)) ?_
    rintro v w2 ⟨rfl, o2, g2, hlen⟩
    simp (disch := first | with_reducible assumption | omega) only [push_cast, x_blk, x_cd, ↓reduceIte, Nat.reduceEqDiff, List.map_cons, List.map_nil, Int.reduceEq, Int.lt_irrefl, fr]
    exact fin_1 (hQ _ _ ⟨S, A, c, hd, by simp only [push_cast, ↓reduceIte, Nat.reduceEqDiff, fr, hlen], o2, g2.below b1 b1.size o1.geB⟩)
  have hx : ts[k]? = some ts[k] := List.getElem?_eq_getElem hlt
  have hdk : ts.drop k = ts[k] :: ts.drop (k + 1) := List.drop_eq_getElem_cons hlt
  rw [hdk, rowF] at hd
  generalize ts[k] = t at *
  have h1 := Toks.up h b1
  have sA := h.isSome (by omega)
  simp (disch := first | with_reducible assumption | omega) only [push_cast, x_blk, x_cd, ↓reduceIte, Nat.reduceEqDiff, List.map_cons, List.map_nil, Int.reduceEq, Int.lt_irrefl, L_text_rows_0, fr, hlt, sA, Toks.ldA h1 hx]
  refine blk_of (cs := tok0) al_53 ?_
  intro w2 k2 b2 z2
  simp (disch := first | with_reducible assumption | omega) only [push_cast, x_blk, x_cd, ↓reduceIte, Nat.reduceEqDiff, List.map_cons, List.map_nil, Int.reduceEq, Int.lt_irrefl, fr]
  refine sto_blk k2 (cs := t.cells) ty_sz_53 rfl (tok_one _) ?_
  intro w3 k3 g3 z3
  have b23 := g3.below b2 b2.size (by intro a ha; injection ha with ha; subst ha; exact Nat.le_refl _)
  have o3 := o1.below b23 (Nat.le_refl _)
  have bb3 := b1.trans (b23.mono b1.size)
  simp (disch := first | with_reducible assumption | omega) only [push_cast, x_blk, x_cd, ↓reduceIte, Nat.reduceEqDiff, List.map_cons, List.map_nil, Int.reduceEq, Int.lt_irrefl, fr, k3.tA]
  refine call2_of (text_number (hn.up' bb3) cn (by omega) t) ?_ ?_
  · rintro ch w4 ⟨hch, hp, b4⟩
    rw [if_pos hp] at hd
    exact hP _ _ ⟨4, _, hd, hch, bb3.trans (b4.mono bb3.size)⟩
  rintro v w4 ⟨rfl, hp, b4⟩
  rw [if_neg (by omega)] at hd
  have hxl := ixS_lt hp
  generalize ixS t.s names = x at *
  have k4 := k3.below b4 k3.lt
  have o4 := o3.below b4 (Nat.le_refl _)
  have bb4 := bb3.trans (b4.mono bb3.size)
  have sd := (Same.refl w4).drew
  have o5 := o4.same sd
  have k5 := k4.same sd
  have bb5 := bb4.trans (sd.below _)
  simp (disch := first | with_reducible assumption | omega) only [push_cast, x_blk, x_cd, ↓reduceIte, Nat.reduceEqDiff, List.map_cons, List.map_nil, Int.reduceEq, Int.lt_irrefl, fr]
  generalize hu : w4.drew = u at *
  simp (disch := first | with_reducible assumption | omega) only [push_cast, x_blk, x_cd, ↓reduceIte, Nat.reduceEqDiff, List.map_cons, List.map_nil, Int.reduceEq, Int.lt_irrefl, fr, k5.t2]
  refine call_of (row_Has (OwnI.ints o5) c x (by omega)) ?_
  rintro v w6 ⟨rfl, s6⟩
  simp (disch := first | with_reducible assumption | omega) only [push_cast, x_blk, x_cd, ↓reduceIte, Nat.reduceEqDiff, List.map_cons, List.map_nil, Int.reduceEq, Int.lt_irrefl, fr]
  refine ⟨s6.below _, ?_⟩
  refine call2_of (text_must (!decide (x ∈ S)) 5 t.at_ w6) ?_ ?_
  · rintro ch w7 ⟨hch, hp, s7⟩
    have hin : x ∈ S := by simpa using hp
    rw [if_pos hin] at hd
    exact hP _ _ ⟨5, _, hd, hch, bb5.trans ((s6.trans s7).below _)⟩
  rintro v w7 ⟨rfl, hp7, s7⟩
  have hin : x ∉ S := by simpa using hp7
  rw [if_neg hin] at hd
  have o7 := o5.same (s6.trans s7)
  have bb7 := bb5.trans ((s6.trans s7).below w.heap.size)
  simp (disch := first | with_reducible assumption | omega) only [push_cast, x_blk, x_cd, ↓reduceIte, Nat.reduceEqDiff, List.map_cons, List.map_nil, Int.reduceEq, Int.lt_irrefl, fr, bs_23]
  refine app_int slT_23 o7 x (by omega) bb7.size ?_
  intro A' c' w8 o8 g8 _ _ z8
  simp (disch := first | with_reducible assumption | omega) only [push_cast, x_blk, x_cd, ↓reduceIte, Nat.reduceEqDiff, List.map_cons, List.map_nil, Int.reduceEq, Int.lt_irrefl, fr]
  exact hJ _ _ ⟨k + 1, _, A', c', hlt, (by simp only [push_cast, ↓reduceIte, Nat.reduceEqDiff, true_and, and_true, and_self, eq_self, fr, List.length_append, List.length_singleton]), hd, (List.nodup_append.2 ⟨hnd, by simp, fun a ha b hb' => by rw [List.mem_singleton.1 hb']; exact fun e => hin (e ▸ ha)⟩), (fun y hy => by
    rcases List.mem_append.1 hy with hy | hy
    · exact hb y hy
    · rw [List.mem_singleton.1 hy]; exact ⟨hp, hxl⟩), o8, g8.below bb7 bb7.size o7.geB⟩ (by rw [hmu]; simp only [push_cast, ↓reduceIte, Nat.reduceEqDiff, intOf, fr]; omega)
end Go.Proofs.YtpinjiikiaakaaaDoor

/-
  The library's slices.SortFunc on a row of arrows of one's own, by the shelf's contract, with the comparison that text.arrows has.
-/
namespace Go.Proofs.YtpinjiikiaakaaaDoor
set_option linter.unusedSimpArgs false
set_option linter.unusedVariables false
set_option linter.unusedSectionVars false
open Go.RowKit

theorem Arr.lt_irrefl (x : Arr) : ¬ x.lt x := by unfold Arr.lt; omega
theorem Arr.lt_tri {x y : Arr} (h : ¬ x.lt y) (hn : x ≠ y) : y.lt x := by
  obtain ⟨a, b, c⟩ := x
  obtain ⟨d, e, f⟩ := y
  unfold Arr.lt at *
  simp only at *
  by_cases h1 : a = d
  · by_cases h2 : b = e
    · by_cases h3 : c = f
      · subst h1 h2 h3; exact absurd rfl hn
      · omega
    · omega
  · omega
theorem insA_cons (x y : Arr) (o : List Arr) : insA x (y :: o) = if y.lt x then y :: insA x o else if y = x then y :: o else x :: y :: o := by
  by_cases h : y.lt x
  · have ha : atA x (y :: o) = atA x o + 1 := by show (if y.lt x then atA x o + 1 else 0) = _; rw [if_pos h]
    unfold insA
    rw [if_pos h, ha]
    simp only [List.length_cons, Nat.add_lt_add_iff_right, List.getD_cons_succ, List.take_succ_cons, List.drop_succ_cons]
    split
    · rfl
    · rfl
  · have ha : atA x (y :: o) = 0 := by show (if y.lt x then atA x o + 1 else 0) = _; rw [if_neg h]
    unfold insA
    rw [if_neg h, ha]
    simp only [List.length_cons, List.getD_cons_zero, Nat.zero_lt_succ, true_and, List.take_zero, List.nil_append, List.drop_zero]
theorem insA_spec (x : Arr) : ∀ {o : List Arr}, OrdA o → OrdA (insA x o) ∧ ∀ z, z ∈ insA x o ↔ z = x ∨ z ∈ o
  | [], _ => ⟨by simp [insA, atA, OrdA], fun z => by simp [insA, atA]⟩
  | y :: o, h => by
    have h' := List.pairwise_cons.1 (show (y :: o).Pairwise Arr.lt from h)
    have ih := insA_spec x (show OrdA o from h'.2)
    rw [insA_cons]
    split
    · rename_i hyx
      refine ⟨List.pairwise_cons.2 ⟨fun z hz => ?_, ih.1⟩, fun z => ?_⟩
      · rcases (ih.2 z).1 hz with rfl | hz
        · exact hyx
        · exact h'.1 z hz
      · rw [List.mem_cons, ih.2, List.mem_cons]
        exact ⟨fun h => by rcases h with h | h | h <;> simp [h], fun h => by rcases h with h | h | h <;> simp [h]⟩
    · rename_i hyx
      split
      · rename_i e
        subst e
        exact ⟨h, fun z => by simp⟩
      · rename_i hne
        have hxy := Arr.lt_tri hyx hne
        refine ⟨List.pairwise_cons.2 ⟨fun z hz => ?_, h⟩, fun z => by simp⟩
        rcases List.mem_cons.1 hz with rfl | hz
        · exact hxy
        · exact Arr.lt_trans hxy (h'.1 z hz)
theorem sortA_spec (l : List Arr) : OrdA (sortA l) ∧ ∀ z, z ∈ sortA l ↔ z ∈ l := by
  have key : ∀ (l o : List Arr), OrdA o → OrdA (l.foldl (fun o x => insA x o) o) ∧ ∀ z, z ∈ l.foldl (fun o x => insA x o) o ↔ z ∈ o ∨ z ∈ l := by
    intro l
    induction l with
    | nil => intro o h; exact ⟨h, fun z => by simp⟩
    | cons x l ih =>
      intro o h
      have h1 := insA_spec x h
      have h2 := ih (insA x o) h1.1
      refine ⟨h2.1, fun z => ?_⟩
      rw [List.foldl_cons, h2.2, h1.2, List.mem_cons]
      exact ⟨fun h => by rcases h with (h | h) | h <;> simp [h], fun h => by rcases h with h | h | h <;> simp [h]⟩
  have := key l [] (by simp [OrdA])
  exact ⟨this.1, fun z => by rw [show sortA l = l.foldl (fun o x => insA x o) [] from rfl, this.2]; simp⟩
theorem sortA_len' (l : List Arr) : (sortA l).length ≤ l.length := by
  have := sortA_len l l.length
  rwa [List.take_length] at this
theorem OrdA.ext : ∀ {l m : List Arr}, OrdA l → OrdA m → (∀ x, x ∈ l ↔ x ∈ m) → l = m
  | [], [], _, _, _ => rfl
  | [], y :: m, _, _, h => absurd ((h y).2 (List.mem_cons_self ..)) (by simp)
  | x :: l, [], _, _, h => absurd ((h x).1 (List.mem_cons_self ..)) (by simp)
  | x :: l, y :: m, hl, hm, h => by
    have hl' := List.pairwise_cons.1 (show (x :: l).Pairwise Arr.lt from hl)
    have hm' := List.pairwise_cons.1 (show (y :: m).Pairwise Arr.lt from hm)
    have hxy : x = y := by
      rcases List.mem_cons.1 ((h x).1 (List.mem_cons_self ..)) with e | hx
      · exact e
      · rcases List.mem_cons.1 ((h y).2 (List.mem_cons_self ..)) with e | hy
        · exact e.symm
        · exact absurd (Arr.lt_trans (hm'.1 x hx) (hl'.1 y hy)) (Arr.lt_irrefl _)
    subst hxy
    rw [OrdA.ext (l := l) (m := m) hl'.2 hm'.2 fun z => by
      have := h z
      simp only [List.mem_cons] at this
      constructor
      · intro hz
        rcases this.1 (.inr hz) with e | hz'
        · subst e; exact absurd (hl'.1 z hz) (Arr.lt_irrefl _)
        · exact hz'
      · intro hz
        rcases this.2 (.inr hz) with e | hz'
        · subst e; exact absurd (hm'.1 z hz) (Arr.lt_irrefl _)
        · exact hz']
theorem OrdA.nodup {l : List Arr} (h : OrdA l) : l.Nodup := List.Pairwise.imp (fun {a b} hab e => by subst e; exact Arr.lt_irrefl _ hab) h
def ASm (a : Arr) : Prop := (0 ≤ a.frm ∧ a.frm < 1000000) ∧ (0 ≤ a.evt ∧ a.evt < 1000000) ∧ 0 ≤ a.to_ ∧ a.to_ < 1000000
def cmpS (a b : Arr) : Int := if a.frm ≠ b.frm then a.frm - b.frm else if a.evt ≠ b.evt then a.evt - b.evt else a.to_ - b.to_
theorem cmpS_lt (a b : Arr) : cmpS a b < 0 ↔ a.lt b := by
  unfold cmpS Arr.lt
  by_cases h1 : a.frm = b.frm
  · by_cases h2 : a.evt = b.evt
    · rw [if_neg (fun h => h h1), if_neg (fun h => h h2)]; constructor <;> intro h <;> omega
    · rw [if_neg (fun h => h h1), if_pos h2]; constructor <;> intro h <;> omega
  · rw [if_pos h1]; constructor <;> intro h <;> omega
theorem blk_at {P : Program} {K : Fr → World → Prop} {f : Fr} {d : Option Nat} {w : World} {t : TypeId} {cs : List Value} {s : Sem Value} {v : Value} (he : Eff1 P K s f d w = K (updO f d v) (w.alloc (.cells cs.toArray t)))
    (h : ∀ w1, w1 = w.alloc (.cells cs.toArray t) → Blk w1 w.heap.size t cs → Below w.heap.size w w1 → w1.heap.size = w.heap.size + 1 → K (updO f d v) w1) : Eff1 P K s f d w := by
  rw [he]
  exact h _ rfl (Blk.new w t cs) ((Below.refl _ _).alloc (Nat.le_refl _) _) (by simp)
theorem cmp_Or_ {ok : Nat → Prop} {w : World} {A : Option Addr} {l : List Int} (h : Ints ok w A l) (c : Nat) (hl : l.length ≤ 9223372036854775807) :
    Cal Tryd.prog 44 [.slice A l.length c] w fun v w' => v = .int .i64 (orL l) ∧ w' = w := by
  refine cal_cmp_Or (by simp) 100000 fun Q hQ => ?_
  simp (disch := first | with_reducible assumption | omega) only [push_cast, x_blk, x_cd, ↓reduceIte, Nat.reduceEqDiff, List.map_cons, List.map_nil, Int.reduceEq, Int.lt_irrefl, F_cmp_Or]
  refine loop_rule (fun f w' => ∃ k : Nat, k ≤ l.length ∧ f 3 = .int .i64 0 ∧ f 6 = .slice A l.length c ∧ f 7 = .int .i64 l.length ∧ f 8 = .int .i64 k ∧ (∀ i, i < k → l.getD i 0 = 0) ∧ w' = w)
    (fun f _ => l.length - (intOf (f 8)).toNat) ⟨0, Nat.zero_le _, rfl, rfl, rfl, rfl, fun i hi => absurd hi (by omega), rfl⟩ ?_
  rintro f w1 ⟨k, hk, h3, h6, h7, h8, hp, rfl⟩ J hJ
  have hI := h
  by_cases hlt : k < l.length
  · have hA := h.isSome (by omega)
    by_cases c1 : l.getD k 0 = 0
    · simp (disch := first | with_reducible assumption | omega) only [push_cast, x_blk, x_cd, ↓reduceIte, Nat.reduceEqDiff, List.map_cons, List.map_nil, Int.reduceEq, Int.lt_irrefl, L_cmp_Or_0, h3, h6, h7, h8, hlt, c1, hI.ld ty_ag_3]
      exact hJ _ _ ⟨k + 1, hlt, (by simp only [push_cast, ↓reduceIte, Nat.reduceEqDiff, Int.reduceEq, h3]), (by simp only [push_cast, ↓reduceIte, Nat.reduceEqDiff, Int.reduceEq, h6]), (by simp only [push_cast, ↓reduceIte, Nat.reduceEqDiff, Int.reduceEq, h7]), (by simp only [push_cast, ↓reduceIte, Nat.reduceEqDiff, Int.reduceEq]), fun i hi => if e : i = k then e ▸ c1 else hp i (by omega), rfl⟩ (by simp only [push_cast, ↓reduceIte, Nat.reduceEqDiff, h8, intOf]; omega)
    · have r := orL_here l k hlt hp c1
      simp (disch := first | with_reducible assumption | omega) only [push_cast, x_blk, x_cd, ↓reduceIte, Nat.reduceEqDiff, List.map_cons, List.map_nil, Int.reduceEq, Int.lt_irrefl, L_cmp_Or_0, h3, h6, h7, h8, hlt, c1, hI.ld ty_ag_3]
      exact fin_1 (hQ _ _ ⟨(by simp only [push_cast, ↓reduceIte, Nat.reduceEqDiff, Int.reduceEq, r]), rfl⟩)
  · have r : orL l = 0 := by rw [orL_at l k hp, List.drop_eq_nil_of_le (by omega)]; rfl
    simp (disch := first | with_reducible assumption | omega) only [push_cast, x_blk, x_cd, ↓reduceIte, Nat.reduceEqDiff, List.map_cons, List.map_nil, Int.reduceEq, Int.lt_irrefl, L_cmp_Or_0, h3, h6, h7, h8, hlt]
    exact fin_1 (hQ _ _ ⟨(by simp only [push_cast, ↓reduceIte, Nat.reduceEqDiff, Int.reduceEq, r]), rfl⟩)
theorem orL_cmp (a b : Arr) : orL [a.frm - b.frm, a.evt - b.evt, a.to_ - b.to_] = cmpS a b := by
  unfold cmpS
  simp only [orL]
  repeat' split
  all_goals omega
theorem fill_3w (x y z : Value) (a b c : Int) : Instr.fill (fun i => some (i * 1, 1)) #[x, y, z] [(0, .int .i64 a), (1, .int .i64 b), (2, .int .i64 c)] = some #[.int .i64 a, .int .i64 b, .int .i64 c] := by
  simp [Instr.fill, Value.cells]
theorem bsl3_int {P : Program} {K : Fr → World → Prop} {f : Fr} {d : Option Nat} {w : World} {t e bytes : Nat} (hT : SlT P t e 1 bytes) (a b c : Int) :
    Eff1 P K (Instr.buildSlice t 3 #[(0, .int .i64 a), (1, .int .i64 b), (2, .int .i64 c)]) f d w = K (updO f d (.slice (some ⟨w.heap.size, 0, none⟩) 3 3)) (w.alloc (.cells [.int .i64 a, .int .i64 b, .int .i64 c].toArray e)) := by
  obtain ⟨i, z, hi, hz, hs, hb, hc⟩ := hT.get
  refine eff1_of ?_
  have hz3 : (Array.range 3).map (z.cells[· % z.cells.size]!) = #[z.cells[0 % z.cells.size]!, z.cells[1 % z.cells.size]!, z.cells[2 % z.cells.size]!] := by
    apply Array.ext'; simp [List.range_succ]
  have hf := fill_3w (z.cells[0 % z.cells.size]!) (z.cells[1 % z.cells.size]!) (z.cells[2 % z.cells.size]!) a b c
  rw [← hz3] at hf
  simp only [Instr.buildSlice, run_underlying hT.under, sizeOf, typeInfo, Sem.run_bind, Result.andThen_ok]
  simp only [Nat.mul_one] at hf
  simp [hi, hs, zeroValue, typeInfo, hz, newRow, hf]
theorem arr_cmp {a b : Arr} (ha : ASm a) (hb : ASm b) (w : World) :
    Cal Tryd.prog 43 [arrVal a, arrVal b] w fun v w' => v = .int .i64 (cmpS a b) ∧ ∃ q os, w' = Go.Sort.grow (w.drewN q) os := by
  obtain ⟨a1, a2, a3⟩ := ha
  obtain ⟨b1, b2, b3⟩ := hb
  refine cal_text_arrows_1 (by simp) 100000 fun Q hQ => ?_
  simp (disch := first | with_reducible assumption | omega) only [push_cast, x_blk, x_cd, ↓reduceIte, Nat.reduceEqDiff, List.map_cons, List.map_nil, Int.reduceEq, Int.lt_irrefl, F_text_arrows_1]
  refine blk_at (box_agg _ (arrCells a)) ?_
  intro w1 e1 k1 bb1 z1
  simp (disch := first | with_reducible assumption | omega) only [push_cast, x_blk, x_cd, ↓reduceIte, Nat.reduceEqDiff, List.map_cons, List.map_nil, Int.reduceEq, Int.lt_irrefl]
  refine blk_at (box_agg _ (arrCells b)) ?_
  intro w2 e2 k2 bb2 z2
  replace k1 := k1.below bb2 k1.lt
  simp (disch := first | with_reducible assumption | omega) only [push_cast, x_blk, x_cd, ↓reduceIte, Nat.reduceEqDiff, List.map_cons, List.map_nil, Int.reduceEq, Int.lt_irrefl, k1.a0 ty_ag_3, k2.a0 ty_ag_3, k1.a1 ty_ag_3, k2.a1 ty_ag_3, k1.a2 ty_ag_3, k2.a2 ty_ag_3]
  refine blk_at (bsl3_int slT_23 (a.frm - b.frm) (a.evt - b.evt) (a.to_ - b.to_)) ?_
  intro w3 e3 k3 bb3 z3
  have hw : w3 = Go.Sort.grow (w.drewN 0) (#[.cells (arrCells a).toArray 66] ++ #[.cells (arrCells b).toArray 66] ++ #[.cells [.int .i64 (a.frm - b.frm), .int .i64 (a.evt - b.evt), .int .i64 (a.to_ - b.to_)].toArray 3]) := by
    rw [e3, e2, e1, Go.Sort.alloc_eq_grow, Go.Sort.alloc_eq_grow, Go.Sort.alloc_eq_grow, Go.Sort.grow_grow, Go.Sort.grow_grow]; rfl
  simp (disch := first | with_reducible assumption | omega) only [push_cast, x_blk, x_cd, ↓reduceIte, Nat.reduceEqDiff, List.map_cons, List.map_nil, Int.reduceEq, Int.lt_irrefl]
  refine call_of (cmp_Or_ (ints_blk (l := [a.frm - b.frm, a.evt - b.evt, a.to_ - b.to_]) k3) 3 (by simp)) ?_
  rintro v w4 ⟨rfl, rfl⟩
  rw [orL_cmp]
  simp (disch := first | with_reducible assumption | omega) only [push_cast, x_blk, x_cd, ↓reduceIte, Nat.reduceEqDiff, List.map_cons, List.map_nil, Int.reduceEq, Int.lt_irrefl]
  exact fin_1 (hQ _ _ ⟨(by simp only [push_cast, ↓reduceIte, Nat.reduceEqDiff, Int.reduceEq]), _, _, hw⟩)

def renSort : Go.Shelf.Ren := ⟨fun | 6 => 42 | 14 => 62 | 15 => 60 | 20 => 80 | 21 => 81 | 22 => 82 | 23 => 83 | 24 => 84 | 25 => 85 | 26 => 86 | 27 => 87 | 28 => 78 | 29 => 79 | 46 => 97 | 47 => 92 | 48 => 93 | 49 => 98 | 50 => 99 | 57 => 101 | n => n, fun | 0 => 0 | 3 => 3 | 4 => 4 | 5 => 5 | 9 => 9 | 22 => 24 | 24 => 66 | 25 => 84 | 39 => 100 | 45 => 107 | 46 => 108 | 50 => 112 | 53 => 115 | 55 => 117 | 66 => 127 | 70 => 131 | 76 => 136 | 77 => 137 | n => n, fun | n => n⟩
theorem laysSort : Go.Proofs.SlLaysF0.n6 Tryd.prog renSort := {
  mixed := by kernel_rfl
  f6 := ⟨Tryd.f42.name, by kernel_rfl, Tryd.func42.trans (congrArg some (by kernel_rfl))⟩
  f14 := ⟨Tryd.f62.name, by kernel_rfl, Tryd.func62.trans (congrArg some (by kernel_rfl))⟩
  f15 := Tryd.func60.trans (congrArg some (by kernel_rfl))
  f20 := ⟨Tryd.f80.name, by kernel_rfl, Tryd.func80.trans (congrArg some (by kernel_rfl))⟩
  f21 := ⟨Tryd.f81.name, by kernel_rfl, Tryd.func81.trans (congrArg some (by kernel_rfl))⟩
  f22 := ⟨Tryd.f82.name, by kernel_rfl, Tryd.func82.trans (congrArg some (by kernel_rfl))⟩
  f23 := ⟨Tryd.f83.name, by kernel_rfl, Tryd.func83.trans (congrArg some (by kernel_rfl))⟩
  f24 := ⟨Tryd.f84.name, by kernel_rfl, Tryd.func84.trans (congrArg some (by kernel_rfl))⟩
  f25 := ⟨Tryd.f85.name, by kernel_rfl, Tryd.func85.trans (congrArg some (by kernel_rfl))⟩
  f26 := ⟨Tryd.f86.name, by kernel_rfl, Tryd.func86.trans (congrArg some (by kernel_rfl))⟩
  f27 := ⟨Tryd.f87.name, by kernel_rfl, Tryd.func87.trans (congrArg some (by kernel_rfl))⟩
  f28 := Tryd.func78.trans (congrArg some (by kernel_rfl))
  f29 := Tryd.func79.trans (congrArg some (by kernel_rfl))
  f46 := ⟨Tryd.f97.name, by kernel_rfl, Tryd.func97.trans (congrArg some (by kernel_rfl))⟩
  f47 := Tryd.func92.trans (congrArg some (by kernel_rfl))
  f48 := Tryd.func93.trans (congrArg some (by kernel_rfl))
  f49 := ⟨Tryd.f98.name, by kernel_rfl, Tryd.func98.trans (congrArg some (by kernel_rfl))⟩
  f50 := ⟨Tryd.f99.name, by kernel_rfl, Tryd.func99.trans (congrArg some (by kernel_rfl))⟩
  f57 := ⟨Tryd.f101.name, by kernel_rfl, Tryd.func101.trans (congrArg some (by kernel_rfl))⟩
  t0 := Tryd.underlying0
  a0 := Tryd.isAgg0
  z0 := Tryd.sizeOf0
  v0 := Tryd.zeroValue0
  t3 := Tryd.underlying3
  a3 := Tryd.isAgg3
  z3 := Tryd.sizeOf3
  v3 := Tryd.zeroValue3
  t4 := Tryd.underlying4
  a4 := Tryd.isAgg4
  z4 := Tryd.sizeOf4
  v4 := Tryd.zeroValue4
  t5 := Tryd.underlying5
  a5 := Tryd.isAgg5
  z5 := Tryd.sizeOf5
  v5 := Tryd.zeroValue5
  t9 := Tryd.underlying9
  a9 := Tryd.isAgg9
  z9 := Tryd.sizeOf9
  v9 := Tryd.zeroValue9
  t22 := Tryd.underlying24
  a22 := Tryd.isAgg24
  z22 := Tryd.sizeOf24
  v22 := Tryd.zeroValue24
  t25 := Tryd.underlying84
  a25 := Tryd.isAgg84
  z25 := Tryd.sizeOf84
  v25 := Tryd.zeroValue84
  t39 := Tryd.underlying100
  a39 := Tryd.isAgg100
  z39 := Tryd.sizeOf100
  v39 := Tryd.zeroValue100
  t45 := Tryd.underlying107
  a45 := Tryd.isAgg107
  z45 := Tryd.sizeOf107
  v45 := Tryd.zeroValue107
  t46 := Tryd.underlying108
  a46 := Tryd.isAgg108
  z46 := Tryd.sizeOf108
  v46 := Tryd.zeroValue108
  t50 := Tryd.underlying112
  a50 := Tryd.isAgg112
  z50 := Tryd.sizeOf112
  v50 := Tryd.zeroValue112
  t53 := Tryd.underlying115
  a53 := Tryd.isAgg115
  z53 := Tryd.sizeOf115
  v53 := Tryd.zeroValue115
  t55 := Tryd.underlying117
  a55 := Tryd.isAgg117
  z55 := Tryd.sizeOf117
  v55 := Tryd.zeroValue117
  t66 := Tryd.underlying127
  a66 := Tryd.isAgg127
  z66 := Tryd.sizeOf127
  v66 := Tryd.zeroValue127
  t70 := Tryd.underlying131
  a70 := Tryd.isAgg131
  z70 := Tryd.sizeOf131
  v70 := Tryd.zeroValue131
  t76 := Tryd.underlying136
  a76 := Tryd.isAgg136
  z76 := Tryd.sizeOf136
  v76 := Tryd.zeroValue136
  t77 := Tryd.underlying137
  a77 := Tryd.isAgg137
  z77 := Tryd.sizeOf137
  v77 := Tryd.zeroValue137 }
abbrev SA := { a : Arr // ASm a }
instance : Inhabited SA := ⟨⟨⟨0, 0, 0⟩, by unfold ASm; decide⟩⟩
theorem swoS : Go.Sort.SWO (Go.Proofs.ltOf fun x y : SA => cmpS x.1 y.1) where
  irrefl x := decide_eq_false fun h => Arr.lt_irrefl _ ((cmpS_lt _ _).1 h)
  trans x y z h1 h2 := decide_eq_true ((cmpS_lt _ _).2 (Arr.lt_trans ((cmpS_lt _ _).1 (of_decide_eq_true h1)) ((cmpS_lt _ _).1 (of_decide_eq_true h2))))
  ntrans x y z h1 h2 := decide_eq_false fun h => by
    have h1' := of_decide_eq_false h1
    have h2' := of_decide_eq_false h2
    rw [cmpS_lt] at h1' h2' h
    unfold Arr.lt at *
    omega
def liftS : (l : List Arr) → (∀ a ∈ l, ASm a) → List SA
  | [], _ => []
  | a :: l, h => ⟨a, h a (List.mem_cons_self ..)⟩ :: liftS l fun x hx => h x (List.mem_cons_of_mem _ hx)
theorem liftS_map : ∀ (l : List Arr) (h : ∀ a ∈ l, ASm a), (liftS l h).map (·.1) = l
  | [], _ => rfl
  | a :: l, h => by unfold liftS; rw [List.map_cons, liftS_map l]
theorem flatK_eq {α : Type} [Inhabited α] {enc : α → List Value} {k : Nat} (E : Enc enc k) (hk : 0 < k) (l : List α) : (Go.Sort.flatK enc k l.toArray).toList = l.flatMap enc := by
  apply List.ext_getElem?
  intro i
  have hs : (Go.Sort.flatK enc k l.toArray).size = l.length * k := by rw [Go.Sort.size_flatK]; simp
  by_cases hi : i < l.length * k
  · have hdiv : i / k < l.length := Nat.div_lt_of_lt_mul (by rw [Nat.mul_comm]; exact hi)
    have hmod : i % k < k := Nat.mod_lt _ hk
    have h1 := flatMap_at E l (i / k) l[i / k] (i % k) (List.getElem?_eq_getElem hdiv) hmod
    rw [show i / k * k + i % k = i by rw [Nat.mul_comm]; exact Nat.div_add_mod i k] at h1
    rw [h1, Array.getElem?_toList, Array.getElem?_eq_getElem (by rw [hs]; exact hi)]
    have h2 := Go.Sort.get_flatK enc k l.toArray i (by simpa using hi)
    rw [getElem!_pos _ _ (by rw [hs]; exact hi)] at h2
    rw [h2]
    have hl : i / k < l.toArray.size := by simpa using hdiv
    rw [getElem!_pos l.toArray _ hl]
    have he : (enc l[i / k]).length = k := E.len _
    rw [List.getElem!_eq_getElem?_getD]
    simp only [List.getElem_toArray]
    rw [List.getElem?_eq_getElem (by rw [he]; exact hmod)]
    simp
  · rw [List.getElem?_eq_none (by rw [Array.length_toList, hs]; omega), List.getElem?_eq_none (by rw [flatMap_len E]; omega)]
theorem putCells_take (F cur : Array Value) (h : F.size ≤ cur.size) : (Go.Sort.putCells id 0 F cur).toList.take F.size = F.toList := by
  apply List.ext_getElem?
  intro j
  rw [List.getElem?_take, Array.getElem?_toList, Array.getElem?_toList]
  by_cases hj : j < F.size
  · have hjc : j < cur.size := by omega
    simp only [if_pos hj, Go.Sort.putCells, Array.getElem?_mapIdx, Array.getElem?_eq_getElem hjc, Option.map_some]
    rw [if_pos (by omega)]
    simp [getElem!_pos, hj]
  · rw [if_neg hj, Array.getElem?_eq_none (by omega)]
theorem arr_sort {B : Nat} {w : World} {A : Option Addr} {c : Nat} {l : List Arr} (h : OwnR arrCells B 66 3 w A c l) (hl : l.length ≤ 1000000) (hs : ∀ a ∈ l, ASm a) (hn : l.Nodup) :
    Cal Tryd.prog 42 [.slice A l.length c, .func (.func 43) #[] #[]] w fun v w' => v = .tuple #[] ∧ (sortA l).length = l.length ∧ OwnR arrCells B 66 3 w' A c (sortA l) ∧ Grew w w' A := by
  refine ⟨by kernel_rfl, ?_⟩
  rcases h.form with ⟨rfl, h0, rfl, _⟩ | ⟨g, rfl, hB, hg⟩
  · have hn : l = [] := List.eq_nil_of_length_eq_zero h0
    subst hn
    exact (Go.Proofs.AnyF.slices_SortFunc_none laysSort none 0 _ w).mono fun e W ⟨h1, h2⟩ => ⟨_, h1, rfl, rfl, by rw [h2]; exact h, by rw [h2]; exact ⟨World.grownBy.refl w _⟩⟩
  · have E : Enc (fun x : SA => arrCells x.1) 3 := ⟨fun x => rfl, fun x u hu => by
      simp [arrCells] at hu
      rcases hu with rfl | rfl | rfl <;> rfl⟩
    have hfl : (liftS l hs).flatMap (fun x : SA => arrCells x.1) = l.flatMap arrCells := by
      conv => rhs; rw [← liftS_map l hs]
      rw [List.flatMap_map]
    have hll : (liftS l hs).length = l.length := by
      have := congrArg List.length (liftS_map l hs)
      simpa using this
    have eg : ∀ args w, (callFunc 43 args).run Tryd.prog w = .ok (.enter 43 args) w := enters_of Tryd.func43 (by kernel_rfl) rfl
    have hcmp : Go.Proofs.CmpLays Tryd.prog 43 #[] (fun x : SA => arrCells x.1) 3 (fun x y => cmpS x.1 y.1) g 0 (liftS l hs).toArray.size w := fun m os dk _ x y =>
      (arr_cmp x.2 y.2 _).calls.mono fun e W ⟨v, he, hv, q, os', hW⟩ => ⟨by rw [he, hv], q, os', hW⟩
    rcases h.own.2 with ⟨e0, _⟩ | ⟨g', cap, cur, e0, hgB, hgc, hnc, hmx, hcs, htk⟩
    · cases e0
    injection e0 with e1 _ e3
    injection e1 with e1
    injection e1 with e1
    subst e1 e3
    have hH : Go.Sort.HoldsK (fun x : SA => arrCells x.1) 3 w g 0 (liftS l hs).toArray := by
      intro j hj
      rw [Go.Sort.size_flatK] at hj
      have hj' : j < l.length * 3 := by simpa [hll] using hj
      rw [Nat.zero_add]
      have hd := h.own.cells (g := g) rfl j
      have hfz := h.own.frozenAt (g := g) j
      have hF := flatK_eq E (by decide) (liftS l hs)
      rw [hfl] at hF
      have hlen : j < (l.flatMap arrCells).length := by rw [h.own.1]; exact hj'
      have h3 := hd _ (List.getElem?_eq_getElem hlen)
      rw [addr_add, Nat.zero_add] at h3
      refine ⟨?_, hfz⟩
      rw [h3]
      congr 1
      show _ = (Go.Sort.flatK _ 3 (liftS l hs).toArray)[j]!
      have hsz : j < (Go.Sort.flatK (fun x : SA => arrCells x.1) 3 (liftS l hs).toArray).size := by rw [Go.Sort.size_flatK]; simpa [hll] using hj'
      rw [getElem!_pos (Go.Sort.flatK (fun x : SA => arrCells x.1) 3 (liftS l hs).toArray) _ hsz, ← Array.getElem_toList]
      simp only [hF]
    have hcon := Go.Proofs.AnyQ.slices_SortFunc laysSort 3 Tryd.isAgg66 Tryd.sizeOf66 (fun x : SA => arrCells x.1) (fun x => rfl) (fun x v hv => E.one x v hv) (fun x y => cmpS x.1 y.1) swoS 43 #[] g 0 c (liftS l hs).toArray w eg hcmp hH hg (by simp [hll]; omega)
    have hsz : (liftS l hs).toArray.size = l.length := by simp [hll]
    rw [hsz] at hcon
    refine (show Calls Tryd.prog 42 _ _ _ from hcon).mono ?_
    rintro e W ⟨rfl, d', n, os, ⟨hp1, _, hp3⟩, hso, rfl⟩
    have hd' : d'.size = l.length := by rw [hp1, hsz]
    have hpm : d'.toList.Perm (liftS l hs) := by
      have e1 : (d'.extract 0 l.length).toList = d'.toList := by rw [← hd']; simp
      have e2 : ((liftS l hs).toArray.extract 0 l.length).toList = liftS l hs := by rw [← hsz]; simp
      rw [e1, e2] at hp3
      exact hp3
    have hpm2 : (d'.toList.map (·.1)).Perm l := by
      have := hpm.map (·.1)
      rwa [liftS_map] at this
    have hnd : (d'.toList.map (·.1)).Nodup := hpm2.symm.nodup hn
    have hord : OrdA (d'.toList.map (·.1)) := by
      unfold OrdA
      rw [List.pairwise_iff_getElem]
      intro i j hi hj hij
      have hi' : i < d'.size := by simpa using hi
      have hj' : j < d'.size := by simpa using hj
      have h1 := hso i j (Nat.zero_le _) hij (by omega)
      have h2 := of_decide_eq_false h1
      rw [cmpS_lt, getElem!_pos d' _ hj', getElem!_pos d' _ hi'] at h2
      have h3 : (d'.toList.map (·.1))[i]'hi ≠ (d'.toList.map (·.1))[j]'hj := List.pairwise_iff_getElem.1 hnd i j hi hj hij
      simp only [List.getElem_map, Array.getElem_toList] at h3 ⊢
      exact Arr.lt_tri h2 (fun e => h3 e.symm)
    have heq : d'.toList.map (·.1) = sortA l := hord.ext (sortA_spec l).1 fun x => by rw [(sortA_spec l).2, hpm2.mem_iff]
    have hlen : (sortA l).length = l.length := by rw [← heq, List.length_map, Array.length_toList, hd']
    have hF := flatK_eq E (by decide) d'.toList
    have hfm : d'.toList.flatMap (fun x : SA => arrCells x.1) = (sortA l).flatMap arrCells := by rw [← heq, List.flatMap_map]
    rw [hfm] at hF
    have hFs : (Go.Sort.flatK (fun x : SA => arrCells x.1) 3 d').size = l.length * 3 := by rw [Go.Sort.size_flatK, hd']
    refine ⟨_, rfl, rfl, hlen, ⟨⟨by rw [flatMap_len arrEnc], .inr ⟨g, c, Go.Sort.putCells id 0 (Go.Sort.flatK (fun x : SA => arrCells x.1) 3 d') cur, by rw [hlen], hgB, ?_, by omega, hmx, by simpa [Go.Sort.putCells] using hcs, ?_⟩⟩⟩, ?_⟩
    · unfold Go.Proofs.sortWorldK
      rw [Go.Sort.heap_grow_old _ _ (by simp [Go.Sort.putRowK, Go.Sort.putRow, Go.Sort.mapBlock, Go.Sort.ahead]; exact hg)]
      simp [Go.Sort.putRowK, Go.Sort.putRow, Go.Sort.mapBlock, Go.Sort.ahead, Array.getElem?_modify, hgc, Go.Sort.onCells]
    · have := putCells_take (Go.Sort.flatK (fun x : SA => arrCells x.1) 3 d') cur (by rw [hFs, hcs]; exact Nat.mul_le_mul_right _ hnc)
      rw [hFs] at this
      rw [hlen, this, ← hF]
    · refine ⟨⟨rfl, rfl, rfl, by simp [Go.Proofs.sortWorldK, Go.Sort.grow, Go.Sort.putRowK, Go.Sort.putRow, Go.Sort.mapBlock, Go.Sort.ahead], fun k hk hne => ?_⟩⟩
      have hk' : g ≠ k := fun e => hne (by rw [e]; rfl)
      unfold Go.Proofs.sortWorldK
      rw [Go.Sort.heap_grow_old _ _ (by simp [Go.Sort.putRowK, Go.Sort.putRow, Go.Sort.mapBlock, Go.Sort.ahead]; exact hk)]
      simp [Go.Sort.putRowK, Go.Sort.putRow, Go.Sort.mapBlock, Go.Sort.ahead, Array.getElem?_modify, hk']
end Go.Proofs.YtpinjiikiaakaaaDoor

/-
  The arrows of a text: by their contract.
-/
namespace Go.Proofs.YtpinjiikiaakaaaDoor
set_option linter.unusedSimpArgs false
set_option linter.unusedVariables false
set_option linter.unusedSectionVars false
open Go.RowKit

theorem arr_Index {w : World} {A : Option Addr} {l : List Arr} (h : Arrs (· < w.heap.size) w A l) (c : Nat) (hl : l.length ≤ 100000) (y : Arr) :
    Cal Tryd.prog 61 [.slice A l.length c, arrVal y] w fun v w' => (∃ q : Int, v = .int .i64 q ∧ (0 ≤ q ↔ y ∈ l)) ∧ Below w.heap.size w w' := by
  refine cal_slices_Index_arr (by simp) 10000 fun Q hQ => ?_
  simp (disch := first | with_reducible assumption | omega) only [push_cast, x_blk, x_cd, ↓reduceIte, Nat.reduceEqDiff, List.map_cons, List.map_nil, Int.reduceEq, Int.lt_irrefl, F_slices_Index_arr]
  refine blk_of (box_agg _ (arrCells y)) ?_
  intro w1 k1 b1 z1
  simp (disch := first | with_reducible assumption | omega) only [push_cast, x_blk, x_cd, ↓reduceIte, Nat.reduceEqDiff, List.map_cons, List.map_nil, Int.reduceEq, Int.lt_irrefl]
  refine loop_rule (fun f w' => ∃ k : Nat, k ≤ l.length ∧ (f 0 = .slice A l.length c ∧ f 3 = .pointer (some ⟨w.heap.size, 0, none⟩) ∧ f 7 = .int .i64 l.length ∧ f 8 = .int .i64 k) ∧ (∀ j, j < k → l.getD j default ≠ y) ∧ Same w1 w')
    (fun f _ => l.length - (intOf (f 8)).toNat) ⟨0, Nat.zero_le _, ⟨rfl, rfl, rfl, rfl⟩, fun j hj => absurd hj (by omega), Same.refl _⟩ ?_
  rintro f w2 ⟨k, hk, fr, hno, s2⟩ J hJ
  have hmu : (intOf (f 8)).toNat = k := by rw [fr.2.2.2]; simp [intOf]
  by_cases hlt : k < l.length
  case neg =>
    obtain rfl : k = l.length := by omega
    simp (disch := first | with_reducible assumption | omega) only [push_cast, x_blk, x_cd, ↓reduceIte, Nat.reduceEqDiff, List.map_cons, List.map_nil, Int.reduceEq, Int.lt_irrefl, L_slices_Index_arr_0, fr, Nat.lt_irrefl]
    refine fin_1 (hQ _ _ ⟨⟨-1, by simp only [push_cast, ↓reduceIte, Nat.reduceEqDiff], by omega, fun hm => ?_⟩, b1.trans (s2.below _)⟩)
    obtain ⟨j, hj, he⟩ := List.mem_iff_getElem.1 hm
    exact absurd (by rw [List.getD_eq_getElem?_getD, List.getElem?_eq_getElem hj]; exact he) (hno j hj)
  have s3 := s2.trans (Same.refl w2).drew
  have k3 := k1.same s3
  have h3 := (h.below b1).same s3
  have bb := b1.trans (s3.below w.heap.size)
  generalize hu : w2.drew = u at *
  have sA := h.isSome (by omega)
  have hmem : l.getD k default ∈ l := by rw [List.getD_eq_getElem?_getD, List.getElem?_eq_getElem hlt]; exact List.getElem_mem hlt
  have ldk := fun {K : Fr → World → Prop} {f : Fr} {d : Option Nat} {w : World} => h3.ldA (K := K) (f := f) (d := d) (w := w) ty_ag_66 ty_sz_66 k hlt
  generalize hz : l.getD k default = z at *
  by_cases he : y = z
  · subst he
    simp (disch := first | with_reducible assumption | omega) only [push_cast, x_blk, x_cd, ↓reduceIte, Nat.reduceEqDiff, List.map_cons, List.map_nil, Int.reduceEq, Int.lt_irrefl, L_slices_Index_arr_0, fr, hlt, hu, sA, k3.aA ty_ag_66 ty_sz_66, ldk, eql_arr, decide_true]
    exact fin_1 (hQ _ _ ⟨⟨k, by simp only [push_cast, ↓reduceIte, Nat.reduceEqDiff, fr], fun _ => hmem, fun _ => by omega⟩, bb⟩)
  · simp (disch := first | with_reducible assumption | omega) only [push_cast, x_blk, x_cd, ↓reduceIte, Nat.reduceEqDiff, List.map_cons, List.map_nil, Int.reduceEq, Int.lt_irrefl, L_slices_Index_arr_0, fr, hlt, hu, sA, k3.aA ty_ag_66 ty_sz_66, ldk, eql_arr, decide_eq_false he]
    exact hJ _ _ ⟨k + 1, hlt, (by simp only [push_cast, ↓reduceIte, Nat.reduceEqDiff, true_and, and_true, and_self, eq_self, fr]), fun j hj => by
      by_cases e : j = k
      · subst e; rw [hz]; exact fun e => he e.symm
      · exact hno j (by omega), s3⟩ (by rw [hmu]; simp only [push_cast, ↓reduceIte, Nat.reduceEqDiff, intOf, fr]; omega)
theorem arr_Contains {w : World} {A : Option Addr} {l : List Arr} (h : Arrs (· < w.heap.size) w A l) (c : Nat) (hl : l.length ≤ 100000) (y : Arr) :
    Cal Tryd.prog 41 [.slice A l.length c, arrVal y] w fun v w' => v = .bool (decide (y ∈ l)) ∧ Below w.heap.size w w' := by
  refine cal_slices_Contains_arr (by simp) 10000 fun Q hQ => ?_
  simp (disch := first | with_reducible assumption | omega) only [push_cast, x_blk, x_cd, ↓reduceIte, Nat.reduceEqDiff, List.map_cons, List.map_nil, Int.reduceEq, Int.lt_irrefl, F_slices_Contains_arr]
  refine blk_of (box_agg _ (arrCells y)) ?_
  intro w1 k1 b1 z1
  have h1 : Arrs (· < w1.heap.size) w1 A l := (h.below b1).mono fun _ hb => Nat.lt_of_lt_of_le hb b1.size
  simp (disch := first | with_reducible assumption | omega) only [push_cast, x_blk, x_cd, ↓reduceIte, Nat.reduceEqDiff, List.map_cons, List.map_nil, Int.reduceEq, Int.lt_irrefl, k1.aA ty_ag_66 ty_sz_66]
  refine call_of (arr_Index h1 c hl y) ?_
  rintro v w2 ⟨⟨q, rfl, hq⟩, b2⟩
  simp (disch := first | with_reducible assumption | omega) only [push_cast, x_blk, x_cd, ↓reduceIte, Nat.reduceEqDiff, List.map_cons, List.map_nil, Int.reduceEq, Int.lt_irrefl]
  refine fin_1 (hQ _ _ ⟨?_, b1.trans (b2.mono b1.size)⟩)
  by_cases h0 : 0 ≤ q
  · have hm := hq.1 h0
    simp only [push_cast, ↓reduceIte, Nat.reduceEqDiff, h0, decide_eq_true hm]
  · have hm : y ∉ l := fun c => h0 (hq.2 c)
    simp only [push_cast, ↓reduceIte, Nat.reduceEqDiff, h0, decide_eq_false hm]
theorem bl_arr0 {K : Fr → World → Prop} {u : World} {f : Fr} {d : Option Nat} {w : World} (x : Int) : Val1 Tryd.prog K (Instr.build 66 #[(0, .int .i64 x)]) u f d w = K (updO f d (.agg (arrCells ⟨x, 0, 0⟩).toArray)) w := bld_of (by kernel_rfl)
theorem arr_one (y : Arr) : (arrCells y).all (·.oneCell') = true := by simp [arrCells, Value.oneCell']
theorem arrF_nil (S E : List ByteArray) (acc : List Arr) : arrF S E acc [] = .ok acc := by
  rw [arrF]
  intro a b c ts h; cases h
theorem arrF_cons (S E : List ByteArray) (acc : List Arr) (a b c : Tok) (ts : List Tok) : arrF S E acc (a :: b :: c :: ts) = if ixS a.s S < 0 then .error (4, a.at_) else if ixS b.s E < 0 then .error (4, b.at_) else if ixS c.s S < 0 then .error (4, c.at_)
      else if (⟨ixS a.s S, ixS b.s E, ixS c.s S⟩ : Arr) ∈ acc then .error (5, a.at_) else arrF S E (acc ++ [⟨ixS a.s S, ixS b.s E, ixS c.s S⟩]) ts := by rw [arrF]
theorem Toks.ld2 {K : Fr → World → Prop} {u w : World} {f : Fr} {d : Option Nat} {ok : Nat → Prop} {A : Option Addr} {ts : List Tok} (h : Recs Tok.cells 3 ok u A ts) {i : Nat} {t : Tok} (hi : ts[i]? = some t) :
    Val1 Tryd.prog K (Instr.loadAt 3 (.pointer (some (eA A (i * 3 + 2))))) u f d w = K (updO f d (.int .i64 t.at_)) w :=
  Recs.ld (j := 2) h ty_ag_3 hi rfl
set_option maxHeartbeats 2000000 in
theorem text_arrows {w : World} {a : JV} {p : Pj} (hS : Strs (· < w.heap.size) w a.AS p.S) (hE : Strs (· < w.heap.size) w a.AE p.E) (lS : p.S.length ≤ 12) (lE : p.E.length ≤ 12) {At : Option Addr} {ts : List Tok} (h : Recs Tok.cells 3 (· < w.heap.size) w At ts) (ct : Nat) (hl : ts.length ≤ 4000) (h3 : ts.length % 3 = 0) :
    Cal2 Tryd.prog 17 [a.val p, .slice At ts.length ct] w
      (fun v w' => ∃ r A c, arrF p.S p.E [] ts = .ok r ∧ r.length ≤ 4000 ∧ v = .slice A (sortA r).length c ∧ OwnR arrCells w.heap.size 66 3 w' A c (sortA r) ∧ Below w.heap.size w w')
      (fun ch w' => ∃ e x, arrF p.S p.E [] ts = .error (e, x) ∧ ch = [{ v := badV e x, recovered := false }] ∧ Below w.heap.size w w') := by
  refine cal2_text_arrows (by simp) 1000000 fun Q Qp hQ hP => ?_
  simp (disch := first | with_reducible assumption | omega) only [push_cast, x_blk, x_cd, ↓reduceIte, Nat.reduceEqDiff, List.map_cons, List.map_nil, Int.reduceEq, Int.lt_irrefl, F_text_arrows]
  refine blk_of (box_agg _ (a.cells p)) ?_
  intro w0 k0 b0 z0
  simp (disch := first | with_reducible assumption | omega) only [push_cast, x_blk, x_cd, ↓reduceIte, Nat.reduceEqDiff, List.map_cons, List.map_nil, Int.reduceEq, Int.lt_irrefl]
  refine loop_rule (fun f w' => ∃ (i : Nat) (acc : List Arr) (A : Option Addr) (c : Nat), i ≤ ts.length ∧ i % 3 = 0 ∧ (f 1 = .slice At ts.length ct ∧ f 2 = .pointer (some ⟨w.heap.size, 0, none⟩) ∧ f 5 = .slice A acc.length c ∧ f 6 = .int .i64 i) ∧ arrF p.S p.E [] ts = arrF p.S p.E acc (ts.drop i) ∧ acc.length ≤ i ∧ acc.Nodup ∧ (∀ x ∈ acc, ASm x) ∧ OwnR arrCells (w.heap.size + 1) 66 3 w' A c acc ∧ Blk w' w.heap.size 28 (a.cells p) ∧ Below w.heap.size w w')
    (fun f _ => ts.length - (intOf (f 6)).toNat) ⟨0, [], none, 0, Nat.zero_le _, rfl, ⟨rfl, rfl, rfl, rfl⟩, rfl, Nat.zero_le _, List.nodup_nil, (fun x hx => by cases hx), Own.nil _ _ _ _, k0, b0⟩ ?_
  rintro f w1 ⟨i, acc, A, c, hi, hi3, fr, hd, hal, hnd, hsm, o1, k1, b1⟩ J hJ
  have hmu : (intOf (f 6)).toNat = i := by rw [fr.2.2.2]; simp [intOf]
  by_cases hlt : i < ts.length
  case neg =>
    obtain rfl : i = ts.length := by omega
    rw [List.drop_length, arrF_nil] at hd
    simp (disch := first | with_reducible assumption | omega) only [push_cast, x_blk, x_cd, ↓reduceIte, Nat.reduceEqDiff, List.map_cons, List.map_nil, Int.reduceEq, Int.lt_irrefl, L_text_arrows_0, fr, Nat.lt_irrefl]
    refine call_of (arr_sort o1 (by omega) hsm hnd) ?_
    rintro v w2 ⟨rfl, hlen, o2, g2⟩
    simp (disch := first | with_reducible assumption | omega) only [push_cast, x_blk, x_cd, ↓reduceIte, Nat.reduceEqDiff, List.map_cons, List.map_nil, Int.reduceEq, Int.lt_irrefl, fr]
    exact fin_1 (hQ _ _ ⟨acc, A, c, hd, by omega, by simp only [push_cast, ↓reduceIte, Nat.reduceEqDiff, fr, hlen], o2.base (Nat.le_succ _), g2.below b1 b1.size fun x hx => by have := o1.geB x hx; omega⟩)
  have hlt1 : i + 1 < ts.length := by omega
  have hlt2 : i + 2 < ts.length := by omega
  have hx0 : ts[i]? = some ts[i] := List.getElem?_eq_getElem hlt
  have hx1 : ts[i + 1]? = some ts[i + 1] := List.getElem?_eq_getElem hlt1
  have hx2 : ts[i + 2]? = some ts[i + 2] := List.getElem?_eq_getElem hlt2
  have hdk : ts.drop i = ts[i] :: ts[i + 1] :: ts[i + 2] :: ts.drop (i + 3) := by
    rw [List.drop_eq_getElem_cons hlt, List.drop_eq_getElem_cons hlt1, List.drop_eq_getElem_cons hlt2]
  rw [hdk, arrF_cons] at hd
  generalize ts[i] = t0 at *
  generalize ts[i + 1] = t1 at *
  generalize ts[i + 2] = t2 at *
  have sA := h.isSome (by omega)
  have e1 : ((i : Int) + 1).toNat = i + 1 := by omega
  have e2 : ((i : Int) + 2).toNat = i + 2 := by omega
  have c1 : (i : Int) + 1 < (ts.length : Int) := by omega
  have c2 : (i : Int) + 2 < (ts.length : Int) := by omega
  have sd1 := (Same.refl w1).drew
  have hu1 := Toks.up h (b1.trans (sd1.below _))
  have ku1 := k1.same sd1
  have ou1 := o1.same sd1
  have bu1 := b1.trans (sd1.below w.heap.size)
  generalize hue : w1.drew = u1 at *
  simp (disch := first | with_reducible assumption | omega) only [push_cast, x_blk, x_cd, ↓reduceIte, Nat.reduceEqDiff, List.map_cons, List.map_nil, Int.reduceEq, Int.lt_irrefl, L_text_arrows_0, fr, hlt, hue, sA, ku1.jS, Toks.ldA hu1 hx0]
  refine cutT (fun f' w' => ∃ g : Nat, (f' 1 = .slice At ts.length ct ∧ f' 2 = .pointer (some ⟨w.heap.size, 0, none⟩) ∧ f' 5 = .slice A acc.length c ∧ f' 6 = .int .i64 i ∧ f' 7 = .pointer (some ⟨g, 0, none⟩)) ∧ u1.heap.size ≤ g ∧ Blk w' g 66 (arrCells ⟨ixS t0.s p.S, 0, 0⟩) ∧ 0 ≤ ixS t0.s p.S ∧ Below u1.heap.size u1 w') 400000 400000 (by decide) ?_ ?_
  · intro E' hE'
    have hpan : ∀ {wq : World} {ch : List PanicEntry} {w' : World}, Below u1.heap.size u1 wq → ch = [{ v := badV 4 t0.at_, recovered := false }] → ixS t0.s p.S < 0 → Below wq.heap.size wq w' → Qp ch w' := by
      intro wq ch w' b2 hch hp b3
      rw [if_pos hp] at hd
      exact hP _ _ ⟨4, _, hd, hch, bu1.trans ((b2.trans (b3.mono b2.size)).mono bu1.size)⟩
    rw [x_t_two]
    refine ⟨?_, ?_⟩
    · simp (disch := first | with_reducible assumption | omega) only [push_cast, x_blk, x_cd, ↓reduceIte, Nat.reduceEqDiff, List.map_cons, List.map_nil, Int.reduceEq, Int.lt_irrefl, fr]
      refine call2_of (text_number (hS.up' bu1) a.cS (by omega) t0) ?_ ?_
      · rintro ch w2 ⟨hch, hp, b2⟩
        exact hpan (Below.refl _ _) hch hp b2
      rintro v w2 ⟨rfl, hp, b2⟩
      simp (disch := first | with_reducible assumption | omega) only [push_cast, x_blk, x_cd, ↓reduceIte, Nat.reduceEqDiff, List.map_cons, List.map_nil, Int.reduceEq, Int.lt_irrefl, fr, bl_arr0]
      refine ⟨b2, ?_⟩
      refine blk_of al_66 ?_
      intro w3 k3 b3 z3
      simp (disch := first | with_reducible assumption | omega) only [push_cast, x_blk, x_cd, ↓reduceIte, Nat.reduceEqDiff, List.map_cons, List.map_nil, Int.reduceEq, Int.lt_irrefl, fr]
      have b23 := b2.trans (b3.mono b2.size)
      refine ⟨b23, ?_⟩
      refine sto_blk k3 (cs := arrCells ⟨ixS t0.s p.S, 0, 0⟩) ty_sz_66 rfl (arr_one _) ?_
      intro w4 k4 g4 z4
      simp (disch := first | with_reducible assumption | omega) only [push_cast, x_blk, x_cd, ↓reduceIte, Nat.reduceEqDiff, List.map_cons, List.map_nil, Int.reduceEq, Int.lt_irrefl, fr]
      exact hE' _ _ ⟨_, (by simp only [push_cast, ↓reduceIte, Nat.reduceEqDiff, true_and, and_true, and_self, eq_self, fr]), b2.size, k4, hp, g4.below b23 b23.size (by intro x hx; injection hx with hx; subst hx; exact b2.size)⟩
    · simp (disch := first | with_reducible assumption | omega) only [push_cast, x_blk, x_cd, ↓reduceIte, Nat.reduceEqDiff, List.map_cons, List.map_nil, Int.reduceEq, Int.lt_irrefl, fr]
      refine blk_of al_66 ?_
      intro w3 k3 b3 z3
      simp (disch := first | with_reducible assumption | omega) only [push_cast, x_blk, x_cd, ↓reduceIte, Nat.reduceEqDiff, List.map_cons, List.map_nil, Int.reduceEq, Int.lt_irrefl, fr]
      refine ⟨b3, ?_⟩
      refine call2_of (text_number (hS.up' (bu1.trans (b3.mono bu1.size))) a.cS (by omega) t0) ?_ ?_
      · rintro ch w2 ⟨hch, hp, b2⟩
        exact hpan b3 hch hp b2
      rintro v w2 ⟨rfl, hp, b2⟩
      have b32 := b3.trans (b2.mono b3.size)
      simp (disch := first | with_reducible assumption | omega) only [push_cast, x_blk, x_cd, ↓reduceIte, Nat.reduceEqDiff, List.map_cons, List.map_nil, Int.reduceEq, Int.lt_irrefl, fr, bl_arr0]
      refine ⟨b32, ?_⟩
      refine sto_blk (k3.below b2 k3.lt) (cs := arrCells ⟨ixS t0.s p.S, 0, 0⟩) ty_sz_66 rfl (arr_one _) ?_
      intro w4 k4 g4 z4
      simp (disch := first | with_reducible assumption | omega) only [push_cast, x_blk, x_cd, ↓reduceIte, Nat.reduceEqDiff, List.map_cons, List.map_nil, Int.reduceEq, Int.lt_irrefl, fr]
      exact hE' _ _ ⟨_, (by simp only [push_cast, ↓reduceIte, Nat.reduceEqDiff, true_and, and_true, and_self, eq_self, fr]), Nat.le_refl _, k4, hp, g4.below b32 b32.size (by intro x hx; injection hx with hx; subst hx; exact Nat.le_refl _)⟩
  clear fr
  rintro f w2 ⟨g, fr, hg, k2, hp0, b2⟩
  rw [if_neg (by omega)] at hd
  have hl0 := ixS_lt hp0
  generalize ixS t0.s p.S = n0 at *
  have hgA : A.map (·.block) ≠ some g := by
    rcases ou1.form with ⟨h0, _⟩ | ⟨q, h0, _, hq⟩
    · rw [h0]; simp
    · rw [h0]; simp only [Option.map_some, ne_eq, Option.some.injEq]; omega
  have bb2 := bu1.trans (b2.mono bu1.size)
  have kp2 := ku1.below b2 ku1.lt
  have o2 := ou1.below b2 (Nat.le_refl _)
  have hwu := bu1.size
  have hlw := ku1.lt
  clear b2 ku1 ou1 hu1 sd1 k1 o1 b1
  have sd2 := (Same.refl w2).drew
  have hu2 := Toks.up h (bb2.trans (sd2.below _))
  have ku2 := kp2.same sd2
  have ou2 := o2.same sd2
  have kg2 := k2.same sd2
  have bu2 := bb2.trans (sd2.below w.heap.size)
  generalize hue2 : w2.drew = u2 at *
  simp (disch := first | with_reducible assumption | omega) only [push_cast, x_blk, x_cd, ↓reduceIte, Nat.reduceEqDiff, List.map_cons, List.map_nil, Int.reduceEq, Int.lt_irrefl, fr, hue2, sA, ku2.jE, e1, c1, Toks.ldA hu2 hx1]
  refine call2_of (text_number (hE.up' bu2) a.cE (by omega) t1) ?_ ?_
  · rintro ch w3 ⟨hch, hp, b3⟩
    rw [if_pos hp] at hd
    exact hP _ _ ⟨4, _, hd, hch, bu2.trans (b3.mono bu2.size)⟩
  rintro v w3 ⟨rfl, hp1, b3⟩
  rw [if_neg (by omega)] at hd
  have hl1 := ixS_lt hp1
  generalize ixS t1.s p.E = n1 at *
  have kg3 := kg2.below b3 kg2.lt
  have kp3 := ku2.below b3 ku2.lt
  have o3 := ou2.below b3 (Nat.le_refl _)
  have bb3 := bu2.trans (b3.mono bu2.size)
  simp (disch := first | with_reducible assumption | omega) only [push_cast, x_blk, x_cd, ↓reduceIte, Nat.reduceEqDiff, List.map_cons, List.map_nil, Int.reduceEq, Int.lt_irrefl, fr]
  refine sto_cell kg3 ty_sz_int 1 (by simp [arrCells]) .i64 n1 ?_
  intro w4 kg4 g4 z4
  replace kg4 : Blk w4 g 66 (arrCells ⟨n0, n1, 0⟩) := kg4
  have hgw : w.heap.size < g := by omega
  have kp4 := kp3.grown g4.by_ (by simp; omega)
  have o4 := o3.grew g4 (.inr (by simpa using hgA))
  have gz : ∀ x : Addr, (some ⟨g, 0, none⟩ : Option Addr) = some x → w.heap.size ≤ x.block := by intro x hx; injection hx with hx; subst hx; show w.heap.size ≤ g; omega
  have bb4 := g4.below bb3 bb3.size gz
  clear bb3 o3 kp3 kg3 b3 bu2 kg2 ou2 ku2 hu2 sd2 bb2 kp2 o2 k2 g4 z4
  have sd5 := (Same.refl w4).drew
  have hu5 := Toks.up h (bb4.trans (sd5.below _))
  have ku5 := kp4.same sd5
  have ou5 := o4.same sd5
  have kg5 := kg4.same sd5
  have bu5 := bb4.trans (sd5.below w.heap.size)
  generalize hue5 : w4.drew = u5 at *
  simp (disch := first | with_reducible assumption | omega) only [push_cast, x_blk, x_cd, ↓reduceIte, Nat.reduceEqDiff, List.map_cons, List.map_nil, Int.reduceEq, Int.lt_irrefl, fr, hue5, sA, ku5.jS, e2, c2, Toks.ldA hu5 hx2]
  refine call2_of (text_number (hS.up' bu5) a.cS (by omega) t2) ?_ ?_
  · rintro ch w3 ⟨hch, hp, b3⟩
    rw [if_pos hp] at hd
    exact hP _ _ ⟨4, _, hd, hch, bu5.trans (b3.mono bu5.size)⟩
  rintro v w6 ⟨rfl, hp2, b6⟩
  rw [if_neg (by omega)] at hd
  have hl2 := ixS_lt hp2
  generalize ixS t2.s p.S = n2 at *
  have kg6 := kg5.below b6 kg5.lt
  have kp6 := ku5.below b6 ku5.lt
  have o6 := ou5.below b6 (Nat.le_refl _)
  have bb6 := bu5.trans (b6.mono bu5.size)
  simp (disch := first | with_reducible assumption | omega) only [push_cast, x_blk, x_cd, ↓reduceIte, Nat.reduceEqDiff, List.map_cons, List.map_nil, Int.reduceEq, Int.lt_irrefl, fr]
  refine sto_cell kg6 ty_sz_int 2 (by simp [arrCells]) .i64 n2 ?_
  intro w7 kg7 g7 z7
  replace kg7 : Blk w7 g 66 (arrCells ⟨n0, n1, n2⟩) := kg7
  have kp7 := kp6.grown g7.by_ (by simp; omega)
  have o7 := o6.grew g7 (.inr (by simpa using hgA))
  have bb7 := g7.below bb6 bb6.size gz
  clear bb6 o6 kp6 kg6 b6 bu5 kg5 ou5 ku5 hu5 sd5 bb4 kp4 o4 kg4 g7 z7
  have sd8 := (Same.refl w7).drew
  have hu8 := Toks.up h (bb7.trans (sd8.below _))
  have ku8 := kp7.same sd8
  have ou8 := o7.same sd8
  have kg8 := kg7.same sd8
  have bu8 := bb7.trans (sd8.below w.heap.size)
  generalize hue8 : w7.drew = u8 at *
  have hA8 := Arrs.of_recs (Recs.lt arrEnc (by decide) (OwnR.recs ou8 arrEnc (by decide)))
  generalize hy : (⟨n0, n1, n2⟩ : Arr) = y at *
  have hys : ASm y := by subst hy; unfold ASm; simp only; omega
  simp (disch := first | with_reducible assumption | omega) only [push_cast, x_blk, x_cd, ↓reduceIte, Nat.reduceEqDiff, List.map_cons, List.map_nil, Int.reduceEq, Int.lt_irrefl, fr, hue8, sA, hlt, kg8.aA ty_ag_66 ty_sz_66, Toks.ld2 hu8 hx0]
  refine call_of (arr_Contains hA8 c (by omega) y) ?_
  rintro v w9 ⟨rfl, b9⟩
  simp (disch := first | with_reducible assumption | omega) only [push_cast, x_blk, x_cd, ↓reduceIte, Nat.reduceEqDiff, List.map_cons, List.map_nil, Int.reduceEq, Int.lt_irrefl, fr]
  refine ⟨b9, ?_⟩
  have kg9 := kg8.below b9 kg8.lt
  have kp9 := ku8.below b9 ku8.lt
  have o9 := ou8.below b9 (Nat.le_refl _)
  have bb9 := bu8.trans (b9.mono bu8.size)
  refine call2_of (text_must (!decide (y ∈ acc)) 5 t0.at_ w9) ?_ ?_
  · rintro ch w6 ⟨hch, hp, s6⟩
    have hin : y ∈ acc := by simpa using hp
    rw [if_pos hin] at hd
    exact hP _ _ ⟨5, _, hd, hch, bb9.trans (s6.below _)⟩
  rintro v wA ⟨rfl, hpA, sA'⟩
  have hin : y ∉ acc := by simpa using hpA
  rw [if_neg hin] at hd
  have kgA := kg9.same sA'
  have kpA := kp9.same sA'
  have oA := o9.same sA'
  have bbA := bb9.trans (sA'.below w.heap.size)
  have hlA := kpA.lt
  simp (disch := first | with_reducible assumption | omega) only [push_cast, x_blk, x_cd, ↓reduceIte, Nat.reduceEqDiff, List.map_cons, List.map_nil, Int.reduceEq, Int.lt_irrefl, fr, kgA.aA ty_ag_66 ty_sz_66, bs_rec arrEnc slT_24 y (by decide)]
  refine app_rec arrEnc slT_24 oA y (by omega) (by omega) (by omega) ?_
  intro A' c' wB oB gB _ _ zB
  have kpB := kpA.grown gB.by_ (oA.ne_blk kpA (by decide)).symm
  simp (disch := first | with_reducible assumption | omega) only [push_cast, x_blk, x_cd, ↓reduceIte, Nat.reduceEqDiff, List.map_cons, List.map_nil, Int.reduceEq, Int.lt_irrefl, fr]
  exact hJ _ _ ⟨i + 3, _, A', c', by omega, by omega, (by simp only [push_cast, ↓reduceIte, Nat.reduceEqDiff, true_and, and_true, and_self, eq_self, fr, List.length_append, List.length_singleton, Int.add_assoc, Int.reduceAdd]), hd, by rw [List.length_append, List.length_singleton]; omega, (List.nodup_append.2 ⟨hnd, by simp, fun a ha b hb' => by rw [List.mem_singleton.1 hb']; exact fun e => hin (e ▸ ha)⟩), (fun z hz => by
    rcases List.mem_append.1 hz with hz | hz
    · exact hsm z hz
    · rw [List.mem_singleton.1 hz]; exact hys), oB, kpB, gB.below bbA bbA.size (fun x hx => by have := oA.geB x hx; omega)⟩ (by rw [hmu]; simp only [push_cast, ↓reduceIte, Nat.reduceEqDiff, intOf, fr]; omega)
end Go.Proofs.YtpinjiikiaakaaaDoor

/-
  The form of a text, as the reference tells it: by its contract.
-/
namespace Go.Proofs.YtpinjiikiaakaaaDoor
set_option linter.unusedSimpArgs false
set_option linter.unusedVariables false
set_option linter.unusedSectionVars false
open Go.RowKit

theorem fill_9 (x0 x1 x2 x3 x4 x5 x6 x7 x8 : Value) (a0 a1 a2 a3 a4 a5 a6 a7 a8 : ByteArray) : Instr.fill (fun i => some (i * 1, 1)) #[x0, x1, x2, x3, x4, x5, x6, x7, x8] [(0, .string a0), (1, .string a1), (2, .string a2), (3, .string a3), (4, .string a4), (5, .string a5), (6, .string a6), (7, .string a7), (8, .string a8)] = some #[.string a0, .string a1, .string a2, .string a3, .string a4, .string a5, .string a6, .string a7, .string a8] := by
  simp [Instr.fill, Value.cells]
theorem bsl9_str {P : Program} {K : Fr → World → Prop} {f : Fr} {d : Option Nat} {w : World} {t e bytes ty : Nat} (hT : SlT P t e 1 bytes) (a0 a1 a2 a3 a4 a5 a6 a7 a8 : ByteArray) :
    EffX P K (.buildSlice t 9 #[(0, .const (.string a0)), (1, .const (.string a1)), (2, .const (.string a2)), (3, .const (.string a3)), (4, .const (.string a4)), (5, .const (.string a5)), (6, .const (.string a6)), (7, .const (.string a7)), (8, .const (.string a8))]) ty f d w = K (updO f d (.slice (some ⟨w.heap.size, 0, none⟩) 9 9)) (w.alloc (.cells [.string a0, .string a1, .string a2, .string a3, .string a4, .string a5, .string a6, .string a7, .string a8].toArray e)) := by
  have h0 : EffX P K (.buildSlice t 9 #[(0, .const (.string a0)), (1, .const (.string a1)), (2, .const (.string a2)), (3, .const (.string a3)), (4, .const (.string a4)), (5, .const (.string a5)), (6, .const (.string a6)), (7, .const (.string a7)), (8, .const (.string a8))]) ty f d w = Eff1 P K (Instr.buildSlice t 9 #[(0, .string a0), (1, .string a1), (2, .string a2), (3, .string a3), (4, .string a4), (5, .string a5), (6, .string a6), (7, .string a7), (8, .string a8)]) f d w := by simp [EffX, valOf, ev_const]
  rw [h0]
  obtain ⟨i, z, hi, hz, hs, hb, hc⟩ := hT.get
  refine eff1_of ?_
  have hz9 : (Array.range 9).map (z.cells[· % z.cells.size]!) = #[z.cells[0 % z.cells.size]!, z.cells[1 % z.cells.size]!, z.cells[2 % z.cells.size]!, z.cells[3 % z.cells.size]!, z.cells[4 % z.cells.size]!, z.cells[5 % z.cells.size]!, z.cells[6 % z.cells.size]!, z.cells[7 % z.cells.size]!, z.cells[8 % z.cells.size]!] := by
    apply Array.ext'; simp [List.range_succ]
  have hf := fill_9 (z.cells[0 % z.cells.size]!) (z.cells[1 % z.cells.size]!) (z.cells[2 % z.cells.size]!) (z.cells[3 % z.cells.size]!) (z.cells[4 % z.cells.size]!) (z.cells[5 % z.cells.size]!) (z.cells[6 % z.cells.size]!) (z.cells[7 % z.cells.size]!) (z.cells[8 % z.cells.size]!) a0 a1 a2 a3 a4 a5 a6 a7 a8
  rw [← hz9] at hf
  simp only [Instr.buildSlice, run_underlying hT.under, sizeOf, typeInfo, Sem.run_bind, Result.andThen_ok]
  simp only [Nat.mul_one] at hf
  simp [hi, hs, zeroValue, typeInfo, hz, newRow, hf]
theorem ref16_Parts (w : World) : Cal Tryd.prog 47 [] w fun v w' => v = .slice (some ⟨w.heap.size, 0, none⟩) partWs.length 9 ∧ Strs (· < w'.heap.size) w' (some ⟨w.heap.size, 0, none⟩) partWs ∧ Below w.heap.size w w' := by
  refine cal_ref16_Parts (by simp) 1000 fun Q hQ => ?_
  simp (disch := first | with_reducible assumption | omega) only [push_cast, x_blk, x_cd, ↓reduceIte, Nat.reduceEqDiff, List.map_cons, List.map_nil, Int.reduceEq, Int.lt_irrefl, F_ref16_Parts, bsl9_str slT_22]
  refine fin_1 (hQ _ _ ⟨by simp only [push_cast, ↓reduceIte, Nat.reduceEqDiff]; rfl, ⟨fun _ => rfl, fun _ => by simp, fun i s hi j v hv => ?_⟩, (Below.refl _ _).alloc (Nat.le_refl _) _⟩)
  have hj : j = 0 := by
    rcases Nat.eq_zero_or_pos j with h | h
    · exact h
    · unfold strE at hv; rw [List.getElem?_eq_none (by simp; omega)] at hv; cases hv
  subst hj
  have hv' : v = .string s := by unfold strE at hv; simpa using hv.symm
  subst hv'
  have hb : Blk (w.alloc (.cells (partWs.map Value.string).toArray 9)) w.heap.size 9 (partWs.map Value.string) := Blk.new w _ _
  show World.cell? (w.alloc (.cells (partWs.map Value.string).toArray 9)) _ = _
  rw [Nat.mul_one, eA_zero, Nat.add_zero, hb.cell, List.getElem?_map, hi]; rfl
section
variable {P : Program} {K : Fr → World → Prop} {u : World} {f : Fr} {d : Option Nat} {w : World} (t : TypeId) (xo yo : Operand)
theorem and_2_2 : Val1 P K (binS .and t xo yo (.int .i64 2) (.int .i64 2)) u f d w = K (updO f d (.int .i64 2)) w := val1_of u f d w fun w' _ => by rfl
theorem and_6_2 : Val1 P K (binS .and t xo yo (.int .i64 6) (.int .i64 2)) u f d w = K (updO f d (.int .i64 2)) w := val1_of u f d w fun w' _ => by rfl
theorem and_12_2 : Val1 P K (binS .and t xo yo (.int .i64 12) (.int .i64 2)) u f d w = K (updO f d (.int .i64 0)) w := val1_of u f d w fun w' _ => by rfl
theorem and_2_4 : Val1 P K (binS .and t xo yo (.int .i64 2) (.int .i64 4)) u f d w = K (updO f d (.int .i64 0)) w := val1_of u f d w fun w' _ => by rfl
theorem and_6_4 : Val1 P K (binS .and t xo yo (.int .i64 6) (.int .i64 4)) u f d w = K (updO f d (.int .i64 4)) w := val1_of u f d w fun w' _ => by rfl
theorem and_12_4 : Val1 P K (binS .and t xo yo (.int .i64 12) (.int .i64 4)) u f d w = K (updO f d (.int .i64 4)) w := val1_of u f d w fun w' _ => by rfl
theorem and_2_8 : Val1 P K (binS .and t xo yo (.int .i64 2) (.int .i64 8)) u f d w = K (updO f d (.int .i64 0)) w := val1_of u f d w fun w' _ => by rfl
theorem and_6_8 : Val1 P K (binS .and t xo yo (.int .i64 6) (.int .i64 8)) u f d w = K (updO f d (.int .i64 0)) w := val1_of u f d w fun w' _ => by rfl
theorem and_12_8 : Val1 P K (binS .and t xo yo (.int .i64 12) (.int .i64 8)) u f d w = K (updO f d (.int .i64 8)) w := val1_of u f d w fun w' _ => by rfl
theorem rem_3 (n : Nat) : Val1 P K (binS .rem t xo yo (.int .i64 n) (.int .i64 3)) u f d w = K (updO f d (.int .i64 (n % 3 : Nat))) w := bin_rem n 3 (by decide)
end
set_option maxHeartbeats 2000000 in
theorem ref16_form {w : World} {At : Option Addr} {ts : List Tok} (h : Recs Tok.cells 3 (· < w.heap.size) w At ts) (ct : Nat) (hl : ts.length ≤ 4000) :
    Cal Tryd.prog 19 [.slice At ts.length ct] w fun v w' => (∃ A c, v = .tuple #[.slice A (fform fs0 ts).1.length c, .int .i64 (fform fs0 ts).1.length, .bool (decide ((fform fs0 ts).1.length = ts.length ∧ (fform fs0 ts).2.part = 9))] ∧ OwnI w.heap.size 3 w' A c (fform fs0 ts).1) ∧ Below w.heap.size w w' := by
  refine cal_ref16_form (by simp) 1000000 fun Q hQ => ?_
  simp (disch := first | with_reducible assumption | omega) only [push_cast, x_blk, x_cd, ↓reduceIte, Nat.reduceEqDiff, List.map_cons, List.map_nil, Int.reduceEq, Int.lt_irrefl, F_ref16_form]
  refine call_of (ref16_Parts w) ?_
  rintro v w0 ⟨rfl, hP0, b0⟩
  have hPl : partWs.length = 9 := rfl
  simp (disch := first | with_reducible assumption | omega) only [push_cast, x_blk, x_cd, ↓reduceIte, Nat.reduceEqDiff, List.map_cons, List.map_nil, Int.reduceEq, Int.lt_irrefl]
  refine loop_rule (fun f w' => ∃ (i : Nat) (st : FSt) (of : List Int) (A : Option Addr) (c : Nat), (f 0 = .slice At ts.length ct ∧ f 5 = .slice A of.length c ∧ f 6 = .slice (some ⟨w.heap.size, 0, none⟩) partWs.length 9 ∧ f 7 = .int .i64 st.part ∧ f 8 = .int .i64 st.names ∧ f 9 = .int .i64 st.next.num ∧ f 10 = .int .i64 i) ∧ FReach ts i st of ∧ st.names ≤ i ∧ st.part ≤ i ∧ OwnI w0.heap.size 3 w' A c of ∧ Below w0.heap.size w0 w')
    (fun f _ => ts.length - (intOf (f 10)).toNat) ⟨0, fs0, [], none, 0, ⟨rfl, rfl, rfl, rfl, rfl, rfl, rfl⟩, FReach.zero ts, Nat.le_refl _, Nat.le_refl _, Own.nil _ _ _ _, Below.refl _ _⟩ ?_
  rintro f w1 ⟨i, st, of, A, c, fr, hr, hni, hpi, o1, b1⟩ J hJ
  have hmu : (intOf (f 10)).toNat = i := by rw [fr.2.2.2.2.2.2]; simp [intOf]
  have hile := hr.le
  by_cases hlt : i < ts.length
  case neg =>
    obtain rfl : i = ts.length := by omega
    have hf : fform fs0 ts = (of, st) := by
      rw [hr.eq, List.drop_length]
      simp [fform]
    have hlen := hr.len
    by_cases c9 : (st.part : Int) = 9
    · have e9 : st.part = 9 := by omega
      have q9 := eq_true c9
      simp (disch := first | with_reducible assumption | omega) only [push_cast, x_blk, x_cd, ↓reduceIte, Nat.reduceEqDiff, List.map_cons, List.map_nil, Int.reduceEq, Int.lt_irrefl, L_ref16_form_0, fr, Nat.lt_irrefl, q9]
      exact fin_3 (hQ _ _ ⟨⟨A, c, by rw [hf]; simp only [push_cast, ↓reduceIte, Nat.reduceEqDiff, fr, hlen, e9, and_self], by rw [hf]; exact o1.base b0.size⟩, b0.trans (b1.mono b0.size)⟩)
    · have e9 : ¬ st.part = 9 := by omega
      simp (disch := first | with_reducible assumption | omega) only [push_cast, x_blk, x_cd, ↓reduceIte, Nat.reduceEqDiff, List.map_cons, List.map_nil, Int.reduceEq, Int.lt_irrefl, L_ref16_form_0, fr, Nat.lt_irrefl, c9]
      exact fin_3 (hQ _ _ ⟨⟨A, c, by rw [hf]; simp only [push_cast, ↓reduceIte, Nat.reduceEqDiff, fr, hlen, e9, and_false], by rw [hf]; exact o1.base b0.size⟩, b0.trans (b1.mono b0.size)⟩)
  have hx : ts[i]? = some (peekT ts 0 i) := by unfold peekT; rw [List.getD_eq_getElem?_getD, List.getElem?_eq_getElem hlt]; rfl
  have hnx := fun (st' : FSt) (x : Int) (hs : fstep st (peekT ts 0 i) = some (st', x)) => hr.next hs
  have hsk : fstep st (peekT ts 0 i) = none → fform fs0 ts = (of, st) := hr.stuck
  generalize peekT ts 0 i = T at *
  have h1 := Toks.up h (b0.trans (b1.mono b0.size))
  have hP1 := (Recs.keep hP0 fun b hb => b1.block b hb)
  have sA := h.isSome (by omega)
  simp (disch := first | with_reducible assumption | omega) only [push_cast, x_cd, ↓reduceIte, Nat.reduceEqDiff, L_ref16_form_0, fr, hlt, sA, Toks.ldA h1 hx]
  rw [x_blk]
  simp (disch := first | with_reducible assumption | omega) only [push_cast, x_cd, ↓reduceIte, Nat.reduceEqDiff, fr, hlt, sA, Toks.ldA h1 hx]
  refine blk_of (cs := tok0) al_53 ?_
  intro w2 k2 b2 z2
  simp (disch := first | with_reducible assumption | omega) only [push_cast, x_cd, ↓reduceIte, Nat.reduceEqDiff, fr]
  refine sto_blk k2 (cs := T.cells) ty_sz_53 rfl (tok_one _) ?_
  intro w3 k3 g3 z3
  have b13 := g3.below b2 b2.size (by intro a ha; injection ha with ha; subst ha; exact Nat.le_refl _)
  have o3 := o1.below b13 (Nat.le_refl _)
  have b03 := b1.trans (b13.mono b1.size)
  have hP3 := (Recs.keep hP0 fun b hb => b03.block b hb)
  have hlen := hr.len
  simp (disch := first | with_reducible assumption | omega) only [push_cast, x_cd, ↓reduceIte, Nat.reduceEqDiff, fr]
  refine cut (fun f' w' => ∃ (st' : FSt) (x : Int), fstep st T = some (st', x) ∧ (f' 0 = .slice At ts.length ct ∧ f' 5 = .slice A of.length c ∧ f' 6 = .slice (some ⟨w.heap.size, 0, none⟩) partWs.length 9 ∧ f' 7 = .int .i64 st'.part ∧ f' 8 = .int .i64 st'.names ∧ f' 9 = .int .i64 st'.next.num ∧ f' 10 = .int .i64 i ∧ f' 12 = .int .i64 x) ∧ Same w3 w') 400000 400000 (by decide) ?_ ?_
  · intro E hE
    have hstk : fstep st T = none → ∀ w' : World, Same w3 w' → Q (.tuple #[.slice A of.length c, .int .i64 i, .bool false]) w' := by
      intro hn w' s
      have hf := hsk hn
      refine hQ _ _ ⟨⟨A, c, ?_, by rw [hf]; exact (o3.same s).base b0.size⟩, b0.trans ((b03.trans (s.below _)).mono b0.size)⟩
      rw [hf]
      have : ¬ (of.length = ts.length ∧ st.part = 9) := fun c => by omega
      rw [decide_eq_false this, hlen]
    have s4 := (Same.refl w3).drew
    have k4 := k3.same s4
    have hP4 := Strs.same (show Strs (· < w3.heap.size) w3 _ _ from hP3.mono fun b hb => Nat.lt_of_lt_of_le hb b03.size) s4
    have hrem := fun {K : Fr → World → Prop} {u : World} {f : Fr} {d : Option Nat} {w : World} {t : Nat} {xo yo : Operand} => rem_3 (P := Tryd.prog) (K := K) (u := u) (f := f) (d := d) (w := w) t xo yo (st.names + 1)
    simp only [Int.natCast_add, Int.natCast_one] at hrem
    have hfs : fstep st T = fstep ⟨st.part, st.names, st.next⟩ T := rfl
    obtain ⟨hnm, hnm'⟩ : (st.next = .n ∨ st.next = .m → T.k = 1 → fstep st T = some (⟨st.part, st.names + 1, if st.part = 8 then (if 0 < (st.names + 1) % 3 then .n else .z) else .m⟩, (st.part : Int))) ∧ True := ⟨fun a b => fstep_name a b, trivial⟩
    generalize hr3 : (st.names + 1) % 3 = r3 at hrem hnm
    generalize hu : w3.drew = u at *
    cases hn : st.next with
    | p =>
      rw [hn] at fr
      by_cases h9 : (st.part : Int) < 9
      case neg =>
        have hno : fstep st T = none := by unfold fstep; simp only [hn]; rw [if_neg (fun c => h9 (by omega))]
        simp (disch := first | with_reducible assumption | omega) only [push_cast, x_blk, x_cd, ↓reduceIte, Nat.reduceEqDiff, List.map_cons, List.map_nil, Int.reduceEq, Int.lt_irrefl, fr, hu, Nx.num, h9]
        refine fin_3 ?_
        simp only [push_cast, ↓reduceIte, Nat.reduceEqDiff, fr]
        exact hstk hno _ s4
      by_cases hk1 : T.k = 1
      case neg =>
        have hno : fstep st T = none := by unfold fstep; simp only [hn]; rw [if_neg (fun c => hk1 c.2.1)]
        simp (disch := first | with_reducible assumption | omega) only [push_cast, x_blk, x_cd, ↓reduceIte, Nat.reduceEqDiff, List.map_cons, List.map_nil, Int.reduceEq, Int.lt_irrefl, fr, hu, Nx.num, h9, k4.t0, hk1]
        refine fin_3 ?_
        simp only [push_cast, ↓reduceIte, Nat.reduceEqDiff, fr]
        exact hstk hno _ s4
      have ek1 := eq_true hk1
      have hpi : partWs[st.part]? = some (partWs.getD st.part ⟨#[]⟩) := by rw [List.getD_eq_getElem?_getD, List.getElem?_eq_getElem (by rw [hPl]; omega)]; rfl
      have hplt : (st.part : Int) < (partWs.length : Int) := by rw [hPl]; omega
      have hpls : (some (⟨w.heap.size, 0, none⟩ : Addr)).isSome = true := rfl
      by_cases hs : T.s = partWs.getD st.part ⟨#[]⟩
      case neg =>
        have hno : fstep st T = none := by unfold fstep; simp only [hn]; rw [if_neg (fun c => hs c.2.2)]
        simp (disch := first | with_reducible assumption | omega) only [push_cast, x_blk, x_cd, ↓reduceIte, Nat.reduceEqDiff, List.map_cons, List.map_nil, Int.reduceEq, Int.lt_irrefl, fr, hu, Nx.num, h9, k4.t0, ek1, k4.t1, hplt, hpls, hP4.ld hpi, hs]
        refine fin_3 ?_
        simp only [push_cast, ↓reduceIte, Nat.reduceEqDiff, fr]
        exact hstk hno _ s4
      have es := eq_true hs
      have hyes : fstep st T = some (⟨st.part, 0, if st.part = 0 then .n else .m⟩, -1) := by unfold fstep; simp only [hn]; rw [if_pos ⟨by omega, hk1, hs⟩]
      by_cases h0 : (st.part : Int) = 0
      · have q0 := eq_true h0
        have h0' : st.part = 0 := by omega
        simp (disch := first | with_reducible assumption | omega) only [push_cast, x_blk, x_cd, ↓reduceIte, Nat.reduceEqDiff, List.map_cons, List.map_nil, Int.reduceEq, Int.lt_irrefl, fr, hu, Nx.num, h9, k4.t0, ek1, k4.t1, hplt, hpls, hP4.ld hpi, es, q0]
        exact hE _ _ ⟨_, _, hyes, ⟨(by simp only [push_cast, ↓reduceIte, Nat.reduceEqDiff, Int.reduceEq, fr]), (by simp only [push_cast, ↓reduceIte, Nat.reduceEqDiff, Int.reduceEq, fr]), (by simp only [push_cast, ↓reduceIte, Nat.reduceEqDiff, Int.reduceEq, fr]), (by simp only [push_cast, ↓reduceIte, Nat.reduceEqDiff, Int.reduceEq, fr]), by simp only [push_cast, ↓reduceIte, Nat.reduceEqDiff, fr], by simp only [push_cast, ↓reduceIte, Nat.reduceEqDiff, fr, h0', Nx.num], (by simp only [push_cast, ↓reduceIte, Nat.reduceEqDiff, Int.reduceEq, fr]), (by simp only [push_cast, ↓reduceIte, Nat.reduceEqDiff, Int.reduceEq, fr])⟩, s4⟩
      · have h0' : ¬ st.part = 0 := by omega
        simp (disch := first | with_reducible assumption | omega) only [push_cast, x_blk, x_cd, ↓reduceIte, Nat.reduceEqDiff, List.map_cons, List.map_nil, Int.reduceEq, Int.lt_irrefl, fr, hu, Nx.num, h9, k4.t0, ek1, k4.t1, hplt, hpls, hP4.ld hpi, es, h0]
        exact hE _ _ ⟨_, _, hyes, ⟨(by simp only [push_cast, ↓reduceIte, Nat.reduceEqDiff, Int.reduceEq, fr]), (by simp only [push_cast, ↓reduceIte, Nat.reduceEqDiff, Int.reduceEq, fr]), (by simp only [push_cast, ↓reduceIte, Nat.reduceEqDiff, Int.reduceEq, fr]), (by simp only [push_cast, ↓reduceIte, Nat.reduceEqDiff, Int.reduceEq, fr]), by simp only [push_cast, ↓reduceIte, Nat.reduceEqDiff, fr], by simp only [push_cast, ↓reduceIte, Nat.reduceEqDiff, fr, h0', Nx.num], (by simp only [push_cast, ↓reduceIte, Nat.reduceEqDiff, Int.reduceEq, fr]), (by simp only [push_cast, ↓reduceIte, Nat.reduceEqDiff, Int.reduceEq, fr])⟩, s4⟩
    | n =>
      rw [hn] at fr
      by_cases hk1 : T.k = 1
      · have ek1 := eq_true hk1
        replace hnm := hnm (.inl hn) hk1
        simp (disch := first | with_reducible assumption | omega) only [push_cast, x_blk, x_cd, ↓reduceIte, Nat.reduceEqDiff, List.map_cons, List.map_nil, Int.reduceEq, Int.lt_irrefl, fr, hu, Nx.num, Int.reduceLT, and_2_2, k4.t0, ek1]
        by_cases c8 : (st.part : Int) = 8
        · have e8 : st.part = 8 := by omega
          have q8 := eq_true c8
          by_cases c3 : 0 < r3
          · have q3 : ((0 : Int) < (r3 : Int)) = True := eq_true (by omega)
            simp (disch := first | with_reducible assumption | omega) only [push_cast, x_blk, x_cd, ↓reduceIte, Nat.reduceEqDiff, List.map_cons, List.map_nil, Int.reduceEq, Int.lt_irrefl, fr, q8, hrem, q3]
            exact hE _ _ ⟨_, _, hnm, ⟨(by simp only [push_cast, ↓reduceIte, Nat.reduceEqDiff, Int.reduceEq, fr]), (by simp only [push_cast, ↓reduceIte, Nat.reduceEqDiff, Int.reduceEq, fr]), (by simp only [push_cast, ↓reduceIte, Nat.reduceEqDiff, Int.reduceEq, fr]), (by simp only [push_cast, ↓reduceIte, Nat.reduceEqDiff, Int.reduceEq, fr]), by simp only [push_cast, ↓reduceIte, Nat.reduceEqDiff, fr], by simp only [push_cast, ↓reduceIte, Nat.reduceEqDiff, fr, e8, c3, Nx.num], (by simp only [push_cast, ↓reduceIte, Nat.reduceEqDiff, Int.reduceEq, fr]), (by simp only [push_cast, ↓reduceIte, Nat.reduceEqDiff, Int.reduceEq, fr])⟩, s4⟩
          · have q3 : ((0 : Int) < (r3 : Int)) = False := eq_false (by omega)
            simp (disch := first | with_reducible assumption | omega) only [push_cast, x_blk, x_cd, ↓reduceIte, Nat.reduceEqDiff, List.map_cons, List.map_nil, Int.reduceEq, Int.lt_irrefl, fr, q8, hrem, q3]
            exact hE _ _ ⟨_, _, hnm, ⟨(by simp only [push_cast, ↓reduceIte, Nat.reduceEqDiff, Int.reduceEq, fr]), (by simp only [push_cast, ↓reduceIte, Nat.reduceEqDiff, Int.reduceEq, fr]), (by simp only [push_cast, ↓reduceIte, Nat.reduceEqDiff, Int.reduceEq, fr]), (by simp only [push_cast, ↓reduceIte, Nat.reduceEqDiff, Int.reduceEq, fr]), by simp only [push_cast, ↓reduceIte, Nat.reduceEqDiff, fr], by simp only [push_cast, ↓reduceIte, Nat.reduceEqDiff, fr, e8, c3, Nx.num], (by simp only [push_cast, ↓reduceIte, Nat.reduceEqDiff, Int.reduceEq, fr]), (by simp only [push_cast, ↓reduceIte, Nat.reduceEqDiff, Int.reduceEq, fr])⟩, s4⟩
        · have e8 : ¬ st.part = 8 := by omega
          simp (disch := first | with_reducible assumption | omega) only [push_cast, x_blk, x_cd, ↓reduceIte, Nat.reduceEqDiff, List.map_cons, List.map_nil, Int.reduceEq, Int.lt_irrefl, fr, c8]
          exact hE _ _ ⟨_, _, hnm, ⟨(by simp only [push_cast, ↓reduceIte, Nat.reduceEqDiff, Int.reduceEq, fr]), (by simp only [push_cast, ↓reduceIte, Nat.reduceEqDiff, Int.reduceEq, fr]), (by simp only [push_cast, ↓reduceIte, Nat.reduceEqDiff, Int.reduceEq, fr]), (by simp only [push_cast, ↓reduceIte, Nat.reduceEqDiff, Int.reduceEq, fr]), by simp only [push_cast, ↓reduceIte, Nat.reduceEqDiff, fr], by simp only [push_cast, ↓reduceIte, Nat.reduceEqDiff, fr, e8, Nx.num], (by simp only [push_cast, ↓reduceIte, Nat.reduceEqDiff, Int.reduceEq, fr]), (by simp only [push_cast, ↓reduceIte, Nat.reduceEqDiff, Int.reduceEq, fr])⟩, s4⟩
      · have hno : fstep st T = none := by unfold fstep; simp only [hn]; rw [if_neg hk1]
        simp (disch := first | with_reducible assumption | omega) only [push_cast, x_blk, x_cd, ↓reduceIte, Nat.reduceEqDiff, List.map_cons, List.map_nil, Int.reduceEq, Int.lt_irrefl, fr, hu, Nx.num, Int.reduceLT, and_2_2, and_2_4, and_2_8, k4.t0, hk1]
        refine fin_3 ?_
        simp only [push_cast, ↓reduceIte, Nat.reduceEqDiff, fr]
        exact hstk hno _ s4
    | m =>
      rw [hn] at fr
      by_cases hk1 : T.k = 1
      · have ek1 := eq_true hk1
        replace hnm := hnm (.inr hn) hk1
        simp (disch := first | with_reducible assumption | omega) only [push_cast, x_blk, x_cd, ↓reduceIte, Nat.reduceEqDiff, List.map_cons, List.map_nil, Int.reduceEq, Int.lt_irrefl, fr, hu, Nx.num, Int.reduceLT, and_6_2, k4.t0, ek1]
        by_cases c8 : (st.part : Int) = 8
        · have e8 : st.part = 8 := by omega
          have q8 := eq_true c8
          by_cases c3 : 0 < r3
          · have q3 : ((0 : Int) < (r3 : Int)) = True := eq_true (by omega)
            simp (disch := first | with_reducible assumption | omega) only [push_cast, x_blk, x_cd, ↓reduceIte, Nat.reduceEqDiff, List.map_cons, List.map_nil, Int.reduceEq, Int.lt_irrefl, fr, q8, hrem, q3]
            exact hE _ _ ⟨_, _, hnm, ⟨(by simp only [push_cast, ↓reduceIte, Nat.reduceEqDiff, Int.reduceEq, fr]), (by simp only [push_cast, ↓reduceIte, Nat.reduceEqDiff, Int.reduceEq, fr]), (by simp only [push_cast, ↓reduceIte, Nat.reduceEqDiff, Int.reduceEq, fr]), (by simp only [push_cast, ↓reduceIte, Nat.reduceEqDiff, Int.reduceEq, fr]), by simp only [push_cast, ↓reduceIte, Nat.reduceEqDiff, fr], by simp only [push_cast, ↓reduceIte, Nat.reduceEqDiff, fr, e8, c3, Nx.num], (by simp only [push_cast, ↓reduceIte, Nat.reduceEqDiff, Int.reduceEq, fr]), (by simp only [push_cast, ↓reduceIte, Nat.reduceEqDiff, Int.reduceEq, fr])⟩, s4⟩
          · have q3 : ((0 : Int) < (r3 : Int)) = False := eq_false (by omega)
            simp (disch := first | with_reducible assumption | omega) only [push_cast, x_blk, x_cd, ↓reduceIte, Nat.reduceEqDiff, List.map_cons, List.map_nil, Int.reduceEq, Int.lt_irrefl, fr, q8, hrem, q3]
            exact hE _ _ ⟨_, _, hnm, ⟨(by simp only [push_cast, ↓reduceIte, Nat.reduceEqDiff, Int.reduceEq, fr]), (by simp only [push_cast, ↓reduceIte, Nat.reduceEqDiff, Int.reduceEq, fr]), (by simp only [push_cast, ↓reduceIte, Nat.reduceEqDiff, Int.reduceEq, fr]), (by simp only [push_cast, ↓reduceIte, Nat.reduceEqDiff, Int.reduceEq, fr]), by simp only [push_cast, ↓reduceIte, Nat.reduceEqDiff, fr], by simp only [push_cast, ↓reduceIte, Nat.reduceEqDiff, fr, e8, c3, Nx.num], (by simp only [push_cast, ↓reduceIte, Nat.reduceEqDiff, Int.reduceEq, fr]), (by simp only [push_cast, ↓reduceIte, Nat.reduceEqDiff, Int.reduceEq, fr])⟩, s4⟩
        · have e8 : ¬ st.part = 8 := by omega
          simp (disch := first | with_reducible assumption | omega) only [push_cast, x_blk, x_cd, ↓reduceIte, Nat.reduceEqDiff, List.map_cons, List.map_nil, Int.reduceEq, Int.lt_irrefl, fr, c8]
          exact hE _ _ ⟨_, _, hnm, ⟨(by simp only [push_cast, ↓reduceIte, Nat.reduceEqDiff, Int.reduceEq, fr]), (by simp only [push_cast, ↓reduceIte, Nat.reduceEqDiff, Int.reduceEq, fr]), (by simp only [push_cast, ↓reduceIte, Nat.reduceEqDiff, Int.reduceEq, fr]), (by simp only [push_cast, ↓reduceIte, Nat.reduceEqDiff, Int.reduceEq, fr]), by simp only [push_cast, ↓reduceIte, Nat.reduceEqDiff, fr], by simp only [push_cast, ↓reduceIte, Nat.reduceEqDiff, fr, e8, Nx.num], (by simp only [push_cast, ↓reduceIte, Nat.reduceEqDiff, Int.reduceEq, fr]), (by simp only [push_cast, ↓reduceIte, Nat.reduceEqDiff, Int.reduceEq, fr])⟩, s4⟩
      by_cases hs : T.s = semi
      · have es : (T.s = ⟨#[59]⟩) = True := eq_true hs
        have hyes : fstep st T = some (⟨st.part + 1, st.names, .p⟩, -1) := by unfold fstep; simp only [hn]; rw [if_neg hk1, if_pos hs]
        simp (disch := first | with_reducible assumption | omega) only [push_cast, x_blk, x_cd, ↓reduceIte, Nat.reduceEqDiff, List.map_cons, List.map_nil, Int.reduceEq, Int.lt_irrefl, fr, hu, Nx.num, Int.reduceLT, and_6_2, and_6_4, k4.t0, hk1, k4.t1, es]
        exact hE _ _ ⟨_, _, hyes, ⟨(by simp only [push_cast, ↓reduceIte, Nat.reduceEqDiff, Int.reduceEq, fr]), (by simp only [push_cast, ↓reduceIte, Nat.reduceEqDiff, Int.reduceEq, fr]), (by simp only [push_cast, ↓reduceIte, Nat.reduceEqDiff, Int.reduceEq, fr]), by simp only [push_cast, ↓reduceIte, Nat.reduceEqDiff, fr], by simp only [push_cast, ↓reduceIte, Nat.reduceEqDiff, fr], by simp only [push_cast, ↓reduceIte, Nat.reduceEqDiff, fr, Nx.num], (by simp only [push_cast, ↓reduceIte, Nat.reduceEqDiff, Int.reduceEq, fr]), (by simp only [push_cast, ↓reduceIte, Nat.reduceEqDiff, Int.reduceEq, fr])⟩, s4⟩
      · have hs' : ¬ T.s = ⟨#[59]⟩ := hs
        have hno : fstep st T = none := by unfold fstep; simp only [hn]; rw [if_neg hk1, if_neg hs]
        simp (disch := first | with_reducible assumption | omega) only [push_cast, x_blk, x_cd, ↓reduceIte, Nat.reduceEqDiff, List.map_cons, List.map_nil, Int.reduceEq, Int.lt_irrefl, fr, hu, Nx.num, Int.reduceLT, and_6_2, and_6_4, and_6_8, k4.t0, hk1, k4.t1, hs']
        refine fin_3 ?_
        simp only [push_cast, ↓reduceIte, Nat.reduceEqDiff, fr]
        exact hstk hno _ s4
    | z =>
      rw [hn] at fr
      by_cases hs : T.s = semi
      · have es : (T.s = ⟨#[59]⟩) = True := eq_true hs
        have hyes : fstep st T = some (⟨st.part + 1, st.names, .p⟩, -1) := by unfold fstep; simp only [hn]; rw [if_pos hs]
        simp (disch := first | with_reducible assumption | omega) only [push_cast, x_blk, x_cd, ↓reduceIte, Nat.reduceEqDiff, List.map_cons, List.map_nil, Int.reduceEq, Int.lt_irrefl, fr, hu, Nx.num, Int.reduceLT, and_12_2, and_12_4, k4.t0, k4.t1, es]
        exact hE _ _ ⟨_, _, hyes, ⟨(by simp only [push_cast, ↓reduceIte, Nat.reduceEqDiff, Int.reduceEq, fr]), (by simp only [push_cast, ↓reduceIte, Nat.reduceEqDiff, Int.reduceEq, fr]), (by simp only [push_cast, ↓reduceIte, Nat.reduceEqDiff, Int.reduceEq, fr]), by simp only [push_cast, ↓reduceIte, Nat.reduceEqDiff, fr], by simp only [push_cast, ↓reduceIte, Nat.reduceEqDiff, fr], by simp only [push_cast, ↓reduceIte, Nat.reduceEqDiff, fr, Nx.num], (by simp only [push_cast, ↓reduceIte, Nat.reduceEqDiff, Int.reduceEq, fr]), (by simp only [push_cast, ↓reduceIte, Nat.reduceEqDiff, Int.reduceEq, fr])⟩, s4⟩
      have hs' : ¬ T.s = ⟨#[59]⟩ := hs
      by_cases hc : T.s = comma
      · have es : (T.s = ⟨#[44]⟩) = True := eq_true hc
        have hyes : fstep st T = some (⟨st.part, st.names, .n⟩, -1) := by unfold fstep; simp only [hn]; rw [if_neg hs, if_pos hc]
        simp (disch := first | with_reducible assumption | omega) only [push_cast, x_blk, x_cd, ↓reduceIte, Nat.reduceEqDiff, List.map_cons, List.map_nil, Int.reduceEq, Int.lt_irrefl, fr, hu, Nx.num, Int.reduceLT, and_12_2, and_12_4, and_12_8, k4.t0, k4.t1, hs', es]
        exact hE _ _ ⟨_, _, hyes, ⟨(by simp only [push_cast, ↓reduceIte, Nat.reduceEqDiff, Int.reduceEq, fr]), (by simp only [push_cast, ↓reduceIte, Nat.reduceEqDiff, Int.reduceEq, fr]), (by simp only [push_cast, ↓reduceIte, Nat.reduceEqDiff, Int.reduceEq, fr]), by simp only [push_cast, ↓reduceIte, Nat.reduceEqDiff, fr], by simp only [push_cast, ↓reduceIte, Nat.reduceEqDiff, fr], by simp only [push_cast, ↓reduceIte, Nat.reduceEqDiff, fr, Nx.num], (by simp only [push_cast, ↓reduceIte, Nat.reduceEqDiff, Int.reduceEq, fr]), (by simp only [push_cast, ↓reduceIte, Nat.reduceEqDiff, Int.reduceEq, fr])⟩, s4⟩
      · have hc' : ¬ T.s = ⟨#[44]⟩ := hc
        have hno : fstep st T = none := by unfold fstep; simp only [hn]; rw [if_neg hs, if_neg hc]
        simp (disch := first | with_reducible assumption | omega) only [push_cast, x_blk, x_cd, ↓reduceIte, Nat.reduceEqDiff, List.map_cons, List.map_nil, Int.reduceEq, Int.lt_irrefl, fr, hu, Nx.num, Int.reduceLT, and_12_2, and_12_4, and_12_8, k4.t0, k4.t1, hs', hc']
        refine fin_3 ?_
        simp only [push_cast, ↓reduceIte, Nat.reduceEqDiff, fr]
        exact hstk hno _ s4
  · clear fr
    rintro f w4 ⟨st', x, hst, fr, s4⟩
    obtain ⟨_, hr'⟩ := hnx st' x hst
    have o4 := o3.same s4
    have b4 := b03.trans (s4.below w0.heap.size)
    have hni' : st'.names ≤ i + 1 ∧ st'.part ≤ i + 1 := by
      unfold fstep afterName at hst
      repeat' split at hst
      all_goals first | (cases hst; done) | (injection hst with hst; injection hst with h1 h2; subst h1; simp only; omega)
    simp (disch := first | with_reducible assumption | omega) only [push_cast, x_blk, x_cd, ↓reduceIte, Nat.reduceEqDiff, List.map_cons, List.map_nil, Int.reduceEq, Int.lt_irrefl, fr, bs_23]
    refine app_int slT_23 o4 x (by omega) b4.size ?_
    intro A' c' w5 o5 g5 _ _ z5
    simp (disch := first | with_reducible assumption | omega) only [push_cast, x_blk, x_cd, ↓reduceIte, Nat.reduceEqDiff, List.map_cons, List.map_nil, Int.reduceEq, Int.lt_irrefl, fr]
    exact hJ _ _ ⟨i + 1, st', _, A', c', (by simp only [push_cast, ↓reduceIte, Nat.reduceEqDiff, true_and, and_true, and_self, eq_self, fr, List.length_append, List.length_singleton]), hr', hni'.1, hni'.2, o5, g5.below b4 b4.size o4.geB⟩ (by rw [hmu]; simp only [push_cast, ↓reduceIte, Nat.reduceEqDiff, intOf, fr]; omega)
end Go.Proofs.YtpinjiikiaakaaaDoor

/-
  The reference's reading of a text: what lies in memory meanwhile.
-/
namespace Go.Proofs.YtpinjiikiaakaaaDoor
set_option linter.unusedSimpArgs false
set_option linter.unusedVariables false
set_option linter.unusedSectionVars false
open Go.RowKit

def pj0 : Pj := ⟨[], [], mach0, [], [], [], []⟩
def jv0 : JV := ⟨none, 0, none, 0, mv0, none, 0, none, 0, none, 0, none, 0⟩
theorem pj0_is (ok : Nat → Prop) (w : World) : IsJ ok w jv0 pj0 := ⟨Recs.nil _ _ _, Recs.nil _ _ _, mach0_is _ _, Ints.nil _ _ _, Ints.nil _ _ _, Ints.nil _ _ _, Ints.nil _ _ _⟩
def resP : Except Flt Pj → Pj
  | .ok p => p
  | .error _ => pj0
def fltL : Except Flt Pj → List Value
  | .ok _ => [.int .i64 0, .int .i64 0]
  | .error (c, a) => [.int .i64 c, .int .i64 a]
abbrev z11 : List Value := [.slice none 0 0, .slice none 0 0, .int .i64 0, .int .i64 0, .slice none 0 0, .slice none 0 0, .slice none 0 0, .slice none 0 0, .slice none 0 0, .slice none 0 0, .slice none 0 0]
theorem fin_cc {P : Program} {Rc : Value → World → Prop} {a t t' g b s s' q : Nat} {cs ds : List Value} {f : Fr} {w : World} (hk : Blk w g t' cs) (ht : tyAgg P t = some true) (hs : tySize P t = some cs.length)
    (hk2 : Blk w q s' ds) (ht2 : tyAgg P s = some true) (hs2 : tySize P s = some ds.length)
    (hf : f a = .pointer (some ⟨g, 0, none⟩)) (hf2 : f b = .pointer (some ⟨q, 0, none⟩)) (h : Rc (.tuple #[.agg cs.toArray, .agg ds.toArray]) w) : FinX P #[.cell a t, .cell b s] Rc f w := by
  refine ⟨_, fun fn tmps hr hf' => ?_, h⟩
  have e2 : tmps[a]?.getD undef = .pointer (some ⟨g, 0, none⟩) := by simpa [hf] using hf' a
  have e3 : tmps[b]?.getD undef = .pointer (some ⟨q, 0, none⟩) := by simpa [hf2] using hf' b
  unfold tyAgg at ht ht2
  unfold tySize at hs hs2
  cases hu : P.underlying t with
  | none => simp [hu] at ht
  | some de =>
    cases hi : P.info? t with
    | none => simp [hi] at hs
    | some ie =>
      cases hu2 : P.underlying s with
      | none => simp [hu2] at ht2
      | some de2 =>
        cases hi2 : P.info? s with
        | none => simp [hi2] at hs2
        | some ie2 =>
          simp only [hi, Option.map_some, Option.some.injEq] at hs
          simp only [hu, Option.map_some, Option.some.injEq] at ht
          simp only [hi2, Option.map_some, Option.some.injEq] at hs2
          simp only [hu2, Option.map_some, Option.some.injEq] at ht2
          have hr' := run_loadCells_list (P := P) w ⟨g, 0, none⟩ cs (fun j v hv => by rw [addr_add, Nat.zero_add, hk.cell, hv])
          have hr2 := run_loadCells_list (P := P) w ⟨q, 0, none⟩ ds (fun j v hv => by rw [addr_add, Nat.zero_add, hk2.cell, hv])
          cases de <;> simp at ht <;> cases de2 <;> simp at ht2 <;> simp [results, hr, e2, e3, asAddr, loadVar, isAgg, run_underlying hu, run_underlying hu2, sizeOf, typeInfo, hi, hs, hi2, hs2, hr', hr2]
theorem Own.ne_own {B e sz c n B' e' sz' c' n' : Nat} {w : World} {A A' : Option Addr} {xs ys : List Value} (h : Own B e sz w A c n xs) (h' : Own B' e' sz' w A' c' n' ys) (hne : e ≠ e') : A = none ∨ A.map (·.block) ≠ A'.map (·.block) := by
  rcases h.own.2 with ⟨h0, _⟩ | ⟨g, cap, cur, hv, hb, hh, r⟩
  · injection h0 with h0; exact .inl h0
  · injection hv with hv
    subst hv
    refine .inr ?_
    rcases h'.own.2 with ⟨h0, _⟩ | ⟨g', cap', cur', hv', hb', hh', r'⟩
    · injection h0 with h0; subst h0; simp
    · injection hv' with hv'
      subst hv'
      simp only [Option.map_some, ne_eq, Option.some.injEq]
      rintro rfl
      rw [hh] at hh'
      injection hh' with hh'
      injection hh' with _ ht
      exact hne ht
structure Rw where
  A : Option Addr
  c : Nat
  l : List Int
def rw0 : Rw := ⟨none, 0, []⟩
structure OwnRows (B : Nat) (w : World) (R : Nat → Rw) (N : Nat) : Prop where
  own : ∀ j, j < N → OwnI B 3 w (R j).A (R j).c (R j).l
  sep : ∀ i j, i < N → j < N → i ≠ j → (R i).A = none ∨ (R i).A.map (·.block) ≠ (R j).A.map (·.block)
def Rput (R : Nat → Rw) (k : Nat) (r : Rw) : Nat → Rw := fun j => if j = k then r else R j
theorem OwnRows.init (B : Nat) (w : World) (N : Nat) : OwnRows B w (fun _ => rw0) N := ⟨fun _ _ => Own.nil _ _ _ _, fun _ _ _ _ _ => .inl rfl⟩
theorem OwnRows.keep {B N : Nat} {w w' : World} {R : Nat → Rw} (h : OwnRows B w R N) (hk : ∀ j, j < N → ∀ g, (R j).A.map (·.block) = some g → w'.heap[g]? = w.heap[g]?) : OwnRows B w' R N :=
  ⟨fun j hj => (h.own j hj).keep (hk j hj), h.sep⟩
theorem OwnRows.below {B N : Nat} {w w' : World} {R : Nat → Rw} (h : OwnRows B w R N) (b : Below w.heap.size w w') : OwnRows B w' R N :=
  ⟨fun j hj => (h.own j hj).below b (Nat.le_refl _), h.sep⟩
theorem OwnRows.grewB {B N g t : Nat} {w w' : World} {R : Nat → Rw} {cs : List Value} (h : OwnRows B w R N) (hk : Blk w g t cs) (hne : t ≠ 3) (hg : Grew w w' (some ⟨g, 0, none⟩)) : OwnRows B w' R N :=
  ⟨fun j hj => (h.own j hj).grew hg (.inr ((h.own j hj).ne_blk hk (Ne.symm hne))), h.sep⟩
theorem OwnRows.grewO {B N B' e sz c n : Nat} {w w' : World} {R : Nat → Rw} {A : Option Addr} {xs : List Value} (h : OwnRows B w R N) (ho : Own B' e sz w A c n xs) (hne : e ≠ 3) (hg : Grew w w' A) : OwnRows B w' R N :=
  ⟨fun j hj => (h.own j hj).grew hg ((h.own j hj).ne_own ho (Ne.symm hne)), h.sep⟩
theorem OwnRows.clear {B N : Nat} {w : World} {R : Nat → Rw} (h : OwnRows B w R N) (k : Nat) : OwnRows B w (Rput R k rw0) N := by
  refine ⟨fun j hj => ?_, fun i j hi hj hij => ?_⟩
  · unfold Rput
    split
    · exact Own.nil _ _ _ _
    · exact h.own j hj
  · unfold Rput
    by_cases c : i = k
    · rw [if_pos c]; exact .inl rfl
    · rw [if_neg c]
      by_cases d : j = k
      · rw [if_pos d]
        cases hA : (R i).A with
        | none => exact .inl rfl
        | some a => right; simp [rw0]
      · rw [if_neg d]; exact h.sep i j hi hj hij
/-- One row grows. -/
theorem OwnRows.app {B N k : Nat} {w w' : World} {R : Nat → Rw} {A' : Option Addr} {c' : Nat} {l' : List Int} (h : OwnRows B w R N) (hk : k < N) (o : OwnI B 3 w' A' c' l') (g : Grew w w' (R k).A)
    (hA : A'.map (·.block) = (R k).A.map (·.block) ∨ ∃ g, A'.map (·.block) = some g ∧ w.heap.size ≤ g) : OwnRows B w' (Rput R k ⟨A', c', l'⟩) N := by
  have hlt : ∀ j, j < N → ∀ b, (R j).A.map (·.block) = some b → b < w.heap.size := fun j hj b hb => by
    have hf := (h.own j hj).form
    rcases hf with ⟨h0, _⟩ | ⟨q, h0, _, hq⟩
    · rw [h0] at hb; cases hb
    · rw [h0] at hb; injection hb with hb; simp only at hb; omega
  have key : ∀ j, j < N → j ≠ k → (R j).A = none ∨ (R j).A.map (·.block) ≠ A'.map (·.block) := fun j hj hjk => by
    rcases hA with hA | ⟨q, hA, hq⟩
    · rw [hA]; exact h.sep j k hj hk hjk
    · cases hj' : (R j).A with
      | none => exact .inl rfl
      | some a =>
        right
        rw [hA]
        intro e
        have := hlt j hj q (by rw [hj']; exact e)
        omega
  refine ⟨fun j hj => ?_, fun i j hi hj hij => ?_⟩
  · unfold Rput
    by_cases c : j = k
    · rw [if_pos c]; exact o
    · rw [if_neg c]; exact (h.own j hj).grew g (h.sep j k hj hk c)
  · unfold Rput
    by_cases c : i = k
    · subst c
      rw [if_pos rfl, if_neg (fun e => hij e.symm)]
      cases hA' : A' with
      | none => exact .inl rfl
      | some a =>
        right
        rcases key j hj (fun e => hij e.symm) with h1 | h1
        · rw [h1]; simp
        · rw [hA'] at h1; exact fun e => h1 e.symm
    · rw [if_neg c]
      by_cases d : j = k
      · rw [if_pos d]; exact key i hi c
      · rw [if_neg d]; exact h.sep i j hi hj hij
section
variable {P : Program} {K : Fr → World → Prop} {f : Fr} {d : Option Nat} {u w w' : World} {g : Nat} {t ty e bytes : Nat}
theorem e_makeSlice2 (t : TypeId) (l c : Operand) : EffX P K (.makeSlice t l c) ty f d w = Eff1 P K (Instr.makeSlice t (ev f l) (ev f c)) f d w := by simp [EffX, valOf]
theorem mk_nils (hT : SlT P t e 1 24) (hz : (P.info? e).bind (·.zero) = some (.slice none 0 0)) (n : Nat) (hn : n ≤ 256)
    (hk : ∀ w', Blk w' w.heap.size e (List.replicate n (.slice none 0 0)) → Below w.heap.size w w' → K (updO f d (.slice (some ⟨w.heap.size, 0, none⟩) n n)) w') :
    Eff1 P K (Instr.makeSlice t (.int .i64 (n : Int)) (.int .i64 (n : Int))) f d w := by
  obtain ⟨i, z, hi, hz', hsz, hby, hc⟩ := hT.get
  have hz0 : z = .slice none 0 0 := by rw [hi] at hz; simp [hz'] at hz; exact hz
  subst hz0
  obtain ⟨w', hr, ho, hg⟩ := run_makeSlice_full (P := P) (w := w) w.heap.size t e i _ 1 hT.under hi hz' hsz .i64 .i64 n (by omega) (by rw [hby]; omega) (by unfold maxLen; omega) (Nat.le_refl _)
  rw [eff1_of hr]
  refine hk w' ?_ ?_
  · have hl : (madeCells (Value.slice none 0 0).cells (n * 1)).toList = List.replicate n (.slice none 0 0) := by
      show (madeCells #[Value.slice none 0 0] (n * 1)).toList = _
      rw [toList_madeCells_one, Nat.mul_one]
    rw [hl] at ho
    rcases ho.2 with ⟨h1, _⟩ | ⟨g, cap, cur, h1, _, h3, _, _, h6, h7⟩
    · cases h1
    · injection h1 with h8 h9 h10
      injection h8 with h8
      injection h8 with h8
      subst h8 h10
      rw [← Array.length_toList] at h6
      rw [← h6, List.take_length] at h7
      show w'.heap[w.heap.size]? = _
      rw [h3, ← h7]
  · exact (Below.refl _ _).grown hg (Nat.le_refl _) (fun k hk => by cases hk)
end
/-- All blocks below B but two are kept. -/
structure But2 (B g q : Nat) (w w' : World) : Prop where
  os : w'.os = w.os
  tape : w'.tape = w.tape
  output : w'.output = w.output
  size : w.heap.size ≤ w'.heap.size
  block : ∀ k, k < B → k ≠ g → k ≠ q → w'.heap[k]? = w.heap[k]?
section
variable {B g q : Nat} {w w1 w2 w' : World}
theorem But2.refl (B g q : Nat) (w : World) : But2 B g q w w := ⟨rfl, rfl, rfl, Nat.le_refl _, fun _ _ _ _ => rfl⟩
theorem But2.trans (h : But2 B g q w w1) (h' : But2 B g q w1 w2) : But2 B g q w w2 := ⟨h'.os.trans h.os, h'.tape.trans h.tape, h'.output.trans h.output, Nat.le_trans h.size h'.size, fun k hk hg hq => (h'.block k hk hg hq).trans (h.block k hk hg hq)⟩
theorem But2.of {B' : Nat} (h : Below B' w w') (hB : B ≤ B') : But2 B g q w w' := ⟨h.os, h.tape, h.output, h.size, fun k hk _ _ => h.block k (by omega)⟩
theorem But2.cellg (h : Grew w w' (some ⟨g, 0, none⟩)) (hB : B ≤ w.heap.size) : But2 B g q w w' := ⟨h.by_.os, h.by_.tape, h.by_.output, h.by_.size, fun k hk hg _ => h.by_.block k (by omega) (by simpa using hg)⟩
theorem But2.cellq (h : Grew w w' (some ⟨q, 0, none⟩)) (hB : B ≤ w.heap.size) : But2 B g q w w' := ⟨h.by_.os, h.by_.tape, h.by_.output, h.by_.size, fun k hk _ hq => h.by_.block k (by omega) (by simpa using hq)⟩
theorem But2.grew {A : Option Addr} (h : Grew w w' A) (hA : ∀ a, A = some a → B ≤ a.block) (hB : B ≤ w.heap.size) : But2 B g q w w' :=
  ⟨h.by_.os, h.by_.tape, h.by_.output, h.by_.size, fun k hk _ _ => h.by_.block k (by omega) (by
    cases A with
    | none => simp
    | some a => have := hA a rfl; simp; omega)⟩
theorem Blk.but2 {b t : Nat} {cs : List Value} (h : Blk w b t cs) (hb : But2 B g q w w') (h1 : b < B) (h2 : b ≠ g) (h3 : b ≠ q) : Blk w' b t cs := (hb.block b h1 h2 h3).trans h
end
structure RV where
  AS : Option Addr
  cS : Nat
  AE : Option Addr
  cE : Nat
  Aa : Option Addr
  ca : Nat
def rv0 : RV := ⟨none, 0, none, 0, none, 0⟩
abbrev rcells (v : RV) (s : RS) : List Value := [.slice v.AS s.S.length v.cS, .slice v.AE s.E.length v.cE, .int .i64 0, .int .i64 0, .slice none 0 0, .slice v.Aa s.arrows.length v.ca, .slice none 0 0, .slice none 0 0, .slice none 0 0, .slice none 0 0, .slice none 0 0]
def rrow (R : Nat → Rw) : List Value := (List.range 9).map fun j => .slice (R j).A (R j).l.length (R j).c
theorem rrow_at {R : Nat → Rw} {k : Nat} (hk : k < 9) : (rrow R)[k]? = some (.slice (R k).A (R k).l.length (R k).c) := by
  unfold rrow; rw [List.getElem?_map, List.getElem?_range hk]; rfl
theorem rrow_set {R : Nat → Rw} {k : Nat} (hk : k < 9) (r : Rw) : (rrow R).set k (.slice r.A r.l.length r.c) = rrow (Rput R k r) := by
  apply List.ext_getElem?
  intro j
  rw [List.getElem?_set]
  by_cases hj : j < 9
  · by_cases c : k = j
    · subst c
      rw [if_pos rfl, if_pos (by unfold rrow; simp; omega), rrow_at hj]
      unfold Rput
      rw [if_pos rfl]
    · rw [if_neg c, rrow_at hj, rrow_at hj]
      unfold Rput
      rw [if_neg (fun e => c e.symm)]
  · have h1 : (rrow (Rput R k r))[j]? = none := List.getElem?_eq_none (by unfold rrow; simp; omega)
    have h2 : (rrow R)[j]? = none := List.getElem?_eq_none (by unfold rrow; simp; omega)
    rw [h1, h2]
    split
    · split
      · omega
      · rfl
    · rfl
structure RM (B bp bR : Nat) (W w : World) (s : RS) (R : Nat → Rw) (v : RV) : Prop where
  kp : Blk w bp 28 (rcells v s)
  kR : Blk w bR 23 (rrow R)
  oS : OwnR strE B 9 1 w v.AS v.cS s.S
  oE : OwnR strE B 9 1 w v.AE v.cE s.E
  sp : v.AS = none ∨ v.AS.map (·.block) ≠ v.AE.map (·.block)
  oA : OwnR arrCells B 66 3 w v.Aa v.ca s.arrows
  rows : OwnRows B w R 10
  eq : ∀ j, j < 9 → (R j).l = s.rows.getD j []
  three : (R 9).l = s.three
  b : But2 B bp bR W w
  hp : bp < B
  hR : bR < B
  ne : bp ≠ bR
  sz : B ≤ w.heap.size
section
variable {B bp bR : Nat} {W w w1 w2 w' : World} {s : RS} {R : Nat → Rw} {v : RV}
theorem RM.below (h : RM B bp bR W w s R v) (b : Below w.heap.size w w') : RM B bp bR W w' s R v :=
  ⟨h.kp.below b h.kp.lt, h.kR.below b h.kR.lt, h.oS.below b (Nat.le_refl _), h.oE.below b (Nat.le_refl _), h.sp, h.oA.below b (Nat.le_refl _), h.rows.below b, h.eq, h.three, h.b.trans (But2.of b h.sz), h.hp, h.hR, h.ne, Nat.le_trans h.sz b.size⟩
theorem RM.same (h : RM B bp bR W w s R v) (b : Same w w') : RM B bp bR W w' s R v := h.below (b.below _)
/-- One more name. -/
theorem RM.addS (h : RM B bp bR W w s R v) {x : ByteArray} {A' : Option Addr} {c' : Nat} (o : OwnR strE B 9 1 w1 A' c' (s.S ++ [x])) (g1 : Grew w w1 v.AS) (hA : A'.map (·.block) = v.AS.map (·.block) ∨ ∃ g, A'.map (·.block) = some g ∧ w.heap.size ≤ g)
    (k2 : Blk w2 bp 28 ((rcells v s).set 0 (.slice A' (s.S.length + 1) c'))) (g2 : Grew w1 w2 (some ⟨bp, 0, none⟩)) : RM B bp bR W w2 { s with S := s.S ++ [x] } R { v with AS := A', cS := c' } := by
  have kp1 := h.kp.grown g1.by_ (h.oS.ne_blk h.kp (by decide)).symm
  have kR1 := h.kR.grown g1.by_ (h.oS.ne_blk h.kR (by decide)).symm
  have hs : v.AE = none ∨ v.AE.map (·.block) ≠ v.AS.map (·.block) := by
    cases hE : v.AE with
    | none => exact .inl rfl
    | some a =>
      right
      rcases h.sp with h1 | h1
      · rw [h1]; simp
      · rw [hE] at h1; exact fun e => h1 e.symm
  have oE1 := h.oE.grew g1 hs
  have oA1 := h.oA.grew g1 (h.oA.ne_own h.oS (by decide))
  have r1 := h.rows.grewO h.oS (by decide) g1
  have hbp : some bR ≠ (some (⟨bp, 0, none⟩ : Addr)).map (·.block) := by simpa using fun e => h.ne e.symm
  refine ⟨?_, kR1.grown g2.by_ hbp, o.grew g2 (.inr (o.ne_blk kp1 (by decide))), oE1.grew g2 (.inr (oE1.ne_blk kp1 (by decide))), ?_, oA1.grew g2 (.inr (oA1.ne_blk kp1 (by decide))), r1.grewB kp1 (by decide) g2, h.eq, h.three,
    h.b.trans ((But2.grew g1 h.oS.geB h.sz).trans (But2.cellg g2 (Nat.le_trans h.sz g1.by_.size))), h.hp, h.hR, h.ne, Nat.le_trans h.sz (Nat.le_trans g1.by_.size g2.by_.size)⟩
  · have e : (rcells v s).set 0 (.slice A' (s.S.length + 1) c') = rcells { v with AS := A', cS := c' } { s with S := s.S ++ [x] } := by
      simp [rcells]
    rw [e] at k2; exact k2
  · rcases hA with hA | ⟨q, hA, hq⟩
    · rcases h.sp with h1 | h1
      · rw [h1] at hA
        left
        cases hA' : A' with
        | none => rfl
        | some a => rw [hA'] at hA; cases hA
      · right; simp only; rw [hA]; exact h1
    · right
      simp only
      rw [hA]
      intro e
      rcases h.oE.form with ⟨h0, _⟩ | ⟨q', h0, _, hq'⟩
      · rw [h0] at e; cases e
      · rw [h0] at e; injection e with e; simp only at e; omega
theorem RM.addE (h : RM B bp bR W w s R v) {x : ByteArray} {A' : Option Addr} {c' : Nat} (o : OwnR strE B 9 1 w1 A' c' (s.E ++ [x])) (g1 : Grew w w1 v.AE) (hA : A'.map (·.block) = v.AE.map (·.block) ∨ ∃ g, A'.map (·.block) = some g ∧ w.heap.size ≤ g)
    (k2 : Blk w2 bp 28 ((rcells v s).set 1 (.slice A' (s.E.length + 1) c'))) (g2 : Grew w1 w2 (some ⟨bp, 0, none⟩)) : RM B bp bR W w2 { s with E := s.E ++ [x] } R { v with AE := A', cE := c' } := by
  have kp1 := h.kp.grown g1.by_ (h.oE.ne_blk h.kp (by decide)).symm
  have kR1 := h.kR.grown g1.by_ (h.oE.ne_blk h.kR (by decide)).symm
  have oS1 := h.oS.grew g1 h.sp
  have oA1 := h.oA.grew g1 (h.oA.ne_own h.oE (by decide))
  have r1 := h.rows.grewO h.oE (by decide) g1
  have hbp : some bR ≠ (some (⟨bp, 0, none⟩ : Addr)).map (·.block) := by simpa using fun e => h.ne e.symm
  refine ⟨?_, kR1.grown g2.by_ hbp, oS1.grew g2 (.inr (oS1.ne_blk kp1 (by decide))), o.grew g2 (.inr (o.ne_blk kp1 (by decide))), ?_, oA1.grew g2 (.inr (oA1.ne_blk kp1 (by decide))), r1.grewB kp1 (by decide) g2, h.eq, h.three,
    h.b.trans ((But2.grew g1 h.oE.geB h.sz).trans (But2.cellg g2 (Nat.le_trans h.sz g1.by_.size))), h.hp, h.hR, h.ne, Nat.le_trans h.sz (Nat.le_trans g1.by_.size g2.by_.size)⟩
  · have e : (rcells v s).set 1 (.slice A' (s.E.length + 1) c') = rcells { v with AE := A', cE := c' } { s with E := s.E ++ [x] } := by
      simp [rcells]
    rw [e] at k2; exact k2
  · rcases hA with hA | ⟨q, hA, hq⟩
    · rcases h.sp with h1 | h1
      · exact .inl h1
      · right; simp only; rw [hA]; exact h1
    · simp only
      rcases h.oS.form with ⟨h0, _⟩ | ⟨q', h0, _, hq'⟩
      · exact .inl h0
      · right
        rw [hA, h0]
        intro e; injection e with e; simp only at e; omega
/-- One more arrow. -/
theorem RM.addA (h : RM B bp bR W w s R v) {x : Arr} {A' : Option Addr} {c' : Nat} (o : OwnR arrCells B 66 3 w1 A' c' (s.arrows ++ [x])) (g1 : Grew w w1 v.Aa)
    (k2 : Blk w2 bp 28 ((rcells v s).set 5 (.slice A' (s.arrows.length + 1) c'))) (g2 : Grew w1 w2 (some ⟨bp, 0, none⟩)) : RM B bp bR W w2 { s with arrows := s.arrows ++ [x], three := [] } (Rput R 9 rw0) { v with Aa := A', ca := c' } := by
  have kp1 := h.kp.grown g1.by_ (h.oA.ne_blk h.kp (by decide)).symm
  have kR1 := h.kR.grown g1.by_ (h.oA.ne_blk h.kR (by decide)).symm
  have oS1 := h.oS.grew g1 (h.oS.ne_own h.oA (by decide))
  have oE1 := h.oE.grew g1 (h.oE.ne_own h.oA (by decide))
  have r1 := h.rows.grewO h.oA (by decide) g1
  have hbp : some bR ≠ (some (⟨bp, 0, none⟩ : Addr)).map (·.block) := by simpa using fun e => h.ne e.symm
  have er : rrow (Rput R 9 rw0) = rrow R := by
    unfold rrow Rput
    apply List.map_congr_left
    intro j hj
    have := List.mem_range.1 hj
    rw [if_neg (by omega)]
  refine ⟨?_, by rw [er]; exact kR1.grown g2.by_ hbp, oS1.grew g2 (.inr (oS1.ne_blk kp1 (by decide))), oE1.grew g2 (.inr (oE1.ne_blk kp1 (by decide))), h.sp, o.grew g2 (.inr (o.ne_blk kp1 (by decide))), (r1.grewB kp1 (by decide) g2).clear 9, fun j hj => by
      unfold Rput; rw [if_neg (by omega)]; exact h.eq j hj, by unfold Rput; rw [if_pos rfl]; rfl,
    h.b.trans ((But2.grew g1 h.oA.geB h.sz).trans (But2.cellg g2 (Nat.le_trans h.sz g1.by_.size))), h.hp, h.hR, h.ne, Nat.le_trans h.sz (Nat.le_trans g1.by_.size g2.by_.size)⟩
  have e : (rcells v s).set 5 (.slice A' (s.arrows.length + 1) c') = rcells { v with Aa := A', ca := c' } { s with arrows := s.arrows ++ [x], three := [] } := by
    simp [rcells]
  rw [e] at k2; exact k2
/-- One more number in a row. -/
theorem RM.addR (h : RM B bp bR W w s R v) {k : Nat} (hk : k < 9) (hl : k < s.rows.length) {x : Int} {A' : Option Addr} {c' : Nat} (o : OwnI B 3 w1 A' c' ((R k).l ++ [x])) (g1 : Grew w w1 (R k).A) (hA : A'.map (·.block) = (R k).A.map (·.block) ∨ ∃ g, A'.map (·.block) = some g ∧ w.heap.size ≤ g)
    (k2 : Blk w2 bR 23 ((rrow R).set k (.slice A' ((R k).l.length + 1) c'))) (g2 : Grew w1 w2 (some ⟨bR, 0, none⟩)) : RM B bp bR W w2 { s with rows := s.rows.set k (s.rows.getD k [] ++ [x]) } (Rput R k ⟨A', c', (R k).l ++ [x]⟩) v := by
  have ok := h.rows.own k (by omega)
  have kp1 := h.kp.grown g1.by_ (ok.ne_blk h.kp (by decide)).symm
  have kR1 := h.kR.grown g1.by_ (ok.ne_blk h.kR (by decide)).symm
  have oS1 := h.oS.grew g1 (h.oS.ne_own ok (by decide))
  have oE1 := h.oE.grew g1 (h.oE.ne_own ok (by decide))
  have oA1 := h.oA.grew g1 (h.oA.ne_own ok (by decide))
  have r1 := h.rows.app (by omega) o g1 hA
  have hbR : some bp ≠ (some (⟨bR, 0, none⟩ : Addr)).map (·.block) := by simpa using h.ne
  refine ⟨kp1.grown g2.by_ hbR, ?_, oS1.grew g2 (.inr (oS1.ne_blk kR1 (by decide))), oE1.grew g2 (.inr (oE1.ne_blk kR1 (by decide))), h.sp, oA1.grew g2 (.inr (oA1.ne_blk kR1 (by decide))), r1.grewB kR1 (by decide) g2, fun j hj => ?_, ?_,
    h.b.trans ((But2.grew g1 ok.geB h.sz).trans (But2.cellq g2 (Nat.le_trans h.sz g1.by_.size))), h.hp, h.hR, h.ne, Nat.le_trans h.sz (Nat.le_trans g1.by_.size g2.by_.size)⟩
  · have e := rrow_set (R := R) hk ⟨A', c', (R k).l ++ [x]⟩
    rw [List.length_append, List.length_singleton] at e
    rw [e] at k2; exact k2
  · unfold Rput
    simp only [List.getD_eq_getElem?_getD, List.getElem?_set]
    by_cases c : j = k
    · subst c
      rw [if_pos rfl, if_pos rfl, if_pos hl]
      simp only [Option.getD_some]
      rw [h.eq j hj, List.getD_eq_getElem?_getD]
    · rw [if_neg c, if_neg (fun e => c e.symm), h.eq j hj, List.getD_eq_getElem?_getD]
  · unfold Rput; rw [if_neg (by omega)]; exact h.three
theorem RM.add3 (h : RM B bp bR W w s R v) {x q : Int} {A' : Option Addr} {c' : Nat} (o : OwnI B 3 w1 A' c' ((R 9).l ++ [x])) (g1 : Grew w w1 (R 9).A) (hA : A'.map (·.block) = (R 9).A.map (·.block) ∨ ∃ g, A'.map (·.block) = some g ∧ w.heap.size ≤ g) :
    RM B bp bR W w1 { s with three := s.three ++ [x], first := q } (Rput R 9 ⟨A', c', (R 9).l ++ [x]⟩) v := by
  have ok := h.rows.own 9 (by omega)
  have er : rrow (Rput R 9 ⟨A', c', (R 9).l ++ [x]⟩) = rrow R := by
    unfold rrow Rput
    apply List.map_congr_left
    intro j hj
    have := List.mem_range.1 hj
    rw [if_neg (by omega)]
  exact ⟨h.kp.grown g1.by_ (ok.ne_blk h.kp (by decide)).symm, by rw [er]; exact h.kR.grown g1.by_ (ok.ne_blk h.kR (by decide)).symm, h.oS.grew g1 (h.oS.ne_own ok (by decide)), h.oE.grew g1 (h.oE.ne_own ok (by decide)), h.sp, h.oA.grew g1 (h.oA.ne_own ok (by decide)),
    h.rows.app (by omega) o g1 hA, fun j hj => by unfold Rput; rw [if_neg (by omega)]; exact h.eq j hj, by unfold Rput; rw [if_pos rfl]; simp only; rw [h.three],
    h.b.trans (But2.grew g1 ok.geB h.sz), h.hp, h.hR, h.ne, Nat.le_trans h.sz g1.by_.size⟩
end
section
variable {K : Fr → World → Prop} {u w : World} {f : Fr} {d : Option Nat} {g t : Nat} {s : RS} {v : RV} {R : Nat → Rw}
theorem Blk.rS (h : Blk u g t (rcells v s)) : Val1 Tryd.prog K (Instr.loadAt 22 (.pointer (some ⟨g, 0, none⟩))) u f d w = K (updO f d (.slice v.AS s.S.length v.cS)) w := h.ld ty_ag_22 0 (by simp)
theorem Blk.rE (h : Blk u g t (rcells v s)) : Val1 Tryd.prog K (Instr.loadAt 22 (.pointer (some ⟨g, 1, none⟩))) u f d w = K (updO f d (.slice v.AE s.E.length v.cE)) w := h.ld ty_ag_22 1 (by simp)
theorem Blk.rA (h : Blk u g t (rcells v s)) : Val1 Tryd.prog K (Instr.loadAt 24 (.pointer (some ⟨g, 5, none⟩))) u f d w = K (updO f d (.slice v.Aa s.arrows.length v.ca)) w := h.ld ty_ag_24 5 (by simp)
theorem Blk.rR (h : Blk u g t (rrow R)) {k : Nat} (hk : k < 9) : Val1 Tryd.prog K (Instr.loadAt 23 (.pointer (some ⟨g, k, none⟩))) u f d w = K (updO f d (.slice (R k).A (R k).l.length (R k).c)) w :=
  load_one_of u f d w ty_ag_23 (by rw [h.cell, rrow_at hk])
theorem Blk.z11A (h : Blk u g t z11) : Val1 Tryd.prog K (Instr.loadAt 28 (.pointer (some ⟨g, 0, none⟩))) u f d w = K (updO f d (.agg z11.toArray)) w := h.ldAll ty_ag_28 ty_sz_28
theorem bl_prj0 : Val1 Tryd.prog K (Instr.build 28 #[]) u f d w = K (updO f d (.agg z11.toArray)) w := bld_of (by kernel_rfl)
theorem bl_flt1 (a : Int) : Val1 Tryd.prog K (Instr.build 31 #[(0, .int .i64 a)]) u f d w = K (updO f d (.agg #[.int .i64 a, .int .i64 0])) w := bld_of (by kernel_rfl)
end
end Go.Proofs.YtpinjiikiaakaaaDoor
