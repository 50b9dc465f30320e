/-
  Chapter 5: the laws HideMakes and HideSees: by their contracts.
-/
import Derived.Test.YtcjedgiglimipaaDoorZHideH
import Derived.Test.YtcjedgiglimipaaDoorZCtlA
namespace Go.Proofs.YtcjedgiglimipaaDoor
set_option linter.unusedSimpArgs false
set_option linter.unusedVariables false
set_option linter.unusedSectionVars false
open Go.RowKit

def mixL (seen o : List Int) (i : Nat) : List Int := (o.take i).map (fun e => (ix e seen : Int)) ++ o.drop i
theorem mixL_len (seen o : List Int) (i : Nat) : (mixL seen o i).length = o.length := by unfold mixL; rw [List.length_append, List.length_map, List.length_take, List.length_drop]; omega
theorem mixL_at {seen o : List Int} {i : Nat} (h : i < o.length) : (mixL seen o i).getD i 0 = o.getD i 0 := by
  unfold mixL
  rw [List.getD_eq_getElem?_getD, List.getElem?_append_right (by rw [List.length_map, List.length_take]; omega), List.length_map, List.length_take, List.getElem?_drop, List.getD_eq_getElem?_getD]
  congr 2
  omega
theorem mixL_succ {seen o : List Int} {i : Nat} (h : i < o.length) : (mixL seen o i).set i (ix (o.getD i 0) seen : Int) = mixL seen o (i + 1) := by
  unfold mixL
  have e1 : ((o.take i).map (fun e => (ix e seen : Int))).length = i := by rw [List.length_map, List.length_take]; omega
  rw [List.set_append_right _ _ (by omega), e1, Nat.sub_self, List.drop_eq_getElem_cons h, List.set_cons_zero, List.take_add_one, List.getElem?_eq_getElem h, List.map_append, List.append_assoc, List.getD_eq_getElem?_getD, List.getElem?_eq_getElem h]
  rfl
theorem mixL_end (seen o : List Int) : mixL seen o o.length = o.map fun e => (ix e seen : Int) := by unfold mixL; rw [List.take_length, List.drop_length, List.append_nil]
theorem seesL_only (seen word : List Int) : (onlyL word seen true).map (fun e => (ix e seen : Int)) = seesL seen word := by
  unfold onlyL seesL
  congr 1
  refine List.filter_congr fun x _ => ?_
  simp
theorem law_HideSees {w : World} (hT : Tab w) {a0 : MV} {m0 : Mach} (h : IsM (· < w.heap.size) w a0 m0) (hf : m0.Fits)
    {A1 : Option Addr} {c1 : Nat} {l1 : List Int} (h1 : Ints (· < w.heap.size) w A1 l1) (_b1 : ∀ x ∈ l1, I64 x) (n1 : l1.length ≤ 17592186043904) (_k1 : l1.length ≤ c1)
    {A2 : Option Addr} {c2 : Nat} {l2 : List Int} (h2 : Ints (· < w.heap.size) w A2 l2) (_b2 : ∀ x ∈ l2, I64 x) (n2 : l2.length ≤ 17592186043904) (_k2 : l2.length ≤ c2) :
    Cal Tryd.prog 5 [a0.val m0, .slice A1 l1.length c1, .slice A2 l2.length c2] w fun v w' => v = .bool true ∧ Below w.heap.size w w' := by
  refine cal_keep_HideSees (by simp) 100000 fun Q hQ => ?_
  simp (disch := first | with_reducible assumption | omega) only [push_cast, x_blk, x_cd, ↓reduceIte, Nat.reduceEqDiff, List.map_cons, List.map_nil, Int.reduceEq, Int.lt_irrefl, F_keep_HideSees]
  refine blk_of (box_agg _ (a0.cells m0)) ?_
  intro w1 k1 b1 z1
  have bb := b1
  simp (disch := first | with_reducible assumption | omega) only [push_cast, x_blk, x_cd, ↓reduceIte, Nat.reduceEqDiff, List.map_cons, List.map_nil, Int.reduceEq, Int.lt_irrefl, k1.mA ty_ag_25 ty_sz_25]
  refine call_of (hide_Hide (h.up bb) hf (h1.up bb) n1 (hT.below bb hT.lt)) ?_
  rintro v w6 ⟨d, dm, e, rfl, hd, b6, or1⟩
  replace k1 := k1.below b6 k1.lt
  replace bb := bb.trans (b6.mono bb.size)
  simp (disch := first | with_reducible assumption | omega) only [push_cast, x_blk, x_cd, ↓reduceIte, Nat.reduceEqDiff, List.map_cons, List.map_nil, Int.reduceEq, Int.lt_irrefl]
  refine blk_of (cs := mv0.cells mach0) al_25 ?_
  intro w7 k7 b7 z7
  simp (disch := first | with_reducible assumption | omega) only [push_cast, x_blk, x_cd, ↓reduceIte, Nat.reduceEqDiff, List.map_cons, List.map_nil, Int.reduceEq, Int.lt_irrefl]
  refine sto_mach k7 rfl d dm ?_
  intro w8 k8 g8 z8
  have b8 := g8.below b7 b7.size (by intro a ha; injection ha with ha; subst ha; exact Nat.le_refl _)
  replace hd := hd.up b8
  replace k1 := k1.below b8 k1.lt
  replace bb := bb.trans (b8.mono bb.size)
  have m00 : mach0.states = 0 := rfl
  rcases or1 with ⟨_, rfl, _, rfl⟩ | ⟨⟨p1, p2⟩, hbg, rfl, rfl⟩ | ⟨_, _, rfl, _, rfl⟩
  case inl =>
    simp (disch := first | with_reducible assumption | omega) only [push_cast, x_blk, x_cd, ↓reduceIte, Nat.reduceEqDiff, List.map_cons, List.map_nil, Int.reduceEq, Int.lt_irrefl, Int.reduceEq, k8.m0 ty_ag_3, m00]
    exact fin_1 (hQ _ _ ⟨(by simp only [push_cast, ↓reduceIte, Nat.reduceEqDiff, Int.reduceEq, m00]), bb⟩)
  case inr.inr =>
    simp (disch := first | with_reducible assumption | omega) only [push_cast, x_blk, x_cd, ↓reduceIte, Nat.reduceEqDiff, List.map_cons, List.map_nil, Int.reduceEq, Int.lt_irrefl, Int.reduceEq, k8.m0 ty_ag_3, m00]
    exact fin_1 (hQ _ _ ⟨(by simp only [push_cast, ↓reduceIte, Nat.reduceEqDiff, Int.reduceEq, m00]), bb⟩)
  have hst : (hideM m0 l1).states = m0.states := rfl
  have pt := hideM_may p1 p2 hbg
  simp (disch := first | with_reducible assumption | omega) only [push_cast, x_blk, x_cd, ↓reduceIte, Nat.reduceEqDiff, List.map_cons, List.map_nil, Int.reduceEq, Int.lt_irrefl, eq_self, Int.reduceEq, k8.m0 ty_ag_3, k1.m0 ty_ag_3, hst, k1.mA ty_ag_25 ty_sz_25]
  refine call_of (machine_Accepts (h.up bb) hf (hT.below bb hT.lt) (h2.up bb) n2) ?_
  rintro v w9 ⟨t, e, rfl, b9, y9, _, q9⟩
  replace k8 := k8.below b9 k8.lt
  replace hd := hd.up b9
  replace bb := bb.trans (b9.mono bb.size)
  by_cases p3 : IsWord m0 l2
  case neg =>
    obtain ⟨rfl, rfl⟩ := q9 ⟨p1, p3⟩
    simp (disch := first | with_reducible assumption | omega) only [push_cast, x_blk, x_cd, ↓reduceIte, Nat.reduceEqDiff, List.map_cons, List.map_nil, Int.reduceEq, Int.lt_irrefl, Int.reduceEq, eq_self]
    exact fin_1 (hQ _ _ ⟨(by simp only [push_cast, ↓reduceIte, Nat.reduceEqDiff, Int.reduceEq]), bb⟩)
  obtain ⟨rfl, rfl⟩ := y9 ⟨p1, p3⟩
  simp (disch := first | with_reducible assumption | omega) only [push_cast, x_blk, x_cd, ↓reduceIte, Nat.reduceEqDiff, List.map_cons, List.map_nil, Int.reduceEq, Int.lt_irrefl, Int.reduceEq, eq_self]
  refine call_of (hide_Seen (h2.up bb) c2 (h1.up bb) c1 n2 (by omega)) ?_
  rintro v w10 ⟨O, co, rfl, o2, b10⟩
  have k8s := k8
  have hds := hd
  have hacc := hide_accepts p1 l1 (word := l2)
  have hwd := seesL_word m0 l1 l2
  have hso := seesL_only l1 l2
  have hon : ∀ x ∈ onlyL l2 l1 true, x ∈ l1 := fun x hx => by
    unfold onlyL at hx
    simpa using (List.mem_filter.1 hx).2
  have nO : (onlyL l2 l1 true).length ≤ 17592186043904 := by
    unfold onlyL
    have := List.length_filter_le (fun x => decide (x ∈ l1) == true) l2
    omega
  generalize onlyL l2 l1 true = o at *
  have o2' : OwnI w9.heap.size 3 w10 O co (mixL l1 o 0) := by unfold mixL; simpa using o2
  simp (disch := first | with_reducible assumption | omega) only [push_cast, x_blk, x_cd, ↓reduceIte, Nat.reduceEqDiff, List.map_cons, List.map_nil, Int.reduceEq, Int.lt_irrefl]
  refine loop_rule (fun f w' => ∃ i : Nat, i ≤ o.length ∧ (f 1 = .slice A1 l1.length c1 ∧ f 7 = .pointer (some ⟨w6.heap.size, 0, none⟩) ∧ f 9 = .bool (decide (AcceptsL m0 l2)) ∧ f 11 = .slice O o.length co ∧ f 12 = .int .i64 i) ∧
      OwnI w9.heap.size 3 w' O co (mixL l1 o i) ∧ Below w9.heap.size w9 w')
    (fun f _ => (o.length - intOf (f 12)).toNat) ⟨0, by omega, ⟨rfl, rfl, rfl, (by simp only [push_cast, ↓reduceIte, Nat.reduceEqDiff, Int.reduceEq]), rfl⟩, o2', b10⟩ ?_
  clear o2 o2' b10
  rintro f w11 ⟨i, hi, fr, o2, b10⟩ J hJ
  have z11 := b10.size
  by_cases hlt : (i : Int) < (o.length : Int)
  case neg =>
    obtain rfl : i = o.length := by omega
    rw [mixL_end, hso] at o2
    have hlen : o.length = (seesL l1 l2).length := by rw [← hso, List.length_map]
    have k8' := k8s.below b10 k8s.lt
    have bb' := bb.trans (b10.mono bb.size)
    rw [hlen] at fr
    simp (disch := first | with_reducible assumption | omega) only [push_cast, x_blk, x_cd, ↓reduceIte, Nat.reduceEqDiff, List.map_cons, List.map_nil, Int.reduceEq, Int.lt_irrefl, L_keep_HideSees_1, fr, hlt, Int.lt_irrefl, k8'.mA ty_ag_25 ty_sz_25]
    refine call_of (machine_Accepts (hds.up b10) (May.fits pt) (hT.below bb' hT.lt) ((OwnI.ints o2).lt) (by rw [← hlen]; exact nO)) ?_
    rintro v w12 ⟨t, e, rfl, b12, y12, _, q12⟩
    obtain ⟨rfl, rfl⟩ := y12 ⟨pt, hwd⟩
    have bb2 := bb'.trans (b12.mono bb'.size)
    by_cases q : AcceptsL m0 l2
    · have q2 := hacc q
      simp (disch := first | with_reducible assumption | omega) only [push_cast, x_blk, x_cd, ↓reduceIte, Nat.reduceEqDiff, List.map_cons, List.map_nil, Int.reduceEq, Int.lt_irrefl, fr, eq_self, decide_eq_true q, decide_eq_true q2]
      exact fin_1 (hQ _ _ ⟨(by simp only [push_cast, ↓reduceIte, Nat.reduceEqDiff, Int.reduceEq]), bb2⟩)
    · simp (disch := first | with_reducible assumption | omega) only [push_cast, x_blk, x_cd, ↓reduceIte, Nat.reduceEqDiff, List.map_cons, List.map_nil, Int.reduceEq, Int.lt_irrefl, fr, eq_self, decide_eq_false q]
      exact fin_1 (hQ _ _ ⟨(by simp only [push_cast, ↓reduceIte, Nat.reduceEqDiff, Int.reduceEq]), bb2⟩)
  have hio : i < o.length := by omega
  have hin := hon _ (getD_mem o 0 i hio)
  have hat := mixL_at (seen := l1) hio
  have hsn := mixL_succ (seen := l1) hio
  have hml := mixL_len l1 o i
  generalize o.getD i 0 = e at *
  generalize mixL l1 o i = x at *
  have hmu : (o.length - intOf (f 12)).toNat = (o.length - (i : Int)).toNat := by rw [fr.2.2.2.2]; rfl
  rw [hmu] at hJ
  simp (disch := first | with_reducible assumption | omega) only [push_cast, x_blk, x_cd, ↓reduceIte, Nat.reduceEqDiff, List.map_cons, List.map_nil, Int.reduceEq, Int.lt_irrefl, L_keep_HideSees_1, fr, hlt]
  refine loop_rule (fun f w' => ∃ k : Nat, k ≤ l1.length ∧ (f 1 = .slice A1 l1.length c1 ∧ f 7 = .pointer (some ⟨w6.heap.size, 0, none⟩) ∧ f 9 = .bool (decide (AcceptsL m0 l2)) ∧ f 11 = .slice O o.length co ∧ f 12 = .int .i64 i ∧ f 13 = .int .i64 k) ∧
      (∀ j, j < k → l1.getD j 0 ≠ e) ∧ OwnI w9.heap.size 3 w' O co x ∧ Below w9.heap.size w9 w')
    (fun f _ => (l1.length - intOf (f 13)).toNat) ⟨0, by omega, (by simp only [push_cast, ↓reduceIte, Nat.reduceEqDiff, true_and, and_true, and_self, eq_self, fr]), fun j hj => absurd hj (by omega), o2, b10⟩ ?_
  clear o2 b10 fr hmu z11 f w11
  rintro f w11 ⟨k, hk, fr, hpre, o2, b10⟩ J2 hJ2
  have z11 := b10.size
  have bd : Below w11.heap.size w11 w11.drew := (Same.refl w11).drew.below _
  have b11 := b10.trans (bd.mono z11)
  have o3 := o2.below bd (Nat.le_refl _)
  have hI1 := h1.up (bb.trans (b11.mono bb.size))
  have hOl := (OwnI.ints o3).isSome (by omega)
  have hI3 := OwnI.ints o3
  have hix2 : i < x.length := by omega
  have hki : k ≠ l1.length := fun e' => by
    obtain ⟨j, hj, hje⟩ := (mem_iff_getD l1 0 e).1 hin
    exact hpre j (by omega) hje
  have hkl : k < l1.length := by omega
  have hI1s := hI1.isSome (by omega)
  by_cases q : l1.getD k 0 = e
  · have hix := ix_first hkl q hpre
    rw [hix] at hsn
    simp (disch := first | with_reducible assumption | omega) only [push_cast, x_blk, x_cd, ↓reduceIte, Nat.reduceEqDiff, List.map_cons, List.map_nil, Int.reduceEq, Int.lt_irrefl, L_keep_HideSees_0, fr, hkl, hI1s, hOl, hio, hI1.ld ty_ag_3 k hkl, hI3.ld ty_ag_3 i hix2, hat, q, eq_self, ne_eq, not_true_eq_false]
    refine sto_int (by kernel_rfl) (by kernel_rfl) o3 i (by omega) _ ?_
    intro w12 o12 g12 z12
    rw [hsn] at o12
    simp (disch := first | with_reducible assumption | omega) only [push_cast, x_blk, x_cd, ↓reduceIte, Nat.reduceEqDiff, List.map_cons, List.map_nil, Int.reduceEq, Int.lt_irrefl, fr]
    exact hJ _ _ ⟨i + 1, by omega, (by simp only [push_cast, ↓reduceIte, Nat.reduceEqDiff, true_and, and_true, and_self, eq_self, fr]), o12, g12.below b11 b11.size o3.geB⟩ (by simp only [push_cast, ↓reduceIte, Nat.reduceEqDiff, intOf, fr]; omega)
  · simp (disch := first | with_reducible assumption | omega) only [push_cast, x_blk, x_cd, ↓reduceIte, Nat.reduceEqDiff, List.map_cons, List.map_nil, Int.reduceEq, Int.lt_irrefl, L_keep_HideSees_0, fr, hkl, hI1s, hOl, hio, hI1.ld ty_ag_3 k hkl, hI3.ld ty_ag_3 i hix2, hat, q, ne_eq, not_false_eq_true]
    exact hJ2 _ _ ⟨k + 1, by omega, (by simp only [push_cast, ↓reduceIte, Nat.reduceEqDiff, true_and, and_true, and_self, eq_self, fr]), fun j hj => if e' : j = k then e' ▸ q else hpre j (by omega), o3, b11⟩ (by simp only [push_cast, ↓reduceIte, Nat.reduceEqDiff, intOf, fr]; omega)
end Go.Proofs.YtcjedgiglimipaaDoor
