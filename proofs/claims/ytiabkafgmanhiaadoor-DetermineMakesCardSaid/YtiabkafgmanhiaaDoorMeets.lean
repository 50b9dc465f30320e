/-
  Chapter 2: whether two sets meet; the reference's Step, Word: by their contracts.
-/
import Derived.Test.YtiabkafgmanhiaaDoorStep
namespace Go.Proofs.YtiabkafgmanhiaaDoor
set_option linter.unusedSimpArgs false
set_option linter.unusedVariables false
set_option linter.unusedSectionVars false
open Go.RowKit

def MeetL (a b : List Int) : Prop := ∃ x ∈ a, x ∈ b
instance (a b : List Int) : Decidable (MeetL a b) := by unfold MeetL; exact inferInstance
theorem meets_iff {a b : List Int} (ha : Small a) : MeetL a b ↔ ∃ i, i < 4 ∧ (wordsOf a).getD i 0 &&& (wordsOf b).getD i 0 ≠ 0 := by
  constructor
  · rintro ⟨x, hx, hy⟩
    have hs := ha x hx
    refine ⟨x.toNat / 64, by omega, fun h => ?_⟩
    have h1 := wordsOf_has a x.toNat (by omega)
    have h2 := wordsOf_has b x.toNat (by omega)
    rw [show ((x.toNat : Nat) : Int) = x by omega] at h1 h2
    unfold setHas at h1 h2
    have : ((wordsOf a).getD (x.toNat / 64) 0 &&& (wordsOf b).getD (x.toNat / 64) 0).testBit (x.toNat % 64) = true := by rw [Nat.testBit_and, h1, h2]; simp [hx, hy]
    rw [h, Nat.zero_testBit] at this
    cases this
  · rintro ⟨i, hi, h⟩
    obtain ⟨k, hk⟩ := Nat.exists_testBit_of_ne_zero h
    rw [Nat.testBit_and, Bool.and_eq_true] at hk
    have hk64 : k < 64 := by
      rcases Nat.lt_or_ge k 64 with h1 | h1
      · exact h1
      · have p : 2 ^ 64 ≤ 2 ^ k := Nat.pow_le_pow_right (by decide) h1
        rw [Nat.testBit_lt_two_pow (Nat.lt_of_lt_of_le ((wordsOf_words a).2 i) p)] at hk
        cases hk.1
    have h1 := wordsOf_has a (64 * i + k) (by omega)
    have h2 := wordsOf_has b (64 * i + k) (by omega)
    unfold setHas at h1 h2
    rw [show (64 * i + k) / 64 = i by omega, show (64 * i + k) % 64 = k by omega] at h1 h2
    rw [hk.1] at h1
    rw [hk.2] at h2
    exact ⟨_, of_decide_eq_true h1.symm, of_decide_eq_true h2.symm⟩

theorem set_Meets {a b : List Int} (ha : Small a) (w : World) :
    Cal Tryd.prog 64 [setV a, setV b] w fun v w' => v = .bool (decide (MeetL a b)) ∧ Below w.heap.size w w' := by
  refine cal_machine_Set_Meets (by simp) 100000 fun Q hQ => ?_
  simp (disch := first | with_reducible assumption | omega) only [push_cast, x_blk, x_cd, ↓reduceIte, Nat.reduceEqDiff, List.map_cons, List.map_nil, Int.reduceEq, Int.lt_irrefl, F_machine_Set_Meets]
  refine blk_of (box_agg _ (setCells (wordsOf a))) ?_
  intro w1 k1 b1 z1
  simp (disch := first | with_reducible assumption | omega) only [push_cast, x_blk, x_cd, ↓reduceIte, Nat.reduceEqDiff, List.map_cons, List.map_nil, Int.reduceEq, Int.lt_irrefl]
  refine blk_of (box_agg _ (setCells (wordsOf b))) ?_
  intro w2 k2 b2 z2
  have k1 := k1.below b2 (by omega)
  have b2 := b1.trans (b2.mono b1.size)
  simp (disch := first | with_reducible assumption | omega) only [push_cast, x_blk, x_cd, ↓reduceIte, Nat.reduceEqDiff, List.map_cons, List.map_nil, Int.reduceEq, Int.lt_irrefl]
  refine loop_rule (fun f w' => ∃ i : Nat, i ≤ 4 ∧ (f 2 = .pointer (some ⟨w.heap.size, 0, none⟩) ∧ f 3 = .pointer (some ⟨w1.heap.size, 0, none⟩) ∧ f 6 = .int .i64 i) ∧
      (∀ j, j < i → (wordsOf a).getD j 0 &&& (wordsOf b).getD j 0 = 0) ∧ Blk w' w.heap.size 69 (setCells (wordsOf a)) ∧ Blk w' w1.heap.size 69 (setCells (wordsOf b)) ∧ Below w.heap.size w w')
    (fun f _ => 4 - (intOf (f 6)).toNat) ⟨0, by omega, ⟨rfl, rfl, rfl⟩, fun j hj => absurd hj (by omega), k1, k2, b2⟩ ?_
  clear k1 k2 b2
  rintro f w3 ⟨i, hi, fr, hp, k1, k2, b3⟩ J hJ
  by_cases hlt : (i : Int) < 4
  case neg =>
    have r : decide (MeetL a b) = false := decide_eq_false fun h => by
      obtain ⟨j, hj, hne⟩ := (meets_iff ha).1 h
      exact hne (hp j (by omega))
    simp (disch := first | with_reducible assumption | omega) only [push_cast, x_blk, x_cd, ↓reduceIte, Nat.reduceEqDiff, List.map_cons, List.map_nil, Int.reduceEq, Int.lt_irrefl, L_machine_Set_Meets_0, fr, hlt]
    exact fin_1 (hQ _ _ ⟨(by simp only [push_cast, ↓reduceIte, Nat.reduceEqDiff, Int.reduceEq, r]), b3⟩)
  have hi4 : i < 4 := by omega
  have hx := (wordsOf_words a).2 i
  have hy := (wordsOf_words b).2 i
  have k1' := k1.drew
  have k2' := k2.drew
  have hwd : ∀ (z : Nat), (wordsOf a).getD i 0 &&& (wordsOf b).getD i 0 = z → z ≠ 0 → decide (MeetL a b) = true := fun z h1 h2 => decide_eq_true ((meets_iff ha).2 ⟨i, hi4, h1 ▸ h2⟩)
  generalize hv : (wordsOf a).getD i 0 = x at *
  generalize hu : (wordsOf b).getD i 0 = y at *
  generalize hz : x &&& y = z at *
  by_cases c : z = 0
  · subst c
    simp (disch := first | with_reducible assumption | omega) only [push_cast, x_blk, x_cd, ↓reduceIte, Nat.reduceEqDiff, List.map_cons, List.map_nil, Int.reduceEq, Int.lt_irrefl, L_machine_Set_Meets_0, fr, hlt, Int.natCast_nonneg, bin_and' hz hx hy, k1'.word' (wordsOf_words a) ty_ag_67 i hi4 hv, k2'.word' (wordsOf_words b) ty_ag_67 i hi4 hu]
    exact hJ _ _ ⟨i + 1, by omega, (by simp only [push_cast, ↓reduceIte, Nat.reduceEqDiff, true_and, and_true, and_self, eq_self, fr]), fun j hj => if e : j = i then by rw [e, hv, hu, hz] else hp j (by omega), k1', k2', drawn b3⟩ (by simp only [push_cast, ↓reduceIte, Nat.reduceEqDiff, intOf, fr]; omega)
  · have r := hwd z rfl c
    have c' : ¬ ((z : Int) = 0) := by omega
    simp (disch := first | with_reducible assumption | omega) only [push_cast, x_blk, x_cd, ↓reduceIte, Nat.reduceEqDiff, List.map_cons, List.map_nil, Int.reduceEq, Int.lt_irrefl, L_machine_Set_Meets_0, fr, hlt, Int.natCast_nonneg, bin_and' hz hx hy, c', k1'.word' (wordsOf_words a) ty_ag_67 i hi4 hv, k2'.word' (wordsOf_words b) ty_ag_67 i hi4 hu]
    exact fin_1 (hQ _ _ ⟨(by simp only [push_cast, ↓reduceIte, Nat.reduceEqDiff, Int.reduceEq, r]), drawn b3⟩)

theorem ref2_Step {w : World} {a : MV} {m : Mach} (h : IsM (· < w.heap.size) w a m) (hf : m.Fits) {A1 : Option Addr} {c1 : Nat} {l : List Int} (h1 : Ints (· < w.heap.size) w A1 l) (n1 : l.length ≤ 17592186043904) (e : Int) :
    Cal Tryd.prog 65 [a.val m, .slice A1 l.length c1, .int .i64 e] w fun v w' => ∃ A c, v = .slice A (stepL m l e).length c ∧ OwnI w.heap.size 3 w' A c (stepL m l e) ∧ Below w.heap.size w w' := by
  have nA := hf.lenA
  refine cal_ref2_Step (by simp) 100000 fun Q hQ => ?_
  simp (disch := first | with_reducible assumption | omega) only [push_cast, x_blk, x_cd, ↓reduceIte, Nat.reduceEqDiff, List.map_cons, List.map_nil, Int.reduceEq, Int.lt_irrefl, F_ref2_Step]
  refine blk_of (box_agg _ (a.cells m)) ?_
  intro w1 k1 b1 z1
  simp (disch := first | with_reducible assumption | omega) only [push_cast, x_blk, x_cd, ↓reduceIte, Nat.reduceEqDiff, List.map_cons, List.map_nil, Int.reduceEq, Int.lt_irrefl]
  refine loop_rule (fun f w' => ∃ k : Nat, ∃ O co, k ≤ m.arrows.length ∧ (f 1 = .slice A1 l.length c1 ∧ f 2 = .int .i64 e ∧ f 3 = .pointer (some ⟨w.heap.size, 0, none⟩) ∧ f 7 = .slice O (stepK m l e k).length co ∧ f 8 = .int .i64 k) ∧
      OwnI w1.heap.size 3 w' O co (stepK m l e k) ∧ Below w1.heap.size w1 w')
    (fun f _ => m.arrows.length - (intOf (f 8)).toNat) ⟨0, none, 0, Nat.zero_le _, ⟨rfl, rfl, rfl, rfl, rfl⟩, Own.nil _ _ _ _, Below.refl _ _⟩ ?_
  rintro f w2 ⟨k, O, co, hk, fr, ho, b2⟩ J hJ
  have kM := k1.below b2 (by omega)
  have bb := b1.trans (b2.mono b1.size)
  by_cases hlt : k < m.arrows.length
  case neg =>
    obtain rfl : k = m.arrows.length := by omega
    rw [stepK_all] at fr ho
    have hle := stepK_le m l e m.arrows.length
    rw [stepK_all] at hle
    simp (disch := first | with_reducible assumption | omega) only [push_cast, x_blk, x_cd, ↓reduceIte, Nat.reduceEqDiff, List.map_cons, List.map_nil, Int.reduceEq, Int.lt_irrefl, L_ref2_Step_0, fr, Nat.lt_irrefl, kM.m3 ty_ag_23]
    refine call_of (ref1_Sorted (Ints.lt (OwnI.ints ho)) co (by omega)) ?_
    rintro v w3 ⟨A4, c4, rfl, o4, b4⟩
    simp (disch := first | with_reducible assumption | omega) only [push_cast, x_blk, x_cd, ↓reduceIte, Nat.reduceEqDiff, List.map_cons, List.map_nil, Int.reduceEq, Int.lt_irrefl]
    exact fin_1 (hQ _ _ ⟨A4, c4, rfl, o4.base bb.size, bb.trans (b4.mono bb.size)⟩)
  have hI := (h.below bb).arrows
  have hA := hI.isSome (by omega)
  have hsn := stepK_snoc m l e k hlt
  have hle := stepK_le m l e k
  by_cases c1' : (m.arrows.getD k default).evt = e
  case neg =>
    rw [if_neg (fun hh => c1' hh.1), List.append_nil] at hsn
    simp (disch := first | with_reducible assumption | omega) only [push_cast, x_blk, x_cd, ↓reduceIte, Nat.reduceEqDiff, List.map_cons, List.map_nil, Int.reduceEq, Int.lt_irrefl, L_ref2_Step_0, fr, hlt, kM.m3 ty_ag_23, hI.ld1 ty_ag_3, c1']
    exact hJ _ _ ⟨k + 1, O, co, hlt, (by simp only [push_cast, ↓reduceIte, Nat.reduceEqDiff, true_and, and_true, and_self, eq_self, fr, hsn]), by rw [hsn]; exact ho, b2⟩ (by simp only [push_cast, ↓reduceIte, Nat.reduceEqDiff, intOf, fr]; omega)
  simp (disch := first | with_reducible assumption | omega) only [push_cast, x_blk, x_cd, ↓reduceIte, Nat.reduceEqDiff, List.map_cons, List.map_nil, Int.reduceEq, Int.lt_irrefl, L_ref2_Step_0, fr, hlt, kM.m3 ty_ag_23, Nat.add_zero, hI.ld0 ty_ag_3, hI.ld1 ty_ag_3, c1', eq_self]
  refine call_of (ref1_Has (h1.below bb) c1 _ (by omega)) ?_
  rintro v w3 ⟨rfl, s3⟩
  have kM3 := kM.same s3
  have hI3 := hI.same s3
  have ho3 := ho.same s3
  have b3 := b2.trans (s3.below _)
  by_cases c2 : (m.arrows.getD k default).frm ∈ l
  case neg =>
    rw [if_neg (fun hh => c2 hh.2), List.append_nil] at hsn
    simp (disch := first | with_reducible assumption | omega) only [push_cast, x_blk, x_cd, ↓reduceIte, Nat.reduceEqDiff, List.map_cons, List.map_nil, Int.reduceEq, Int.lt_irrefl, fr, c2]
    exact hJ _ _ ⟨k + 1, O, co, hlt, (by simp only [push_cast, ↓reduceIte, Nat.reduceEqDiff, true_and, and_true, and_self, eq_self, fr, hsn]), by rw [hsn]; exact ho3, b3⟩ (by simp only [push_cast, ↓reduceIte, Nat.reduceEqDiff, intOf, fr]; omega)
  rw [if_pos ⟨c1', c2⟩] at hsn
  simp (disch := first | with_reducible assumption | omega) only [push_cast, x_blk, x_cd, ↓reduceIte, Nat.reduceEqDiff, List.map_cons, List.map_nil, Int.reduceEq, Int.lt_irrefl, fr, c2, hlt, kM3.m3 ty_ag_23, hI3.ld2 ty_ag_3]
  refine app_int slT_22 ho3 _ (by omega) b3.size ?_
  intro A' c' w4 ho4 hg4 hA4 hs4 hz4
  simp (disch := first | with_reducible assumption | omega) only [push_cast, x_blk, x_cd, ↓reduceIte, Nat.reduceEqDiff, List.map_cons, List.map_nil, Int.reduceEq, Int.lt_irrefl, fr]
  exact hJ _ _ ⟨k + 1, A', c', hlt, (by simp only [push_cast, ↓reduceIte, Nat.reduceEqDiff, true_and, and_true, and_self, eq_self, fr, hsn, List.length_append, List.length_cons, List.length_nil]), by rw [hsn]; exact ho4, hg4.below b3 b3.size ho3.geB⟩ (by simp only [push_cast, ↓reduceIte, Nat.reduceEqDiff, intOf, fr]; omega)
end Go.Proofs.YtiabkafgmanhiaaDoor
