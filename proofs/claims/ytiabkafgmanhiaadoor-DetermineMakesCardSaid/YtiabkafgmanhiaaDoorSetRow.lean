/-
  Chapter 2: the program's Row: by its contract; After, Accepts.
-/
import Derived.Test.YtiabkafgmanhiaaDoorSetAll
import Derived.Test.YtiabkafgmanhiaaDoorStep
import Derived.Test.YtiabkafgmanhiaaDoorMachC
namespace Go.Proofs.YtiabkafgmanhiaaDoor
set_option linter.unusedSimpArgs false
set_option linter.unusedVariables false
set_option linter.unusedSectionVars false
open Go.RowKit

theorem set_Row (S : List Int) {w : World} (hT : Tab w) : Cal Tryd.prog 60 [setV S] w fun v w' =>
    ∃ A c, v = .slice A (rowS S).length c ∧ OwnI w.heap.size 3 w' A c (rowS S) ∧ Below w.heap.size w w' :=
  ⟨k_machine_Set_Row, (callsIn_wide.1 (set_Row_in S w hT)).mono fun e W' ⟨v, he, ho, hb⟩ => ⟨v, he, by
    rcases ho.2 with ⟨rfl, h0⟩ | ⟨g, cap, cur, rfl, h⟩
    · exact ⟨none, 0, by rw [h0], ⟨by rw [h0] at ho ⊢; exact ho⟩, hb⟩
    · exact ⟨_, _, rfl, ⟨ho⟩, hb⟩⟩⟩
theorem set_Row' {S : List Int} (h : Strict S) (hs : Small S) {w : World} (hT : Tab w) : Cal Tryd.prog 60 [setV S] w fun v w' =>
    ∃ A c, v = .slice A S.length c ∧ OwnI w.heap.size 3 w' A c S ∧ Below w.heap.size w w' := by
  have := set_Row S hT
  rwa [rowS_row h hs] at this

/-- A word. -/
def IsWord (m : Mach) (l : List Int) : Prop := ∀ i, i < l.length → 0 ≤ l.getD i 0 ∧ l.getD i 0 < m.events
instance (m : Mach) (l : List Int) : Decidable (IsWord m l) := by unfold IsWord; exact inferInstance
theorem machine_word {w : World} {a : MV} {m : Mach} {ok : Nat → Prop} {A : Option Addr} {l : List Int} (h : Ints (· < w.heap.size) w A l) (c : Nat) (hl : l.length ≤ 17592186043904) :
    Cal Tryd.prog 57 [a.val m, .slice A l.length c] w fun v w' => v = .bool (decide (IsWord m l)) ∧ Below w.heap.size w w' := by
  refine cal_machine_word (by simp) 100000 fun Q hQ => ?_
  simp (disch := first | with_reducible assumption | omega) only [push_cast, x_blk, x_cd, ↓reduceIte, Nat.reduceEqDiff, List.map_cons, List.map_nil, Int.reduceEq, Int.lt_irrefl, F_machine_word]
  refine blk_of (box_agg _ (a.cells m)) ?_
  intro w1 k1 b1 z1
  simp (disch := first | with_reducible assumption | omega) only [push_cast, x_blk, x_cd, ↓reduceIte, Nat.reduceEqDiff, List.map_cons, List.map_nil, Int.reduceEq, Int.lt_irrefl]
  refine loop_rule (fun f w' => ∃ k : Nat, k ≤ l.length ∧ (f 2 = .pointer (some ⟨w.heap.size, 0, none⟩) ∧ f 7 = .slice A l.length c ∧ f 8 = .int .i64 l.length ∧ f 9 = .int .i64 k) ∧
      (∀ i, i < k → 0 ≤ l.getD i 0 ∧ l.getD i 0 < m.events) ∧ Blk w' w.heap.size 25 (a.cells m) ∧ Below w.heap.size w w')
    (fun f _ => l.length - (intOf (f 9)).toNat) ⟨0, Nat.zero_le _, ⟨rfl, rfl, rfl, rfl⟩, fun i hi => absurd hi (by omega), k1, b1⟩ ?_
  rintro f w2 ⟨k, hk, fr, hp, k2, b2⟩ J hJ
  by_cases hlt : k < l.length
  case neg =>
    have r : decide (IsWord m l) = true := decide_eq_true fun i hi => hp i (by omega)
    simp (disch := first | with_reducible assumption | omega) only [push_cast, x_blk, x_cd, ↓reduceIte, Nat.reduceEqDiff, List.map_cons, List.map_nil, Int.reduceEq, Int.lt_irrefl, L_machine_word_0, fr, hlt]
    exact fin_1 (hQ _ _ ⟨(by simp only [push_cast, ↓reduceIte, Nat.reduceEqDiff, Int.reduceEq, r]), b2⟩)
  have hI := h.below b2
  have hA := hI.isSome (by omega)
  by_cases c1 : l.getD k 0 < 0
  · have r : decide (IsWord m l) = false := decide_eq_false fun hh => by have := (hh k hlt).1; omega
    simp (disch := first | with_reducible assumption | omega) only [push_cast, x_blk, x_cd, ↓reduceIte, Nat.reduceEqDiff, List.map_cons, List.map_nil, Int.reduceEq, Int.lt_irrefl, L_machine_word_0, fr, hlt, hI.ld ty_ag_3, c1]
    exact fin_1 (hQ _ _ ⟨(by simp only [push_cast, ↓reduceIte, Nat.reduceEqDiff, Int.reduceEq, r]), b2⟩)
  by_cases c2 : m.events ≤ l.getD k 0
  · have r : decide (IsWord m l) = false := decide_eq_false fun hh => by have := (hh k hlt).2; omega
    simp (disch := first | with_reducible assumption | omega) only [push_cast, x_blk, x_cd, ↓reduceIte, Nat.reduceEqDiff, List.map_cons, List.map_nil, Int.reduceEq, Int.lt_irrefl, L_machine_word_0, fr, hlt, hI.ld ty_ag_3, c1, c2, k2.m1 ty_ag_3]
    exact fin_1 (hQ _ _ ⟨(by simp only [push_cast, ↓reduceIte, Nat.reduceEqDiff, Int.reduceEq, r]), b2⟩)
  simp (disch := first | with_reducible assumption | omega) only [push_cast, x_blk, x_cd, ↓reduceIte, Nat.reduceEqDiff, List.map_cons, List.map_nil, Int.reduceEq, Int.lt_irrefl, L_machine_word_0, fr, hlt, hI.ld ty_ag_3, c1, c2, k2.m1 ty_ag_3]
  exact hJ _ _ ⟨k + 1, hlt, (by simp only [push_cast, ↓reduceIte, Nat.reduceEqDiff, true_and, and_true, and_self, eq_self, fr]), fun i hi => if e : i = k then e ▸ ⟨by omega, by omega⟩ else hp i (by omega), k2, b2⟩ (by simp only [push_cast, ↓reduceIte, Nat.reduceEqDiff, intOf, fr]; omega)

/-- Where runs of a word end. -/
def afterL (m : Mach) (l : List Int) (word : List Int) : List Int := word.foldl (stepL m) l
theorem afterL_snoc (m : Mach) (l word : List Int) (k : Nat) (h : k < word.length) : afterL m l (word.take (k + 1)) = stepL m (afterL m l (word.take k)) (word.getD k 0) := by
  unfold afterL
  rw [take_snoc _ 0 k h, List.foldl_append]
  rfl
theorem afterL_row {m : Mach} (hm : m.May) {l : List Int} (hl : IsRow l m.states) : ∀ word : List Int, IsRow (afterL m l word) m.states := by
  intro word
  unfold afterL
  induction word generalizing l with
  | nil => exact hl
  | cons e word ih => exact ih (stepL_row hm l e)
def AfterRes (m : Mach) (l word : List Int) (w : World) (v : Value) (w' : World) : Prop :=
  ∃ O co o e, v = .tuple #[.slice O o.length co, .int .i64 e] ∧ OwnI w.heap.size 3 w' O co o ∧ Below w.heap.size w w' ∧
    (m.May ∧ IsRow l m.states ∧ IsWord m word → e = 0 ∧ o = afterL m l word) ∧ (¬ (m.May ∧ IsRow l m.states) → e = 2 ∧ o = []) ∧ ((m.May ∧ IsRow l m.states) ∧ ¬ IsWord m word → e = 6 ∧ o = [])
theorem machine_After {w : World} {a : MV} {m : Mach} (h : IsM (· < w.heap.size) w a m) (hf : m.Fits) (hT : Tab w)
    {A1 A2 : Option Addr} {c1 c2 : Nat} {l word : List Int} (h1 : Ints (· < w.heap.size) w A1 l) (h2 : Ints (· < w.heap.size) w A2 word) (n1 : l.length ≤ 17592186043904) (n2 : word.length ≤ 17592186043904) :
    Cal Tryd.prog 15 [a.val m, .slice A1 l.length c1, .slice A2 word.length c2] w (AfterRes m l word w) := by
  refine cal_machine_After (by simp) 100000 fun Q hQ => ?_
  simp (disch := first | with_reducible assumption | omega) only [push_cast, x_blk, x_cd, ↓reduceIte, Nat.reduceEqDiff, List.map_cons, List.map_nil, Int.reduceEq, Int.lt_irrefl, F_machine_After]
  refine blk_of (box_agg _ (a.cells m)) ?_
  intro w1 k1 b1 z1
  simp (disch := first | with_reducible assumption | omega) only [push_cast, x_blk, x_cd, ↓reduceIte, Nat.reduceEqDiff, List.map_cons, List.map_nil, Int.reduceEq, Int.lt_irrefl, k1.mA ty_ag_25 ty_sz_25]
  refine call_of (machine_May ((h.below b1).mono fun b hb => by omega) hf) ?_
  rintro v w2 ⟨rfl, b2⟩
  have k2 := k1.below b2 (by omega)
  have b2 := b1.trans (b2.mono b1.size)
  by_cases p1 : m.May
  case neg =>
    simp (disch := first | with_reducible assumption | omega) only [push_cast, x_blk, x_cd, ↓reduceIte, Nat.reduceEqDiff, List.map_cons, List.map_nil, Int.reduceEq, Int.lt_irrefl, p1]
    exact fin_2 (hQ _ _ ⟨none, 0, [], 2, (by simp only [push_cast, ↓reduceIte, Nat.reduceEqDiff, Int.reduceEq, List.length_nil]), Own.nil _ _ _ _, b2, fun hh => absurd hh.1 p1, fun _ => ⟨rfl, rfl⟩, fun hh => absurd hh.1.1 p1⟩)
  have hst : m.states ≤ 256 := p1.2.1
  simp (disch := first | with_reducible assumption | omega) only [push_cast, x_blk, x_cd, ↓reduceIte, Nat.reduceEqDiff, List.map_cons, List.map_nil, Int.reduceEq, Int.lt_irrefl, p1, k2.m0 ty_ag_3]
  refine call_of (row_Is (h1.below b2) c1 m.states (by omega)) ?_
  rintro v w3 ⟨rfl, s3⟩
  have k3 := k2.same s3
  have b3 := b2.trans (s3.below _)
  by_cases p2 : IsRow l m.states
  case neg =>
    simp (disch := first | with_reducible assumption | omega) only [push_cast, x_blk, x_cd, ↓reduceIte, Nat.reduceEqDiff, List.map_cons, List.map_nil, Int.reduceEq, Int.lt_irrefl, p2]
    exact fin_2 (hQ _ _ ⟨none, 0, [], 2, (by simp only [push_cast, ↓reduceIte, Nat.reduceEqDiff, Int.reduceEq, List.length_nil]), Own.nil _ _ _ _, b3, fun hh => absurd hh.2.1 p2, fun _ => ⟨rfl, rfl⟩, fun hh => absurd hh.1.2 p2⟩)
  simp (disch := first | with_reducible assumption | omega) only [push_cast, x_blk, x_cd, ↓reduceIte, Nat.reduceEqDiff, List.map_cons, List.map_nil, Int.reduceEq, Int.lt_irrefl, p2, k3.mA ty_ag_25 ty_sz_25]
  refine call_of (machine_word (ok := fun _ => True) ((h2.below b3).mono fun b hb => by have := b3.size; omega) c2 n2) ?_
  rintro v w4 ⟨rfl, b4⟩
  have k4 := k3.below b4 k3.lt
  have b4 := b3.trans (b4.mono b3.size)
  by_cases p3 : IsWord m word
  case neg =>
    simp (disch := first | with_reducible assumption | omega) only [push_cast, x_blk, x_cd, ↓reduceIte, Nat.reduceEqDiff, List.map_cons, List.map_nil, Int.reduceEq, Int.lt_irrefl, p3]
    exact fin_2 (hQ _ _ ⟨none, 0, [], 6, (by simp only [push_cast, ↓reduceIte, Nat.reduceEqDiff, Int.reduceEq, List.length_nil]), Own.nil _ _ _ _, b4, fun hh => absurd hh.2.2 p3, fun hh => absurd ⟨p1, p2⟩ hh, fun _ => ⟨rfl, rfl⟩⟩)
  simp (disch := first | with_reducible assumption | omega) only [push_cast, x_blk, x_cd, ↓reduceIte, Nat.reduceEqDiff, List.map_cons, List.map_nil, Int.reduceEq, Int.lt_irrefl, p3]
  refine call_of (machine_Of' ((h1.below b4).mono fun b hb => by have := b4.size; omega) c1 n1 (p2.small hst)) ?_
  rintro v w5 ⟨rfl, b5⟩
  have k5 := k4.below b5 k4.lt
  have b5 := b4.trans (b5.mono b4.size)
  have z5a := k5.lt
  simp (disch := first | with_reducible assumption | omega) only [push_cast, x_blk, x_cd, ↓reduceIte, Nat.reduceEqDiff, List.map_cons, List.map_nil, Int.reduceEq, Int.lt_irrefl]
  refine blk_of (cs := setCells (wordsOf [])) al_69 ?_
  intro w6 k6 b6 z6
  have k5 := k5.below b6 k5.lt
  have b6 := b5.trans (b6.mono b5.size)
  have e4 : ∀ l : List Int, tySize Tryd.prog 69 = some (setCells (wordsOf l)).length := fun l => by rw [setCells_4]; exact ty_sz_69
  simp (disch := first | with_reducible assumption | omega) only [push_cast, x_blk, x_cd, ↓reduceIte, Nat.reduceEqDiff, List.map_cons, List.map_nil, Int.reduceEq, Int.lt_irrefl]
  refine sto_blk k6 (e4 l) (by rw [setCells_4, setCells_4]) (setCells_one _) ?_
  intro w7 k7 g7 z7
  have z5 := b5.size
  have hne : w.heap.size ≠ w5.heap.size := by intro e; omega
  have k5 := k5.grown g7.by_ (by simpa using hne)
  have b7 := g7.below b6 (by omega) (by intro a ha; injection ha with ha; subst ha; show w.heap.size ≤ w5.heap.size; omega)
  simp (disch := first | with_reducible assumption | omega) only [push_cast, x_blk, x_cd, ↓reduceIte, Nat.reduceEqDiff, List.map_cons, List.map_nil, Int.reduceEq, Int.lt_irrefl]
  refine loop_rule (fun f w' => ∃ k : Nat, k ≤ word.length ∧ (f 3 = .pointer (some ⟨w.heap.size, 0, none⟩) ∧ f 8 = .pointer (some ⟨w5.heap.size, 0, none⟩) ∧ f 29 = .slice A2 word.length c2 ∧ f 30 = .int .i64 word.length ∧ f 31 = .int .i64 k) ∧
      Blk w' w.heap.size 25 (a.cells m) ∧ Blk w' w5.heap.size 69 (setCells (wordsOf (afterL m l (word.take k)))) ∧ Below w.heap.size w w')
    (fun f _ => word.length - (intOf (f 31)).toNat) ⟨0, Nat.zero_le _, ⟨rfl, rfl, rfl, rfl, rfl⟩, k5, k7, b7⟩ ?_
  rintro f w8 ⟨k, hk, fr, kM, kS, b8⟩ J hJ
  by_cases hlt : k < word.length
  case neg =>
    obtain rfl : k = word.length := by omega
    rw [List.take_length] at kS
    have hrow := afterL_row p1 p2 word
    simp (disch := first | with_reducible assumption | omega) only [push_cast, x_blk, x_cd, ↓reduceIte, Nat.reduceEqDiff, List.map_cons, List.map_nil, Int.reduceEq, Int.lt_irrefl, L_machine_After_0, fr, Nat.lt_irrefl, kS.setA (wordsOf_words _) ty_ag_69 ty_sz_69]
    refine call_of (set_Row' hrow.strict (hrow.small hst) (hT.below b8 hT.lt)) ?_
    rintro v w9 ⟨O, co, rfl, ho, b9⟩
    simp (disch := first | with_reducible assumption | omega) only [push_cast, x_blk, x_cd, ↓reduceIte, Nat.reduceEqDiff, List.map_cons, List.map_nil, Int.reduceEq, Int.lt_irrefl]
    exact fin_2 (hQ _ _ ⟨O, co, _, 0, (by simp only [push_cast, ↓reduceIte, Nat.reduceEqDiff, Int.reduceEq]), ho.base b8.size, b8.trans (b9.mono b8.size), fun _ => ⟨rfl, rfl⟩, fun hh => absurd ⟨p1, p2⟩ hh, fun hh => absurd p3 hh.2⟩)
  have hI := (h2.below b8)
  have hA := hI.isSome (by omega)
  simp (disch := first | with_reducible assumption | omega) only [push_cast, x_blk, x_cd, ↓reduceIte, Nat.reduceEqDiff, List.map_cons, List.map_nil, Int.reduceEq, Int.lt_irrefl, L_machine_After_0, fr, hlt, hI.ld ty_ag_3, kM.mA ty_ag_25 ty_sz_25, kS.setA (wordsOf_words _) ty_ag_69 ty_sz_69]
  refine call_of (machine_Step ((h.below b8).mono fun b hb => by have := b8.size; omega) p1 _ _) ?_
  rintro v w9 ⟨rfl, b9⟩
  have kM9 := kM.below b9 kM.lt
  have kS9 := kS.below b9 kS.lt
  have b9 := b8.trans (b9.mono b8.size)
  simp (disch := first | with_reducible assumption | omega) only [push_cast, x_blk, x_cd, ↓reduceIte, Nat.reduceEqDiff, List.map_cons, List.map_nil, Int.reduceEq, Int.lt_irrefl, fr]
  refine sto_blk kS9 (e4 _) (by rw [setCells_4, setCells_4]) (setCells_one _) ?_
  intro w10 k10 g10 z10
  simp (disch := first | with_reducible assumption | omega) only [push_cast, x_blk, x_cd, ↓reduceIte, Nat.reduceEqDiff, List.map_cons, List.map_nil, Int.reduceEq, Int.lt_irrefl, fr]
  exact hJ _ _ ⟨k + 1, hlt, (by simp only [push_cast, ↓reduceIte, Nat.reduceEqDiff, true_and, and_true, and_self, eq_self, fr]), kM9.grown g10.by_ (by simpa using hne), by rw [afterL_snoc _ _ _ _ hlt]; exact k10, g10.below b9 b9.size (by intro a ha; injection ha with ha; subst ha; show w.heap.size ≤ w5.heap.size; omega)⟩ (by simp only [push_cast, ↓reduceIte, Nat.reduceEqDiff, intOf, fr]; omega)
end Go.Proofs.YtiabkafgmanhiaaDoor
