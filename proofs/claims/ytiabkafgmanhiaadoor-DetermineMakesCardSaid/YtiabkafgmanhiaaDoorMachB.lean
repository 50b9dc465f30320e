/-
  Chapter 2: the program's order of arrows and its May: by their contracts.
-/
import Derived.Test.YtiabkafgmanhiaaDoorMachA
namespace Go.Proofs.YtiabkafgmanhiaaDoor
set_option linter.unusedSimpArgs false
set_option linter.unusedVariables false
set_option linter.unusedSectionVars false
open Go.RowKit

theorem cmp_isNaN (a : Int) (w : World) : Cal Tryd.prog 121 [.int .i64 a] w fun v w' => v = .bool false ∧ Same w w' := by
  refine cal_cmp_isNaN (by simp) 100000 fun Q hQ => ?_
  simp (disch := first | with_reducible assumption | omega) only [push_cast, x_blk, x_cd, ↓reduceIte, Nat.reduceEqDiff, List.map_cons, List.map_nil, Int.reduceEq, Int.lt_irrefl, F_cmp_isNaN, eq_self]
  exact fin_1 (hQ _ _ ⟨(by simp only [push_cast, ↓reduceIte, Nat.reduceEqDiff, Int.reduceEq]), Same.refl _⟩)
def cmpI (x y : Int) : Int := if x < y then -1 else if y < x then 1 else 0
theorem cmp_Compare (x y : Int) (w : World) : Cal Tryd.prog 104 [.int .i64 x, .int .i64 y] w fun v w' => v = .int .i64 (cmpI x y) ∧ Same w w' := by
  refine cal_cmp_Compare (by simp) 100000 fun Q hQ => ?_
  simp (disch := first | with_reducible assumption | omega) only [push_cast, x_blk, x_cd, ↓reduceIte, Nat.reduceEqDiff, List.map_cons, List.map_nil, Int.reduceEq, Int.lt_irrefl, F_cmp_Compare]
  refine call_of (cmp_isNaN x w) ?_
  rintro v w1 ⟨rfl, s1⟩
  simp (disch := first | with_reducible assumption | omega) only [push_cast, x_blk, x_cd, ↓reduceIte, Nat.reduceEqDiff, List.map_cons, List.map_nil, Int.reduceEq, Int.lt_irrefl]
  refine call_of (cmp_isNaN y w1) ?_
  rintro v w2 ⟨rfl, s2⟩
  by_cases c1 : x < y
  · have r : cmpI x y = -1 := if_pos c1
    simp (disch := first | with_reducible assumption | omega) only [push_cast, x_blk, x_cd, ↓reduceIte, Nat.reduceEqDiff, List.map_cons, List.map_nil, Int.reduceEq, Int.lt_irrefl, c1]
    exact fin_1 (hQ _ _ ⟨(by simp only [push_cast, ↓reduceIte, Nat.reduceEqDiff, Int.reduceEq, r]), s1.trans s2⟩)
  by_cases c2 : y < x
  · have r : cmpI x y = 1 := by unfold cmpI; rw [if_neg c1, if_pos c2]
    simp (disch := first | with_reducible assumption | omega) only [push_cast, x_blk, x_cd, ↓reduceIte, Nat.reduceEqDiff, List.map_cons, List.map_nil, Int.reduceEq, Int.lt_irrefl, c1, c2]
    exact fin_1 (hQ _ _ ⟨(by simp only [push_cast, ↓reduceIte, Nat.reduceEqDiff, Int.reduceEq, r]), s1.trans s2⟩)
  · have r : cmpI x y = 0 := by unfold cmpI; rw [if_neg c1, if_neg c2]
    simp (disch := first | with_reducible assumption | omega) only [push_cast, x_blk, x_cd, ↓reduceIte, Nat.reduceEqDiff, List.map_cons, List.map_nil, Int.reduceEq, Int.lt_irrefl, c1, c2]
    exact fin_1 (hQ _ _ ⟨(by simp only [push_cast, ↓reduceIte, Nat.reduceEqDiff, Int.reduceEq, r]), s1.trans s2⟩)
def orL : List Int → Int
  | [] => 0
  | x :: l => if x = 0 then orL l else x
theorem orL_at : ∀ (l : List Int) (k : Nat), (∀ i, i < k → l.getD i 0 = 0) → orL l = orL (l.drop k)
  | _, 0, _ => rfl
  | [], _ + 1, _ => rfl
  | x :: l, k + 1, h => by
    have h0 := h 0 (by omega)
    simp only [List.getD_cons_zero] at h0
    rw [orL, if_pos h0, orL_at l k fun i hi => by simpa using h (i + 1) (by omega), List.drop_succ_cons]
theorem orL_here (l : List Int) (k : Nat) (hk : k < l.length) (h : ∀ i, i < k → l.getD i 0 = 0) (hn : ¬ l.getD k 0 = 0) : orL l = l.getD k 0 := by
  rw [orL_at l k h, List.drop_eq_getElem_cons hk, orL]
  have e : l[k] = l.getD k 0 := by simp [List.getD_eq_getElem?_getD, hk]
  rw [e, if_neg hn]
theorem cmp_Or {ok : Nat → Prop} {w : World} {A : Option Addr} {l : List Int} (h : Ints ok w A l) (c : Nat) (hl : l.length ≤ 9223372036854775807) :
    Cal Tryd.prog 103 [.slice A l.length c] w fun v w' => v = .int .i64 (orL l) ∧ Same w w' := by
  refine cal_cmp_Or (by simp) 100000 fun Q hQ => ?_
  simp (disch := first | with_reducible assumption | omega) only [push_cast, x_blk, x_cd, ↓reduceIte, Nat.reduceEqDiff, List.map_cons, List.map_nil, Int.reduceEq, Int.lt_irrefl, F_cmp_Or]
  refine loop_rule (fun f w' => ∃ k : Nat, k ≤ l.length ∧ f 3 = .int .i64 0 ∧ f 6 = .slice A l.length c ∧ f 7 = .int .i64 l.length ∧ f 8 = .int .i64 k ∧ (∀ i, i < k → l.getD i 0 = 0) ∧ Same w w')
    (fun f _ => l.length - (intOf (f 8)).toNat) ⟨0, Nat.zero_le _, rfl, rfl, rfl, rfl, fun i hi => absurd hi (by omega), Same.refl w⟩ ?_
  rintro f w1 ⟨k, hk, h3, h6, h7, h8, hp, hs⟩ J hJ
  have hI := h.same hs
  by_cases hlt : k < l.length
  · have hA := h.isSome (by omega)
    by_cases c1 : l.getD k 0 = 0
    · simp (disch := first | with_reducible assumption | omega) only [push_cast, x_blk, x_cd, ↓reduceIte, Nat.reduceEqDiff, List.map_cons, List.map_nil, Int.reduceEq, Int.lt_irrefl, L_cmp_Or_0, h3, h6, h7, h8, hlt, c1, hI.ld ty_ag_3]
      exact hJ _ _ ⟨k + 1, hlt, (by simp only [push_cast, ↓reduceIte, Nat.reduceEqDiff, Int.reduceEq, h3]), (by simp only [push_cast, ↓reduceIte, Nat.reduceEqDiff, Int.reduceEq, h6]), (by simp only [push_cast, ↓reduceIte, Nat.reduceEqDiff, Int.reduceEq, h7]), (by simp only [push_cast, ↓reduceIte, Nat.reduceEqDiff, Int.reduceEq]), fun i hi => if e : i = k then e ▸ c1 else hp i (by omega), hs⟩ (by simp only [push_cast, ↓reduceIte, Nat.reduceEqDiff, h8, intOf]; omega)
    · have r := orL_here l k hlt hp c1
      simp (disch := first | with_reducible assumption | omega) only [push_cast, x_blk, x_cd, ↓reduceIte, Nat.reduceEqDiff, List.map_cons, List.map_nil, Int.reduceEq, Int.lt_irrefl, L_cmp_Or_0, h3, h6, h7, h8, hlt, c1, hI.ld ty_ag_3]
      exact fin_1 (hQ _ _ ⟨(by simp only [push_cast, ↓reduceIte, Nat.reduceEqDiff, Int.reduceEq, r]), hs⟩)
  · have r : orL l = 0 := by rw [orL_at l k hp, List.drop_eq_nil_of_le (by omega)]; rfl
    simp (disch := first | with_reducible assumption | omega) only [push_cast, x_blk, x_cd, ↓reduceIte, Nat.reduceEqDiff, List.map_cons, List.map_nil, Int.reduceEq, Int.lt_irrefl, L_cmp_Or_0, h3, h6, h7, h8, hlt]
    exact fin_1 (hQ _ _ ⟨(by simp only [push_cast, ↓reduceIte, Nat.reduceEqDiff, Int.reduceEq, r]), hs⟩)

def ordA (a b : Arr) : Int := orL [cmpI a.frm b.frm, cmpI a.evt b.evt, cmpI a.to_ b.to_]
theorem ordA_lt (a b : Arr) : 0 ≤ ordA a b ↔ ¬ a.lt b := by
  unfold ordA Arr.lt cmpI
  simp only [orL]
  repeat' split
  all_goals omega
theorem ints_blk {w : World} {g t : Nat} {l : List Int} (h : Blk w g t (iv l)) : Ints (· < w.heap.size) w (some ⟨g, 0, none⟩) l :=
  ⟨fun _ => rfl, fun _ => h.lt, fun i hi => by rw [eA_zero, h.cell]; simp [List.getD_eq_getElem?_getD, hi]⟩

theorem machine_order (a b : Arr) (w : World) :
    Cal Tryd.prog 62 [arrVal a, arrVal b] w fun v w' => v = .int .i64 (ordA a b) ∧ Below w.heap.size w w' := by
  refine cal_machine_order (by simp) 100000 fun Q hQ => ?_
  simp (disch := first | with_reducible assumption | omega) only [push_cast, x_blk, x_cd, ↓reduceIte, Nat.reduceEqDiff, List.map_cons, List.map_nil, Int.reduceEq, Int.lt_irrefl, F_machine_order]
  refine blk_of (box_agg _ (arrCells a)) ?_
  intro w1 k1 b1 z1
  simp (disch := first | with_reducible assumption | omega) only [push_cast, x_blk, x_cd, ↓reduceIte, Nat.reduceEqDiff, List.map_cons, List.map_nil, Int.reduceEq, Int.lt_irrefl]
  refine blk_of (box_agg _ (arrCells b)) ?_
  intro w2 k2 b2 z2
  have bb : Below w.heap.size w w2 := b1.trans (b2.mono b1.size)
  have k3 := (k1.below b2 (by omega)).drew
  have k4 := k2.drew
  simp (disch := first | with_reducible assumption | omega) only [push_cast, x_blk, x_cd, ↓reduceIte, Nat.reduceEqDiff, List.map_cons, List.map_nil, Int.reduceEq, Int.lt_irrefl, k4.a0 ty_ag_3, k4.a1 ty_ag_3, k4.a2 ty_ag_3, k3.a0 ty_ag_3, k3.a1 ty_ag_3, k3.a2 ty_ag_3]
  refine call_of (cmp_Compare _ _ _) ?_
  rintro v w3 ⟨rfl, s3⟩
  have q3 := s3.below w2.drew.heap.size
  simp (disch := first | with_reducible assumption | omega) only [push_cast, x_blk, x_cd, ↓reduceIte, Nat.reduceEqDiff, List.map_cons, List.map_nil, Int.reduceEq, Int.lt_irrefl]
  refine ⟨q3, ?_⟩
  refine call_of (cmp_Compare _ _ _) ?_
  rintro v w4 ⟨rfl, s4⟩
  have q4 := (s3.trans s4).below w2.drew.heap.size
  simp (disch := first | with_reducible assumption | omega) only [push_cast, x_blk, x_cd, ↓reduceIte, Nat.reduceEqDiff, List.map_cons, List.map_nil, Int.reduceEq, Int.lt_irrefl]
  refine ⟨q4, ?_⟩
  refine call_of (cmp_Compare _ _ _) ?_
  rintro v w5 ⟨rfl, s5⟩
  have q5 := ((s3.trans s4).trans s5).below w2.drew.heap.size
  simp (disch := first | with_reducible assumption | omega) only [push_cast, x_blk, x_cd, ↓reduceIte, Nat.reduceEqDiff, List.map_cons, List.map_nil, Int.reduceEq, Int.lt_irrefl]
  refine ⟨q5, ?_⟩
  refine blk_of (bsl3_eq slT_22 _ _ _) ?_
  intro w6 k6 b6 z6
  have q6 := q5.trans (b6.mono q5.size)
  simp (disch := first | with_reducible assumption | omega) only [push_cast, x_blk, x_cd, ↓reduceIte, Nat.reduceEqDiff, List.map_cons, List.map_nil, Int.reduceEq, Int.lt_irrefl]
  refine ⟨q6, ?_⟩
  refine call_of (cmp_Or (l := [cmpI a.frm b.frm, cmpI a.evt b.evt, cmpI a.to_ b.to_]) (ints_blk k6) 3 (by simp)) ?_
  rintro v w7 ⟨rfl, s7⟩
  have q7 := q6.trans (s7.below w2.drew.heap.size)
  simp (disch := first | with_reducible assumption | omega) only [push_cast, x_blk, x_cd, ↓reduceIte, Nat.reduceEqDiff, List.map_cons, List.map_nil, Int.reduceEq, Int.lt_irrefl]
  refine ⟨q7, ?_⟩
  exact fin_1 (hQ _ _ ⟨(by simp only [push_cast, ↓reduceIte, Nat.reduceEqDiff, Int.reduceEq, ordA]), (drawn bb).trans (q7.mono bb.size)⟩)

theorem machine_in (n b : Int) (w : World) : Cal Tryd.prog 61 [.int .i64 n, .int .i64 b] w fun v w' => v = .bool (decide (0 ≤ n ∧ n < b)) ∧ Same w w' := by
  refine cal_machine_May_1 (by simp) 100000 fun Q hQ => ?_
  by_cases c1 : 0 ≤ n
  · have r : decide (0 ≤ n ∧ n < b) = decide (n < b) := decide_eq_decide.2 (by omega)
    simp (disch := first | with_reducible assumption | omega) only [push_cast, x_blk, x_cd, ↓reduceIte, Nat.reduceEqDiff, List.map_cons, List.map_nil, Int.reduceEq, Int.lt_irrefl, F_machine_May_1, c1]
    exact fin_1 (hQ _ _ ⟨(by simp only [push_cast, ↓reduceIte, Nat.reduceEqDiff, Int.reduceEq, r]), Same.refl _⟩)
  · have r : decide (0 ≤ n ∧ n < b) = false := decide_eq_false (by omega)
    simp (disch := first | with_reducible assumption | omega) only [push_cast, x_blk, x_cd, ↓reduceIte, Nat.reduceEqDiff, List.map_cons, List.map_nil, Int.reduceEq, Int.lt_irrefl, F_machine_May_1, c1]
    exact fin_1 (hQ _ _ ⟨(by simp only [push_cast, ↓reduceIte, Nat.reduceEqDiff, Int.reduceEq, r]), Same.refl _⟩)
end Go.Proofs.YtiabkafgmanhiaaDoor
