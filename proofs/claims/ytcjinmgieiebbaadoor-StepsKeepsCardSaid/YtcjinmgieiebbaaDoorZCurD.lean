/-
  The laws CurrentTells, CurrentKeeps: they return true.
-/
import Derived.Test.YtcjinmgieiebbaaDoorZCurC
import Derived.Test.YtcjinmgieiebbaaDoorZLawMach
namespace Go.Proofs.YtcjinmgieiebbaaDoor
set_option linter.unusedSimpArgs false
set_option linter.unusedVariables false
set_option linter.unusedSectionVars false
open Go.RowKit

theorem keep_tells {w : World} {A : Option Addr} {c : Nat} {s : List Int} (h : Ints (· < w.heap.size) w A s) (n1 : s.length ≤ 17592186043904) {A2 : Option Addr} {c2 : Nat} {l : List Int} (h2 : Ints (· < w.heap.size) w A2 l) (n2 : l.length ≤ 17592186043904) :
    Cal Tryd.prog 22 [.slice A s.length c, .slice A2 l.length c2] w fun v w' => v = .bool (decide (TellsL s l)) ∧ Same w w' := by
  refine cal_keep_tells (by simp) 100000 fun Q hQ => ?_
  simp (disch := first | with_reducible assumption | omega) only [push_cast, x_blk, x_cd, ↓reduceIte, Nat.reduceEqDiff, List.map_cons, List.map_nil, Int.reduceEq, Int.lt_irrefl, F_keep_tells]
  refine loop_rule (fun f w' => ∃ k : Nat, k ≤ s.length ∧ (f 0 = .slice A s.length c ∧ f 1 = .slice A2 l.length c2 ∧ f 5 = .int .i64 k) ∧ (∀ i, i < k → s.getD i 0 ∈ l) ∧ Same w w')
    (fun f _ => s.length - (intOf (f 5)).toNat) ⟨0, Nat.zero_le _, ⟨rfl, rfl, rfl⟩, fun i hi => absurd hi (by omega), Same.refl w⟩ ?_
  rintro f w1 ⟨k, hk, fr, hp, s1⟩ J hJ
  by_cases hlt : k < s.length
  case neg =>
    have hall : AllIn s l := fun x hx => by
      obtain ⟨i, hi, rfl⟩ := (mem_iff_getD s 0 x).1 hx
      exact hp i (by omega)
    have r : decide (TellsL s l) = decide ((0 : Int) < (s.length : Int)) := decide_eq_decide.2 ⟨fun hh => by
      have := List.length_pos_iff.2 hh.1; omega, fun hh => ⟨fun e => by rw [e] at hh; simp at hh, hall⟩⟩
    simp (disch := first | with_reducible assumption | omega) only [push_cast, x_blk, x_cd, ↓reduceIte, Nat.reduceEqDiff, List.map_cons, List.map_nil, Int.reduceEq, Int.lt_irrefl, L_keep_tells_0, fr, hlt]
    exact fin_1 (hQ _ _ ⟨(by simp only [push_cast, ↓reduceIte, Nat.reduceEqDiff, Int.reduceEq, r]), s1⟩)
  have hI := h.same s1
  have hA := hI.isSome (by omega)
  have hin := getD_mem s 0 k hlt
  have hld := fun {K : Fr → World → Prop} {f : Fr} {d : Option Nat} {w : World} => hI.ld (P := Tryd.prog) (K := K) (f := f) (d := d) (w := w) ty_ag_3 k hlt
  generalize hx : s.getD k 0 = x at *
  simp (disch := first | with_reducible assumption | omega) only [push_cast, x_blk, x_cd, ↓reduceIte, Nat.reduceEqDiff, List.map_cons, List.map_nil, Int.reduceEq, Int.lt_irrefl, L_keep_tells_0, fr, hlt, hld]
  refine call_of (keep_has (h2.same s1) c2 x (by omega)) ?_
  rintro v w3 ⟨rfl, s3⟩
  by_cases q : x ∈ l
  · simp (disch := first | with_reducible assumption | omega) only [push_cast, x_blk, x_cd, ↓reduceIte, Nat.reduceEqDiff, List.map_cons, List.map_nil, Int.reduceEq, Int.lt_irrefl, fr, decide_eq_true q]
    exact hJ _ _ ⟨k + 1, hlt, (by simp only [push_cast, ↓reduceIte, Nat.reduceEqDiff, true_and, and_true, and_self, eq_self, fr]), fun i hi => if e : i = k then by rw [e, hx]; exact q else hp i (by omega), s1.trans s3⟩ (by simp only [push_cast, ↓reduceIte, Nat.reduceEqDiff, intOf, fr]; omega)
  · have r : decide (TellsL s l) = false := decide_eq_false fun hh => q (hh.2 x hin)
    simp (disch := first | with_reducible assumption | omega) only [push_cast, x_blk, x_cd, ↓reduceIte, Nat.reduceEqDiff, List.map_cons, List.map_nil, Int.reduceEq, Int.lt_irrefl, fr, decide_eq_false q]
    exact fin_1 (hQ _ _ ⟨(by simp only [push_cast, ↓reduceIte, Nat.reduceEqDiff, Int.reduceEq, r]), s1.trans s3⟩)
end Go.Proofs.YtcjinmgieiebbaaDoor
