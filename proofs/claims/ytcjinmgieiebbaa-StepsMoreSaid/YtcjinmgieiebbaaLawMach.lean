/-
  The laws on machines: MachineTells, MachineSplits: they return true.
-/
import Derived.Test.YtcjinmgieiebbaaBfs
import Derived.Test.YtcjinmgieiebbaaSetAll
import Derived.Test.YtcjinmgieiebbaaOwn
import Derived.KernelRfl
namespace Go.Proofs.Ytcjinmgieiebbaa
set_option linter.unusedSimpArgs false
set_option linter.unusedVariables false
set_option linter.unusedSectionVars false
open Go.RowKit

theorem keep_same {ok ok' : Nat → Prop} {w : World} {A A' : Option Addr} {l m : List Int} (h : Ints ok w A l) (h' : Ints ok' w A' m) (c c' : Nat) (hl : l.length ≤ 9223372036854775807) :
    Cal Try.prog 17 [.slice A l.length c, .slice A' m.length c'] w fun v w' => v = .bool (decide (l = m)) ∧ Same w w' := by
  refine cal_keep_same (by simp) 100000 fun Q hQ => ?_
  by_cases hlen : (l.length : Int) = (m.length : Int)
  case neg =>
    have r : decide (l = m) = false := decide_eq_false fun h => hlen (by rw [h])
    simp (disch := first | with_reducible assumption | omega) only [push_cast, x_blk, x_cd, ↓reduceIte, Nat.reduceEqDiff, List.map_cons, List.map_nil, Int.reduceEq, Int.lt_irrefl, F_keep_same, hlen]
    exact fin_1 (hQ _ _ ⟨(by simp only [push_cast, ↓reduceIte, Nat.reduceEqDiff, Int.reduceEq, r]), Same.refl _⟩)
  have hlen' : l.length = m.length := by omega
  simp (disch := first | with_reducible assumption | omega) only [push_cast, x_blk, x_cd, ↓reduceIte, Nat.reduceEqDiff, List.map_cons, List.map_nil, Int.reduceEq, Int.lt_irrefl, F_keep_same, hlen, eq_self]
  refine loop_rule (fun f w' => ∃ k : Nat, k ≤ l.length ∧ (f 0 = .slice A l.length c ∧ f 1 = .slice A' m.length c' ∧ f 5 = .int .i64 k) ∧ (∀ i, i < k → l.getD i 0 = m.getD i 0) ∧ Same w w')
    (fun f _ => l.length - (intOf (f 5)).toNat) ⟨0, Nat.zero_le _, ⟨rfl, rfl, rfl⟩, fun i hi => absurd hi (by omega), Same.refl w⟩ ?_
  rintro f w1 ⟨k, hk, fr, hp, s1⟩ J hJ
  by_cases hlt : k < l.length
  case neg =>
    have r : decide (l = m) = true := decide_eq_true (ext_getD 0 hlen' fun i hi => hp i (by omega))
    simp (disch := first | with_reducible assumption | omega) only [push_cast, x_blk, x_cd, ↓reduceIte, Nat.reduceEqDiff, List.map_cons, List.map_nil, Int.reduceEq, Int.lt_irrefl, L_keep_same_0, fr, hlt]
    exact fin_1 (hQ _ _ ⟨(by simp only [push_cast, ↓reduceIte, Nat.reduceEqDiff, Int.reduceEq, r]), s1⟩)
  have hI := (h.same s1).drew
  have hI' := (h'.same s1).drew
  have hA := hI.isSome (by omega)
  have hA' := hI'.isSome (by omega)
  have hlt' : k < m.length := by omega
  by_cases c1 : l.getD k 0 = m.getD k 0
  · simp (disch := first | with_reducible assumption | omega) only [push_cast, x_blk, x_cd, ↓reduceIte, Nat.reduceEqDiff, List.map_cons, List.map_nil, Int.reduceEq, Int.lt_irrefl, L_keep_same_0, fr, hlt, hlt', hI.ld ty_ag_3, hI'.ld ty_ag_3, c1, eq_self]
    exact hJ _ _ ⟨k + 1, hlt, (by simp only [push_cast, ↓reduceIte, Nat.reduceEqDiff, true_and, and_true, and_self, eq_self, fr]), fun i hi => if e : i = k then e ▸ c1 else hp i (by omega), s1.drew⟩ (by simp only [push_cast, ↓reduceIte, Nat.reduceEqDiff, intOf, fr]; omega)
  · have r : decide (l = m) = false := decide_eq_false fun h => c1 (by rw [h])
    simp (disch := first | with_reducible assumption | omega) only [push_cast, x_blk, x_cd, ↓reduceIte, Nat.reduceEqDiff, List.map_cons, List.map_nil, Int.reduceEq, Int.lt_irrefl, L_keep_same_0, fr, hlt, hlt', hI.ld ty_ag_3, hI'.ld ty_ag_3, c1]
    exact fin_1 (hQ _ _ ⟨(by simp only [push_cast, ↓reduceIte, Nat.reduceEqDiff, Int.reduceEq, r]), s1.drew⟩)

def mach1 : Mach := ⟨1, 0, [], [], []⟩
theorem mach1_built {K : Fr → World → Prop} {u : World} {f : Fr} {d : Option Nat} {w : World} : Val1 Try.prog K (Instr.build 25 #[(0, .int .i64 1)]) u f d w = K (updO f d (MV.val ⟨none, 0, none, 0, none, 0⟩ mach1)) w := bld_of (by kernel_rfl)
theorem isWord_append {m : Mach} {a b : List Int} : IsWord m (a ++ b) ↔ IsWord m a ∧ IsWord m b := by
  have key : ∀ l : List Int, IsWord m l ↔ ∀ x ∈ l, 0 ≤ x ∧ x < m.events := fun l => ⟨fun h x hx => by
    obtain ⟨i, hi, rfl⟩ := (mem_iff_getD l 0 x).1 hx
    exact h i hi, fun h i hi => h _ (getD_mem l 0 i hi)⟩
  rw [key, key, key]
  exact ⟨fun h => ⟨fun x hx => h x (List.mem_append_left _ hx), fun x hx => h x (List.mem_append_right _ hx)⟩, fun h x hx => (List.mem_append.1 hx).elim (h.1 x) (h.2 x)⟩
end Go.Proofs.Ytcjinmgieiebbaa
