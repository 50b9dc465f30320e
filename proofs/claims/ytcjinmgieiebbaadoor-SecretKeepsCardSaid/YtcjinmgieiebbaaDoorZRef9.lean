/-
  Chapter 9's reference: From, Estimate, Tells, Has, Forward, Lesser, Best; the laws' seen, all, best: by their contracts.
-/
import Derived.Test.YtcjinmgieiebbaaDoorZRef5
import Derived.Test.YtcjinmgieiebbaaDoorZCur
import Derived.Test.YtcjinmgieiebbaaDoorZCurB
import Derived.Test.YtcjinmgieiebbaaDoorZLay
namespace Go.Proofs.YtcjinmgieiebbaaDoor
set_option linter.unusedSimpArgs false
set_option linter.unusedVariables false
set_option linter.unusedSectionVars false
open Go.RowKit

theorem ref9_Lesser {ok ok' : Nat → Prop} {w : World} {A A' : Option Addr} {l m : List Int} (h : Ints ok w A l) (h' : Ints ok' w A' m) (c c' : Nat) (hl : l.length ≤ 9223372036854775807) :
    Cal Tryd.prog 31 [.slice A l.length c, .slice A' m.length c'] w fun v w' => v = .bool (decide (Shl l m)) ∧ Same w w' := by
  refine cal_ref9_Lesser (by simp) 100000 fun Q hQ => ?_
  by_cases hlen : (l.length : Int) = (m.length : Int)
  case neg =>
    have r : decide (Shl l m) = decide ((l.length : Int) < (m.length : Int)) := decide_eq_decide.2 ⟨fun h => by rcases h with h | ⟨h, _⟩ <;> omega, fun h => .inl (by omega)⟩
    simp (disch := first | with_reducible assumption | omega) only [push_cast, x_blk, x_cd, ↓reduceIte, Nat.reduceEqDiff, List.map_cons, List.map_nil, Int.reduceEq, Int.lt_irrefl, F_ref9_Lesser, hlen]
    exact fin_1 (hQ _ _ ⟨(by simp only [push_cast, ↓reduceIte, Nat.reduceEqDiff, Int.reduceEq, r]), Same.refl _⟩)
  have hlen' : l.length = m.length := by omega
  simp (disch := first | with_reducible assumption | omega) only [push_cast, x_blk, x_cd, ↓reduceIte, Nat.reduceEqDiff, List.map_cons, List.map_nil, Int.reduceEq, Int.lt_irrefl, F_ref9_Lesser, hlen, eq_self]
  refine loop_rule (fun f w' => ∃ k : Nat, k ≤ l.length ∧ (f 0 = .slice A l.length c ∧ f 1 = .slice A' m.length c' ∧ f 5 = .int .i64 k) ∧ (∀ i, i < k → l.getD i 0 = m.getD i 0) ∧ Same w w')
    (fun f _ => l.length - (intOf (f 5)).toNat) ⟨0, Nat.zero_le _, ⟨rfl, rfl, rfl⟩, fun i hi => absurd hi (by omega), Same.refl w⟩ ?_
  rintro f w1 ⟨k, hk, fr, hp, s1⟩ J hJ
  by_cases hlt : k < l.length
  case neg =>
    have r : decide (Shl l m) = false := decide_eq_false fun h => by
      rcases h with h | ⟨_, i, hi, _, h⟩
      · omega
      · rw [hp i (by omega)] at h; omega
    simp (disch := first | with_reducible assumption | omega) only [push_cast, x_blk, x_cd, ↓reduceIte, Nat.reduceEqDiff, List.map_cons, List.map_nil, Int.reduceEq, Int.lt_irrefl, L_ref9_Lesser_0, fr, hlt]
    exact fin_1 (hQ _ _ ⟨(by simp only [push_cast, ↓reduceIte, Nat.reduceEqDiff, Int.reduceEq, r]), s1⟩)
  have hI := (h.same s1).drew
  have hI' := (h'.same s1).drew
  have hA := hI.isSome (by omega)
  have hA' := hI'.isSome (by omega)
  have hlt' : k < m.length := by omega
  by_cases c1 : l.getD k 0 = m.getD k 0
  · simp (disch := first | with_reducible assumption | omega) only [push_cast, x_blk, x_cd, ↓reduceIte, Nat.reduceEqDiff, List.map_cons, List.map_nil, Int.reduceEq, Int.lt_irrefl, L_ref9_Lesser_0, fr, hlt, hlt', hI.ld ty_ag_3, hI'.ld ty_ag_3, c1, eq_self]
    exact hJ _ _ ⟨k + 1, hlt, (by simp only [push_cast, ↓reduceIte, Nat.reduceEqDiff, true_and, and_true, and_self, eq_self, fr]), fun i hi => if e : i = k then e ▸ c1 else hp i (by omega), s1.drew⟩ (by simp only [push_cast, ↓reduceIte, Nat.reduceEqDiff, intOf, fr]; omega)
  · have r : decide (Shl l m) = decide (l.getD k 0 < m.getD k 0) := decide_eq_decide.2 ⟨fun h => by
      rcases h with h | ⟨_, i, hi, he, h⟩
      · omega
      · rcases Nat.lt_trichotomy i k with d | rfl | d
        · rw [hp i d] at h; omega
        · exact h
        · exact absurd (he k d) c1, fun h => .inr ⟨hlen', k, hlt, hp, h⟩⟩
    have hI2 := hI.drew
    have hI2' := hI'.drew
    simp (disch := first | with_reducible assumption | omega) only [push_cast, x_blk, x_cd, ↓reduceIte, Nat.reduceEqDiff, List.map_cons, List.map_nil, Int.reduceEq, Int.lt_irrefl, L_ref9_Lesser_0, fr, hlt, hlt', hI.ld ty_ag_3, hI'.ld ty_ag_3, hI2.ld ty_ag_3, hI2'.ld ty_ag_3, c1]
    exact fin_1 (hQ _ _ ⟨(by simp only [push_cast, ↓reduceIte, Nat.reduceEqDiff, Int.reduceEq, r]), s1.drew.drew⟩)

theorem ref5_Seen {w : World} {A : Option Addr} {l : List Int} (h : Ints (· < w.heap.size) w A l) (c : Nat) {A1 : Option Addr} {m : List Int} (h' : Ints (· < w.heap.size) w A1 m) (c1 : Nat) (hl : l.length ≤ 17592186043904) (hm : m.length ≤ 9223372036854775807) :
    Cal Tryd.prog 28 [.slice A l.length c, .slice A1 m.length c1] w fun v w' => ∃ O co, v = .slice O (onlyL l m true).length co ∧ OwnI w.heap.size 3 w' O co (onlyL l m true) ∧ Below w.heap.size w w' := by
  refine cal_ref5_Seen (by simp) 100000 fun Q hQ => ?_
  simp (disch := first | with_reducible assumption | omega) only [push_cast, x_blk, x_cd, ↓reduceIte, Nat.reduceEqDiff, List.map_cons, List.map_nil, Int.reduceEq, Int.lt_irrefl, F_ref5_Seen]
  refine call_of (ref1_Only h h' c c1 true hl hm) ?_
  rintro v w2 ⟨O, co, rfl, o2, b2⟩
  simp (disch := first | with_reducible assumption | omega) only [push_cast, x_blk, x_cd, ↓reduceIte, Nat.reduceEqDiff, List.map_cons, List.map_nil, Int.reduceEq, Int.lt_irrefl]
  exact fin_1 (hQ _ _ ⟨O, co, rfl, o2, b2⟩)

structure Kn where
  R : Option Addr
  cr : Nat
  r : List Int
  W : Option Addr
  cw : Nat
  w : List Int
def Kn.cells (p : Kn) : List Value := [.slice p.R p.r.length p.cr, .slice p.W p.w.length p.cw]
def Kn.abs (p : Kn) : List Int × List Int := (p.r, p.w)
/-- What is known, and can be read. -/
structure KnAt (B : Nat) (w : World) (p : Kn) : Prop where
  r : RowT B 3 w p.R p.r
  w : RowT B 3 w p.W p.w
  nr : p.r.length ≤ 256
  nw : p.w.length ≤ 100000
theorem KnAt.below {B : Nat} {w w' : World} {p : Kn} (h : KnAt B w p) (b : Below w.heap.size w w') : KnAt B w' p := ⟨h.r.below b, h.w.below b, h.nr, h.nw⟩
theorem KnAt.grew {B e' sz c n : Nat} {w w' : World} {p : Kn} {A2 : Option Addr} {xs : List Value} (h : KnAt B w p) (ho : Own B e' sz w A2 c n xs) (hne : e' ≠ 3) (hg : Grew w w' A2) : KnAt B w' p := ⟨h.r.grew ho hne hg, h.w.grew ho hne hg, h.nr, h.nw⟩
def OptIs (o : Option (List Int)) (b : Bool) (w : List Int) : Prop := match o with
  | some v => b = true ∧ w = v
  | none => b = false ∧ w = []
end Go.Proofs.YtcjinmgieiebbaaDoor
