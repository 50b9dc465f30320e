/-
  Chapter 10's reference: into, Began, Backward: by their contracts.
-/
import Derived.Test.YtcjinmgieiebbaaDoorZIniC
namespace Go.Proofs.YtcjinmgieiebbaaDoor
set_option linter.unusedSimpArgs false
set_option linter.unusedVariables false
set_option linter.unusedSectionVars false
open Go.RowKit

def intoT (p : Plt) (l : List Int) (e : Int) (s : Int) : Prop := 0 < (onlyL (seeL p.m p.seen (wideL p.m p.seen [s]) e) l true).length
noncomputable instance (p : Plt) (l : List Int) (e s : Int) : Decidable (intoT p l e s) := Classical.propDecidable _
theorem filter_snoc {α : Type} (l : List α) (x : α) (q : α → Bool) : (l ++ [x]).filter q = l.filter q ++ (if q x = true then [x] else []) := by
  rw [List.filter_append]
  congr 1
  by_cases h : q x = true
  · rw [if_pos h, List.filter_cons, if_pos h]; rfl
  · rw [if_neg h, List.filter_cons, if_neg h]; rfl
theorem one_row {s n : Int} (h0 : 0 ≤ s) (h1 : s < n) (h2 : n ≤ 256) : IsRow [s] n := IsRow.of_strict (List.pairwise_singleton _ _) fun x hx => by rw [List.mem_singleton.1 hx]; omega
theorem ref9_into {w : World} {a : PV} {p : Plt} (ha : IsP (· < w.heap.size) w a p) (hf : p.Fits) (hm : p.m.May) {A1 : Option Addr} {c1 : Nat} {l : List Int} (h1 : Ints (· < w.heap.size) w A1 l) (n1 : l.length ≤ 256) (e : Int) :
    Cal Tryd.prog 77 [a.val p, .slice A1 l.length c1, .int .i64 e] w fun v w' => ∃ O co, v = .slice O (intoL p.m p.seen l e).length co ∧ OwnI w.heap.size 3 w' O co (intoL p.m p.seen l e) ∧ Below w.heap.size w w' := by
  have nP := hf.lenP
  have hst : p.m.states ≤ 256 := hm.2.1
  have hs0 : 1 ≤ p.m.states := hm.1
  have key : intoL p.m p.seen l e = (evs p.m.states.toNat).filter fun s => decide (intoT p l e s) := by
    unfold intoL
    exact List.filter_congr fun x _ => decide_eq_decide.2 Iff.rfl
  rw [key]
  refine cal_ref9_into (by simp) 100000 fun Q hQ => ?_
  simp (disch := first | with_reducible assumption | omega) only [push_cast, x_blk, x_cd, ↓reduceIte, Nat.reduceEqDiff, List.map_cons, List.map_nil, Int.reduceEq, Int.lt_irrefl, F_ref9_into]
  refine blk_of (box_agg _ (a.cells p)) ?_
  intro w1 k1 b1 z1
  simp (disch := first | with_reducible assumption | omega) only [push_cast, x_blk, x_cd, ↓reduceIte, Nat.reduceEqDiff, List.map_cons, List.map_nil, Int.reduceEq, Int.lt_irrefl]
  refine loop_rule (fun f w' => ∃ (k : Nat) (O : Option Addr) (co : Nat), (k : Int) ≤ p.m.states ∧ (f 1 = .slice A1 l.length c1 ∧ f 2 = .int .i64 e ∧ f 3 = .pointer (some ⟨w.heap.size, 0, none⟩) ∧ f 7 = .slice O ((evs k).filter fun s => decide (intoT p l e s)).length co ∧ f 8 = .int .i64 k) ∧
      OwnI w1.heap.size 3 w' O co ((evs k).filter fun s => decide (intoT p l e s)) ∧ Below w1.heap.size w1 w')
    (fun f _ => p.m.states.toNat - (intOf (f 8)).toNat) ⟨0, none, 0, by simp; omega, ⟨rfl, rfl, rfl, rfl, rfl⟩, Own.nil _ _ _ _, Below.refl _ _⟩ ?_
  rintro f w2 ⟨k, O, co, hk, fr, ho, b2⟩ J hJ
  have k2 := k1.below b2 k1.lt
  by_cases hlt : (k : Int) < p.m.states
  case neg =>
    obtain rfl : k = p.m.states.toNat := by omega
    simp (disch := first | with_reducible assumption | omega) only [push_cast, x_blk, x_cd, ↓reduceIte, Nat.reduceEqDiff, List.map_cons, List.map_nil, Int.reduceEq, Int.lt_irrefl, L_ref9_into_0, fr, hlt, k2.p0]
    exact fin_1 (hQ _ _ ⟨O, co, (by simp only [push_cast, ↓reduceIte, Nat.reduceEqDiff, Int.reduceEq, fr]), ho.base b1.size, b1.trans (b2.mono b1.size)⟩)
  have hfl : ((evs k).filter fun s => decide (intoT p l e s)).length ≤ k := Nat.le_trans (List.length_filter_le _ _) (by rw [evs_len]; exact Nat.le_refl _)
  have hsn : ((evs (k + 1)).filter fun s => decide (intoT p l e s)) = ((evs k).filter fun s => decide (intoT p l e s)) ++ if intoT p l e k then [(k : Int)] else [] := by
    rw [evs_snoc, filter_snoc]; simp only [decide_eq_true_eq]
  have oE := own_int1 w2 (k : Int) 3
  have bE : Below w2.heap.size w2 (w2.alloc (.cells [.int .i64 (k : Int)].toArray 3)) := (Below.refl _ _).alloc (Nat.le_refl _) _
  have k2E := k2.alloc (.cells [.int .i64 (k : Int)].toArray 3)
  simp (disch := first | with_reducible assumption | omega) only [push_cast, x_blk, x_cd, ↓reduceIte, Nat.reduceEqDiff, List.map_cons, List.map_nil, Int.reduceEq, Int.lt_irrefl, L_ref9_into_0, fr, hlt, k2.p0, k2.pM, bs_22, k2E.p5]
  generalize w2.alloc (Obj.cells [.int .i64 (k : Int)].toArray 3) = w3 at *
  have b3 := b2.trans (bE.mono b2.size)
  have bb3 := b1.trans (b3.mono b1.size)
  refine call_of (ref5_Wide (l0 := [(k : Int)]) (ha.up bb3).m hm (Ints.lt (OwnI.ints oE)) (one_row (by omega) hlt hst) (ha.up bb3).seen nP) ?_
  rintro v w4 ⟨O4, c4, rfl, o4, b4⟩
  replace b3 := b3.trans (b4.mono b3.size)
  replace bb3 := b1.trans (b3.mono b1.size)
  have k4 := k2E.below b4 k2E.lt
  have hw256 : (wideL p.m p.seen [(k : Int)]).length ≤ 256 := small_len (wideL_strict _ _ _) (wideL_small _ _ _)
  simp (disch := first | with_reducible assumption | omega) only [push_cast, x_blk, x_cd, ↓reduceIte, Nat.reduceEqDiff, List.map_cons, List.map_nil, Int.reduceEq, Int.lt_irrefl, fr, k4.pM, k4.p5]
  refine call_of (ref5_Seeing (ha.up bb3).m hm hf.m (Ints.lt (OwnI.ints o4)) (by omega) (ha.up bb3).seen nP e) ?_
  rintro v w5 ⟨O5, c5, rfl, o5, b5⟩
  replace b3 := b3.trans (b5.mono b3.size)
  replace bb3 := b1.trans (b3.mono b1.size)
  have hs256 : (seeL p.m p.seen (wideL p.m p.seen [(k : Int)]) e).length ≤ 256 := small_len (wideL_strict _ _ _) (wideL_small _ _ _)
  simp (disch := first | with_reducible assumption | omega) only [push_cast, x_blk, x_cd, ↓reduceIte, Nat.reduceEqDiff, List.map_cons, List.map_nil, Int.reduceEq, Int.lt_irrefl, fr]
  refine call_of (ref1_Only (Ints.lt (OwnI.ints o5)) (h1.up bb3) c5 c1 true (by omega) (by omega)) ?_
  rintro v w6 ⟨O6, c6, rfl, o6, b6⟩
  have z23 := bE.size
  have z4 := b4.size
  have z5 := b5.size
  have b26 := ((bE.trans (b4.mono bE.size)).trans (b5.mono (by omega))).trans (b6.mono (by omega))
  replace b3 := b3.trans (b6.mono b3.size)
  replace ho := ho.below b26 (Nat.le_refl _)
  by_cases c : intoT p l e k
  · have hpos : (0 : Int) < ((onlyL (seeL p.m p.seen (wideL p.m p.seen [(k : Int)]) e) l true).length : Int) := by have : 0 < (onlyL (seeL p.m p.seen (wideL p.m p.seen [(k : Int)]) e) l true).length := c; omega
    rw [if_pos c] at hsn
    simp (disch := first | with_reducible assumption | omega) only [push_cast, x_blk, x_cd, ↓reduceIte, Nat.reduceEqDiff, List.map_cons, List.map_nil, Int.reduceEq, Int.lt_irrefl, fr, hpos, bs_22]
    refine app_int slT_22 ho (k : Int) (by omega) b3.size ?_
    intro A' c' w7 ho7 hg7 hA7 hs7 hz7
    simp (disch := first | with_reducible assumption | omega) only [push_cast, x_blk, x_cd, ↓reduceIte, Nat.reduceEqDiff, List.map_cons, List.map_nil, Int.reduceEq, Int.lt_irrefl, fr]
    exact hJ _ _ ⟨k + 1, A', c', by omega, (by simp only [push_cast, ↓reduceIte, Nat.reduceEqDiff, true_and, and_true, and_self, eq_self, fr, hsn, List.length_append, List.length_cons, List.length_nil]), by rw [hsn]; exact ho7, hg7.below b3 b3.size ho.geB⟩ (by simp only [push_cast, ↓reduceIte, Nat.reduceEqDiff, intOf, fr]; omega)
  · have hpos : ¬ (0 : Int) < ((onlyL (seeL p.m p.seen (wideL p.m p.seen [(k : Int)]) e) l true).length : Int) := fun h => c (by unfold intoT; omega)
    rw [if_neg c, List.append_nil] at hsn
    simp (disch := first | with_reducible assumption | omega) only [push_cast, x_blk, x_cd, ↓reduceIte, Nat.reduceEqDiff, List.map_cons, List.map_nil, Int.reduceEq, Int.lt_irrefl, fr, hpos]
    exact hJ _ _ ⟨k + 1, O, co, by omega, (by simp only [push_cast, ↓reduceIte, Nat.reduceEqDiff, true_and, and_true, and_self, eq_self, fr, hsn]), by rw [hsn]; exact ho, b3⟩ (by simp only [push_cast, ↓reduceIte, Nat.reduceEqDiff, intOf, fr]; omega)
noncomputable def begT (p : Plt) (word : List Int) (s : Int) : Bool := decide (0 < (fromL p [s] word).length)
end Go.Proofs.YtcjinmgieiebbaaDoor
