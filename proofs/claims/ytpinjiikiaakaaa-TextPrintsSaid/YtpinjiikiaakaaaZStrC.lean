/-
  May names be: the program's and the reference's: by their contracts.
-/
import Derived.Test.YtpinjiikiaakaaaZStrB
namespace Go.Proofs.Ytpinjiikiaakaaa
set_option linter.unusedSimpArgs false
set_option linter.unusedVariables false
set_option linter.unusedSectionVars false
open Go.RowKit

def NamesOk (l : List ByteArray) : Prop := ∀ i s, l[i]? = some s → Named s ∧ s ∉ l.take i
theorem text_distinct {w : World} {A : Option Addr} {l : List ByteArray} (h : Strs (· < w.heap.size) w A l) (c : Nat) (hl : l.length ≤ 9223372036854775806) (hc : l.length ≤ c) (hs : ∀ s ∈ l, s.size ≤ 9223372036854775806) (a b : Int) :
    Cal Try.prog 12 [.slice A l.length c, .int .i64 a, .int .i64 b] w fun v w' => (∃ r : Bool, v = .bool r ∧ (r = true ↔ NamesOk l ∧ a ≤ l.length ∧ l.length ≤ b)) ∧ Same w w' := by
  refine cal_text_distinct (by simp) 1000 fun Q hQ => ?_
  simp (disch := first | with_reducible assumption | omega) only [push_cast, x_blk, x_cd, ↓reduceIte, Nat.reduceEqDiff, List.map_cons, List.map_nil, Int.reduceEq, Int.lt_irrefl, F_text_distinct]
  refine loop_rule (fun f w' => ∃ k : Nat, k ≤ l.length ∧ (f 0 = .slice A l.length c ∧ f 1 = .int .i64 a ∧ f 2 = .int .i64 b ∧ f 9 = .slice A l.length c ∧ f 10 = .int .i64 l.length ∧ f 11 = .int .i64 k) ∧ (∀ i s, i < k → l[i]? = some s → Named s ∧ s ∉ l.take i) ∧ Same w w')
    (fun f _ => l.length - (intOf (f 11)).toNat) ⟨0, Nat.zero_le _, ⟨rfl, rfl, rfl, rfl, rfl, rfl⟩, fun i s hi => absurd hi (by omega), Same.refl w⟩ ?_
  rintro f w1 ⟨k, hk, fr, hal, s1⟩ J hJ
  have hmu : (intOf (f 11)).toNat = k := by rw [fr.2.2.2.2.2]; simp [intOf]
  by_cases hlt : k < l.length
  case neg =>
    have hN : NamesOk l := fun i s hi => hal i s (by have := (List.getElem?_eq_some_iff.1 hi).1; omega) hi
    by_cases h1 : a ≤ (l.length : Int) <;> by_cases h2 : (l.length : Int) ≤ b <;>
      (simp (disch := first | with_reducible assumption | omega) only [push_cast, x_blk, x_cd, ↓reduceIte, Nat.reduceEqDiff, List.map_cons, List.map_nil, Int.reduceEq, Int.lt_irrefl, L_text_distinct_0, fr, hlt, h1, h2]
       exact fin_1 (hQ _ _ ⟨⟨_, by simp only [push_cast, ↓reduceIte, Nat.reduceEqDiff, fr, h1, h2]; rfl, by simp [hN, h1, h2]⟩, s1⟩))
  have hx : l[k]? = some (l[k]'hlt) := List.getElem?_eq_getElem hlt
  generalize l[k]'hlt = s at hx
  have h1 := h.same s1
  have sA := h.isSome (by omega)
  simp (disch := first | with_reducible assumption | omega) only [push_cast, x_blk, x_cd, ↓reduceIte, Nat.reduceEqDiff, List.map_cons, List.map_nil, Int.reduceEq, Int.lt_irrefl, L_text_distinct_0, fr, hlt, sA, h1.ld hx]
  refine call_of (text_named s (hs s (List.mem_of_getElem? hx)) w1) ?_
  rintro v w2 ⟨rfl, s2⟩
  by_cases q1 : Named s
  case neg =>
    simp (disch := first | with_reducible assumption | omega) only [push_cast, x_blk, x_cd, ↓reduceIte, Nat.reduceEqDiff, List.map_cons, List.map_nil, Int.reduceEq, Int.lt_irrefl, fr, decide_eq_false q1]
    exact fin_1 (hQ _ _ ⟨⟨false, by simp only [push_cast, ↓reduceIte, Nat.reduceEqDiff, fr], by
      constructor
      · intro h; cases h
      · intro h; exact absurd (h.1 k s hx).1 q1⟩, s1.trans s2⟩)
  have hkc : k ≤ c := by omega
  have htl : k = (l.take k).length := by rw [List.length_take]; omega
  simp (disch := first | with_reducible assumption | omega) only [push_cast, x_blk, x_cd, ↓reduceIte, Nat.reduceEqDiff, List.map_cons, List.map_nil, Int.reduceEq, Int.lt_irrefl, fr, decide_eq_true q1, slice_headS slT_22 k hkc]
  rw [htl]
  refine call_of (slices_Contains (((h1.same s2).take k)) c (by rw [← htl]; omega) s) ?_
  rw [← htl]
  rintro v w3 ⟨rfl, s3⟩
  have s13 := s1.trans (s2.trans s3)
  by_cases q2 : s ∈ l.take k
  · simp (disch := first | with_reducible assumption | omega) only [push_cast, x_blk, x_cd, ↓reduceIte, Nat.reduceEqDiff, List.map_cons, List.map_nil, Int.reduceEq, Int.lt_irrefl, fr, decide_eq_true q2]
    exact fin_1 (hQ _ _ ⟨⟨false, by simp only [push_cast, ↓reduceIte, Nat.reduceEqDiff, fr], by
      constructor
      · intro h; cases h
      · intro h; exact absurd q2 (h.1 k s hx).2⟩, s13⟩)
  · simp (disch := first | with_reducible assumption | omega) only [push_cast, x_blk, x_cd, ↓reduceIte, Nat.reduceEqDiff, List.map_cons, List.map_nil, Int.reduceEq, Int.lt_irrefl, fr, decide_eq_false q2]
    exact hJ _ _ ⟨k + 1, hlt, (by simp only [push_cast, ↓reduceIte, Nat.reduceEqDiff, true_and, and_true, and_self, eq_self, fr]), fun i s' hi hs' => by
      by_cases e : i = k
      · subst e; rw [hx] at hs'; injection hs' with hs'; subst hs'; exact ⟨q1, q2⟩
      · exact hal i s' (by omega) hs', s13⟩ (by rw [hmu]; simp only [push_cast, ↓reduceIte, Nat.reduceEqDiff, intOf, fr]; omega)
theorem ref16_names {w : World} {A : Option Addr} {l : List ByteArray} (h : Strs (· < w.heap.size) w A l) (c : Nat) (hl : l.length ≤ 9223372036854775806) (hc : l.length ≤ c) (hs : ∀ s ∈ l, s.size ≤ 9223372036854775806) :
    Cal Try.prog 18 [.slice A l.length c] w fun v w' => (∃ r : Bool, v = .bool r ∧ (r = true ↔ NamesOk l)) ∧ Same w w' := by
  refine cal_ref16_names (by simp) 1000 fun Q hQ => ?_
  simp (disch := first | with_reducible assumption | omega) only [push_cast, x_blk, x_cd, ↓reduceIte, Nat.reduceEqDiff, List.map_cons, List.map_nil, Int.reduceEq, Int.lt_irrefl, F_ref16_names]
  refine loop_rule (fun f w' => ∃ k : Nat, k ≤ l.length ∧ (f 0 = .slice A l.length c ∧ f 3 = .int .i64 k) ∧ (∀ i s, i < k → l[i]? = some s → Named s ∧ s ∉ l.take i) ∧ Same w w')
    (fun f _ => l.length - (intOf (f 3)).toNat) ⟨0, Nat.zero_le _, ⟨rfl, rfl⟩, fun i s hi => absurd hi (by omega), Same.refl w⟩ ?_
  rintro f w1 ⟨k, hk, fr, hal, s1⟩ J hJ
  have hmu : (intOf (f 3)).toNat = k := by rw [fr.2]; simp [intOf]
  by_cases hlt : k < l.length
  case neg =>
    have hN : NamesOk l := fun i s hi => hal i s (by have := (List.getElem?_eq_some_iff.1 hi).1; omega) hi
    simp (disch := first | with_reducible assumption | omega) only [push_cast, x_blk, x_cd, ↓reduceIte, Nat.reduceEqDiff, List.map_cons, List.map_nil, Int.reduceEq, Int.lt_irrefl, L_ref16_names_1, fr, hlt]
    exact fin_1 (hQ _ _ ⟨⟨true, (by simp only [push_cast, ↓reduceIte, Nat.reduceEqDiff, Int.reduceEq]), by simp [hN]⟩, s1⟩)
  have hx : l[k]? = some (l[k]'hlt) := List.getElem?_eq_getElem hlt
  generalize l[k]'hlt = s at hx
  have hsz := hs s (List.mem_of_getElem? hx)
  have sd : Same w1 w1.drew := (Same.refl w1).drew
  have hu1 := (h.same s1).same sd
  have s1u := s1.trans sd
  generalize hu : w1.drew = u at *
  have sA := h.isSome (by omega)
  have bad : ∀ {w' : World}, (¬ (Named s ∧ s ∉ l.take k)) → (∃ r : Bool, Value.bool false = .bool r ∧ (r = true ↔ NamesOk l)) := fun hb => ⟨false, rfl, by
    constructor
    · intro h; cases h
    · intro h; exact absurd (h k s hx) hb⟩
  by_cases h1 : (s.size : Int) < 1
  · simp (disch := first | with_reducible assumption | omega) only [push_cast, x_blk, x_cd, ↓reduceIte, Nat.reduceEqDiff, List.map_cons, List.map_nil, Int.reduceEq, Int.lt_irrefl, L_ref16_names_1, fr, hlt, hu, sA, hu1.ld hx, h1]
    exact ⟨Below.refl _ _, Below.refl _ _, fin_1 (hQ _ _ ⟨by simp only [push_cast, ↓reduceIte, Nat.reduceEqDiff]; exact bad (w' := w) fun hb => by have := hb.1.2.1; omega, s1u⟩)⟩
  by_cases h2 : 16 < (s.size : Int)
  · simp (disch := first | with_reducible assumption | omega) only [push_cast, x_blk, x_cd, ↓reduceIte, Nat.reduceEqDiff, List.map_cons, List.map_nil, Int.reduceEq, Int.lt_irrefl, L_ref16_names_1, fr, hlt, hu, sA, hu1.ld hx, h1, h2]
    exact ⟨Below.refl _ _, Below.refl _ _, fin_1 (hQ _ _ ⟨by simp only [push_cast, ↓reduceIte, Nat.reduceEqDiff]; exact bad (w' := w) fun hb => by have := hb.1.2.2.1; omega, s1u⟩)⟩
  have hp : 0 < s.size := by omega
  have hkc : k ≤ c := by omega
  have htl : k = (l.take k).length := by rw [List.length_take]; omega
  simp (disch := first | with_reducible assumption | omega) only [push_cast, x_blk, x_cd, ↓reduceIte, Nat.reduceEqDiff, List.map_cons, List.map_nil, Int.reduceEq, Int.lt_irrefl, L_ref16_names_1, fr, hlt, hu, sA, hu1.ld hx, h1, h2, ix_str0 s hp]
  refine call_of (ref16_letter (byt s 0) u) ?_
  rintro v w2 ⟨rfl, s2⟩
  by_cases q0 : IsLet (byt s 0)
  case neg =>
    simp (disch := first | with_reducible assumption | omega) only [push_cast, x_blk, x_cd, ↓reduceIte, Nat.reduceEqDiff, List.map_cons, List.map_nil, Int.reduceEq, Int.lt_irrefl, decide_eq_false q0]
    exact ⟨s2.below _, s2.below _, fin_1 (hQ _ _ ⟨by simp only [push_cast, ↓reduceIte, Nat.reduceEqDiff]; exact bad (w' := w) fun hb => q0 hb.1.2.2.2, s1u.trans s2⟩)⟩
  simp (disch := first | with_reducible assumption | omega) only [push_cast, x_blk, x_cd, ↓reduceIte, Nat.reduceEqDiff, List.map_cons, List.map_nil, Int.reduceEq, Int.lt_irrefl, fr, decide_eq_true q0, slice_headS slT_22 k hkc, hlt, sA, hu1.ld hx]
  refine ⟨s2.below _, ?_⟩
  rw [htl]
  refine call_of (ref16_place (((hu1.same s2).take k)) c (by rw [← htl]; omega) s) ?_
  rw [← htl]
  rintro v w3 ⟨rfl, s3⟩
  have su3 := s2.trans s3
  have s13 := s1u.trans su3
  by_cases q2 : 0 ≤ ixS s (l.take k)
  · simp (disch := first | with_reducible assumption | omega) only [push_cast, x_blk, x_cd, ↓reduceIte, Nat.reduceEqDiff, List.map_cons, List.map_nil, Int.reduceEq, Int.lt_irrefl, decide_eq_true q2]
    exact ⟨su3.below _, fin_1 (hQ _ _ ⟨by simp only [push_cast, ↓reduceIte, Nat.reduceEqDiff]; exact bad (w' := w) fun hb => hb.2 (ixS_mem.1 q2), s13⟩)⟩
  have q3 : s ∉ l.take k := fun h => q2 (ixS_mem.2 h)
  simp (disch := first | with_reducible assumption | omega) only [push_cast, x_blk, x_cd, ↓reduceIte, Nat.reduceEqDiff, List.map_cons, List.map_nil, Int.reduceEq, Int.lt_irrefl, decide_eq_false q2]
  refine ⟨su3.below _, ?_⟩
  refine loop_rule (fun f' w' => ∃ i : Nat, i ≤ s.size ∧ (f' 0 = .slice A l.length c ∧ f' 3 = .int .i64 k ∧ f' 4 = .int .i64 i) ∧ (∀ j, j < i → IsIn (byt s j)) ∧ Same w w')
    (fun f' _ => s.size - (intOf (f' 4)).toNat) ⟨0, Nat.zero_le _, (by simp only [push_cast, ↓reduceIte, Nat.reduceEqDiff, true_and, and_true, and_self, eq_self, fr, fr]), fun j hj => absurd hj (by omega), s13⟩ ?_
  clear fr
  rintro f w4 ⟨i, hi, fr, hin, s4⟩ J2 hJ2
  have hmu2 : (intOf (f 4)).toNat = i := by rw [fr.2.2]; simp [intOf]
  have h4 := h.same s4
  by_cases hil : i < s.size
  case neg =>
    obtain rfl : i = s.size := by omega
    simp (disch := first | with_reducible assumption | omega) only [push_cast, x_blk, x_cd, ↓reduceIte, Nat.reduceEqDiff, List.map_cons, List.map_nil, Int.reduceEq, Int.lt_irrefl, L_ref16_names_0, fr, hlt, sA, h4.ld hx, Nat.lt_irrefl]
    exact hJ _ _ ⟨k + 1, hlt, (by simp only [push_cast, ↓reduceIte, Nat.reduceEqDiff, true_and, and_true, and_self, eq_self, fr]), fun i s' hi hs' => by
      by_cases e : i = k
      · subst e; rw [hx] at hs'; injection hs' with hs'; subst hs'; exact ⟨⟨hin, by omega, by omega, q0⟩, q3⟩
      · exact hal i s' (by omega) hs', s4⟩ (by rw [hmu]; simp only [push_cast, ↓reduceIte, Nat.reduceEqDiff, intOf, fr]; omega)
  simp (disch := first | with_reducible assumption | omega) only [push_cast, x_blk, x_cd, ↓reduceIte, Nat.reduceEqDiff, List.map_cons, List.map_nil, Int.reduceEq, Int.lt_irrefl, L_ref16_names_0, fr, hlt, sA, h4.ld hx, hil, ix_str' s .i64 i hil]
  refine call_of (ref16_inside (byt s i) w4) ?_
  rintro v w5 ⟨rfl, s5⟩
  by_cases q5 : IsIn (byt s i)
  · simp (disch := first | with_reducible assumption | omega) only [push_cast, x_blk, x_cd, ↓reduceIte, Nat.reduceEqDiff, List.map_cons, List.map_nil, Int.reduceEq, Int.lt_irrefl, fr, decide_eq_true q5]
    exact hJ2 _ _ ⟨i + 1, hil, (by simp only [push_cast, ↓reduceIte, Nat.reduceEqDiff, true_and, and_true, and_self, eq_self, fr]), fun j hj => by
      by_cases e : j = i
      · subst e; exact q5
      · exact hin j (by omega), s4.trans s5⟩ (by rw [hmu2]; simp only [push_cast, ↓reduceIte, Nat.reduceEqDiff, intOf, fr]; omega)
  · simp (disch := first | with_reducible assumption | omega) only [push_cast, x_blk, x_cd, ↓reduceIte, Nat.reduceEqDiff, List.map_cons, List.map_nil, Int.reduceEq, Int.lt_irrefl, fr, decide_eq_false q5]
    exact fin_1 (hQ _ _ ⟨by simp only [push_cast, ↓reduceIte, Nat.reduceEqDiff]; exact bad (w' := w) fun hb => q5 (hb.1.1 i hil), s4.trans s5⟩)
end Go.Proofs.Ytpinjiikiaakaaa
