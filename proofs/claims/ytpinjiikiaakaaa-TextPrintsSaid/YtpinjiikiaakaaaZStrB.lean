/-
  Rows of names: where a text is in a row; may names be: the program's and the reference's: by their contracts.
-/
import Derived.Test.YtpinjiikiaakaaaZStr
namespace Go.Proofs.Ytpinjiikiaakaaa
set_option linter.unusedSimpArgs false
set_option linter.unusedVariables false
set_option linter.unusedSectionVars false
open Go.RowKit

def strE (s : ByteArray) : List Value := [.string s]
theorem strEnc : Enc strE 1 := ⟨fun _ => rfl, fun s u hu => by
  unfold strE at hu
  rw [List.mem_singleton.1 hu]; rfl⟩
abbrev Strs (ok : Nat → Prop) (w : World) (A : Option Addr) (l : List ByteArray) : Prop := Recs strE 1 ok w A l
theorem Strs.ld {K : Fr → World → Prop} {u : World} {f : Fr} {d : Option Nat} {w : World} {i : Nat} {ok : Nat → Prop} {A : Option Addr} {l : List ByteArray} {s : ByteArray} (h : Strs ok u A l) (hi : l[i]? = some s) :
    Val1 Try.prog K (Instr.loadAt 9 (.pointer (some (eA A i)))) u f d w = K (updO f d (.string s)) w := by
  have := Recs.ld0 (P := Try.prog) (K := K) (f := f) (d := d) (w := w) h ty_ag_9 hi (v := .string s) rfl
  rwa [Nat.mul_one] at this
theorem Strs.take {ok : Nat → Prop} {u : World} {A : Option Addr} {l : List ByteArray} (h : Strs ok u A l) (k : Nat) : Strs ok u A (l.take k) :=
  ⟨fun hl => h.isSome (by rw [List.length_take] at hl; omega), fun hl => h.block (by rw [List.length_take] at hl; omega), fun i a hi => h.cell i a (by
    rw [List.getElem?_take] at hi
    split at hi
    · exact hi
    · cases hi)⟩
theorem Strs.same {u u' : World} {A : Option Addr} {l : List ByteArray} (h : Strs (· < u.heap.size) u A l) (s : Same u u') : Strs (· < u'.heap.size) u' A l :=
  (Recs.same h s).mono fun b hb => Nat.lt_of_lt_of_le hb (s.below u.heap.size).size
theorem slice_headS {P : Program} {K : Fr → World → Prop} {u w : World} {f : Fr} {d : Option Nat} {A : Option Addr} {n c e bytes t : Nat} {sz : Nat} (hT : SlT P t e sz bytes) (k : Nat) (hk : k ≤ c) : Val1 P K (Instr.sliceAt t (.slice A n c) none (some (.int .i64 k)) none) u f d w = K (updO f d (.slice A k c)) w :=
  val1_of u f d w fun w' _ => by
    obtain ⟨i, z, hi, hz, hs, hb, hcc⟩ := hT.get
    have h1 : (0 : Int) ≤ (k : Int) ∧ (k : Int) ≤ (c : Int) := by omega
    cases A with
    | none => simp [Instr.sliceAt, run_underlying hT.under, Instr.slice, Instr.sliceBounds, Instr.sliceBound, asIntOf, hk, sizeOf, typeInfo, hi, hs]
    | some a => simp [Instr.sliceAt, run_underlying hT.under, Instr.slice, Instr.sliceBounds, Instr.sliceBound, asIntOf, hk, sizeOf, typeInfo, hi, hs, Addr.add]
instance memS (s : ByteArray) (l : List ByteArray) : Decidable (s ∈ l) := decidable_of_iff (∃ x ∈ l, x = s) ⟨fun ⟨_, h, e⟩ => e ▸ h, fun h => ⟨s, h, rfl⟩⟩
/-- Where a text is in a row; -1 where it is not. -/
def ixS (s : ByteArray) (l : List ByteArray) : Int := if s ∈ l then (l.findIdx (fun x => decide (x = s)) : Int) else -1
theorem ixS_found {s : ByteArray} {l : List ByteArray} {k : Nat} (h : l[k]? = some s) (hno : ∀ j, j < k → l[j]? ≠ some s) : ixS s l = k := by
  have hm := List.mem_of_getElem? h
  unfold ixS
  rw [if_pos hm]
  congr 1
  have key : ∀ (l : List ByteArray) (k : Nat), l[k]? = some s → (∀ j, j < k → l[j]? ≠ some s) → l.findIdx (fun x => decide (x = s)) = k := by
    intro l
    induction l with
    | nil => intro k h; simp at h
    | cons x l ih =>
      intro k h hno
      cases k with
      | zero =>
        simp only [List.getElem?_cons_zero, Option.some.injEq] at h
        subst h
        simp [List.findIdx_cons]
      | succ k =>
        have hx : x ≠ s := fun e => hno 0 (by omega) (by simp [e])
        rw [List.findIdx_cons, decide_eq_false hx, ih k (by simpa using h) fun j hj => by have := hno (j + 1) (by omega); simpa using this]
        rfl
  exact key l k h hno
theorem ixS_none {s : ByteArray} {l : List ByteArray} (h : ∀ j, j < l.length → l[j]? ≠ some s) : ixS s l = -1 := by
  unfold ixS
  rw [if_neg]
  intro hm
  obtain ⟨j, hj⟩ := List.mem_iff_getElem?.1 hm
  exact h j (List.getElem?_eq_some_iff.1 hj).1 hj
theorem ixS_mem {s : ByteArray} {l : List ByteArray} : 0 ≤ ixS s l ↔ s ∈ l := by
  unfold ixS
  by_cases h : s ∈ l
  · rw [if_pos h]; exact ⟨fun _ => h, fun _ => by omega⟩
  · rw [if_neg h]; exact ⟨fun h => by omega, fun h' => absurd h' h⟩
theorem slices_Index {w : World} {A : Option Addr} {l : List ByteArray} (h : Strs (· < w.heap.size) w A l) (c : Nat) (hl : l.length ≤ 9223372036854775806) (s : ByteArray) :
    Cal Try.prog 33 [.slice A l.length c, .string s] w fun v w' => v = .int .i64 (ixS s l) ∧ Same w w' := by
  refine cal_slices_Index (by simp) 1000 fun Q hQ => ?_
  simp (disch := first | with_reducible assumption | omega) only [push_cast, x_blk, x_cd, ↓reduceIte, Nat.reduceEqDiff, List.map_cons, List.map_nil, Int.reduceEq, Int.lt_irrefl, F_slices_Index]
  refine loop_rule (fun f w' => ∃ k : Nat, k ≤ l.length ∧ (f 0 = .slice A l.length c ∧ f 1 = .string s ∧ f 7 = .int .i64 l.length ∧ f 8 = .int .i64 k) ∧ (∀ j, j < k → l[j]? ≠ some s) ∧ w' = w)
    (fun f _ => l.length - (intOf (f 8)).toNat) ⟨0, Nat.zero_le _, ⟨rfl, rfl, rfl, rfl⟩, fun i hi => absurd hi (by omega), rfl⟩ ?_
  rintro f w1 ⟨k, hk, fr, hno, rfl⟩ J hJ
  have hmu : (intOf (f 8)).toNat = k := by rw [fr.2.2.2]; simp [intOf]
  by_cases hlt : k < l.length
  case neg =>
    simp (disch := first | with_reducible assumption | omega) only [push_cast, x_blk, x_cd, ↓reduceIte, Nat.reduceEqDiff, List.map_cons, List.map_nil, Int.reduceEq, Int.lt_irrefl, L_slices_Index_0, fr, hlt]
    exact fin_1 (hQ _ _ ⟨by simp only [push_cast, ↓reduceIte, Nat.reduceEqDiff]; rw [ixS_none fun j hj => hno j (by omega)], Same.refl _⟩)
  have hx : l[k]? = some (l[k]'hlt) := List.getElem?_eq_getElem hlt
  generalize l[k]'hlt = x at hx
  have sA := h.isSome (by omega)
  by_cases hc : s = x
  · have ec := eq_true hc
    simp (disch := first | with_reducible assumption | omega) only [push_cast, x_blk, x_cd, ↓reduceIte, Nat.reduceEqDiff, List.map_cons, List.map_nil, Int.reduceEq, Int.lt_irrefl, L_slices_Index_0, fr, hlt, sA, h.ld hx, ec]
    exact fin_1 (hQ _ _ ⟨by simp only [push_cast, ↓reduceIte, Nat.reduceEqDiff, fr]; rw [ixS_found (by rw [hc]; exact hx) hno], Same.refl _⟩)
  · simp (disch := first | with_reducible assumption | omega) only [push_cast, x_blk, x_cd, ↓reduceIte, Nat.reduceEqDiff, List.map_cons, List.map_nil, Int.reduceEq, Int.lt_irrefl, L_slices_Index_0, fr, hlt, sA, h.ld hx, hc]
    exact hJ _ _ ⟨k + 1, hlt, (by simp only [push_cast, ↓reduceIte, Nat.reduceEqDiff, true_and, and_true, and_self, eq_self, fr]), fun j hj => by
      by_cases e : j = k
      · subst e; rw [hx]; exact fun e => hc (Option.some.inj e).symm
      · exact hno j (by omega), rfl⟩ (by rw [hmu]; simp only [push_cast, ↓reduceIte, Nat.reduceEqDiff, intOf, fr]; omega)
theorem slices_Contains {w : World} {A : Option Addr} {l : List ByteArray} (h : Strs (· < w.heap.size) w A l) (c : Nat) (hl : l.length ≤ 9223372036854775806) (s : ByteArray) :
    Cal Try.prog 22 [.slice A l.length c, .string s] w fun v w' => v = .bool (decide (s ∈ l)) ∧ Same w w' := by
  refine cal_slices_Contains (by simp) 1000 fun Q hQ => ?_
  simp (disch := first | with_reducible assumption | omega) only [push_cast, x_blk, x_cd, ↓reduceIte, Nat.reduceEqDiff, List.map_cons, List.map_nil, Int.reduceEq, Int.lt_irrefl, F_slices_Contains]
  refine call_of (slices_Index h c hl s) ?_
  rintro v w1 ⟨rfl, s1⟩
  simp (disch := first | with_reducible assumption | omega) only [push_cast, x_blk, x_cd, ↓reduceIte, Nat.reduceEqDiff, List.map_cons, List.map_nil, Int.reduceEq, Int.lt_irrefl]
  exact fin_1 (hQ _ _ ⟨by simp only [push_cast, ↓reduceIte, Nat.reduceEqDiff, ixS_mem], s1⟩)
theorem ref16_place {w : World} {A : Option Addr} {l : List ByteArray} (h : Strs (· < w.heap.size) w A l) (c : Nat) (hl : l.length ≤ 9223372036854775806) (s : ByteArray) :
    Cal Try.prog 28 [.slice A l.length c, .string s] w fun v w' => v = .int .i64 (ixS s l) ∧ Same w w' := by
  refine cal_ref16_place (by simp) 1000 fun Q hQ => ?_
  simp (disch := first | with_reducible assumption | omega) only [push_cast, x_blk, x_cd, ↓reduceIte, Nat.reduceEqDiff, List.map_cons, List.map_nil, Int.reduceEq, Int.lt_irrefl, F_ref16_place]
  refine loop_rule (fun f w' => ∃ k : Nat, k ≤ l.length ∧ (f 0 = .slice A l.length c ∧ f 1 = .string s ∧ f 5 = .int .i64 k) ∧ (∀ j, j < k → l[j]? ≠ some s) ∧ w' = w)
    (fun f _ => l.length - (intOf (f 5)).toNat) ⟨0, Nat.zero_le _, ⟨rfl, rfl, rfl⟩, fun i hi => absurd hi (by omega), rfl⟩ ?_
  rintro f w1 ⟨k, hk, fr, hno, rfl⟩ J hJ
  have hmu : (intOf (f 5)).toNat = k := by rw [fr.2.2]; simp [intOf]
  by_cases hlt : k < l.length
  case neg =>
    simp (disch := first | with_reducible assumption | omega) only [push_cast, x_blk, x_cd, ↓reduceIte, Nat.reduceEqDiff, List.map_cons, List.map_nil, Int.reduceEq, Int.lt_irrefl, L_ref16_place_0, fr, hlt]
    exact fin_1 (hQ _ _ ⟨by simp only [push_cast, ↓reduceIte, Nat.reduceEqDiff]; rw [ixS_none fun j hj => hno j (by omega)], Same.refl _⟩)
  have hx : l[k]? = some (l[k]'hlt) := List.getElem?_eq_getElem hlt
  generalize l[k]'hlt = x at hx
  have sA := h.isSome (by omega)
  by_cases hc : x = s
  · have ec := eq_true hc
    simp (disch := first | with_reducible assumption | omega) only [push_cast, x_blk, x_cd, ↓reduceIte, Nat.reduceEqDiff, List.map_cons, List.map_nil, Int.reduceEq, Int.lt_irrefl, L_ref16_place_0, fr, hlt, sA, h.ld hx, ec]
    exact fin_1 (hQ _ _ ⟨by simp only [push_cast, ↓reduceIte, Nat.reduceEqDiff, fr]; rw [ixS_found (by rw [← hc]; exact hx) hno], Same.refl _⟩)
  · simp (disch := first | with_reducible assumption | omega) only [push_cast, x_blk, x_cd, ↓reduceIte, Nat.reduceEqDiff, List.map_cons, List.map_nil, Int.reduceEq, Int.lt_irrefl, L_ref16_place_0, fr, hlt, sA, h.ld hx, hc]
    exact hJ _ _ ⟨k + 1, hlt, (by simp only [push_cast, ↓reduceIte, Nat.reduceEqDiff, true_and, and_true, and_self, eq_self, fr]), fun j hj => by
      by_cases e : j = k
      · subst e; rw [hx]; exact fun e => hc (Option.some.inj e)
      · exact hno j (by omega), rfl⟩ (by rw [hmu]; simp only [push_cast, ↓reduceIte, Nat.reduceEqDiff, intOf, fr]; omega)
end Go.Proofs.Ytpinjiikiaakaaa
