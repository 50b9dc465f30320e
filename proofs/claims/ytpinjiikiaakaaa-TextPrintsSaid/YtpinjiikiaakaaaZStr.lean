/-
  Texts: values that are strings; letters and names; rows of names: the program's and the reference's.
-/
import Derived.Test.YtpinjiikiaakaaaZMach
namespace Go.Proofs.Ytpinjiikiaakaaa
set_option linter.unusedSimpArgs false
set_option linter.unusedVariables false
set_option linter.unusedSectionVars false
open Go.RowKit

section
variable {P : Program} {K : Fr → World → Prop} {ty : TypeId} {u : World} {f : Fr} {d : Option Nat} {w : World}
theorem v_ix (t : TypeId) (o i : Operand) : ValX P K (.index t o i) ty u f d w = Val1 P K (Instr.index t (ev f o) (ev f i)) u f d w := propext Iff.rfl
theorem ba_list (s : ByteArray) : (⟨s.data.toList.toArray⟩ : ByteArray) = s := by cases s; rfl
theorem ba_inj {a b : ByteArray} (h : a.data.toList = b.data.toList) : a = b := by rw [← ba_list a, ← ba_list b, h]
theorem str_eq (a b : ByteArray) : (a.toList == b.toList) = decide (a = b) := by
  rw [ByteArray.toList_eq, ByteArray.toList_eq]
  by_cases h : a = b
  · subst h; simp
  · rw [decide_eq_false h]
    exact beq_eq_false_iff_ne.2 fun e => h (ba_inj e)
theorem bin_streq (t : TypeId) (xo yo : Operand) (a b : ByteArray) : Val1 P K (binS .eql t xo yo (.string a) (.string b)) u f d w = K (updO f d (.bool (decide (a = b)))) w :=
  val1_of u f d w fun w' _ => by simp [binS, eqGuard, binOp, Op.stringOp, str_eq]
theorem bin_stradd (t : TypeId) (xo yo : Operand) (a b : ByteArray) (h : a.size + b.size ≤ 9223372036854775807) : Val1 P K (binS .add t xo yo (.string a) (.string b)) u f d w = K (updO f d (.string (a ++ b))) w :=
  val1_of u f d w fun w' _ => by
    have : ¬ (((a.size + b.size : Nat) : Int) > IntKind.i64.max) := by
      have e : IntKind.i64.max = 9223372036854775807 := by decide
      rw [e]; omega
    simp only [binS, eqGuard, binOp, Op.stringOp]
    rw [if_neg this]
    simp
theorem len_str {t : TypeId} (ht : P.underlying t = some .string) (s : ByteArray) : Val1 P K (Builtin.len_ #[t] ty #[.string s]) u f d w = K (updO f d (.int .i64 s.size)) w :=
  val1_of u f d w fun w' _ => by simp [Builtin.len_, run_underlying ht, goInt]
def byt (s : ByteArray) (i : Nat) : Int := ((s.data.toList.getD i 0).toNat : Int)
theorem ix_str {t : TypeId} (ht : P.underlying t = some .string) (s : ByteArray) (k : IntKind) (i : Nat) (h : i < s.size) : Val1 P K (Instr.index t (.string s) (.int k i)) u f d w = K (updO f d (.int .u8 (byt s i))) w :=
  val1_of u f d w fun w' _ => by
    have h1 : (0 : Int) ≤ (i : Int) := by omega
    have h2 : s[i]? = some (s.data.toList.getD i 0) := by
      rw [getElem?_pos s i h]
      congr 1
      rw [List.getD_eq_getElem?_getD, Array.getElem?_toList, Array.getElem?_eq_getElem (by exact h)]
      rfl
    simp [Instr.index, run_underlying ht, asIntOf, h2, byt]
end
attribute [push_cast] v_ix bin_streq
theorem t_str : Try.prog.underlying 9 = some .string := by kernel_rfl
section
variable {K : Fr → World → Prop} {ty : TypeId} {u : World} {f : Fr} {d : Option Nat} {w : World}
theorem ln_str (s : ByteArray) : Val1 Try.prog K (Builtin.len_ #[9] ty #[.string s]) u f d w = K (updO f d (.int .i64 s.size)) w := len_str t_str s
theorem ix_str' (s : ByteArray) (k : IntKind) (i : Nat) (h : i < s.size) : Val1 Try.prog K (Instr.index 9 (.string s) (.int k i)) u f d w = K (updO f d (.int .u8 (byt s i))) w := ix_str t_str s k i h
theorem ix_str0 (s : ByteArray) (h : 0 < s.size) : Val1 Try.prog K (Instr.index 9 (.string s) (.int .i64 0)) u f d w = K (updO f d (.int .u8 (byt s 0))) w := ix_str t_str s .i64 0 h
end
attribute [push_cast] ln_str
def IsLet (c : Int) : Prop := (97 ≤ c ∧ c ≤ 122) ∨ (65 ≤ c ∧ c ≤ 90)
instance (c : Int) : Decidable (IsLet c) := inferInstanceAs (Decidable (_ ∨ _))
def IsIn (c : Int) : Prop := IsLet c ∨ (48 ≤ c ∧ c ≤ 57) ∨ c = 95
instance (c : Int) : Decidable (IsIn c) := inferInstanceAs (Decidable (_ ∨ _))
theorem text_letter (c : Int) (w : World) : Cal Try.prog 32 [.int .u8 c] w fun v w' => v = .bool (decide (IsLet c)) ∧ Same w w' := by
  refine cal_text_letter (by simp) 1000 fun Q hQ => ?_
  by_cases h1 : 97 ≤ c <;> by_cases h2 : c ≤ 122 <;> by_cases h3 : 65 ≤ c <;> by_cases h4 : c ≤ 90 <;>
    (simp (disch := first | with_reducible assumption | omega) only [push_cast, x_blk, x_cd, ↓reduceIte, Nat.reduceEqDiff, List.map_cons, List.map_nil, Int.reduceEq, Int.lt_irrefl, F_text_letter, h1, h2, h3, h4]; exact fin_1 (hQ _ _ ⟨by simp only [push_cast, ↓reduceIte, Nat.reduceEqDiff]; simp [IsLet, h1, h2, h3, h4], Same.refl _⟩))
theorem ref16_letter (c : Int) (w : World) : Cal Try.prog 27 [.int .u8 c] w fun v w' => v = .bool (decide (IsLet c)) ∧ Same w w' := by
  refine cal_ref16_letter (by simp) 1000 fun Q hQ => ?_
  by_cases h1 : 97 ≤ c <;> by_cases h2 : c ≤ 122 <;> by_cases h3 : 65 ≤ c <;> by_cases h4 : c ≤ 90 <;>
    (simp (disch := first | with_reducible assumption | omega) only [push_cast, x_blk, x_cd, ↓reduceIte, Nat.reduceEqDiff, List.map_cons, List.map_nil, Int.reduceEq, Int.lt_irrefl, F_ref16_letter, h1, h2, h3, h4]; exact fin_1 (hQ _ _ ⟨by simp only [push_cast, ↓reduceIte, Nat.reduceEqDiff]; simp [IsLet, h1, h2, h3, h4], Same.refl _⟩))
theorem text_part (c : Int) (w : World) : Cal Try.prog 31 [.int .u8 c] w fun v w' => v = .bool (decide (IsIn c)) ∧ Same w w' := by
  refine cal_text_part (by simp) 1000 fun Q hQ => ?_
  simp (disch := first | with_reducible assumption | omega) only [push_cast, x_blk, x_cd, ↓reduceIte, Nat.reduceEqDiff, List.map_cons, List.map_nil, Int.reduceEq, Int.lt_irrefl, F_text_part]
  refine call_of (text_letter c w) ?_
  rintro v w1 ⟨rfl, s1⟩
  by_cases h0 : IsLet c
  · simp (disch := first | with_reducible assumption | omega) only [push_cast, x_blk, x_cd, ↓reduceIte, Nat.reduceEqDiff, List.map_cons, List.map_nil, Int.reduceEq, Int.lt_irrefl, decide_eq_true h0]
    exact fin_1 (hQ _ _ ⟨by (try simp only [push_cast, ↓reduceIte, Nat.reduceEqDiff]); simp [IsIn, h0], s1⟩)
  by_cases h3 : c = 95
  · have e3 := eq_true h3
    by_cases h1 : 48 ≤ c <;> by_cases h2 : c ≤ 57 <;>
      (simp (disch := first | with_reducible assumption | omega) only [push_cast, x_blk, x_cd, ↓reduceIte, Nat.reduceEqDiff, List.map_cons, List.map_nil, Int.reduceEq, Int.lt_irrefl, decide_eq_false h0, h1, h2, e3]; exact fin_1 (hQ _ _ ⟨by simp only [push_cast, ↓reduceIte, Nat.reduceEqDiff]; simp [IsIn, h0, h3], s1⟩))
  · by_cases h1 : 48 ≤ c <;> by_cases h2 : c ≤ 57 <;>
      (simp (disch := first | with_reducible assumption | omega) only [push_cast, x_blk, x_cd, ↓reduceIte, Nat.reduceEqDiff, List.map_cons, List.map_nil, Int.reduceEq, Int.lt_irrefl, decide_eq_false h0, h1, h2, h3]; exact fin_1 (hQ _ _ ⟨by simp only [push_cast, ↓reduceIte, Nat.reduceEqDiff]; simp [IsIn, h0, h1, h2, h3], s1⟩))
theorem ref16_inside (c : Int) (w : World) : Cal Try.prog 29 [.int .u8 c] w fun v w' => v = .bool (decide (IsIn c)) ∧ Same w w' := by
  refine cal_ref16_inside (by simp) 1000 fun Q hQ => ?_
  simp (disch := first | with_reducible assumption | omega) only [push_cast, x_blk, x_cd, ↓reduceIte, Nat.reduceEqDiff, List.map_cons, List.map_nil, Int.reduceEq, Int.lt_irrefl, F_ref16_inside]
  refine call_of (ref16_letter c w) ?_
  rintro v w1 ⟨rfl, s1⟩
  by_cases h0 : IsLet c
  · simp (disch := first | with_reducible assumption | omega) only [push_cast, x_blk, x_cd, ↓reduceIte, Nat.reduceEqDiff, List.map_cons, List.map_nil, Int.reduceEq, Int.lt_irrefl, decide_eq_true h0]
    exact fin_1 (hQ _ _ ⟨by (try simp only [push_cast, ↓reduceIte, Nat.reduceEqDiff]); simp [IsIn, h0], s1⟩)
  by_cases h3 : c = 95
  · have e3 := eq_true h3
    by_cases h1 : 48 ≤ c <;> by_cases h2 : c ≤ 57 <;>
      (simp (disch := first | with_reducible assumption | omega) only [push_cast, x_blk, x_cd, ↓reduceIte, Nat.reduceEqDiff, List.map_cons, List.map_nil, Int.reduceEq, Int.lt_irrefl, decide_eq_false h0, h1, h2, e3]; exact fin_1 (hQ _ _ ⟨by simp only [push_cast, ↓reduceIte, Nat.reduceEqDiff]; simp [IsIn, h0, h3], s1⟩))
  · by_cases h1 : 48 ≤ c <;> by_cases h2 : c ≤ 57 <;>
      (simp (disch := first | with_reducible assumption | omega) only [push_cast, x_blk, x_cd, ↓reduceIte, Nat.reduceEqDiff, List.map_cons, List.map_nil, Int.reduceEq, Int.lt_irrefl, decide_eq_false h0, h1, h2, h3]; exact fin_1 (hQ _ _ ⟨by simp only [push_cast, ↓reduceIte, Nat.reduceEqDiff]; simp [IsIn, h0, h1, h2, h3], s1⟩))
def Named (s : ByteArray) : Prop := (∀ i, i < s.size → IsIn (byt s i)) ∧ 1 ≤ s.size ∧ s.size ≤ 16 ∧ IsLet (byt s 0)
instance (s : ByteArray) : Decidable (Named s) := inferInstanceAs (Decidable (_ ∧ _))
theorem text_named (s : ByteArray) (hs : s.size ≤ 9223372036854775806) (w : World) : Cal Try.prog 21 [.string s] w fun v w' => v = .bool (decide (Named s)) ∧ Same w w' := by
  refine cal_text_named (by simp) 1000 fun Q hQ => ?_
  simp (disch := first | with_reducible assumption | omega) only [push_cast, x_blk, x_cd, ↓reduceIte, Nat.reduceEqDiff, List.map_cons, List.map_nil, Int.reduceEq, Int.lt_irrefl, F_text_named]
  refine loop_rule (fun f w' => ∃ k : Nat, k ≤ s.size ∧ (f 0 = .string s ∧ f 5 = .int .i64 s.size ∧ f 6 = .int .i64 k) ∧ (∀ i, i < k → IsIn (byt s i)) ∧ Same w w')
    (fun f _ => s.size - (intOf (f 6)).toNat) ⟨0, Nat.zero_le _, ⟨rfl, rfl, rfl⟩, fun i hi => absurd hi (by omega), Same.refl w⟩ ?_
  rintro f w1 ⟨k, hk, fr, hal, s1⟩ J hJ
  have hmu : (intOf (f 6)).toNat = k := by rw [fr.2.2]; simp [intOf]
  by_cases hlt : k < s.size
  case neg =>
    obtain rfl : k = s.size := by omega
    by_cases h1 : (1 : Int) ≤ (s.size : Int)
    case neg =>
      simp (disch := first | with_reducible assumption | omega) only [push_cast, x_blk, x_cd, ↓reduceIte, Nat.reduceEqDiff, List.map_cons, List.map_nil, Int.reduceEq, Int.lt_irrefl, L_text_named_0, fr, Nat.lt_irrefl, h1]
      exact fin_1 (hQ _ _ ⟨by simp only [push_cast, ↓reduceIte, Nat.reduceEqDiff]; rw [decide_eq_false fun h => h1 (by have := h.2.1; omega)], s1⟩)
    by_cases h2 : (s.size : Int) ≤ 16
    case neg =>
      simp (disch := first | with_reducible assumption | omega) only [push_cast, x_blk, x_cd, ↓reduceIte, Nat.reduceEqDiff, List.map_cons, List.map_nil, Int.reduceEq, Int.lt_irrefl, L_text_named_0, fr, Nat.lt_irrefl, h1, h2]
      exact fin_1 (hQ _ _ ⟨by simp only [push_cast, ↓reduceIte, Nat.reduceEqDiff]; rw [decide_eq_false fun h => h2 (by have := h.2.2.1; omega)], s1⟩)
    have hp : 0 < s.size := by omega
    simp (disch := first | with_reducible assumption | omega) only [push_cast, x_blk, x_cd, ↓reduceIte, Nat.reduceEqDiff, List.map_cons, List.map_nil, Int.reduceEq, Int.lt_irrefl, L_text_named_0, fr, Nat.lt_irrefl, h1, h2, ix_str0 s hp]
    refine call_of (text_letter (byt s 0) w1) ?_
    rintro v w2 ⟨rfl, s2⟩
    simp (disch := first | with_reducible assumption | omega) only [push_cast, x_blk, x_cd, ↓reduceIte, Nat.reduceEqDiff, List.map_cons, List.map_nil, Int.reduceEq, Int.lt_irrefl]
    refine fin_1 (hQ _ _ ⟨?_, s1.trans s2⟩)
    by_cases h3 : IsLet (byt s 0)
    · have : Named s := ⟨hal, by omega, by omega, h3⟩
      simp only [push_cast, ↓reduceIte, Nat.reduceEqDiff, decide_eq_true this, decide_eq_true h3]
    · have : ¬ Named s := fun h => h3 h.2.2.2
      simp only [push_cast, ↓reduceIte, Nat.reduceEqDiff, decide_eq_false this, decide_eq_false h3]
  simp (disch := first | with_reducible assumption | omega) only [push_cast, x_blk, x_cd, ↓reduceIte, Nat.reduceEqDiff, List.map_cons, List.map_nil, Int.reduceEq, Int.lt_irrefl, L_text_named_0, fr, hlt, ix_str' s .i64 k hlt]
  refine call_of (text_part (byt s k) w1) ?_
  rintro v w2 ⟨rfl, s2⟩
  by_cases h3 : IsIn (byt s k)
  · simp (disch := first | with_reducible assumption | omega) only [push_cast, x_blk, x_cd, ↓reduceIte, Nat.reduceEqDiff, List.map_cons, List.map_nil, Int.reduceEq, Int.lt_irrefl, fr, decide_eq_true h3]
    exact hJ _ _ ⟨k + 1, hlt, (by simp only [push_cast, ↓reduceIte, Nat.reduceEqDiff, true_and, and_true, and_self, eq_self, fr]), fun i hi => by
      by_cases c : i = k
      · subst c; exact h3
      · exact hal i (by omega), s1.trans s2⟩ (by rw [hmu]; simp only [push_cast, ↓reduceIte, Nat.reduceEqDiff, intOf, fr]; omega)
  · simp (disch := first | with_reducible assumption | omega) only [push_cast, x_blk, x_cd, ↓reduceIte, Nat.reduceEqDiff, List.map_cons, List.map_nil, Int.reduceEq, Int.lt_irrefl, fr, decide_eq_false h3]
    exact fin_1 (hQ _ _ ⟨by simp only [push_cast, ↓reduceIte, Nat.reduceEqDiff]; rw [decide_eq_false fun h => h3 (h.1 k hlt)], s1.trans s2⟩)
end Go.Proofs.Ytpinjiikiaakaaa
