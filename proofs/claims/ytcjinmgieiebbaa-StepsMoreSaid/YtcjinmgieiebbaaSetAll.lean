/-
  The number of the lowest bit that is set: the library's TrailingZeros64, by its contract, where its table reads as it is laid.
  Chapter 2: the program's All goes over a set's numbers, rising: by its contract.
  Chapter 2: the program's Row: by its contract; After, Accepts.
  Chapter 2: which words are accepted: the program's Accepts, the reference's Word, After, Accepts: by their contracts.
-/
import Derived.Test.YtcjinmgieiebbaaSet
import Derived.Test.YtcjinmgieiebbaaOwn
import Derived.RangeFuncNested
import Derived.RangeFuncBox
import Derived.RangeFuncBound
import Derived.RangeFuncCalls
import Derived.RangeFuncLeaves
import Derived.Shelf.Abstract
import Derived.WalkKit
import Derived.OwnWalkIn
import Derived.TacticsInMore
import Derived.LoopNIn
import Derived.LoopIn
import Derived.Test.YtcjinmgieiebbaaMach
namespace Go.Proofs.Ytcjinmgieiebbaa
set_option linter.unusedSimpArgs false
set_option linter.unusedVariables false
set_option linter.unusedSectionVars false
/-! # Tz -/
section
open Go.RowKit

def tzTab : List Nat := [0, 1, 56, 2, 57, 49, 28, 3, 61, 58, 42, 50, 38, 29, 17, 4, 62, 47, 59, 36, 45, 43, 51, 22, 53, 39, 33, 30, 24, 18, 12, 5, 63, 55, 48, 27, 60, 41, 37, 16, 46, 35, 44, 21, 52, 32, 23, 11, 54, 26, 40, 15, 34, 20, 31, 10, 25, 14, 19, 9, 13, 8, 7, 6]
/-! ## The lowest bit, in plain Lean -/
theorem low_split : ∀ x : Nat, 0 < x → ∃ k q, x = 2 ^ k * (2 * q + 1)
  | x, hx => by
    by_cases h : x % 2 = 1
    · exact ⟨0, x / 2, by omega⟩
    · obtain ⟨k, q, e⟩ := low_split (x / 2) (by omega)
      exact ⟨k + 1, q, by rw [Nat.pow_succ, Nat.mul_comm (2 ^ k) 2, Nat.mul_assoc, ← e]; omega⟩
termination_by x => x
theorem bit_x (k q i : Nat) : (2 ^ k * (2 * q + 1)).testBit i = if i < k then false else if i = k then true else q.testBit (i - k - 1) := by
  have := Nat.testBit_two_pow_mul_add (2 * q + 1) (b := 0) (i := k) (Nat.two_pow_pos k) i
  rw [Nat.add_zero] at this
  rw [this]
  split
  · simp
  · split
    · rename_i h; subst h; simp
    · rename_i h1 h2
      obtain ⟨j, hj⟩ : ∃ j, i - k = j + 1 := ⟨i - k - 1, by omega⟩
      rw [hj, Nat.testBit_succ]
      congr 1
      omega
theorem bit_x1 (k q i : Nat) : (2 ^ k * (2 * q + 1) - 1).testBit i = if i < k then true else if i = k then false else q.testBit (i - k - 1) := by
  have hp := Nat.two_pow_pos k
  have e : 2 ^ k * (2 * q + 1) - 1 = 2 ^ k * (2 * q) + (2 ^ k - 1) := by rw [Nat.mul_add]; omega
  rw [e, Nat.testBit_two_pow_mul_add (2 * q) (b := 2 ^ k - 1) (i := k) (by omega) i]
  split
  · rename_i h
    rw [Nat.testBit_two_pow_sub_one]; simp [h]
  · split
    · rename_i h; subst h; simp
    · rename_i h1 h2
      obtain ⟨j, hj⟩ : ∃ j, i - k = j + 1 := ⟨i - k - 1, by omega⟩
      rw [hj, Nat.testBit_succ]
      congr 1
      omega
theorem low_and {x k q : Nat} (h : x = 2 ^ k * (2 * q + 1)) (hx : x < 2 ^ 64) : x &&& (2 ^ 64 - x) = 2 ^ k := by
  have h0 : 0 < x := by rw [h]; exact Nat.mul_pos (Nat.two_pow_pos k) (by omega)
  refine Nat.eq_of_testBit_eq fun i => ?_
  have e : 2 ^ 64 - x = 2 ^ 64 - ((x - 1) + 1) := by omega
  rw [Nat.testBit_and, e, Nat.testBit_two_pow_sub_succ (by omega), Nat.testBit_two_pow, h, bit_x, bit_x1]
  have hk : k < 64 := by
    rcases Nat.lt_or_ge k 64 with h1 | h1
    · exact h1
    · have := Nat.pow_le_pow_right (n := 2) (by decide) h1
      have := Nat.le_mul_of_pos_right (2 ^ k) (show 0 < 2 * q + 1 by omega)
      omega
  by_cases h1 : i < k
  · rw [if_pos h1, Bool.false_and]; exact (decide_eq_false (by omega)).symm
  · rw [if_neg h1, if_neg h1]
    by_cases h2 : i = k
    · subst h2; simp [hk]
    · rw [if_neg h2, if_neg h2]
      have : decide (k = i) = false := decide_eq_false (fun h => h2 h.symm)
      rw [this]
      cases q.testBit (i - k - 1) <;> simp
/-- Behind 'w &= w - 1' the lowest bit is gone. -/
theorem low_off {x k q : Nat} (h : x = 2 ^ k * (2 * q + 1)) (i : Nat) : (x &&& (x - 1)).testBit i = (decide (k < i) && x.testBit i) := by
  rw [Nat.testBit_and, h, bit_x, bit_x1]
  by_cases h1 : i < k
  · simp [h1]
  · by_cases h2 : i = k
    · subst h2; simp
    · have : k < i := by omega
      simp [h1, h2, this]
theorem low_lt {x k q : Nat} (h : x = 2 ^ k * (2 * q + 1)) (hx : x < 2 ^ 64) : k < 64 := by
  rcases Nat.lt_or_ge k 64 with h1 | h1
  · exact h1
  · have := Nat.pow_le_pow_right (n := 2) (by decide) h1
    have := Nat.le_mul_of_pos_right (2 ^ k) (show 0 < 2 * q + 1 by omega)
    omega
theorem tz_tab : ∀ k : Fin 64, tzTab.getD ((2 ^ k.val * 285870213051353865 % 2 ^ 64) >>> 58) 0 = k.val := by decide +kernel
theorem tz_idx (y : Nat) : (y % 2 ^ 64) >>> 58 < 64 := by
  rw [Nat.shiftRight_eq_div_pow]
  have := Nat.mod_lt y (show 0 < 2 ^ 64 by decide)
  omega

section
variable {P : Program} {K : Fr → World → Prop} {u : World} {f : Fr} {d : Option Nat} {w : World} {t ty : Nat} {xo yo : Operand}
theorem wrap_u64_mod (n : Nat) : IntKind.u64.wrap (n : Int) = ((n % 2 ^ 64 : Nat) : Int) := by
  have hb : IntKind.u64.bits = 64 := rfl
  have hs : IntKind.u64.signed = false := rfl
  simp only [IntKind.wrap, hb, hs, Bool.false_and, Bool.false_eq_true, if_false]
  exact (Int.natCast_emod n (2 ^ 64)).symm
theorem bin_mulu {x y z : Nat} (h : x * y % 2 ^ 64 = z) : Val1 P K (binS .mul t xo yo (.int .u64 x) (.int .u64 y)) u f d w = K (updO f d (.int .u64 z)) w :=
  val1_of u f d w fun w' _ => by
    show Result.ok (Value.int .u64 (IntKind.u64.wrap ((x : Int) * (y : Int)))) w' = _
    rw [show (x : Int) * (y : Int) = ((x * y : Nat) : Int) by simp, wrap_u64_mod, h]
theorem un_negu {x z : Nat} (h0 : 0 < x) (hx : x < 2 ^ 64) (h : 2 ^ 64 - x = z) : Val1 P K (Op.unary .neg (.int .u64 x)) u f d w = K (updO f d (.int .u64 z)) w :=
  val1_of u f d w fun w' _ => by
    show Result.ok (Value.int .u64 (IntKind.u64.wrap (0 - (x : Int)))) w' = _
    have hb : IntKind.u64.bits = 64 := rfl
    have hs : IntKind.u64.signed = false := rfl
    have : IntKind.u64.wrap (0 - (x : Int)) = (z : Int) := by
      simp only [IntKind.wrap, hb, hs, Bool.false_and, Bool.false_eq_true, if_false]
      omega
    rw [this]
theorem bin_shru {x k z : Nat} (h : x >>> k = z) (hk : k < 64) : Val1 P K (binS .shr t xo yo (.int .u64 x) (.int .u64 k)) u f d w = K (updO f d (.int .u64 z)) w :=
  val1_of u f d w fun w' _ => by
    have h0 : ¬ ((k : Int) < 0) := by omega
    have h1 : min k 64 = k := by omega
    have h2 : (x : Int).fdiv (2 ^ k) = ((x >>> k : Nat) : Int) := by
      have e : (2 : Int) ^ k = ((2 ^ k : Nat) : Int) := by simp
      rw [e, Nat.shiftRight_eq_div_pow, Int.fdiv_eq_ediv_of_nonneg _ (Int.natCast_nonneg _)]
      rfl
    show (Op.shift .shr .u64 x .u64 k : Sem Value).run P w' = _
    unfold Op.shift
    rw [if_neg h0]
    show Result.ok (Value.int .u64 ((x : Int).fdiv (2 ^ (min (k : Int).toNat 64)))) w' = _
    rw [Int.toNat_natCast, h1, h2, h]
theorem e_conv (s : TypeId) (o : Operand) : EffX P K (.convert s t o) ty f d w = Eff1 P K (convert s t (ev f o)) f d w := propext Iff.rfl
end

def Hid (p : Prop) : Prop := p
end

/-! # SetAll -/
section
open Go.RowKit Go.Shelf

attribute [local go_sem] Oper.semAt_some

/-- The numbers below b that a list has, rising. -/
def rowUpto (S : List Int) (b : Nat) : List Int := ((List.range b).filter fun (n : Nat) => decide ((n : Int) ∈ S)).map fun (n : Nat) => (n : Int)
abbrev rowS (S : List Int) : List Int := rowUpto S 256
theorem rowUpto_succ (S : List Int) (b : Nat) : rowUpto S (b + 1) = rowUpto S b ++ (if (b : Int) ∈ S then [(b : Int)] else []) := by
  unfold rowUpto
  rw [List.range_succ, List.filter_append, List.map_append]
  congr 1
  by_cases h : (b : Int) ∈ S <;> simp [h]
theorem rowUpto_gap (S : List Int) (b c : Nat) (hbc : b ≤ c) (h : ∀ j, b ≤ j → j < c → (j : Int) ∉ S) : rowUpto S c = rowUpto S b := by
  obtain ⟨d, rfl⟩ := Nat.le.dest hbc
  clear hbc
  induction d with
  | zero => rfl
  | succ d ih =>
    rw [← Nat.add_assoc, rowUpto_succ, if_neg (h (b + d) (by omega) (by omega)), List.append_nil]
    exact ih fun j h1 h2 => h j h1 (by omega)
theorem rowUpto_le (S : List Int) (b : Nat) : (rowUpto S b).length ≤ b := by
  unfold rowUpto
  have := List.length_filter_le (fun n : Nat => decide ((n : Int) ∈ S)) (List.range b)
  simpa using this
theorem rowUpto_lt (S : List Int) {b c : Nat} (h : b < c) (hb : (b : Int) ∈ S) : (rowUpto S b).length < (rowUpto S c).length := by
  have h1 : (rowUpto S (b + 1)).length = (rowUpto S b).length + 1 := by rw [rowUpto_succ, if_pos hb]; simp
  have h2 : ∀ d, (rowUpto S (b + 1)).length ≤ (rowUpto S (b + 1 + d)).length := by
    intro d
    induction d with
    | zero => exact Nat.le_refl _
    | succ d ih => rw [← Nat.add_assoc, rowUpto_succ S (b + 1 + d), List.length_append]; omega
  have := h2 (c - (b + 1))
  rw [show b + 1 + (c - (b + 1)) = c by omega] at this
  omega
theorem rowS_row {S : List Int} (h : Strict S) (hs : Small S) : rowS S = S := by
  refine Strict.ext ?_ h fun x => ?_
  · unfold rowS rowUpto Strict
    rw [List.pairwise_map]
    refine List.Pairwise.imp (fun h => Int.ofNat_lt.2 h) (List.Pairwise.filter _ List.pairwise_lt_range)
  · unfold rowS rowUpto
    simp only [List.mem_map, List.mem_filter, List.mem_range, decide_eq_true_eq]
    constructor
    · rintro ⟨n, ⟨_, h⟩, rfl⟩; exact h
    · intro hx
      have := hs x hx
      exact ⟨x.toNat, ⟨by omega, by rw [show ((x.toNat : Nat) : Int) = x by omega]; exact hx⟩, by omega⟩
theorem setHas_word (S : List Int) (i k : Nat) (hi : i < 4) (hk : k < 64) : ((wordsOf S).getD i 0).testBit k = decide (((64 * i + k : Nat) : Int) ∈ S) := by
  have := wordsOf_has S (64 * i + k) (by omega)
  unfold setHas at this
  rwa [show (64 * i + k) / 64 = i by omega, show (64 * i + k) % 64 = k by omega] at this

theorem Same.grown {w w' : World} (h : Same w w') : w.grownBy w' none := ⟨h.os, h.tape, h.output, by rw [h.heap]; exact Nat.le_refl _, fun k _ _ => by rw [h.heap]⟩

theorem infoInt : (Try.prog.info? 3).map (fun i => (i.zero, i.size, i.bytes)) = some (some (.int .i64 0), 1, 8) := by kernel_rfl
end

/-! # SetRow -/
section
open Go.RowKit

/-- A word. -/
def IsWord (m : Mach) (l : List Int) : Prop := ∀ i, i < l.length → 0 ≤ l.getD i 0 ∧ l.getD i 0 < m.events
instance (m : Mach) (l : List Int) : Decidable (IsWord m l) := by unfold IsWord; exact inferInstance
/-- Where runs of a word end. -/
def afterL (m : Mach) (l : List Int) (word : List Int) : List Int := word.foldl (stepL m) l
theorem afterL_snoc (m : Mach) (l word : List Int) (k : Nat) (h : k < word.length) : afterL m l (word.take (k + 1)) = stepL m (afterL m l (word.take k)) (word.getD k 0) := by
  unfold afterL
  rw [take_snoc _ 0 k h, List.foldl_append]
  rfl
theorem afterL_row {m : Mach} (hm : m.May) {l : List Int} (hl : IsRow l m.states) : ∀ word : List Int, IsRow (afterL m l word) m.states := by
  intro word
  unfold afterL
  induction word generalizing l with
  | nil => exact hl
  | cons e word ih => exact ih (stepL_row hm l e)
def AfterRes (m : Mach) (l word : List Int) (w : World) (v : Value) (w' : World) : Prop :=
  ∃ O co o e, v = .tuple #[.slice O o.length co, .int .i64 e] ∧ OwnI w.heap.size 3 w' O co o ∧ Below w.heap.size w w' ∧
    (m.May ∧ IsRow l m.states ∧ IsWord m word → e = 0 ∧ o = afterL m l word) ∧ (¬ (m.May ∧ IsRow l m.states) → e = 2 ∧ o = []) ∧ ((m.May ∧ IsRow l m.states) ∧ ¬ IsWord m word → e = 6 ∧ o = [])
end

/-! # Acc -/
section
open Go.RowKit

def AcceptsL (m : Mach) (word : List Int) : Prop := MeetL (afterL m m.starts word) m.ends
instance (m : Mach) (word : List Int) : Decidable (AcceptsL m word) := by unfold AcceptsL; exact inferInstance
theorem may_starts {m : Mach} (hm : m.May) : IsRow m.starts m.states := hm.2.2.2.2.2.1
theorem may_ends {m : Mach} (hm : m.May) : IsRow m.ends m.states := hm.2.2.2.2.2.2.1
def AcceptsRes (m : Mach) (word : List Int) (w : World) (v : Value) (w' : World) : Prop :=
  ∃ (b : Bool) (e : Int), v = .tuple #[.bool b, .int .i64 e] ∧ Below w.heap.size w w' ∧
    (m.May ∧ IsWord m word → e = 0 ∧ b = decide (AcceptsL m word)) ∧ (¬ m.May → e = 2 ∧ b = false) ∧ (m.May ∧ ¬ IsWord m word → e = 6 ∧ b = false)
end
end Go.Proofs.Ytcjinmgieiebbaa
