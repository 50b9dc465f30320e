/-
  The number of the lowest bit that is set: the library's TrailingZeros64, by its contract, where its table reads as it is laid.
-/
import Derived.Test.YtiabkafgmanhiaaDoorSetB
import Derived.Test.YtiabkafgmanhiaaDoorRec
namespace Go.Proofs.YtiabkafgmanhiaaDoor
set_option linter.unusedSimpArgs false
set_option linter.unusedVariables false
set_option linter.unusedSectionVars false
open Go.RowKit

def tzTab : List Nat := [0, 1, 56, 2, 57, 49, 28, 3, 61, 58, 42, 50, 38, 29, 17, 4, 62, 47, 59, 36, 45, 43, 51, 22, 53, 39, 33, 30, 24, 18, 12, 5, 63, 55, 48, 27, 60, 41, 37, 16, 46, 35, 44, 21, 52, 32, 23, 11, 54, 26, 40, 15, 34, 20, 31, 10, 25, 14, 19, 9, 13, 8, 7, 6]
/-- The library's table lies in memory. -/
structure Tab (w : World) : Prop where
  cell : ∀ i, i < 64 → w.cell? ⟨0, i, none⟩ = some (.int .u8 (tzTab.getD i 0 : Nat))
theorem Tab.lt {w : World} (h : Tab w) : 0 < w.heap.size := World.block_lt_of_cell? w _ (h.cell 0 (by decide))
theorem Tab.below {B : Nat} {w w' : World} (h : Tab w) (hb : Below B w w') (hB : 0 < B) : Tab w' := ⟨fun i hi => (hb.cell (p := ⟨0, i, none⟩) hB).trans (h.cell i hi)⟩
theorem Tab.on {w w' : World} (h : Tab w) (hb : Below w.heap.size w w') : Tab w' := h.below hb h.lt
theorem Tab.same {w w' : World} (h : Tab w) (hs : Same w w') : Tab w' := h.on (hs.below _)

/-! ## The lowest bit, in plain Lean -/
theorem low_split : ∀ x : Nat, 0 < x → ∃ k q, x = 2 ^ k * (2 * q + 1)
  | x, hx => by
    by_cases h : x % 2 = 1
    · exact ⟨0, x / 2, by omega⟩
    · obtain ⟨k, q, e⟩ := low_split (x / 2) (by omega)
      exact ⟨k + 1, q, by rw [Nat.pow_succ, Nat.mul_comm (2 ^ k) 2, Nat.mul_assoc, ← e]; omega⟩
termination_by x => x
theorem bit_x (k q i : Nat) : (2 ^ k * (2 * q + 1)).testBit i = if i < k then false else if i = k then true else q.testBit (i - k - 1) := by
  have := Nat.testBit_two_pow_mul_add (2 * q + 1) (b := 0) (i := k) (Nat.two_pow_pos k) i
  rw [Nat.add_zero] at this
  rw [this]
  split
  · simp
  · split
    · rename_i h; subst h; simp
    · rename_i h1 h2
      obtain ⟨j, hj⟩ : ∃ j, i - k = j + 1 := ⟨i - k - 1, by omega⟩
      rw [hj, Nat.testBit_succ]
      congr 1
      omega
theorem bit_x1 (k q i : Nat) : (2 ^ k * (2 * q + 1) - 1).testBit i = if i < k then true else if i = k then false else q.testBit (i - k - 1) := by
  have hp := Nat.two_pow_pos k
  have e : 2 ^ k * (2 * q + 1) - 1 = 2 ^ k * (2 * q) + (2 ^ k - 1) := by rw [Nat.mul_add]; omega
  rw [e, Nat.testBit_two_pow_mul_add (2 * q) (b := 2 ^ k - 1) (i := k) (by omega) i]
  split
  · rename_i h
    rw [Nat.testBit_two_pow_sub_one]; simp [h]
  · split
    · rename_i h; subst h; simp
    · rename_i h1 h2
      obtain ⟨j, hj⟩ : ∃ j, i - k = j + 1 := ⟨i - k - 1, by omega⟩
      rw [hj, Nat.testBit_succ]
      congr 1
      omega
theorem low_and {x k q : Nat} (h : x = 2 ^ k * (2 * q + 1)) (hx : x < 2 ^ 64) : x &&& (2 ^ 64 - x) = 2 ^ k := by
  have h0 : 0 < x := by rw [h]; exact Nat.mul_pos (Nat.two_pow_pos k) (by omega)
  refine Nat.eq_of_testBit_eq fun i => ?_
  have e : 2 ^ 64 - x = 2 ^ 64 - ((x - 1) + 1) := by omega
  rw [Nat.testBit_and, e, Nat.testBit_two_pow_sub_succ (by omega), Nat.testBit_two_pow, h, bit_x, bit_x1]
  have hk : k < 64 := by
    rcases Nat.lt_or_ge k 64 with h1 | h1
    · exact h1
    · have := Nat.pow_le_pow_right (n := 2) (by decide) h1
      have := Nat.le_mul_of_pos_right (2 ^ k) (show 0 < 2 * q + 1 by omega)
      omega
  by_cases h1 : i < k
  · rw [if_pos h1, Bool.false_and]; exact (decide_eq_false (by omega)).symm
  · rw [if_neg h1, if_neg h1]
    by_cases h2 : i = k
    · subst h2; simp [hk]
    · rw [if_neg h2, if_neg h2]
      have : decide (k = i) = false := decide_eq_false (fun h => h2 h.symm)
      rw [this]
      cases q.testBit (i - k - 1) <;> simp
/-- Behind 'w &= w - 1' the lowest bit is gone. -/
theorem low_off {x k q : Nat} (h : x = 2 ^ k * (2 * q + 1)) (i : Nat) : (x &&& (x - 1)).testBit i = (decide (k < i) && x.testBit i) := by
  rw [Nat.testBit_and, h, bit_x, bit_x1]
  by_cases h1 : i < k
  · simp [h1]
  · by_cases h2 : i = k
    · subst h2; simp
    · have : k < i := by omega
      simp [h1, h2, this]
theorem low_lt {x k q : Nat} (h : x = 2 ^ k * (2 * q + 1)) (hx : x < 2 ^ 64) : k < 64 := by
  rcases Nat.lt_or_ge k 64 with h1 | h1
  · exact h1
  · have := Nat.pow_le_pow_right (n := 2) (by decide) h1
    have := Nat.le_mul_of_pos_right (2 ^ k) (show 0 < 2 * q + 1 by omega)
    omega
theorem tz_tab : ∀ k : Fin 64, tzTab.getD ((2 ^ k.val * 285870213051353865 % 2 ^ 64) >>> 58) 0 = k.val := by decide +kernel
theorem tz_idx (y : Nat) : (y % 2 ^ 64) >>> 58 < 64 := by
  rw [Nat.shiftRight_eq_div_pow]
  have := Nat.mod_lt y (show 0 < 2 ^ 64 by decide)
  omega

section
variable {P : Program} {K : Fr → World → Prop} {u : World} {f : Fr} {d : Option Nat} {w : World} {t ty : Nat} {xo yo : Operand}
theorem wrap_u64_mod (n : Nat) : IntKind.u64.wrap (n : Int) = ((n % 2 ^ 64 : Nat) : Int) := by
  have hb : IntKind.u64.bits = 64 := rfl
  have hs : IntKind.u64.signed = false := rfl
  simp only [IntKind.wrap, hb, hs, Bool.false_and, Bool.false_eq_true, if_false]
  exact (Int.natCast_emod n (2 ^ 64)).symm
theorem bin_mulu {x y z : Nat} (h : x * y % 2 ^ 64 = z) : Val1 P K (binS .mul t xo yo (.int .u64 x) (.int .u64 y)) u f d w = K (updO f d (.int .u64 z)) w :=
  val1_of u f d w fun w' _ => by
    show Result.ok (Value.int .u64 (IntKind.u64.wrap ((x : Int) * (y : Int)))) w' = _
    rw [show (x : Int) * (y : Int) = ((x * y : Nat) : Int) by simp, wrap_u64_mod, h]
theorem un_negu {x z : Nat} (h0 : 0 < x) (hx : x < 2 ^ 64) (h : 2 ^ 64 - x = z) : Val1 P K (Op.unary .neg (.int .u64 x)) u f d w = K (updO f d (.int .u64 z)) w :=
  val1_of u f d w fun w' _ => by
    show Result.ok (Value.int .u64 (IntKind.u64.wrap (0 - (x : Int)))) w' = _
    have hb : IntKind.u64.bits = 64 := rfl
    have hs : IntKind.u64.signed = false := rfl
    have : IntKind.u64.wrap (0 - (x : Int)) = (z : Int) := by
      simp only [IntKind.wrap, hb, hs, Bool.false_and, Bool.false_eq_true, if_false]
      omega
    rw [this]
theorem bin_shru {x k z : Nat} (h : x >>> k = z) (hk : k < 64) : Val1 P K (binS .shr t xo yo (.int .u64 x) (.int .u64 k)) u f d w = K (updO f d (.int .u64 z)) w :=
  val1_of u f d w fun w' _ => by
    have h0 : ¬ ((k : Int) < 0) := by omega
    have h1 : min k 64 = k := by omega
    have h2 : (x : Int).fdiv (2 ^ k) = ((x >>> k : Nat) : Int) := by
      have e : (2 : Int) ^ k = ((2 ^ k : Nat) : Int) := by simp
      rw [e, Nat.shiftRight_eq_div_pow, Int.fdiv_eq_ediv_of_nonneg _ (Int.natCast_nonneg _)]
      rfl
    show (Op.shift .shr .u64 x .u64 k : Sem Value).run P w' = _
    unfold Op.shift
    rw [if_neg h0]
    show Result.ok (Value.int .u64 ((x : Int).fdiv (2 ^ (min (k : Int).toNat 64)))) w' = _
    rw [Int.toNat_natCast, h1, h2, h]
theorem e_conv (s : TypeId) (o : Operand) : EffX P K (.convert s t o) ty f d w = Eff1 P K (convert s t (ev f o)) f d w := propext Iff.rfl
end

def Hid (p : Prop) : Prop := p
theorem bits_TrailingZeros64 {w : World} (hT : Tab w) {x k q : Nat} (h : x = 2 ^ k * (2 * q + 1)) (hx : x < 2 ^ 64) :
    Cal Tryd.prog 108 [.int .u64 x] w fun v w' => v = .int .i64 k ∧ Same w w' := by
  refine cal_math_bits_TrailingZeros64 (by simp) 100000 fun Q hQ => ?_
  have h0 : 0 < x := by rw [h]; exact Nat.mul_pos (Nat.two_pow_pos k) (by omega)
  have hk := low_lt h hx
  have ha := low_and h hx
  have hi := tz_idx (2 ^ k * 285870213051353865)
  have ht := tz_tab ⟨k, hk⟩
  have hc := hT.cell _ hi
  simp only at ht
  rw [ht] at hc
  have hp : 2 ^ k < 2 ^ 64 := Nat.pow_lt_pow_right (by decide) hk
  have hn' : 2 ^ 64 - x < 2 ^ 64 := Nat.sub_lt (by decide) h0
  clear h ht
  obtain ⟨p, hp0⟩ : ∃ p, 2 ^ k = p := ⟨_, rfl⟩
  obtain ⟨n, hn⟩ : ∃ n, 2 ^ 64 - x = n := ⟨_, rfl⟩
  rw [hp0] at ha hi hc hp
  rw [hn] at ha hn'
  obtain ⟨m, hm⟩ : ∃ m, p * 285870213051353865 % 2 ^ 64 = m := ⟨_, rfl⟩
  rw [hm] at hi hc
  obtain ⟨j, hj⟩ : ∃ j, m >>> 58 = j := ⟨_, rfl⟩
  rw [hj] at hi hc
  have hmm : m < 2 ^ 64 := hm ▸ Nat.mod_lt _ (by decide)
  replace hx : Hid (x < 2 ^ 64) := hx
  replace ha : Hid (x &&& n = p) := ha
  replace hn : Hid (2 ^ 64 - x = n) := hn
  replace hn' : Hid (n < 2 ^ 64) := hn'
  replace hp : Hid (p < 2 ^ 64) := hp
  replace hm : Hid (p * 285870213051353865 % 2 ^ 64 = m) := hm
  replace hj : Hid (m >>> 58 = j) := hj
  replace hmm : Hid (m < 2 ^ 64) := hmm
  have hx0 : ¬ ((x : Int) = 0) := by omega
  have hi' : (j : Int) < 64 := by omega
  clear hp0
  have r3 : ∀ {K : Fr → World → Prop} {u : World} {f : Fr} {d : Option Nat} {w : World} {t : Nat} {xo yo : Operand}, Val1 Tryd.prog K (binS .mul t xo yo (.int .u64 p) (.int .u64 285870213051353865)) u f d w = K (updO f d (.int .u64 m)) w := fun {_ _ _ _ _ _ _ _} => bin_mulu (y := 285870213051353865) hm
  have r4 : ∀ {K : Fr → World → Prop} {u : World} {f : Fr} {d : Option Nat} {w : World} {t : Nat} {xo yo : Operand}, Val1 Tryd.prog K (binS .shr t xo yo (.int .u64 m) (.int .u64 58)) u f d w = K (updO f d (.int .u64 j)) w := fun {_ _ _ _ _ _ _ _} => bin_shru (k := 58) hj (by decide)
  simp (disch := first | with_reducible assumption | omega) only [push_cast, x_blk, x_cd, ↓reduceIte, Nat.reduceEqDiff, List.map_cons, List.map_nil, Int.reduceEq, Int.lt_irrefl, F_math_bits_TrailingZeros64, hx0, un_negu h0 hx hn, bin_and' ha hx hn', r3, r4, e_conv, Int.natCast_nonneg, hi', load_one_of _ _ _ _ ty_ag_5 hc]
  rw [eff1_of (v := .int .i64 k) (w' := w) (by simp [convert, run_underlying Tryd.underlying5, run_underlying Tryd.underlying3, Conv.intToInt, wrap_i64 (k : Int) (by omega) (by omega)])]
  simp (disch := first | with_reducible assumption | omega) only [push_cast, x_blk, x_cd, ↓reduceIte, Nat.reduceEqDiff, List.map_cons, List.map_nil, Int.reduceEq, Int.lt_irrefl]
  exact fin_1 (hQ _ _ ⟨(by simp only [push_cast, ↓reduceIte, Nat.reduceEqDiff, Int.reduceEq]), Same.refl w⟩)
end Go.Proofs.YtiabkafgmanhiaaDoor
