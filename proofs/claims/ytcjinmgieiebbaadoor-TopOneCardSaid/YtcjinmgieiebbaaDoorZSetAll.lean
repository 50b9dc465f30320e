/-
  The number of the lowest bit that is set: the library's TrailingZeros64, by its contract, where its table reads as it is laid.
  Chapter 2: the program's All goes over a set's numbers, rising: by its contract.
  Chapter 2: the program's Row: by its contract; After, Accepts.
  Chapter 2: which words are accepted: the program's Accepts, the reference's Word, After, Accepts: by their contracts.
-/
import Derived.Test.YtcjinmgieiebbaaDoorZSet
import Derived.Test.YtcjinmgieiebbaaDoorZOwn
import Derived.RangeFuncNested
import Derived.RangeFuncBox
import Derived.RangeFuncBound
import Derived.RangeFuncCalls
import Derived.RangeFuncLeaves
import Derived.Shelf.Abstract
import Derived.WalkKit
import Derived.OwnWalkIn
import Derived.TacticsInMore
import Derived.LoopNIn
import Derived.LoopIn
import Derived.Test.YtcjinmgieiebbaaDoorZMach
namespace Go.Proofs.YtcjinmgieiebbaaDoor
set_option linter.unusedSimpArgs false
set_option linter.unusedVariables false
set_option linter.unusedSectionVars false
section
open Go.RowKit

def tzTab : List Nat := [0, 1, 56, 2, 57, 49, 28, 3, 61, 58, 42, 50, 38, 29, 17, 4, 62, 47, 59, 36, 45, 43, 51, 22, 53, 39, 33, 30, 24, 18, 12, 5, 63, 55, 48, 27, 60, 41, 37, 16, 46, 35, 44, 21, 52, 32, 23, 11, 54, 26, 40, 15, 34, 20, 31, 10, 25, 14, 19, 9, 13, 8, 7, 6]
/-- The library's table lies in memory. -/
structure Tab (w : World) : Prop where
  cell : ∀ i, i < 64 → w.cell? ⟨0, i, none⟩ = some (.int .u8 (tzTab.getD i 0 : Nat))
theorem Tab.lt {w : World} (h : Tab w) : 0 < w.heap.size := World.block_lt_of_cell? w _ (h.cell 0 (by decide))
theorem Tab.below {B : Nat} {w w' : World} (h : Tab w) (hb : Below B w w') (hB : 0 < B) : Tab w' := ⟨fun i hi => (hb.cell (p := ⟨0, i, none⟩) hB).trans (h.cell i hi)⟩
theorem Tab.on {w w' : World} (h : Tab w) (hb : Below w.heap.size w w') : Tab w' := h.below hb h.lt
theorem Tab.same {w w' : World} (h : Tab w) (hs : Same w w') : Tab w' := h.on (hs.below _)

theorem low_split : ∀ x : Nat, 0 < x → ∃ k q, x = 2 ^ k * (2 * q + 1)
  | x, hx => by
    by_cases h : x % 2 = 1
    · exact ⟨0, x / 2, by omega⟩
    · obtain ⟨k, q, e⟩ := low_split (x / 2) (by omega)
      exact ⟨k + 1, q, by rw [Nat.pow_succ, Nat.mul_comm (2 ^ k) 2, Nat.mul_assoc, ← e]; omega⟩
termination_by x => x
theorem bit_x (k q i : Nat) : (2 ^ k * (2 * q + 1)).testBit i = if i < k then false else if i = k then true else q.testBit (i - k - 1) := by
  have := Nat.testBit_two_pow_mul_add (2 * q + 1) (b := 0) (i := k) (Nat.two_pow_pos k) i
  rw [Nat.add_zero] at this
  rw [this]
  split
  · simp
  · split
    · rename_i h; subst h; simp
    · rename_i h1 h2
      obtain ⟨j, hj⟩ : ∃ j, i - k = j + 1 := ⟨i - k - 1, by omega⟩
      rw [hj, Nat.testBit_succ]
      congr 1
      omega
theorem bit_x1 (k q i : Nat) : (2 ^ k * (2 * q + 1) - 1).testBit i = if i < k then true else if i = k then false else q.testBit (i - k - 1) := by
  have hp := Nat.two_pow_pos k
  have e : 2 ^ k * (2 * q + 1) - 1 = 2 ^ k * (2 * q) + (2 ^ k - 1) := by rw [Nat.mul_add]; omega
  rw [e, Nat.testBit_two_pow_mul_add (2 * q) (b := 2 ^ k - 1) (i := k) (by omega) i]
  split
  · rename_i h
    rw [Nat.testBit_two_pow_sub_one]; simp [h]
  · split
    · rename_i h; subst h; simp
    · rename_i h1 h2
      obtain ⟨j, hj⟩ : ∃ j, i - k = j + 1 := ⟨i - k - 1, by omega⟩
      rw [hj, Nat.testBit_succ]
      congr 1
      omega
theorem low_and {x k q : Nat} (h : x = 2 ^ k * (2 * q + 1)) (hx : x < 2 ^ 64) : x &&& (2 ^ 64 - x) = 2 ^ k := by
  have h0 : 0 < x := by rw [h]; exact Nat.mul_pos (Nat.two_pow_pos k) (by omega)
  refine Nat.eq_of_testBit_eq fun i => ?_
  have e : 2 ^ 64 - x = 2 ^ 64 - ((x - 1) + 1) := by omega
  rw [Nat.testBit_and, e, Nat.testBit_two_pow_sub_succ (by omega), Nat.testBit_two_pow, h, bit_x, bit_x1]
  have hk : k < 64 := by
    rcases Nat.lt_or_ge k 64 with h1 | h1
    · exact h1
    · have := Nat.pow_le_pow_right (n := 2) (by decide) h1
      have := Nat.le_mul_of_pos_right (2 ^ k) (show 0 < 2 * q + 1 by omega)
      omega
  by_cases h1 : i < k
  · rw [if_pos h1, Bool.false_and]; exact (decide_eq_false (by omega)).symm
  · rw [if_neg h1, if_neg h1]
    by_cases h2 : i = k
    · subst h2; simp [hk]
    · rw [if_neg h2, if_neg h2]
      have : decide (k = i) = false := decide_eq_false (fun h => h2 h.symm)
      rw [this]
      cases q.testBit (i - k - 1) <;> simp
/-- Behind 'w &= w - 1' the lowest bit is gone. -/
theorem low_off {x k q : Nat} (h : x = 2 ^ k * (2 * q + 1)) (i : Nat) : (x &&& (x - 1)).testBit i = (decide (k < i) && x.testBit i) := by
  rw [Nat.testBit_and, h, bit_x, bit_x1]
  by_cases h1 : i < k
  · simp [h1]
  · by_cases h2 : i = k
    · subst h2; simp
    · have : k < i := by omega
      simp [h1, h2, this]
theorem low_lt {x k q : Nat} (h : x = 2 ^ k * (2 * q + 1)) (hx : x < 2 ^ 64) : k < 64 := by
  rcases Nat.lt_or_ge k 64 with h1 | h1
  · exact h1
  · have := Nat.pow_le_pow_right (n := 2) (by decide) h1
    have := Nat.le_mul_of_pos_right (2 ^ k) (show 0 < 2 * q + 1 by omega)
    omega
theorem tz_tab : ∀ k : Fin 64, tzTab.getD ((2 ^ k.val * 285870213051353865 % 2 ^ 64) >>> 58) 0 = k.val := by decide +kernel
theorem tz_idx (y : Nat) : (y % 2 ^ 64) >>> 58 < 64 := by
  rw [Nat.shiftRight_eq_div_pow]
  have := Nat.mod_lt y (show 0 < 2 ^ 64 by decide)
  omega

section
variable {P : Program} {K : Fr → World → Prop} {u : World} {f : Fr} {d : Option Nat} {w : World} {t ty : Nat} {xo yo : Operand}
theorem wrap_u64_mod (n : Nat) : IntKind.u64.wrap (n : Int) = ((n % 2 ^ 64 : Nat) : Int) := by
  have hb : IntKind.u64.bits = 64 := rfl
  have hs : IntKind.u64.signed = false := rfl
  simp only [IntKind.wrap, hb, hs, Bool.false_and, Bool.false_eq_true, if_false]
  exact (Int.natCast_emod n (2 ^ 64)).symm
theorem bin_mulu {x y z : Nat} (h : x * y % 2 ^ 64 = z) : Val1 P K (binS .mul t xo yo (.int .u64 x) (.int .u64 y)) u f d w = K (updO f d (.int .u64 z)) w :=
  val1_of u f d w fun w' _ => by
    show Result.ok (Value.int .u64 (IntKind.u64.wrap ((x : Int) * (y : Int)))) w' = _
    rw [show (x : Int) * (y : Int) = ((x * y : Nat) : Int) by simp, wrap_u64_mod, h]
theorem un_negu {x z : Nat} (h0 : 0 < x) (hx : x < 2 ^ 64) (h : 2 ^ 64 - x = z) : Val1 P K (Op.unary .neg (.int .u64 x)) u f d w = K (updO f d (.int .u64 z)) w :=
  val1_of u f d w fun w' _ => by
    show Result.ok (Value.int .u64 (IntKind.u64.wrap (0 - (x : Int)))) w' = _
    have hb : IntKind.u64.bits = 64 := rfl
    have hs : IntKind.u64.signed = false := rfl
    have : IntKind.u64.wrap (0 - (x : Int)) = (z : Int) := by
      simp only [IntKind.wrap, hb, hs, Bool.false_and, Bool.false_eq_true, if_false]
      omega
    rw [this]
theorem bin_shru {x k z : Nat} (h : x >>> k = z) (hk : k < 64) : Val1 P K (binS .shr t xo yo (.int .u64 x) (.int .u64 k)) u f d w = K (updO f d (.int .u64 z)) w :=
  val1_of u f d w fun w' _ => by
    have h0 : ¬ ((k : Int) < 0) := by omega
    have h1 : min k 64 = k := by omega
    have h2 : (x : Int).fdiv (2 ^ k) = ((x >>> k : Nat) : Int) := by
      have e : (2 : Int) ^ k = ((2 ^ k : Nat) : Int) := by simp
      rw [e, Nat.shiftRight_eq_div_pow, Int.fdiv_eq_ediv_of_nonneg _ (Int.natCast_nonneg _)]
      rfl
    show (Op.shift .shr .u64 x .u64 k : Sem Value).run P w' = _
    unfold Op.shift
    rw [if_neg h0]
    show Result.ok (Value.int .u64 ((x : Int).fdiv (2 ^ (min (k : Int).toNat 64)))) w' = _
    rw [Int.toNat_natCast, h1, h2, h]
theorem e_conv (s : TypeId) (o : Operand) : EffX P K (.convert s t o) ty f d w = Eff1 P K (convert s t (ev f o)) f d w := propext Iff.rfl
end

def Hid (p : Prop) : Prop := p
theorem bits_TrailingZeros64 {w : World} (hT : Tab w) {x k q : Nat} (h : x = 2 ^ k * (2 * q + 1)) (hx : x < 2 ^ 64) :
    Cal Tryd.prog 110 [.int .u64 x] w fun v w' => v = .int .i64 k ∧ Same w w' := by
  refine cal_math_bits_TrailingZeros64 (by simp) 100000 fun Q hQ => ?_
  have h0 : 0 < x := by rw [h]; exact Nat.mul_pos (Nat.two_pow_pos k) (by omega)
  have hk := low_lt h hx
  have ha := low_and h hx
  have hi := tz_idx (2 ^ k * 285870213051353865)
  have ht := tz_tab ⟨k, hk⟩
  have hc := hT.cell _ hi
  simp only at ht
  rw [ht] at hc
  have hp : 2 ^ k < 2 ^ 64 := Nat.pow_lt_pow_right (by decide) hk
  have hn' : 2 ^ 64 - x < 2 ^ 64 := Nat.sub_lt (by decide) h0
  clear h ht
  obtain ⟨p, hp0⟩ : ∃ p, 2 ^ k = p := ⟨_, rfl⟩
  obtain ⟨n, hn⟩ : ∃ n, 2 ^ 64 - x = n := ⟨_, rfl⟩
  rw [hp0] at ha hi hc hp
  rw [hn] at ha hn'
  obtain ⟨m, hm⟩ : ∃ m, p * 285870213051353865 % 2 ^ 64 = m := ⟨_, rfl⟩
  rw [hm] at hi hc
  obtain ⟨j, hj⟩ : ∃ j, m >>> 58 = j := ⟨_, rfl⟩
  rw [hj] at hi hc
  have hmm : m < 2 ^ 64 := hm ▸ Nat.mod_lt _ (by decide)
  replace hx : Hid (x < 2 ^ 64) := hx
  replace ha : Hid (x &&& n = p) := ha
  replace hn : Hid (2 ^ 64 - x = n) := hn
  replace hn' : Hid (n < 2 ^ 64) := hn'
  replace hp : Hid (p < 2 ^ 64) := hp
  replace hm : Hid (p * 285870213051353865 % 2 ^ 64 = m) := hm
  replace hj : Hid (m >>> 58 = j) := hj
  replace hmm : Hid (m < 2 ^ 64) := hmm
  have hx0 : ¬ ((x : Int) = 0) := by omega
  have hi' : (j : Int) < 64 := by omega
  clear hp0
  have r3 : ∀ {K : Fr → World → Prop} {u : World} {f : Fr} {d : Option Nat} {w : World} {t : Nat} {xo yo : Operand}, Val1 Tryd.prog K (binS .mul t xo yo (.int .u64 p) (.int .u64 285870213051353865)) u f d w = K (updO f d (.int .u64 m)) w := fun {_ _ _ _ _ _ _ _} => bin_mulu (y := 285870213051353865) hm
  have r4 : ∀ {K : Fr → World → Prop} {u : World} {f : Fr} {d : Option Nat} {w : World} {t : Nat} {xo yo : Operand}, Val1 Tryd.prog K (binS .shr t xo yo (.int .u64 m) (.int .u64 58)) u f d w = K (updO f d (.int .u64 j)) w := fun {_ _ _ _ _ _ _ _} => bin_shru (k := 58) hj (by decide)
  simp (disch := first | with_reducible assumption | omega) only [push_cast, x_blk, x_cd, ↓reduceIte, Nat.reduceEqDiff, List.map_cons, List.map_nil, Int.reduceEq, Int.lt_irrefl, F_math_bits_TrailingZeros64, hx0, un_negu h0 hx hn, bin_and' ha hx hn', r3, r4, e_conv, Int.natCast_nonneg, hi', load_one_of _ _ _ _ ty_ag_5 hc]
  rw [eff1_of (v := .int .i64 k) (w' := w) (by simp [convert, run_underlying Tryd.underlying5, run_underlying Tryd.underlying3, Conv.intToInt, wrap_i64 (k : Int) (by omega) (by omega)])]
  simp (disch := first | with_reducible assumption | omega) only [push_cast, x_blk, x_cd, ↓reduceIte, Nat.reduceEqDiff, List.map_cons, List.map_nil, Int.reduceEq, Int.lt_irrefl]
  exact fin_1 (hQ _ _ ⟨(by simp only [push_cast, ↓reduceIte, Nat.reduceEqDiff, Int.reduceEq]), Same.refl w⟩)
end

section
open Go.RowKit Go.Shelf

attribute [local go_sem] Oper.semAt_some

/-- The numbers below b that a list has, rising. -/
def rowUpto (S : List Int) (b : Nat) : List Int := ((List.range b).filter fun (n : Nat) => decide ((n : Int) ∈ S)).map fun (n : Nat) => (n : Int)
abbrev rowS (S : List Int) : List Int := rowUpto S 256
theorem rowUpto_succ (S : List Int) (b : Nat) : rowUpto S (b + 1) = rowUpto S b ++ (if (b : Int) ∈ S then [(b : Int)] else []) := by
  unfold rowUpto
  rw [List.range_succ, List.filter_append, List.map_append]
  congr 1
  by_cases h : (b : Int) ∈ S <;> simp [h]
theorem rowUpto_gap (S : List Int) (b c : Nat) (hbc : b ≤ c) (h : ∀ j, b ≤ j → j < c → (j : Int) ∉ S) : rowUpto S c = rowUpto S b := by
  obtain ⟨d, rfl⟩ := Nat.le.dest hbc
  clear hbc
  induction d with
  | zero => rfl
  | succ d ih =>
    rw [← Nat.add_assoc, rowUpto_succ, if_neg (h (b + d) (by omega) (by omega)), List.append_nil]
    exact ih fun j h1 h2 => h j h1 (by omega)
theorem rowUpto_le (S : List Int) (b : Nat) : (rowUpto S b).length ≤ b := by
  unfold rowUpto
  have := List.length_filter_le (fun n : Nat => decide ((n : Int) ∈ S)) (List.range b)
  simpa using this
theorem rowUpto_lt (S : List Int) {b c : Nat} (h : b < c) (hb : (b : Int) ∈ S) : (rowUpto S b).length < (rowUpto S c).length := by
  have h1 : (rowUpto S (b + 1)).length = (rowUpto S b).length + 1 := by rw [rowUpto_succ, if_pos hb]; simp
  have h2 : ∀ d, (rowUpto S (b + 1)).length ≤ (rowUpto S (b + 1 + d)).length := by
    intro d
    induction d with
    | zero => exact Nat.le_refl _
    | succ d ih => rw [← Nat.add_assoc, rowUpto_succ S (b + 1 + d), List.length_append]; omega
  have := h2 (c - (b + 1))
  rw [show b + 1 + (c - (b + 1)) = c by omega] at this
  omega
theorem rowS_row {S : List Int} (h : Strict S) (hs : Small S) : rowS S = S := by
  refine Strict.ext ?_ h fun x => ?_
  · unfold rowS rowUpto Strict
    rw [List.pairwise_map]
    refine List.Pairwise.imp (fun h => Int.ofNat_lt.2 h) (List.Pairwise.filter _ List.pairwise_lt_range)
  · unfold rowS rowUpto
    simp only [List.mem_map, List.mem_filter, List.mem_range, decide_eq_true_eq]
    constructor
    · rintro ⟨n, ⟨_, h⟩, rfl⟩; exact h
    · intro hx
      have := hs x hx
      exact ⟨x.toNat, ⟨by omega, by rw [show ((x.toNat : Nat) : Int) = x by omega]; exact hx⟩, by omega⟩
theorem setHas_word (S : List Int) (i k : Nat) (hi : i < 4) (hk : k < 64) : ((wordsOf S).getD i 0).testBit k = decide (((64 * i + k : Nat) : Int) ∈ S) := by
  have := wordsOf_has S (64 * i + k) (by omega)
  unfold setHas at this
  rwa [show (64 * i + k) / 64 = i by omega, show (64 * i + k) % 64 = k by omega] at this

theorem Same.grown {w w' : World} (h : Same w w') : w.grownBy w' none := ⟨h.os, h.tape, h.output, by rw [h.heap]; exact Nat.le_refl _, fun k _ _ => by rw [h.heap]⟩

set_option maxRecDepth 100000 in
set_option maxHeartbeats 4000000 in
theorem set_All1 (n l Bn n₀ : Nat) (S : List Int) (J Jx : List {x : Int // x ∈ S} → World → Prop)
    (W : World) (hJ : AbidesFrom W.heap.size J)
    (hY : ∀ pre x W, J pre W → pre.length < (rowS S).length → YieldAt Fence.wide (n - 1) Tryd.prog l #[.int .i64 x.1] W fun e W' =>
      (e = .returned (.bool true) ∧ J (pre ++ [x]) W' ∧ Below n₀ W W') ∨ (e = .returned (.bool false) ∧ Jx (pre ++ [x]) W'))
    (hT : Tab W) (hg : 0 < n₀) (hS : Blk W Bn 64 (setCells (wordsOf S))) (h0 : J [] W) :
    CallsIn Fence.wide n Tryd.prog 109 #[.func (.yield l) #[] #[], .pointer (some ⟨Bn, 0, none⟩)] W fun e W' => (∃ v, e = .returned v) ∧
      ((∃ ys : List {x : Int // x ∈ S}, ys.map (·.1) = rowS S ∧ J ys W') ∨ (∃ pre, Jx pre W')) := by
  refine callsIn_of_wp Tryd.func109 rfl trivial ?_ rfl
  simp only [Tryd.ntmps109, List.size_toArray, List.length_cons, List.length_nil, Nat.reduceAdd, Nat.reduceSub, Array.replicate_succ, Array.replicate_zero, List.push_toArray, List.append_toArray, List.nil_append, List.cons_append]
  have hc0 := hS.cell 0
  have hc1 := hS.cell 1
  have hc2 := hS.cell 2
  have hc3 := hS.cell 3
  have hWs := wordsOf_words S
  have hbits := setHas_word S
  generalize wordsOf S = ws at *
  match ws, hWs.1 with
  | [w0, w1, w2, w3], _ =>
  simp only [setCells, List.map_cons, List.map_nil, List.getElem?_cons_zero, List.getElem?_cons_succ] at hc0 hc1 hc2 hc3
  gi_wp2
  gi_loopw [6] (fun v wr => ∃ (i : Nat) (pre : List {x : Int // x ∈ S}), v = .int .i64 (i : Int) ∧ i ≤ 4 ∧ pre.map (·.1) = rowUpto S (64 * i) ∧ J pre wr ∧ Tab wr) (fun v _ => 4 - (intOf v).toNat)
  case atStart => exact ⟨0, [], rfl, by omega, rfl, h0, hT⟩
  case round =>
    obtain ⟨i, pre, rfl, hi, hp, hJp, hTp⟩ := hrel
    by_cases hi4 : i < 4
    case neg =>
      obtain rfl : i = 4 := by omega
      gi_wp2
      go_end0
      exact ⟨⟨_, rfl⟩, .inl ⟨pre, hp, hJp⟩⟩
    case pos =>
      have hix : ∀ W', (Instr.index 64 (.agg #[.int .u64 (w0 : Int), .int .u64 (w1 : Int), .int .u64 (w2 : Int), .int .u64 (w3 : Int)]) (.int .i64 (i : Int))).run Tryd.prog W' = .ok (.int .u64 (([w0, w1, w2, w3].getD i 0 : Nat) : Int)) W' := by
        intro W'
        have hu : Tryd.prog.underlying 64 = some (.array 4 62) := Tryd.underlying64
        have ha : (isAgg 62).run Tryd.prog W' = .ok false W' := by simp [isAgg, run_underlying Tryd.underlying62]
        have hz : (sizeOf 62).run Tryd.prog W' = .ok 1 W' := by
          have := ty_sz_u64
          unfold tySize at this
          cases hi : Tryd.prog.info? 62 with
          | none => simp [hi] at this
          | some ie => simp only [hi, Option.map_some, Option.some.injEq] at this; simp [sizeOf, typeInfo, hi, this]
        match i, hi4 with
        | 0, _ => simp [Instr.index, asIntOf, run_underlying hu, part, ha, hz]
        | 1, _ => simp [Instr.index, asIntOf, run_underlying hu, part, ha, hz]
        | 2, _ => simp [Instr.index, asIntOf, run_underlying hu, part, ha, hz]
        | 3, _ => simp [Instr.index, asIntOf, run_underlying hu, part, ha, hz]
      have hb := fun k => hbits i k hi4
      have hx64 := hWs.2 i
      generalize [w0, w1, w2, w3].getD i 0 = x at *
      have hi4' : (i : Int) < 4 := by omega
      gi_wp2
      gi_loopw [4] (fun v4 wr => ∃ (y b : Nat) (pre : List {x : Int // x ∈ S}), v4 = .int .u64 (y : Int) ∧ y < 2 ^ 64 ∧ b ≤ 64 ∧ (∀ j, y.testBit j = (decide (b ≤ j) && x.testBit j)) ∧ pre.map (·.1) = rowUpto S (64 * i + b) ∧ J pre wr ∧ Tab wr) (fun v _ => (intOf v).toNat)
      case atStart => exact ⟨x, 0, pre, rfl, hx64, by omega, fun j => by simp, hp, hJp, hTp⟩
      case round =>
        obtain ⟨y, b, pre, rfl, hy64, hb64, hyb, hpp, hJp, hTp⟩ := hrel
        by_cases hy0 : y = 0
        · subst hy0
          gi_wp2
          refine ⟨⟨i + 1, pre, by simp, by omega, ?_, hJp, hTp⟩, by simp [intOf]; omega⟩
          rw [hpp]
          refine (rowUpto_gap S (64 * i + b) (64 * (i + 1)) (by omega) fun j h1 h2 => ?_).symm
          have h3 := hyb (j - 64 * i)
          rw [Nat.zero_testBit, decide_eq_true (show b ≤ j - 64 * i by omega), Bool.true_and, hb (j - 64 * i) (by omega), show 64 * i + (j - 64 * i) = j by omega] at h3
          exact of_decide_eq_false h3.symm
        · obtain ⟨k, q, hkq⟩ := low_split y (by omega)
          have hk := low_lt hkq hy64
          have hyk : y.testBit k = true := by rw [hkq, bit_x]; simp
          have hbk := hyk
          rw [hyb, Bool.and_eq_true, decide_eq_true_eq, hb k hk, decide_eq_true_eq] at hbk
          obtain ⟨hbk, hin⟩ := hbk
          have hgap : rowUpto S (64 * i + k) = rowUpto S (64 * i + b) := rowUpto_gap S _ _ (by omega) fun j h1 h2 => by
            have h3 := hyb (j - 64 * i)
            rw [hkq, bit_x, if_pos (by omega), decide_eq_true (show b ≤ j - 64 * i by omega), Bool.true_and, hb (j - 64 * i) (by omega), show 64 * i + (j - 64 * i) = j by omega] at h3
            exact of_decide_eq_false h3.symm
          have hlen : pre.length < (rowS S).length := by
            have : pre.length = (rowUpto S (64 * i + k)).length := by rw [hgap, ← hpp]; simp
            rw [this]
            exact rowUpto_lt S (by omega) hin
          have hsn : rowUpto S (64 * i + (k + 1)) = rowUpto S (64 * i + k) ++ [((64 * i + k : Nat) : Int)] := by rw [← Nat.add_assoc, rowUpto_succ, if_pos hin]
          have hbits2 := bits_TrailingZeros64 hTp hkq hy64
          replace hkq : Hid (y = 2 ^ k * (2 * q + 1)) := hkq
          have hy0' : ((y : Int) != 0) = true := by simp; omega
          gi_wp2
          refine ⟨trivial, fun h => (by cases h), ?_⟩
          refine (callsIn_wide.2 hbits2.calls).mono ?_
          rintro e w2 ⟨v, rfl, rfl, hs⟩
          have hT2 := hTp.same hs
          have hJ2 := hJ _ _ _ none hJp hs.grown (fun _ h => by cases h)
          obtain ⟨fn, tmps, assign, body, hy, hR⟩ := hY pre ⟨_, hin⟩ w2 hJ2 hlen
          simp only [Int.natCast_add, Int.natCast_mul, Int.cast_ofNat_Int] at hy
          gi_wp2
          refine ⟨fun h => (by cases h), ?_⟩
          refine hR.mono ?_
          rintro e W3 (⟨rfl, hJ3, hk3⟩ | ⟨rfl, hJx3⟩)
          · have hT3 := hT2.below hk3 hg
            have hand : bits .and .u64 (y : Int) ((y : Int) - 1) = ((y &&& (y - 1) : Nat) : Int) := by
              have h1 : (BitVec.ofInt 64 (y : Int) &&& BitVec.ofInt 64 ((y : Int) - 1)).toNat = y &&& (y - 1) := by
                rw [show (y : Int) - 1 = ((y - 1 : Nat) : Int) by omega, BitVec.toNat_and]
                simp [BitVec.toNat_ofInt, Nat.mod_eq_of_lt hy64, Nat.mod_eq_of_lt (show y - 1 < 2 ^ 64 by omega)]
              have h2 : y &&& (y - 1) < 2 ^ 64 := Nat.and_lt_two_pow y (by omega)
              show IntKind.u64.wrap ((BitVec.ofInt 64 (y : Int) &&& BitVec.ofInt 64 ((y : Int) - 1)).toNat : Int) = _
              rw [h1, wrap_u64 _ h2]
            have hle : y &&& (y - 1) < y := Nat.lt_of_le_of_lt Nat.and_le_right (by omega)
            gi_wp2
            go_roundw
            case rel =>
              refine ⟨y &&& (y - 1), k + 1, pre ++ [⟨_, hin⟩], rfl, by omega, by omega, fun j => ?_, ?_, hJ3, hT3⟩
              · rw [low_off hkq, hyb]
                by_cases h1 : k < j
                · rw [decide_eq_true h1, decide_eq_true (show b ≤ j by omega), decide_eq_true (show k + 1 ≤ j by omega), Bool.true_and, Bool.true_and]
                · rw [decide_eq_false h1, decide_eq_false (show ¬ k + 1 ≤ j by omega), Bool.false_and, Bool.false_and]
              · rw [List.map_append, hsn, hgap, hpp]; rfl
            case measure => simp only [intOf, Int.toNat_natCast]; exact hle
          · gi_wp2
            refine bodyPost_ret (results_none rfl _ _ _) rfl ?_
            exact ⟨⟨_, rfl⟩, .inr ⟨_, hJx3⟩⟩

theorem set_All (S : List Int) (w : World) : Cal Tryd.prog 90 [setV S] w fun v w' => v = .func (.func 109) #[] #[.pointer (some ⟨w.heap.size, 0, none⟩)] ∧ Blk w' w.heap.size 64 (setCells (wordsOf S)) ∧ Below w.heap.size w w' ∧ w'.heap.size = w.heap.size + 1 := by
  refine cal_machine_Set_All (by simp) 100000 fun Q hQ => ?_
  simp (disch := first | with_reducible assumption | omega) only [push_cast, x_blk, x_cd, ↓reduceIte, Nat.reduceEqDiff, List.map_cons, List.map_nil, Int.reduceEq, Int.lt_irrefl, F_machine_Set_All]
  refine blk_of (box_agg _ (setCells (wordsOf S))) ?_
  intro w1 k1 b1 z1
  simp (disch := first | with_reducible assumption | omega) only [push_cast, x_blk, x_cd, ↓reduceIte, Nat.reduceEqDiff, List.map_cons, List.map_nil, Int.reduceEq, Int.lt_irrefl]
  exact fin_1 (hQ _ _ ⟨rfl, k1, b1, z1⟩)

/-- What a range over a set's numbers is handed. -/
theorem set_All_stops (n Bn n₀ : Nat) (S : List Int) (w : World) (hT : Tab w) (hg : 0 < n₀) (hS : Blk w Bn 64 (setCells (wordsOf S))) :
    SeqStopsK Fence.wide n Tryd.prog 109 #[.pointer (some ⟨Bn, 0, none⟩)] (fun x : {x : Int // x ∈ S} => #[Value.int .i64 x.1]) (Below n₀) (fun ys => ys.map (·.1) = rowS S) (fun _ => True) (rowS S).length w := fun l J Jx W hW hJ _ hY h0 =>
  CallsIn.mono (set_All1 n l Bn n₀ S J Jx W hJ hY (hT.on hW) hg (hS.below hW hS.lt) h0) fun _ _ ⟨h1, h2⟩ => ⟨h1, h2.elim .inl fun ⟨pre, h⟩ => .inr ⟨pre, trivial, h⟩⟩

theorem infoInt : (Tryd.prog.info? 3).map (fun i => (i.zero, i.size, i.bytes)) = some (some (.int .i64 0), 1, 8) := by kernel_rfl
set_option maxRecDepth 100000 in
set_option maxHeartbeats 4000000 in
theorem set_Row_in (S : List Int) (w : World) (hT : Tab w) :
    CallsIn Fence.wide 4 Tryd.prog 47 #[setV S] w fun e W' => ∃ v, e = .returned v ∧ W'.ownsRow w.heap.size 3 1 v (rowS S).length ((rowS S).map (Value.int .i64)) ∧ Below w.heap.size w W' := by
  obtain ⟨i0, hi, hz0, hz1, hz2⟩ := info_parts infoInt
  have hlen : (rowS S).length ≤ 256 := rowUpto_le S 256
  refine callsIn_of_wp_marks Tryd.func47 rfl trivial ?_ rfl
  simp only [Tryd.ntmps47, List.size_toArray, List.length_cons, List.length_nil, Nat.reduceAdd, Nat.reduceSub, Array.replicate_succ, Array.replicate_zero, List.push_toArray, List.append_toArray, List.nil_append, List.cons_append]
  have hWs := wordsOf_words S
  obtain ⟨ws, hws⟩ : ∃ ws, wordsOf S = ws := ⟨_, rfl⟩
  unfold setV
  rw [hws] at hWs ⊢
  match ws, hWs.1 with
  | [w0, w1, w2, w3], _ =>
  have hall := set_All S
  have hst := fun n Bn n₀ w => set_All_stops n Bn n₀ S w
  unfold setV at hall
  rw [hws] at hall hst
  simp only [setVal, setCells, List.map_cons, List.map_nil] at hall hst ⊢
  gi_wp2
  refine ⟨trivial, ?_⟩
  refine (callsIn_wide.2 (hall _).calls).mono ?_
  have hb2 : Below w.heap.size w ((w.alloc (.cells #[.int .u64 (w0 : Int), .int .u64 (w1 : Int), .int .u64 (w2 : Int), .int .u64 (w3 : Int)] 64)).alloc (.cells #[.slice none 0 0] 22)) := ((Below.refl _ w).alloc (Nat.le_refl _) _).alloc (by simp) _
  have bO := Boxed.new (w.alloc (.cells #[.int .u64 (w0 : Int), .int .u64 (w1 : Int), .int .u64 (w2 : Int), .int .u64 (w3 : Int)] 64)) 22 (.slice none 0 0)
  rw [World.size_alloc] at bO
  have z2 : ((w.alloc (.cells #[.int .u64 (w0 : Int), .int .u64 (w1 : Int), .int .u64 (w2 : Int), .int .u64 (w3 : Int)] 64)).alloc (.cells #[.slice none 0 0] 22)).heap.size = w.heap.size + 2 := by simp
  generalize (w.alloc (.cells #[.int .u64 (w0 : Int), .int .u64 (w1 : Int), .int .u64 (w2 : Int), .int .u64 (w3 : Int)] 64)).alloc (.cells #[.slice none 0 0] 22) = wa at *
  rintro e wb ⟨v, rfl, rfl, hSb, hbb, zb⟩
  rw [z2] at hSb
  have hB0 := hb2.trans (hbb.mono hb2.size)
  have bO1 : Boxed wb (w.heap.size + 1) 22 (.slice none 0 0) := (hbb.block _ (by omega)).trans bO
  gi_wp2
  refine wpIn_rangeFunc_ownG rfl (by decide) (gf := 109) (lb := #[.pointer (some ⟨w.heap.size + 2, 0, none⟩)]) rfl trivial (enters_of Tryd.func109 (by kernel_rfl) rfl)
    (hst 3 (w.heap.size + 2) w.heap.size wb (hT.below hB0 hT.lt) hT.lt hSb) belowK_t (belowK_b (by omega)) (Below.refl _ _) (fun _ => rfl)
    (fun (pre : List {x : Int // x ∈ S}) W => (∃ v, Boxed W (w.heap.size + 1) 22 v ∧ W.ownsRow w.heap.size 3 1 v pre.length (pre.map fun x => Value.int .i64 x.1) ∧ True) ∧ Below w.heap.size w W)
    (fun _ _ _ => False)
    (OwnFrom.and (Own.from (holdsRow_own w.heap.size (w.heap.size + 1) 22 3 1 (fun (pre : List {x : Int // x ∈ S}) => pre.length) (fun pre => pre.map fun x => Value.int .i64 x.1) (fun _ _ => True)) _) (ownFrom_below (Nat.le_refl _) (by omega)))
    (fun _ _ _ _ _ hs _ _ => hs)
    ⟨⟨_, bO1, World.ownsRow_nil _ _ _ _, trivial⟩, hB0⟩
    (fun x => { tmps := #[.agg #[.int .u64 (w0 : Int), .int .u64 (w1 : Int), .int .u64 (w2 : Int), .int .u64 (w3 : Int)], .pointer (some ⟨w.heap.size, 0, none⟩), .slice none 0 0, .pointer (some ⟨w.heap.size + 1, 0, none⟩), .int .i64 x.1, .agg #[.int .u64 (w0 : Int), .int .u64 (w1 : Int), .int .u64 (w2 : Int), .int .u64 (w3 : Int)], .func (.func 109) #[] #[.pointer (some ⟨w.heap.size + 2, 0, none⟩)], .int .i64 x.1, undef, undef, undef, undef, undef], defers := [] }) ?assign ?body ?done ?stop
  case assign =>
    intro l x W K hK
    gi_wp2
    exact hK
  case body =>
    rintro l pre x W ⟨⟨v, hv, hrow, _⟩, hB⟩ hlt
    have hc := hv.cell
    have hm : pre.length + 1 ≤ maxLen := by unfold maxLen; omega
    gi_wp2_with (gi_at_builtin; refine wpListIn_append_own _ rfl _ _ 22 rfl w.heap.size 3 i0 (.int .i64 0) 1 8 Tryd.underlying22 hi hz0 hz1 hz2 rfl (by decide) _ _ _ rfl (hrow.alloc _) ⟨W.heap.size, 0, none⟩ 1 1 [.int .i64 x.1] rfl rfl (cell_one_new _ _ _) (by simp [Value.oneCell']) hm (by omega) (by have := hB.size; simp; omega) ?_; intro v' w1 hown' hgrow _; obtain ⟨g', cap', rfl⟩ := ownsRow_succ hown'; obtain ⟨hv1, hv2, hr2, hk2, hb2⟩ := hv.appended (by decide) hrow hB.size (by omega) hown' hgrow; have hc1 := hv1.cell; have hf1 := hv1.frozen)
    exact ⟨hk2.from _, hb2, ⟨_, hv2, by simpa using hr2, trivial⟩, hB.trans hb2⟩
  case done =>
    rintro D ys W hD hys ⟨⟨v, hv, hrow, _⟩, hB⟩ hK
    have hc := hv.cell
    gi_wp2
    refine ⟨by simp, .inl ⟨_, _, rfl, run_takeDeferred hK, ?_⟩⟩
    have e1 : (rowS S).length = ys.length := by rw [← hys]; simp
    have e2 : (rowS S).map (Value.int .i64) = ys.map fun x => Value.int .i64 x.1 := by rw [← hys]; simp
    rw [e1, e2]
    exact ⟨_, results_tmp rfl _ _ _, v, rfl, ownsRow_putObj hrow _ hK rfl, hB.trans (belowK_b (w := w) (Nat.le_refl _) W D _ _ (by omega) hK rfl rfl)⟩
  case stop =>
    rintro D c pre W _ _ h _
    exact h.elim
end

section
open Go.RowKit

theorem set_Row (S : List Int) {w : World} (hT : Tab w) : Cal Tryd.prog 47 [setV S] w fun v w' =>
    ∃ A c, v = .slice A (rowS S).length c ∧ OwnI w.heap.size 3 w' A c (rowS S) ∧ Below w.heap.size w w' :=
  ⟨k_machine_Set_Row, (callsIn_wide.1 (set_Row_in S w hT)).mono fun e W' ⟨v, he, ho, hb⟩ => ⟨v, he, by
    rcases ho.2 with ⟨rfl, h0⟩ | ⟨g, cap, cur, rfl, h⟩
    · exact ⟨none, 0, by rw [h0], ⟨by rw [h0] at ho ⊢; exact ho⟩, hb⟩
    · exact ⟨_, _, rfl, ⟨ho⟩, hb⟩⟩⟩
theorem set_Row' {S : List Int} (h : Strict S) (hs : Small S) {w : World} (hT : Tab w) : Cal Tryd.prog 47 [setV S] w fun v w' =>
    ∃ A c, v = .slice A S.length c ∧ OwnI w.heap.size 3 w' A c S ∧ Below w.heap.size w w' := by
  have := set_Row S hT
  rwa [rowS_row h hs] at this

/-- A word. -/
def IsWord (m : Mach) (l : List Int) : Prop := ∀ i, i < l.length → 0 ≤ l.getD i 0 ∧ l.getD i 0 < m.events
instance (m : Mach) (l : List Int) : Decidable (IsWord m l) := by unfold IsWord; exact inferInstance
/-- Where runs of a word end. -/
def afterL (m : Mach) (l : List Int) (word : List Int) : List Int := word.foldl (stepL m) l
end

section
open Go.RowKit

def AcceptsL (m : Mach) (word : List Int) : Prop := MeetL (afterL m m.starts word) m.ends
instance (m : Mach) (word : List Int) : Decidable (AcceptsL m word) := by unfold AcceptsL; exact inferInstance
theorem may_starts {m : Mach} (hm : m.May) : IsRow m.starts m.states := hm.2.2.2.2.2.1
theorem may_ends {m : Mach} (hm : m.May) : IsRow m.ends m.states := hm.2.2.2.2.2.2.1
end
end Go.Proofs.YtcjinmgieiebbaaDoor
