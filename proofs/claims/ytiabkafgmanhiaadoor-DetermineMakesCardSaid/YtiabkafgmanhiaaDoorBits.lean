/-
  Arithmetic of bits: the operators on unsigned words. No program in sight.
-/
import Derived.Test.YtiabkafgmanhiaaDoorBlk
namespace Go.Proofs.YtiabkafgmanhiaaDoor
set_option linter.unusedSimpArgs false
set_option linter.unusedVariables false
set_option linter.unusedSectionVars false
open Go.RowKit

section
variable {P : Program} {K : Fr → World → Prop} {u : World} {f : Fr} {d : Option Nat} {w w' : World} {t ty g : Nat} {xo yo : Operand}
theorem wrap_i64 (n : Int) (h0 : -9223372036854775808 ≤ n) (h1 : n ≤ 9223372036854775807) : IntKind.i64.wrap n = n := IntWalk.i64_in _ ⟨h0, h1⟩
theorem wrap_u64 (n : Nat) (h : n < 2 ^ 64) : IntKind.u64.wrap n = n := by
  have hb : IntKind.u64.bits = 64 := rfl
  have hs : IntKind.u64.signed = false := rfl
  simp only [IntKind.wrap, hb, hs, Bool.false_and, Bool.false_eq_true, if_false]
  exact Int.emod_eq_of_lt (by omega) (by exact_mod_cast h)
theorem bin_quo (n m : Nat) (hm : 0 < m) (hn : n ≤ 9223372036854775807) : Val1 P K (binS .quo t xo yo (.int .i64 n) (.int .i64 m)) u f d w = K (updO f d (.int .i64 (n / m : Nat))) w :=
  val1_of u f d w fun w' _ => by
    have h0 : (m : Int) ≠ 0 := by omega
    have h1 : (n : Int).tdiv m = ((n / m : Nat) : Int) := by rw [Int.ofNat_tdiv]
    have h2 : n / m ≤ n := Nat.div_le_self n m
    have h3 : IntKind.i64.wrap ((n / m : Nat) : Int) = ((n / m : Nat) : Int) := by
      generalize n / m = q at *
      exact wrap_i64 _ (by omega) (by omega)
    show ((do eqGuard .quo t xo yo (.int .i64 n) (.int .i64 m); Op.intDiv .quo .i64 n m) : Sem Value).run P w' = _
    unfold Op.intDiv
    rw [if_neg h0]
    show Result.ok (Value.int .i64 (IntKind.i64.wrap ((n : Int).tdiv m))) w' = _
    rw [h1, h3]
theorem bin_rem (n m : Nat) (hm : 0 < m) : Val1 P K (binS .rem t xo yo (.int .i64 n) (.int .i64 m)) u f d w = K (updO f d (.int .i64 (n % m : Nat))) w :=
  val1_of u f d w fun w' _ => by
    have h0 : (m : Int) ≠ 0 := by omega
    have h1 : (n : Int).tmod m = ((n % m : Nat) : Int) := by rw [Int.ofNat_tmod]
    simp only [binS, eqGuard, binOp, Op.intDiv, if_neg h0, h1]
    simp
theorem bin_shl1 (k : Nat) (hk : k < 64) : Val1 P K (binS .shl t xo yo (.int .u64 1) (.int .i64 k)) u f d w = K (updO f d (.int .u64 (2 ^ k : Nat))) w :=
  val1_of u f d w fun w' _ => by
    have h0 : ¬ ((k : Int) < 0) := by omega
    have hb : IntKind.u64.bits = 64 := rfl
    have h1 : min k 64 = k := by omega
    have h2 : (1 : Int) * 2 ^ k = ((2 ^ k : Nat) : Int) := by simp
    have h3 : 2 ^ k < 2 ^ 64 := Nat.pow_lt_pow_right (by decide) hk
    simp only [binS, eqGuard, binOp, Op.shift, if_neg h0, Int.toNat_natCast, hb, h1, h2, wrap_u64 _ h3]
    simp
theorem bin_shr (x k : Nat) (hk : k < 64) : Val1 P K (binS .shr t xo yo (.int .u64 x) (.int .i64 k)) u f d w = K (updO f d (.int .u64 (x >>> k : Nat))) w :=
  val1_of u f d w fun w' _ => by
    have h0 : ¬ ((k : Int) < 0) := by omega
    have hb : IntKind.u64.bits = 64 := rfl
    have h1 : min k 64 = k := by omega
    have h2 : (x : Int).fdiv (2 ^ k) = ((x >>> k : Nat) : Int) := by
      have e : (2 : Int) ^ k = ((2 ^ k : Nat) : Int) := by simp
      rw [e, Nat.shiftRight_eq_div_pow, Int.fdiv_eq_ediv_of_nonneg _ (Int.natCast_nonneg _)]
      rfl
    show (Op.shift .shr .u64 x .i64 k : Sem Value).run P w' = _
    unfold Op.shift
    rw [if_neg h0]
    show Result.ok (Value.int .u64 ((x : Int).fdiv (2 ^ (min (k : Int).toNat 64)))) w' = _
    rw [Int.toNat_natCast, h1, h2]
theorem bin_and (x y : Nat) (hx : x < 2 ^ 64) (hy : y < 2 ^ 64) : Val1 P K (binS .and t xo yo (.int .u64 x) (.int .u64 y)) u f d w = K (updO f d (.int .u64 (x &&& y : Nat))) w :=
  val1_of u f d w fun w' _ => by
    have hb : IntKind.u64.bits = 64 := rfl
    have h1 : (BitVec.ofInt 64 (x : Int) &&& BitVec.ofInt 64 (y : Int)).toNat = x &&& y := by
      rw [BitVec.toNat_and]; simp [BitVec.toNat_ofInt, Nat.mod_eq_of_lt hx, Nat.mod_eq_of_lt hy]
    have h2 : x &&& y < 2 ^ 64 := Nat.and_lt_two_pow x hy
    have h3 := wrap_u64 _ h2
    show Result.ok (Value.int .u64 (IntKind.u64.wrap ((BitVec.ofInt 64 (x : Int) &&& BitVec.ofInt 64 (y : Int)).toNat : Int))) w' = _
    rw [h1, h3]
theorem bin_or (x y : Nat) (hx : x < 2 ^ 64) (hy : y < 2 ^ 64) : Val1 P K (binS .or t xo yo (.int .u64 x) (.int .u64 y)) u f d w = K (updO f d (.int .u64 (x ||| y : Nat))) w :=
  val1_of u f d w fun w' _ => by
    have hb : IntKind.u64.bits = 64 := rfl
    have h1 : (BitVec.ofInt 64 (x : Int) ||| BitVec.ofInt 64 (y : Int)).toNat = x ||| y := by
      rw [BitVec.toNat_or]; simp [BitVec.toNat_ofInt, Nat.mod_eq_of_lt hx, Nat.mod_eq_of_lt hy]
    have h2 : x ||| y < 2 ^ 64 := Nat.or_lt_two_pow hx hy
    have h3 := wrap_u64 _ h2
    show Result.ok (Value.int .u64 (IntKind.u64.wrap ((BitVec.ofInt 64 (x : Int) ||| BitVec.ofInt 64 (y : Int)).toNat : Int))) w' = _
    rw [h1, h3]
theorem bin_quo64 (n : Nat) (hn : n ≤ 9223372036854775807) : Val1 P K (binS .quo t xo yo (.int .i64 n) (.int .i64 64)) u f d w = K (updO f d (.int .i64 (n / 64 : Nat))) w := bin_quo n 64 (by decide) hn
theorem bin_rem64 (n : Nat) : Val1 P K (binS .rem t xo yo (.int .i64 n) (.int .i64 64)) u f d w = K (updO f d (.int .i64 (n % 64 : Nat))) w := bin_rem n 64 (by decide)
theorem bin_and1 (x : Nat) (hx : x < 2 ^ 64) : Val1 P K (binS .and t xo yo (.int .u64 x) (.int .u64 1)) u f d w = K (updO f d (.int .u64 (x &&& 1 : Nat))) w := bin_and x 1 hx (by decide)
theorem bin_quo64' {n q : Nat} (h : n / 64 = q) (hn : n ≤ 9223372036854775807) : Val1 P K (binS .quo t xo yo (.int .i64 n) (.int .i64 64)) u f d w = K (updO f d (.int .i64 q)) w := h ▸ bin_quo64 n hn
theorem bin_rem64' {n q : Nat} (h : n % 64 = q) : Val1 P K (binS .rem t xo yo (.int .i64 n) (.int .i64 64)) u f d w = K (updO f d (.int .i64 q)) w := h ▸ bin_rem64 n
theorem bin_and1' {x z : Nat} (h : x &&& 1 = z) (hx : x < 2 ^ 64) : Val1 P K (binS .and t xo yo (.int .u64 x) (.int .u64 1)) u f d w = K (updO f d (.int .u64 z)) w := h ▸ bin_and1 x hx
theorem bin_shr' {x k z : Nat} (h : x >>> k = z) (hk : k < 64) : Val1 P K (binS .shr t xo yo (.int .u64 x) (.int .i64 k)) u f d w = K (updO f d (.int .u64 z)) w := h ▸ bin_shr x k hk
theorem bin_shl1' {k z : Nat} (h : 2 ^ k = z) (hk : k < 64) : Val1 P K (binS .shl t xo yo (.int .u64 1) (.int .i64 k)) u f d w = K (updO f d (.int .u64 z)) w := h ▸ bin_shl1 k hk
theorem bin_and' {x y z : Nat} (h : x &&& y = z) (hx : x < 2 ^ 64) (hy : y < 2 ^ 64) : Val1 P K (binS .and t xo yo (.int .u64 x) (.int .u64 y)) u f d w = K (updO f d (.int .u64 z)) w := h ▸ bin_and x y hx hy
theorem bin_or' {x y z : Nat} (h : x ||| y = z) (hx : x < 2 ^ 64) (hy : y < 2 ^ 64) : Val1 P K (binS .or t xo yo (.int .u64 x) (.int .u64 y)) u f d w = K (updO f d (.int .u64 z)) w := h ▸ bin_or x y hx hy
/-- one cell of a block -/
theorem sto_cell {cs : List Value} (hk : Blk w g t cs) (hty : tySize P ty = some 1) (j : Nat) (hj : j < cs.length) (k : IntKind) (x : Int)
    (h : ∀ w', Blk w' g t (cs.set j (.int k x)) → Grew w w' (some ⟨g, 0, none⟩) → w'.heap.size = w.heap.size → K (updO f d undef) w') :
    Eff1 P K (do Instr.storeAt ty (.pointer (some ⟨g, j, none⟩)) (.int k x); pure undef) f d w := by
  have hc := hk.cell j
  have hf := hk.frozen j
  refine ⟨undef, w.setCell ⟨g, j, none⟩ (.int k x), ?_, h _ (hk.set j _) ⟨⟨rfl, rfl, rfl, by simp, fun _ hk' hne => Below.heap_setCell w _ _ _ (by simpa using hne)⟩⟩ (by simp)⟩
  unfold tySize at hty
  cases hi : P.info? ty with
  | none => simp [hi] at hty
  | some ie =>
    simp only [hi, Option.map_some, Option.some.injEq] at hty
    rw [List.getElem?_eq_getElem hj] at hc
    simp [Instr.storeAt, Instr.sureAddr, storeVar, sizeOf, typeInfo, hi, hty, Value.cells, storeCells, addr_add, run_store_int, stored, hc, hf]
end
end Go.Proofs.YtiabkafgmanhiaaDoor
