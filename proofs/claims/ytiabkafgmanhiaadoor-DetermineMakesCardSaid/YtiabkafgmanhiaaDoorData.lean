/-
  How plain data lie in memory: rows of integers, rows of structs of integers. No program in sight.
-/
import Derived.Test.YtiabkafgmanhiaaDoorLaws
namespace Go.Proofs.YtiabkafgmanhiaaDoor
set_option linter.unusedSimpArgs false
set_option linter.unusedVariables false
set_option linter.unusedSectionVars false
open Go.RowKit

/-- Every world that keeps what lay below B. -/
theorem below_refl {w : World} : Below w.heap.size w w := Below.refl _ _
theorem eA_block (A : Option Addr) (k : Nat) : (eA A k).block = (A.getD default).block := by unfold eA Addr.add; split <;> rfl

/-- The same memory: some draws apart. -/
structure Same (w w' : World) : Prop where
  heap : w'.heap = w.heap
  os : w'.os = w.os
  tape : w'.tape = w.tape
  output : w'.output = w.output
theorem Same.refl (w : World) : Same w w := ⟨rfl, rfl, rfl, rfl⟩
theorem Same.trans {a b c : World} (h : Same a b) (k : Same b c) : Same a c := ⟨k.heap.trans h.heap, k.os.trans h.os, k.tape.trans h.tape, k.output.trans h.output⟩
theorem Same.drew {a b : World} (h : Same a b) : Same a b.drew := ⟨h.heap, h.os, h.tape, h.output⟩
theorem Same.below {a b : World} (h : Same a b) (B : Nat) : Below B a b := ⟨h.os, h.tape, h.output, by rw [h.heap]; exact Nat.le_refl _, fun k _ => by rw [h.heap]⟩

/-- A row of integers that can be read in 'w', in a block that 'ok' lets. -/
structure Ints (ok : Nat → Prop) (w : World) (A : Option Addr) (l : List Int) : Prop where
  isSome : 0 < l.length → A.isSome = true
  block : 0 < l.length → ok (A.getD default).block
  cell : ∀ i, i < l.length → w.cell? (eA A i) = some (.int .i64 (l.getD i 0))
section
variable {P : Program} {K : Fr → World → Prop} {u : World} {f : Fr} {d : Option Nat} {w : World} {ok ok' : Nat → Prop} {A : Option Addr} {l : List Int}
theorem Ints.ld (h : Ints ok u A l) {t : TypeId} (ht : tyAgg P t = some false) (i : Nat) (hi : i < l.length) :
    Val1 P K (Instr.loadAt t (.pointer (some (eA A i)))) u f d w = K (updO f d (.int .i64 (l.getD i 0))) w := load_one_of u f d w ht (h.cell i hi)
theorem Ints.nil (ok : Nat → Prop) (w : World) (A : Option Addr) : Ints ok w A [] := ⟨fun h => absurd h (by simp), fun h => absurd h (by simp), fun i h => absurd h (by simp)⟩
theorem Ints.mono (h : Ints ok u A l) (hk : ∀ b, ok b → ok' b) : Ints ok' u A l := ⟨h.isSome, fun hl => hk _ (h.block hl), h.cell⟩
theorem Ints.keep (h : Ints ok u A l) (hk : ∀ b, ok b → w.heap[b]? = u.heap[b]?) : Ints ok w A l :=
  ⟨h.isSome, h.block, fun i hi => by
    rw [← h.cell i hi]
    exact World.cell?_of_block (by rw [eA_block]; exact hk _ (h.block (by omega)))⟩
theorem Ints.below {B : Nat} (h : Ints (· < B) u A l) (hb : Below B u w) : Ints (· < B) w A l := h.keep fun b hlt => hb.block b hlt
theorem Ints.same (h : Ints ok u A l) (k : Same u w) : Ints ok w A l := h.keep fun b _ => by rw [k.heap]
theorem Ints.drew (h : Ints ok u A l) : Ints ok u.drew A l := h.keep fun _ _ => rfl
end

/-! ## Arrows, machines, plants -/
structure Arr where
  frm : Int
  evt : Int
  to_ : Int
  deriving DecidableEq
instance : Inhabited Arr := ⟨⟨0, 0, 0⟩⟩
def Arr.cell (a : Arr) (j : Nat) : Int := if j = 0 then a.frm else if j = 1 then a.evt else a.to_
/-- A row of arrows. -/
structure Arrs (ok : Nat → Prop) (w : World) (A : Option Addr) (l : List Arr) : Prop where
  isSome : 0 < l.length → A.isSome = true
  block : 0 < l.length → ok (A.getD default).block
  cell : ∀ i, i < l.length → ∀ j, j < 3 → w.cell? (eA A (i * 3 + j)) = some (.int .i64 ((l.getD i default).cell j))
section
variable {P : Program} {K : Fr → World → Prop} {u : World} {f : Fr} {d : Option Nat} {w : World} {ok ok' : Nat → Prop} {A : Option Addr} {l : List Arr}
theorem Arrs.ld0 (h : Arrs ok u A l) {t : TypeId} (ht : tyAgg P t = some false) (i : Nat) (hi : i < l.length) :
    Val1 P K (Instr.loadAt t (.pointer (some (eA A (i * 3))))) u f d w = K (updO f d (.int .i64 (l.getD i default).frm)) w := load_one_of u f d w ht (h.cell i hi 0 (by decide))
theorem Arrs.ld1 (h : Arrs ok u A l) {t : TypeId} (ht : tyAgg P t = some false) (i : Nat) (hi : i < l.length) :
    Val1 P K (Instr.loadAt t (.pointer (some (eA A (i * 3 + 1))))) u f d w = K (updO f d (.int .i64 (l.getD i default).evt)) w := load_one_of u f d w ht (h.cell i hi 1 (by decide))
theorem Arrs.ld2 (h : Arrs ok u A l) {t : TypeId} (ht : tyAgg P t = some false) (i : Nat) (hi : i < l.length) :
    Val1 P K (Instr.loadAt t (.pointer (some (eA A (i * 3 + 2))))) u f d w = K (updO f d (.int .i64 (l.getD i default).to_)) w := load_one_of u f d w ht (h.cell i hi 2 (by decide))
theorem Arrs.nil (ok : Nat → Prop) (w : World) (A : Option Addr) : Arrs ok w A [] := ⟨fun h => absurd h (by simp), fun h => absurd h (by simp), fun i h => absurd h (by simp)⟩
theorem Arrs.mono (h : Arrs ok u A l) (hk : ∀ b, ok b → ok' b) : Arrs ok' u A l := ⟨h.isSome, fun hl => hk _ (h.block hl), h.cell⟩
theorem Arrs.keep (h : Arrs ok u A l) (hk : ∀ b, ok b → w.heap[b]? = u.heap[b]?) : Arrs ok w A l :=
  ⟨h.isSome, h.block, fun i hi j hj => by
    rw [← h.cell i hi j hj]
    exact World.cell?_of_block (by rw [eA_block]; exact hk _ (h.block (by omega)))⟩
theorem Arrs.below {B : Nat} (h : Arrs (· < B) u A l) (hb : Below B u w) : Arrs (· < B) w A l := h.keep fun b hlt => hb.block b hlt
theorem Arrs.same (h : Arrs ok u A l) (k : Same u w) : Arrs ok w A l := h.keep fun b _ => by rw [k.heap]
theorem Arrs.drew (h : Arrs ok u A l) : Arrs ok u.drew A l := h.keep fun _ _ => rfl
end

structure Mach where
  states : Int
  events : Int
  starts : List Int
  arrows : List Arr
  ends : List Int
  deriving DecidableEq
def I64 (x : Int) : Prop := -9223372036854775808 ≤ x ∧ x ≤ 9223372036854775807
/-- What every machine that comes in keeps to. -/
structure Mach.Fits (m : Mach) : Prop where
  states : I64 m.states
  events : I64 m.events
  starts : ∀ x ∈ m.starts, I64 x
  ends : ∀ x ∈ m.ends, I64 x
  arrows : ∀ a ∈ m.arrows, I64 a.frm ∧ I64 a.evt ∧ I64 a.to_
  lenS : m.starts.length ≤ 17592186043904
  lenE : m.ends.length ≤ 17592186043904
  lenA : m.arrows.length ≤ 17592186043904
/-- The value of a machine. -/
structure MV where
  As : Option Addr
  cs : Nat
  Aa : Option Addr
  ca : Nat
  Ae : Option Addr
  ce : Nat
abbrev MV.cells (a : MV) (m : Mach) : List Value := [.int .i64 m.states, .int .i64 m.events, .slice a.As m.starts.length a.cs, .slice a.Aa m.arrows.length a.ca, .slice a.Ae m.ends.length a.ce]
abbrev MV.val (a : MV) (m : Mach) : Value := .agg (a.cells m).toArray
structure IsM (ok : Nat → Prop) (w : World) (a : MV) (m : Mach) : Prop where
  starts : Ints ok w a.As m.starts
  arrows : Arrs ok w a.Aa m.arrows
  ends : Ints ok w a.Ae m.ends
section
variable {u w : World} {ok ok' : Nat → Prop} {a : MV} {m : Mach}
theorem IsM.mono (h : IsM ok u a m) (hk : ∀ b, ok b → ok' b) : IsM ok' u a m := ⟨h.starts.mono hk, h.arrows.mono hk, h.ends.mono hk⟩
theorem IsM.keep (h : IsM ok u a m) (hk : ∀ b, ok b → w.heap[b]? = u.heap[b]?) : IsM ok w a m := ⟨h.starts.keep hk, h.arrows.keep hk, h.ends.keep hk⟩
theorem IsM.below {B : Nat} (h : IsM (· < B) u a m) (hb : Below B u w) : IsM (· < B) w a m := h.keep fun b hlt => hb.block b hlt
theorem IsM.same (h : IsM ok u a m) (k : Same u w) : IsM ok w a m := h.keep fun b _ => by rw [k.heap]
end
end Go.Proofs.YtiabkafgmanhiaaDoor
