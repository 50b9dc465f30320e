/-
  New blocks, and variables of several cells. No program in sight.
-/
import Derived.Test.YtiabkafgmanhiaaDoorCut
namespace Go.Proofs.YtiabkafgmanhiaaDoor
set_option linter.unusedSimpArgs false
set_option linter.unusedVariables false
set_option linter.unusedSectionVars false
open Go.RowKit

section
variable {P : Program} {K : Fr → World → Prop} {f : Fr} {d : Option Nat} {u w w' : World} {g : Nat} {t ty : TypeId} {cs old : List Value}
theorem blk_of {s : Sem Value} {v : Value} (he : Eff1 P K s f d w = K (updO f d v) (w.alloc (.cells cs.toArray t)))
    (h : ∀ w', Blk w' w.heap.size t cs → Below w.heap.size w w' → w'.heap.size = w.heap.size + 1 → K (updO f d v) w') : Eff1 P K s f d w := by
  rw [he]
  exact h _ (Blk.new w t cs) ((Below.refl _ _).alloc (Nat.le_refl _) _) (by simp)
theorem box_agg (t : TypeId) (cs : List Value) : Eff1 P K (Instr.box t (.agg cs.toArray)) f d w = K (updO f d (.pointer (some ⟨w.heap.size, 0, none⟩))) (w.alloc (.cells cs.toArray t)) := box_eq t _
/-- v = x, of several cells -/
theorem sto_blk (hk : Blk w g t old) (hty : tySize P ty = some cs.length) (ho : old.length = cs.length) (h1 : cs.all (·.oneCell') = true)
    (h : ∀ w', Blk w' g t cs → Grew w w' (some ⟨g, 0, none⟩) → w'.heap.size = w.heap.size → K (updO f d undef) w') :
    Eff1 P K (do Instr.storeAt ty (.pointer (some ⟨g, 0, none⟩)) (.agg cs.toArray); pure undef) f d w := by
  have hr := run_storeVar_row (P := P) w g t ty old.toArray cs.toArray hk (by simpa [tySize] using hty) (by simpa using ho) (by simpa using h1)
  have hs : (w.setRow g cs.toArray).heap.size = w.heap.size := by simp [World.setRow]
  refine ⟨undef, w.setRow g cs.toArray, ?_, h _ ?_ ⟨⟨rfl, rfl, rfl, by rw [hs]; exact Nat.le_refl _, fun k hk hne => ?_⟩⟩ hs⟩
  · simp [Instr.storeAt, Instr.sureAddr, hr]
  · exact setRow_heap w g _ _ _ _ hk
  · exact setRow_other w g k _ (by simpa using hne)
theorem drawn {B : Nat} (h : Below B w w') : Below B w w'.drew := ⟨h.os, h.tape, h.output, h.size, h.block⟩
theorem fill_3 (x y z : Value) (a b c : Int) : Instr.fill (fun i => some (i * 1, 1)) #[x, y, z] [(0, .int .i64 a), (1, .int .i64 b), (2, .int .i64 c)] = some #[.int .i64 a, .int .i64 b, .int .i64 c] := by
  simp [Instr.fill, Value.cells]
theorem bsl3_eq {e bytes : Nat} (hT : SlT P t e 1 bytes) (a b c : Int) :
    Eff1 P K (Instr.buildSlice t 3 #[(0, .int .i64 a), (1, .int .i64 b), (2, .int .i64 c)]) f d w = K (updO f d (.slice (some ⟨w.heap.size, 0, none⟩) 3 3)) (w.alloc (.cells [.int .i64 a, .int .i64 b, .int .i64 c].toArray e)) := by
  obtain ⟨i, z, hi, hz, hs, hb, hc⟩ := hT.get
  refine eff1_of ?_
  have hz3 : (Array.range 3).map (z.cells[· % z.cells.size]!) = #[z.cells[0 % z.cells.size]!, z.cells[1 % z.cells.size]!, z.cells[2 % z.cells.size]!] := by
    apply Array.ext'; simp [List.range_succ]
  have hf := fill_3 (z.cells[0 % z.cells.size]!) (z.cells[1 % z.cells.size]!) (z.cells[2 % z.cells.size]!) a b c
  rw [← hz3] at hf
  simp only [Instr.buildSlice, run_underlying hT.under, sizeOf, typeInfo, Sem.run_bind, Result.andThen_ok]
  simp only [Nat.mul_one] at hf
  simp [hi, hs, zeroValue, typeInfo, hz, newRow, hf]
def arrCells (a : Arr) : List Value := [.int .i64 a.frm, .int .i64 a.evt, .int .i64 a.to_]
abbrev arrVal (a : Arr) : Value := .agg (arrCells a).toArray
theorem Arrs.ldA {ok : Nat → Prop} {A : Option Addr} {l : List Arr} (h : Arrs ok u A l) (ht : tyAgg P ty = some true) (hs : tySize P ty = some 3) (i : Nat) (hi : i < l.length) :
    Val1 P K (Instr.loadAt ty (.pointer (some (eA A (i * 3))))) u f d w = K (updO f d (arrVal (l.getD i default))) w :=
  load_agg_of ht hs rfl fun j v hv => by
    have hj : j < 3 := by
      rcases Nat.lt_or_ge j 3 with h | h
      · exact h
      · rw [List.getElem?_eq_none (by simpa [arrCells] using h)] at hv; cases hv
    have hc := h.cell i hi j hj
    have hA := h.isSome (by omega)
    cases A with
    | none => cases hA
    | some a =>
      rw [eA_some] at hc ⊢
      rw [add_add, hc]
      match j, hj with
      | 0, _ => simpa [arrCells, Arr.cell] using hv
      | 1, _ => simpa [arrCells, Arr.cell] using hv
      | 2, _ => simpa [arrCells, Arr.cell] using hv
theorem Blk.a0 {a : Arr} (h : Blk u g t (arrCells a)) (ht : tyAgg P ty = some false) : Val1 P K (Instr.loadAt ty (.pointer (some ⟨g, 0, none⟩))) u f d w = K (updO f d (.int .i64 a.frm)) w := h.ld ht 0 (by simp [arrCells])
theorem Blk.a1 {a : Arr} (h : Blk u g t (arrCells a)) (ht : tyAgg P ty = some false) : Val1 P K (Instr.loadAt ty (.pointer (some ⟨g, 1, none⟩))) u f d w = K (updO f d (.int .i64 a.evt)) w := h.ld ht 1 (by simp [arrCells])
theorem Blk.a2 {a : Arr} (h : Blk u g t (arrCells a)) (ht : tyAgg P ty = some false) : Val1 P K (Instr.loadAt ty (.pointer (some ⟨g, 2, none⟩))) u f d w = K (updO f d (.int .i64 a.to_)) w := h.ld ht 2 (by simp [arrCells])
theorem Blk.aA {a : Arr} (h : Blk u g t (arrCells a)) (ht : tyAgg P ty = some true) (hs : tySize P ty = some 3) : Val1 P K (Instr.loadAt ty (.pointer (some ⟨g, 0, none⟩))) u f d w = K (updO f d (arrVal a)) w := h.ldAll ht hs
theorem Blk.m0 {a : MV} {m : Mach} (h : Blk u g t (a.cells m)) (ht : tyAgg P ty = some false) : Val1 P K (Instr.loadAt ty (.pointer (some ⟨g, 0, none⟩))) u f d w = K (updO f d (.int .i64 m.states)) w := h.ld ht 0 (by simp)
theorem Blk.m1 {a : MV} {m : Mach} (h : Blk u g t (a.cells m)) (ht : tyAgg P ty = some false) : Val1 P K (Instr.loadAt ty (.pointer (some ⟨g, 1, none⟩))) u f d w = K (updO f d (.int .i64 m.events)) w := h.ld ht 1 (by simp)
theorem Blk.m2 {a : MV} {m : Mach} (h : Blk u g t (a.cells m)) (ht : tyAgg P ty = some false) : Val1 P K (Instr.loadAt ty (.pointer (some ⟨g, 2, none⟩))) u f d w = K (updO f d (.slice a.As m.starts.length a.cs)) w := h.ld ht 2 (by simp)
theorem Blk.m3 {a : MV} {m : Mach} (h : Blk u g t (a.cells m)) (ht : tyAgg P ty = some false) : Val1 P K (Instr.loadAt ty (.pointer (some ⟨g, 3, none⟩))) u f d w = K (updO f d (.slice a.Aa m.arrows.length a.ca)) w := h.ld ht 3 (by simp)
theorem Blk.m4 {a : MV} {m : Mach} (h : Blk u g t (a.cells m)) (ht : tyAgg P ty = some false) : Val1 P K (Instr.loadAt ty (.pointer (some ⟨g, 4, none⟩))) u f d w = K (updO f d (.slice a.Ae m.ends.length a.ce)) w := h.ld ht 4 (by simp)
theorem Blk.mA {a : MV} {m : Mach} (h : Blk u g t (a.cells m)) (ht : tyAgg P ty = some true) (hs : tySize P ty = some 5) : Val1 P K (Instr.loadAt ty (.pointer (some ⟨g, 0, none⟩))) u f d w = K (updO f d (a.val m)) w := h.ldAll ht hs
end
attribute [push_cast] Nat.zero_add List.getD_cons_zero List.getD_cons_succ
end Go.Proofs.YtiabkafgmanhiaaDoor
