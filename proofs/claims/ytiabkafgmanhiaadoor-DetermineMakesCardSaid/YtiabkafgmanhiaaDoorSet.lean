/-
  Chapter 2: the program's sets of states: Of, Add, Has: by their contracts.
-/
import Derived.Test.YtiabkafgmanhiaaDoorBits
import Derived.Test.YtiabkafgmanhiaaDoorIr
import Derived.Test.YtiabkafgmanhiaaDoorRowB
import Derived.KernelRfl
namespace Go.Proofs.YtiabkafgmanhiaaDoor
set_option linter.unusedSimpArgs false
set_option linter.unusedVariables false
set_option linter.unusedSectionVars false
open Go.RowKit

def setCells (ws : List Nat) : List Value := ws.map fun (x : Nat) => .int .u64 (x : Int)
abbrev setVal (ws : List Nat) : Value := .agg (setCells ws).toArray
/-- Four words. -/
def Words (ws : List Nat) : Prop := ws.length = 4 ∧ ∀ i, ws.getD i 0 < 2 ^ 64
def setHas (ws : List Nat) (n : Nat) : Bool := (ws.getD (n / 64) 0).testBit (n % 64)
def setAdd (ws : List Nat) (n : Nat) : List Nat := ws.set (n / 64) (ws.getD (n / 64) 0 ||| 2 ^ (n % 64))
theorem setCells_len (ws : List Nat) : (setCells ws).length = ws.length := by simp [setCells]
theorem Words.add {ws : List Nat} (h : Words ws) {n : Nat} (hn : n < 256) : Words (setAdd ws n) := by
  refine ⟨by simp [setAdd, h.1], fun i => ?_⟩
  unfold setAdd
  rw [getD_set _ _ _ _ _ (by rw [h.1]; omega)]
  split
  · exact Nat.or_lt_two_pow (h.2 _) (Nat.pow_lt_pow_right (by decide) (Nat.mod_lt _ (by decide)))
  · exact h.2 i
theorem setHas_add {ws : List Nat} (h : Words ws) {n : Nat} (hn : n < 256) (k : Nat) : setHas (setAdd ws n) k = (setHas ws k || decide (k = n)) := by
  unfold setHas setAdd
  rw [getD_set _ _ _ _ _ (by rw [h.1]; omega)]
  split
  · rename_i e
    rw [Nat.testBit_or, Nat.testBit_two_pow, e]
    congr 1
    exact decide_eq_decide.2 ⟨fun h => by omega, fun h => by omega⟩
  · rename_i e
    have : ¬ k = n := fun h => e (by rw [h])
    simp [this]
theorem setHas_nil (n : Nat) : setHas [0, 0, 0, 0] n = false := by
  unfold setHas
  have : ([0, 0, 0, 0] : List Nat).getD (n / 64) 0 = 0 := by
    match n / 64 with
    | 0 => rfl
    | 1 => rfl
    | 2 => rfl
    | 3 => rfl
    | k + 4 => simp [List.getD_eq_getElem?_getD]
  rw [this, Nat.zero_testBit]
section
variable {P : Program} {K : Fr → World → Prop} {u w w' : World} {f : Fr} {d : Option Nat} {g t ty : Nat} {ws : List Nat}
theorem Blk.word (h : Blk u g t (setCells ws)) (hw : Words ws) (ht : tyAgg P ty = some false) (j : Nat) (hj : j < 4) :
    Val1 P K (Instr.loadAt ty (.pointer (some ⟨g, j, none⟩))) u f d w = K (updO f d (.int .u64 (ws.getD j 0 : Nat))) w := by
  have hl : j < (setCells ws).length := by rw [setCells_len, hw.1]; exact hj
  have := h.ld (P := P) (K := K) (f := f) (d := d) (w := w) ht j hl
  have e : (setCells ws).getD j undef = .int .u64 ((ws.getD j 0 : Nat) : Int) := getD_map _ _ _ _ _ (by rw [hw.1]; exact hj)
  rw [e] at this
  exact this
theorem Blk.word' (h : Blk u g t (setCells ws)) (hw : Words ws) (ht : tyAgg P ty = some false) (j : Nat) (hj : j < 4) {x : Nat} (hx : ws.getD j 0 = x) :
    Val1 P K (Instr.loadAt ty (.pointer (some ⟨g, j, none⟩))) u f d w = K (updO f d (.int .u64 x)) w := hx ▸ h.word hw ht j hj
theorem Blk.setA (h : Blk u g t (setCells ws)) (hw : Words ws) (ht : tyAgg P ty = some true) (hs : tySize P ty = some 4) : Val1 P K (Instr.loadAt ty (.pointer (some ⟨g, 0, none⟩))) u f d w = K (updO f d (setVal ws)) w :=
  h.ldAll ht (by rw [setCells_len, hw.1]; exact hs)
end

theorem ty_sz_u64 : tySize Tryd.prog 67 = some 1 := by kernel_rfl
theorem set_Has (ws : List Nat) (hw : Words ws) (n : Nat) (hn : n < 256) (w : World) :
    Cal Tryd.prog 99 [setVal ws, .int .i64 n] w fun v w' => v = .bool (setHas ws n) ∧ Below w.heap.size w w' := by
  refine cal_machine_Set_Has (by simp) 100000 fun Q hQ => ?_
  simp (disch := first | with_reducible assumption | omega) only [push_cast, x_blk, x_cd, ↓reduceIte, Nat.reduceEqDiff, List.map_cons, List.map_nil, Int.reduceEq, Int.lt_irrefl, F_machine_Set_Has]
  refine blk_of (box_agg _ (setCells ws)) ?_
  intro w1 k1 b1 z1
  have hd : n / 64 < 4 := by omega
  have hm : n % 64 < 64 := Nat.mod_lt _ (by decide)
  have hx := hw.2 (n / 64)
  have hs : ws.getD (n / 64) 0 >>> (n % 64) < 2 ^ 64 := Nat.lt_of_le_of_lt (Nat.shiftRight_le _ _) hx
  have r : decide (((ws.getD (n / 64) 0 >>> (n % 64) &&& 1 : Nat) : Int) = 1) = setHas ws n := by
    unfold setHas Nat.testBit
    rw [Nat.and_comm 1]
    have : ws.getD (n / 64) 0 >>> (n % 64) &&& 1 < 2 := Nat.and_lt_two_pow (n := 1) _ (by decide)
    generalize ws.getD (n / 64) 0 >>> (n % 64) &&& 1 = z at *
    match z, this with
    | 0, _ => rfl
    | 1, _ => rfl
  generalize hq : n / 64 = q at *
  generalize hr : n % 64 = s at *
  generalize hv : ws.getD q 0 = v at *
  generalize hy : v >>> s = y at *
  generalize hz : y &&& 1 = z at *
  have r' : decide (z = 1) = setHas ws n := by rw [← r]; exact decide_eq_decide.2 (by omega)
  simp (disch := first | with_reducible assumption | omega) only [push_cast, x_blk, x_cd, ↓reduceIte, Nat.reduceEqDiff, List.map_cons, List.map_nil, Int.reduceEq, Int.lt_irrefl, bin_quo64' hq (by omega), bin_rem64' hr, bin_shr' hy hm, bin_and1' hz hs, Int.natCast_nonneg, k1.word' hw ty_ag_67 q hd hv]
  exact fin_1 (hQ _ _ ⟨(by simp only [push_cast, ↓reduceIte, Nat.reduceEqDiff, Int.reduceEq, r, r']), b1⟩)

theorem set_Add {ws : List Nat} (hw : Words ws) (n : Nat) (hn : n < 256) {w : World} {g : Nat} (hk : Blk w g 69 (setCells ws)) :
    Cal Tryd.prog 102 [.pointer (some ⟨g, 0, none⟩), .int .i64 n] w fun v w' => v = .tuple #[] ∧ Blk w' g 69 (setCells (setAdd ws n)) ∧ Grew w w' (some ⟨g, 0, none⟩) ∧ w'.heap.size = w.heap.size := by
  refine cal_machine_Set_Add (by simp) 100000 fun Q hQ => ?_
  have hd : n / 64 < 4 := by omega
  have hm : n % 64 < 64 := Nat.mod_lt _ (by decide)
  have hx := hw.2 (n / 64)
  have hy : 2 ^ (n % 64) < 2 ^ 64 := Nat.pow_lt_pow_right (by decide) hm
  have e : (setCells ws).set (n / 64) (.int .u64 ((ws.getD (n / 64) 0 ||| 2 ^ (n % 64) : Nat) : Int)) = setCells (setAdd ws n) := by simp [setCells, setAdd, List.map_set]
  generalize hq : n / 64 = q at *
  generalize hr : n % 64 = s at *
  generalize hv : ws.getD q 0 = v at *
  generalize hp : 2 ^ s = y at *
  generalize hz : v ||| y = z at *
  have hk2 := hk.drew
  simp (disch := first | with_reducible assumption | omega) only [push_cast, x_blk, x_cd, ↓reduceIte, Nat.reduceEqDiff, List.map_cons, List.map_nil, Int.reduceEq, Int.lt_irrefl, F_machine_Set_Add, bin_quo64' hq (by omega), bin_rem64' hr, bin_shl1' hp hm, bin_or' hz hx hy, Int.natCast_nonneg, hk2.word' hw ty_ag_67 q hd hv]
  refine sto_cell hk2 ty_sz_u64 q (by rw [setCells_len, hw.1]; exact hd) _ _ ?_
  intro w2 k2 g2 z2
  simp (disch := first | with_reducible assumption | omega) only [push_cast, x_blk, x_cd, ↓reduceIte, Nat.reduceEqDiff, List.map_cons, List.map_nil, Int.reduceEq, Int.lt_irrefl]
  rw [e] at k2
  exact fin_0 (hQ _ _ ⟨rfl, k2, ⟨⟨g2.by_.os, g2.by_.tape, g2.by_.output, g2.by_.size, g2.by_.block⟩⟩, z2⟩)

theorem fin_cell {P : Program} {Rc : Value → World → Prop} {a t t' g : Nat} {cs : List Value} {f : Fr} {w : World} (hk : Blk w g t' cs) (ht : tyAgg P t = some true) (hs : tySize P t = some cs.length)
    (hf : f a = .pointer (some ⟨g, 0, none⟩)) (h : Rc (.agg cs.toArray) w) : FinX P #[.cell a t] Rc f w := by
  refine ⟨.agg cs.toArray, fun fn tmps hr hf' => ?_, h⟩
  have e : tmps.getD a undef = .pointer (some ⟨g, 0, none⟩) := by rw [hf', hf]
  have e2 : tmps[a]?.getD undef = .pointer (some ⟨g, 0, none⟩) := by simpa using e
  unfold tyAgg at ht
  unfold tySize at hs
  cases hu : P.underlying t with
  | none => simp [hu] at ht
  | some de =>
    cases hi : P.info? t with
    | none => simp [hi] at hs
    | some ie =>
      simp only [hi, Option.map_some, Option.some.injEq] at hs
      simp only [hu, Option.map_some, Option.some.injEq] at ht
      have hr' := run_loadCells_list (P := P) w ⟨g, 0, none⟩ cs (fun j v hv => by rw [addr_add, Nat.zero_add, hk.cell, hv])
      cases de <;> simp at ht <;> simp [results, hr, e2, asAddr, loadVar, isAgg, run_underlying hu, sizeOf, typeInfo, hi, hs, hr']

theorem machine_Of {w : World} {A : Option Addr} {l : List Int} (h : Ints (· < w.heap.size) w A l) (c : Nat) (hl : l.length ≤ 17592186043904) (hr : ∀ x ∈ l, 0 ≤ x ∧ x < 256) :
    Cal Tryd.prog 58 [.slice A l.length c] w fun v w' => ∃ ws, v = setVal ws ∧ Words ws ∧ (∀ n : Nat, n < 256 → setHas ws n = decide ((n : Int) ∈ l)) ∧ Below w.heap.size w w' := by
  refine cal_machine_Of (by simp) 100000 fun Q hQ => ?_
  simp (disch := first | with_reducible assumption | omega) only [push_cast, x_blk, x_cd, ↓reduceIte, Nat.reduceEqDiff, List.map_cons, List.map_nil, Int.reduceEq, Int.lt_irrefl, F_machine_Of]
  refine blk_of (cs := setCells [0, 0, 0, 0]) al_69 ?_
  intro w1 k1 b1 z1
  simp (disch := first | with_reducible assumption | omega) only [push_cast, x_blk, x_cd, ↓reduceIte, Nat.reduceEqDiff, List.map_cons, List.map_nil, Int.reduceEq, Int.lt_irrefl]
  refine blk_of (cs := setCells [0, 0, 0, 0]) al_69 ?_
  intro w2 k2 b2 z2
  have k1' := k1.below b2 (by omega)
  have bb : Below w.heap.size w w2 := b1.trans (b2.mono b1.size)
  simp (disch := first | with_reducible assumption | omega) only [push_cast, x_blk, x_cd, ↓reduceIte, Nat.reduceEqDiff, List.map_cons, List.map_nil, Int.reduceEq, Int.lt_irrefl]
  refine loop_rule (fun f w' => ∃ k : Nat, ∃ ws, k ≤ l.length ∧ f 2 = .pointer (some ⟨w.heap.size, 0, none⟩) ∧ f 3 = .pointer (some ⟨w1.heap.size, 0, none⟩) ∧ f 6 = .slice A l.length c ∧ f 7 = .int .i64 l.length ∧ f 8 = .int .i64 k ∧
      Words ws ∧ (∀ n : Nat, n < 256 → setHas ws n = decide ((n : Int) ∈ l.take k)) ∧ Blk w' w1.heap.size 69 (setCells ws) ∧ Blk w' w.heap.size 69 (setCells [0, 0, 0, 0]) ∧ Below w.heap.size w w')
    (fun f _ => l.length - (intOf (f 8)).toNat) ⟨0, [0, 0, 0, 0], Nat.zero_le _, rfl, rfl, rfl, rfl, rfl, ⟨rfl, fun i => by match i with | 0 => decide | 1 => decide | 2 => decide | 3 => decide | j + 4 => simp [List.getD_eq_getElem?_getD]⟩, fun n _ => by simp [setHas_nil], k2, k1', bb⟩ ?_
  rintro f w3 ⟨k, ws, hk, h2, h3, h6, h7, h8, hw, hs, kk, kr, b3⟩ J hJ
  have hI := h.below b3
  by_cases hlt : k < l.length
  · have hA := h.isSome (by omega)
    have hx := hr _ (getD_mem l 0 k hlt)
    have hsn := take_snoc l 0 k hlt
    generalize hy : l.getD k 0 = y at *
    obtain ⟨n, rfl⟩ : ∃ n : Nat, y = n := ⟨y.toNat, by omega⟩
    have hn : n < 256 := by omega
    simp (disch := first | with_reducible assumption | omega) only [push_cast, x_blk, x_cd, ↓reduceIte, Nat.reduceEqDiff, List.map_cons, List.map_nil, Int.reduceEq, Int.lt_irrefl, L_machine_Of_0, h2, h3, h6, h7, h8, hlt, hI.ld ty_ag_3, hy, List.map_cons, List.map_nil]
    refine call_of (set_Add hw n hn kk) ?_
    rintro v w4 ⟨rfl, k4, g4, z4⟩
    have b4 := g4.below b3 b3.size (by intro a ha; injection ha with ha; subst ha; show w.heap.size ≤ w1.heap.size; omega)
    have kr4 := kr.grown g4.by_ (by simp; omega)
    simp (disch := first | with_reducible assumption | omega) only [push_cast, x_blk, x_cd, ↓reduceIte, Nat.reduceEqDiff, List.map_cons, List.map_nil, Int.reduceEq, Int.lt_irrefl, h8]
    exact hJ _ _ ⟨k + 1, _, hlt, (by simp only [push_cast, ↓reduceIte, Nat.reduceEqDiff, Int.reduceEq, h2]), (by simp only [push_cast, ↓reduceIte, Nat.reduceEqDiff, Int.reduceEq, h3]), (by simp only [push_cast, ↓reduceIte, Nat.reduceEqDiff, Int.reduceEq, h6]), (by simp only [push_cast, ↓reduceIte, Nat.reduceEqDiff, Int.reduceEq, h7]), (by simp only [push_cast, ↓reduceIte, Nat.reduceEqDiff, Int.reduceEq]), hw.add hn, fun m hm => by
      rw [setHas_add hw hn, hs m hm, hsn]
      by_cases e : m = n
      · subst e; simp
      · have e' : ¬ ((m : Int) = (n : Int)) := by omega
        simp [e, e'], k4, kr4, b4⟩ (by simp only [push_cast, ↓reduceIte, Nat.reduceEqDiff, h8, intOf]; omega)
  · obtain rfl : k = l.length := by omega
    rw [List.take_length] at hs
    simp (disch := first | with_reducible assumption | omega) only [push_cast, x_blk, x_cd, ↓reduceIte, Nat.reduceEqDiff, List.map_cons, List.map_nil, Int.reduceEq, Int.lt_irrefl, L_machine_Of_0, h2, h3, h6, h7, h8, Nat.lt_irrefl, kk.setA hw ty_ag_69 ty_sz_69]
    have e4 : tySize Tryd.prog 69 = some (setCells ws).length := by rw [setCells_len, hw.1]; exact ty_sz_69
    refine sto_blk kr e4 (by rw [setCells_len, setCells_len, hw.1]; rfl) (by simp [setCells, Value.oneCell']) ?_
    intro w4 k4 g4 z4
    simp (disch := first | with_reducible assumption | omega) only [push_cast, x_blk, x_cd, ↓reduceIte, Nat.reduceEqDiff, List.map_cons, List.map_nil, Int.reduceEq, Int.lt_irrefl]
    exact fin_cell k4 ty_ag_69 e4 (by simp only [push_cast, ↓reduceIte, Nat.reduceEqDiff, Int.reduceEq, h2]) (hQ _ _ ⟨ws, rfl, hw, hs, g4.below b3 b3.size (by intro a ha; injection ha with ha; subst ha; exact Nat.le_refl _)⟩)
end Go.Proofs.YtiabkafgmanhiaaDoor
