/-
  Chapter 2: the program's sets of states: Of, Add, Has: by their contracts.
  Chapter 2: the value of a set of states as a function of a list of its numbers; the program's Of, Has, Add over it.
  Chapter 2: where states lead to, at an event: the program's Step and the reference's, by their contracts.
  Chapter 2: whether two sets meet; the reference's Step, Word: by their contracts.
-/
import Derived.Test.YtcjinmgieiebbaaDoorZOwn
import Derived.Test.YtcjinmgieiebbaaDoorZIr
import Derived.Test.YtcjinmgieiebbaaDoorZRow
import Derived.KernelRfl
import Derived.Test.YtcjinmgieiebbaaDoorZMach
namespace Go.Proofs.YtcjinmgieiebbaaDoor
set_option linter.unusedSimpArgs false
set_option linter.unusedVariables false
set_option linter.unusedSectionVars false
section
open Go.RowKit

def setCells (ws : List Nat) : List Value := ws.map fun (x : Nat) => .int .u64 (x : Int)
abbrev setVal (ws : List Nat) : Value := .agg (setCells ws).toArray
/-- Four words. -/
def Words (ws : List Nat) : Prop := ws.length = 4 ∧ ∀ i, ws.getD i 0 < 2 ^ 64
def setHas (ws : List Nat) (n : Nat) : Bool := (ws.getD (n / 64) 0).testBit (n % 64)
def setAdd (ws : List Nat) (n : Nat) : List Nat := ws.set (n / 64) (ws.getD (n / 64) 0 ||| 2 ^ (n % 64))
theorem setCells_len (ws : List Nat) : (setCells ws).length = ws.length := by simp [setCells]
theorem Words.add {ws : List Nat} (h : Words ws) {n : Nat} (hn : n < 256) : Words (setAdd ws n) := by
  refine ⟨by simp [setAdd, h.1], fun i => ?_⟩
  unfold setAdd
  rw [getD_set _ _ _ _ _ (by rw [h.1]; omega)]
  split
  · exact Nat.or_lt_two_pow (h.2 _) (Nat.pow_lt_pow_right (by decide) (Nat.mod_lt _ (by decide)))
  · exact h.2 i
theorem setHas_add {ws : List Nat} (h : Words ws) {n : Nat} (hn : n < 256) (k : Nat) : setHas (setAdd ws n) k = (setHas ws k || decide (k = n)) := by
  unfold setHas setAdd
  rw [getD_set _ _ _ _ _ (by rw [h.1]; omega)]
  split
  · rename_i e
    rw [Nat.testBit_or, Nat.testBit_two_pow, e]
    congr 1
    exact decide_eq_decide.2 ⟨fun h => by omega, fun h => by omega⟩
  · rename_i e
    have : ¬ k = n := fun h => e (by rw [h])
    simp [this]
theorem setHas_nil (n : Nat) : setHas [0, 0, 0, 0] n = false := by
  unfold setHas
  have : ([0, 0, 0, 0] : List Nat).getD (n / 64) 0 = 0 := by
    match n / 64 with
    | 0 => rfl
    | 1 => rfl
    | 2 => rfl
    | 3 => rfl
    | k + 4 => simp [List.getD_eq_getElem?_getD]
  rw [this, Nat.zero_testBit]
section
variable {P : Program} {K : Fr → World → Prop} {u w w' : World} {f : Fr} {d : Option Nat} {g t ty : Nat} {ws : List Nat}
theorem Blk.word (h : Blk u g t (setCells ws)) (hw : Words ws) (ht : tyAgg P ty = some false) (j : Nat) (hj : j < 4) :
    Val1 P K (Instr.loadAt ty (.pointer (some ⟨g, j, none⟩))) u f d w = K (updO f d (.int .u64 (ws.getD j 0 : Nat))) w := by
  have hl : j < (setCells ws).length := by rw [setCells_len, hw.1]; exact hj
  have := h.ld (P := P) (K := K) (f := f) (d := d) (w := w) ht j hl
  have e : (setCells ws).getD j undef = .int .u64 ((ws.getD j 0 : Nat) : Int) := getD_map _ _ _ _ _ (by rw [hw.1]; exact hj)
  rw [e] at this
  exact this
theorem Blk.word' (h : Blk u g t (setCells ws)) (hw : Words ws) (ht : tyAgg P ty = some false) (j : Nat) (hj : j < 4) {x : Nat} (hx : ws.getD j 0 = x) :
    Val1 P K (Instr.loadAt ty (.pointer (some ⟨g, j, none⟩))) u f d w = K (updO f d (.int .u64 x)) w := hx ▸ h.word hw ht j hj
theorem Blk.setA (h : Blk u g t (setCells ws)) (hw : Words ws) (ht : tyAgg P ty = some true) (hs : tySize P ty = some 4) : Val1 P K (Instr.loadAt ty (.pointer (some ⟨g, 0, none⟩))) u f d w = K (updO f d (setVal ws)) w :=
  h.ldAll ht (by rw [setCells_len, hw.1]; exact hs)
end

theorem ty_sz_u64 : tySize Tryd.prog 62 = some 1 := by kernel_rfl
theorem set_Has (ws : List Nat) (hw : Words ws) (n : Nat) (hn : n < 256) (w : World) :
    Cal Tryd.prog 98 [setVal ws, .int .i64 n] w fun v w' => v = .bool (setHas ws n) ∧ Below w.heap.size w w' := by
  refine cal_machine_Set_Has (by simp) 100000 fun Q hQ => ?_
  simp (disch := first | with_reducible assumption | omega) only [push_cast, x_blk, x_cd, ↓reduceIte, Nat.reduceEqDiff, List.map_cons, List.map_nil, Int.reduceEq, Int.lt_irrefl, F_machine_Set_Has]
  refine blk_of (box_agg _ (setCells ws)) ?_
  intro w1 k1 b1 z1
  have hd : n / 64 < 4 := by omega
  have hm : n % 64 < 64 := Nat.mod_lt _ (by decide)
  have hx := hw.2 (n / 64)
  have hs : ws.getD (n / 64) 0 >>> (n % 64) < 2 ^ 64 := Nat.lt_of_le_of_lt (Nat.shiftRight_le _ _) hx
  have r : decide (((ws.getD (n / 64) 0 >>> (n % 64) &&& 1 : Nat) : Int) = 1) = setHas ws n := by
    unfold setHas Nat.testBit
    rw [Nat.and_comm 1]
    have : ws.getD (n / 64) 0 >>> (n % 64) &&& 1 < 2 := Nat.and_lt_two_pow (n := 1) _ (by decide)
    generalize ws.getD (n / 64) 0 >>> (n % 64) &&& 1 = z at *
    match z, this with
    | 0, _ => rfl
    | 1, _ => rfl
  generalize hq : n / 64 = q at *
  generalize hr : n % 64 = s at *
  generalize hv : ws.getD q 0 = v at *
  generalize hy : v >>> s = y at *
  generalize hz : y &&& 1 = z at *
  have r' : decide (z = 1) = setHas ws n := by rw [← r]; exact decide_eq_decide.2 (by omega)
  simp (disch := first | with_reducible assumption | omega) only [push_cast, x_blk, x_cd, ↓reduceIte, Nat.reduceEqDiff, List.map_cons, List.map_nil, Int.reduceEq, Int.lt_irrefl, bin_quo64' hq (by omega), bin_rem64' hr, bin_shr' hy hm, bin_and1' hz hs, Int.natCast_nonneg, k1.word' hw ty_ag_62 q hd hv]
  exact fin_1 (hQ _ _ ⟨(by simp only [push_cast, ↓reduceIte, Nat.reduceEqDiff, Int.reduceEq, r, r']), b1⟩)

theorem set_Add {ws : List Nat} (hw : Words ws) (n : Nat) (hn : n < 256) {w : World} {g : Nat} (hk : Blk w g 64 (setCells ws)) :
    Cal Tryd.prog 58 [.pointer (some ⟨g, 0, none⟩), .int .i64 n] w fun v w' => v = .tuple #[] ∧ Blk w' g 64 (setCells (setAdd ws n)) ∧ Grew w w' (some ⟨g, 0, none⟩) ∧ w'.heap.size = w.heap.size := by
  refine cal_machine_Set_Add (by simp) 100000 fun Q hQ => ?_
  have hd : n / 64 < 4 := by omega
  have hm : n % 64 < 64 := Nat.mod_lt _ (by decide)
  have hx := hw.2 (n / 64)
  have hy : 2 ^ (n % 64) < 2 ^ 64 := Nat.pow_lt_pow_right (by decide) hm
  have e : (setCells ws).set (n / 64) (.int .u64 ((ws.getD (n / 64) 0 ||| 2 ^ (n % 64) : Nat) : Int)) = setCells (setAdd ws n) := by simp [setCells, setAdd, List.map_set]
  generalize hq : n / 64 = q at *
  generalize hr : n % 64 = s at *
  generalize hv : ws.getD q 0 = v at *
  generalize hp : 2 ^ s = y at *
  generalize hz : v ||| y = z at *
  have hk2 := hk.drew
  simp (disch := first | with_reducible assumption | omega) only [push_cast, x_blk, x_cd, ↓reduceIte, Nat.reduceEqDiff, List.map_cons, List.map_nil, Int.reduceEq, Int.lt_irrefl, F_machine_Set_Add, bin_quo64' hq (by omega), bin_rem64' hr, bin_shl1' hp hm, bin_or' hz hx hy, Int.natCast_nonneg, hk2.word' hw ty_ag_62 q hd hv]
  refine sto_cell hk2 ty_sz_u64 q (by rw [setCells_len, hw.1]; exact hd) _ _ ?_
  intro w2 k2 g2 z2
  simp (disch := first | with_reducible assumption | omega) only [push_cast, x_blk, x_cd, ↓reduceIte, Nat.reduceEqDiff, List.map_cons, List.map_nil, Int.reduceEq, Int.lt_irrefl]
  rw [e] at k2
  exact fin_0 (hQ _ _ ⟨rfl, k2, ⟨⟨g2.by_.os, g2.by_.tape, g2.by_.output, g2.by_.size, g2.by_.block⟩⟩, z2⟩)

theorem fin_cell {P : Program} {Rc : Value → World → Prop} {a t t' g : Nat} {cs : List Value} {f : Fr} {w : World} (hk : Blk w g t' cs) (ht : tyAgg P t = some true) (hs : tySize P t = some cs.length)
    (hf : f a = .pointer (some ⟨g, 0, none⟩)) (h : Rc (.agg cs.toArray) w) : FinX P #[.cell a t] Rc f w := by
  refine ⟨.agg cs.toArray, fun fn tmps hr hf' => ?_, h⟩
  have e : tmps.getD a undef = .pointer (some ⟨g, 0, none⟩) := by rw [hf', hf]
  have e2 : tmps[a]?.getD undef = .pointer (some ⟨g, 0, none⟩) := by simpa using e
  unfold tyAgg at ht
  unfold tySize at hs
  cases hu : P.underlying t with
  | none => simp [hu] at ht
  | some de =>
    cases hi : P.info? t with
    | none => simp [hi] at hs
    | some ie =>
      simp only [hi, Option.map_some, Option.some.injEq] at hs
      simp only [hu, Option.map_some, Option.some.injEq] at ht
      have hr' := run_loadCells_list (P := P) w ⟨g, 0, none⟩ cs (fun j v hv => by rw [addr_add, Nat.zero_add, hk.cell, hv])
      cases de <;> simp at ht <;> simp [results, hr, e2, asAddr, loadVar, isAgg, run_underlying hu, sizeOf, typeInfo, hi, hs, hr']

theorem machine_Of {w : World} {A : Option Addr} {l : List Int} (h : Ints (· < w.heap.size) w A l) (c : Nat) (hl : l.length ≤ 17592186043904) (hr : ∀ x ∈ l, 0 ≤ x ∧ x < 256) :
    Cal Tryd.prog 74 [.slice A l.length c] w fun v w' => ∃ ws, v = setVal ws ∧ Words ws ∧ (∀ n : Nat, n < 256 → setHas ws n = decide ((n : Int) ∈ l)) ∧ Below w.heap.size w w' := by
  refine cal_machine_Of (by simp) 100000 fun Q hQ => ?_
  simp (disch := first | with_reducible assumption | omega) only [push_cast, x_blk, x_cd, ↓reduceIte, Nat.reduceEqDiff, List.map_cons, List.map_nil, Int.reduceEq, Int.lt_irrefl, F_machine_Of]
  refine blk_of (cs := setCells [0, 0, 0, 0]) al_64 ?_
  intro w1 k1 b1 z1
  simp (disch := first | with_reducible assumption | omega) only [push_cast, x_blk, x_cd, ↓reduceIte, Nat.reduceEqDiff, List.map_cons, List.map_nil, Int.reduceEq, Int.lt_irrefl]
  refine blk_of (cs := setCells [0, 0, 0, 0]) al_64 ?_
  intro w2 k2 b2 z2
  have k1' := k1.below b2 (by omega)
  have bb : Below w.heap.size w w2 := b1.trans (b2.mono b1.size)
  simp (disch := first | with_reducible assumption | omega) only [push_cast, x_blk, x_cd, ↓reduceIte, Nat.reduceEqDiff, List.map_cons, List.map_nil, Int.reduceEq, Int.lt_irrefl]
  refine loop_rule (fun f w' => ∃ k : Nat, ∃ ws, k ≤ l.length ∧ f 2 = .pointer (some ⟨w.heap.size, 0, none⟩) ∧ f 3 = .pointer (some ⟨w1.heap.size, 0, none⟩) ∧ f 6 = .slice A l.length c ∧ f 7 = .int .i64 l.length ∧ f 8 = .int .i64 k ∧
      Words ws ∧ (∀ n : Nat, n < 256 → setHas ws n = decide ((n : Int) ∈ l.take k)) ∧ Blk w' w1.heap.size 64 (setCells ws) ∧ Blk w' w.heap.size 64 (setCells [0, 0, 0, 0]) ∧ Below w.heap.size w w')
    (fun f _ => l.length - (intOf (f 8)).toNat) ⟨0, [0, 0, 0, 0], Nat.zero_le _, rfl, rfl, rfl, rfl, rfl, ⟨rfl, fun i => by match i with | 0 => decide | 1 => decide | 2 => decide | 3 => decide | j + 4 => simp [List.getD_eq_getElem?_getD]⟩, fun n _ => by simp [setHas_nil], k2, k1', bb⟩ ?_
  rintro f w3 ⟨k, ws, hk, h2, h3, h6, h7, h8, hw, hs, kk, kr, b3⟩ J hJ
  have hI := h.below b3
  by_cases hlt : k < l.length
  · have hA := h.isSome (by omega)
    have hx := hr _ (getD_mem l 0 k hlt)
    have hsn := take_snoc l 0 k hlt
    generalize hy : l.getD k 0 = y at *
    obtain ⟨n, rfl⟩ : ∃ n : Nat, y = n := ⟨y.toNat, by omega⟩
    have hn : n < 256 := by omega
    simp (disch := first | with_reducible assumption | omega) only [push_cast, x_blk, x_cd, ↓reduceIte, Nat.reduceEqDiff, List.map_cons, List.map_nil, Int.reduceEq, Int.lt_irrefl, L_machine_Of_0, h2, h3, h6, h7, h8, hlt, hI.ld ty_ag_3, hy, List.map_cons, List.map_nil]
    refine call_of (set_Add hw n hn kk) ?_
    rintro v w4 ⟨rfl, k4, g4, z4⟩
    have b4 := g4.below b3 b3.size (by intro a ha; injection ha with ha; subst ha; show w.heap.size ≤ w1.heap.size; omega)
    have kr4 := kr.grown g4.by_ (by simp; omega)
    simp (disch := first | with_reducible assumption | omega) only [push_cast, x_blk, x_cd, ↓reduceIte, Nat.reduceEqDiff, List.map_cons, List.map_nil, Int.reduceEq, Int.lt_irrefl, h8]
    exact hJ _ _ ⟨k + 1, _, hlt, (by simp only [push_cast, ↓reduceIte, Nat.reduceEqDiff, Int.reduceEq, h2]), (by simp only [push_cast, ↓reduceIte, Nat.reduceEqDiff, Int.reduceEq, h3]), (by simp only [push_cast, ↓reduceIte, Nat.reduceEqDiff, Int.reduceEq, h6]), (by simp only [push_cast, ↓reduceIte, Nat.reduceEqDiff, Int.reduceEq, h7]), (by simp only [push_cast, ↓reduceIte, Nat.reduceEqDiff, Int.reduceEq]), hw.add hn, fun m hm => by
      rw [setHas_add hw hn, hs m hm, hsn]
      by_cases e : m = n
      · subst e; simp
      · have e' : ¬ ((m : Int) = (n : Int)) := by omega
        simp [e, e'], k4, kr4, b4⟩ (by simp only [push_cast, ↓reduceIte, Nat.reduceEqDiff, h8, intOf]; omega)
  · obtain rfl : k = l.length := by omega
    rw [List.take_length] at hs
    simp (disch := first | with_reducible assumption | omega) only [push_cast, x_blk, x_cd, ↓reduceIte, Nat.reduceEqDiff, List.map_cons, List.map_nil, Int.reduceEq, Int.lt_irrefl, L_machine_Of_0, h2, h3, h6, h7, h8, Nat.lt_irrefl, kk.setA hw ty_ag_64 ty_sz_64]
    have e4 : tySize Tryd.prog 64 = some (setCells ws).length := by rw [setCells_len, hw.1]; exact ty_sz_64
    refine sto_blk kr e4 (by rw [setCells_len, setCells_len, hw.1]; rfl) (by simp [setCells, Value.oneCell']) ?_
    intro w4 k4 g4 z4
    simp (disch := first | with_reducible assumption | omega) only [push_cast, x_blk, x_cd, ↓reduceIte, Nat.reduceEqDiff, List.map_cons, List.map_nil, Int.reduceEq, Int.lt_irrefl]
    exact fin_cell k4 ty_ag_64 e4 (by simp only [push_cast, ↓reduceIte, Nat.reduceEqDiff, Int.reduceEq, h2]) (hQ _ _ ⟨ws, rfl, hw, hs, g4.below b3 b3.size (by intro a ha; injection ha with ha; subst ha; exact Nat.le_refl _)⟩)
end

section
open Go.RowKit

/-- The four words of a list's numbers (those below 256). -/
def wordsOf (l : List Int) : List Nat := l.foldr (fun x ws => if 0 ≤ x ∧ x < 256 then setAdd ws x.toNat else ws) [0, 0, 0, 0]
abbrev setV (l : List Int) : Value := setVal (wordsOf l)
theorem words0 : Words [0, 0, 0, 0] := ⟨rfl, fun i => by match i with | 0 => decide | 1 => decide | 2 => decide | 3 => decide | j + 4 => simp [List.getD_eq_getElem?_getD]⟩
theorem wordsOf_words : ∀ l : List Int, Words (wordsOf l)
  | [] => words0
  | x :: l => by
    have ih := wordsOf_words l
    show Words (if 0 ≤ x ∧ x < 256 then setAdd (wordsOf l) x.toNat else wordsOf l)
    split
    · exact ih.add (by omega)
    · exact ih
theorem wordsOf_has : ∀ (l : List Int) (n : Nat), n < 256 → setHas (wordsOf l) n = decide ((n : Int) ∈ l)
  | [], n, _ => by rw [show wordsOf [] = [0, 0, 0, 0] from rfl, setHas_nil]; simp
  | x :: l, n, hn => by
    have ih := wordsOf_has l n hn
    show setHas (if 0 ≤ x ∧ x < 256 then setAdd (wordsOf l) x.toNat else wordsOf l) n = _
    split
    · rename_i h
      rw [setHas_add (wordsOf_words l) (by omega), ih]
      by_cases e : n = x.toNat
      · have q : (n : Int) = x := by omega
        rw [decide_eq_true e, Bool.or_true]
        exact (decide_eq_true (q ▸ List.mem_cons_self ..)).symm
      · have : ¬ (n : Int) = x := by omega
        simp [e, this]
    · rename_i h
      have : ¬ (n : Int) = x := by omega
      rw [ih]; simp [this]
theorem words_ext {ws ws' : List Nat} (h : Words ws) (h' : Words ws') (he : ∀ n, n < 256 → setHas ws n = setHas ws' n) : ws = ws' := by
  refine ext_getD 0 (h.1.trans h'.1.symm) fun k hk => ?_
  rw [h.1] at hk
  refine Nat.eq_of_testBit_eq fun i => ?_
  by_cases hi : i < 64
  · have := he (64 * k + i) (by omega)
    unfold setHas at this
    rwa [show (64 * k + i) / 64 = k by omega, show (64 * k + i) % 64 = i by omega] at this
  · have p : 2 ^ 64 ≤ 2 ^ i := Nat.pow_le_pow_right (by decide) (by omega)
    rw [Nat.testBit_lt_two_pow (Nat.lt_of_lt_of_le (h.2 k) p), Nat.testBit_lt_two_pow (Nat.lt_of_lt_of_le (h'.2 k) p)]
theorem words_eq {ws : List Nat} (h : Words ws) {l : List Int} (he : ∀ n : Nat, n < 256 → setHas ws n = decide ((n : Int) ∈ l)) : ws = wordsOf l :=
  words_ext h (wordsOf_words l) fun n hn => by rw [he n hn, wordsOf_has l n hn]
theorem wordsOf_ext {l l' : List Int} (h : ∀ x : Int, 0 ≤ x → x < 256 → (x ∈ l ↔ x ∈ l')) : wordsOf l = wordsOf l' :=
  words_ext (wordsOf_words l) (wordsOf_words l') fun n hn => by
    rw [wordsOf_has l n hn, wordsOf_has l' n hn]
    exact decide_eq_decide.2 (h n (by omega) (by omega))
theorem wordsOf_mem {l l' : List Int} (h : wordsOf l = wordsOf l') {x : Int} (h0 : 0 ≤ x) (h1 : x < 256) : x ∈ l ↔ x ∈ l' := by
  have e1 := wordsOf_has l x.toNat (by omega)
  have e2 := wordsOf_has l' x.toNat (by omega)
  rw [h] at e1
  rw [show ((x.toNat : Nat) : Int) = x by omega] at e1 e2
  rw [e1] at e2
  exact decide_eq_decide.1 e2
/-- Numbers of states. -/
def Small (l : List Int) : Prop := ∀ x ∈ l, 0 ≤ x ∧ x < 256
theorem Small.nil : Small [] := fun x h => absurd h (by simp)
theorem Small.snoc {l : List Int} (h : Small l) {x : Int} (hx : 0 ≤ x ∧ x < 256) : Small (l ++ [x]) := fun y hy => by
  rcases List.mem_append.1 hy with e | e
  · exact h y e
  · rw [List.mem_singleton.1 e]; exact hx
theorem wordsOf_inj {l l' : List Int} (hl : Strict l) (hl' : Strict l') (h : Small l) (h' : Small l') (e : wordsOf l = wordsOf l') : l = l' :=
  hl.ext hl' fun x => ⟨fun hx => (wordsOf_mem e (h x hx).1 (h x hx).2).1 hx, fun hx => (wordsOf_mem e (h' x hx).1 (h' x hx).2).2 hx⟩
theorem wordsOf_sorted (l : List Int) : wordsOf (sortedL l) = wordsOf l := wordsOf_ext fun x _ _ => (sortedL_spec l).2 x
theorem wordsOf_snoc (l : List Int) {n : Nat} (hn : n < 256) : setAdd (wordsOf l) n = wordsOf (l ++ [(n : Int)]) :=
  words_eq ((wordsOf_words l).add hn) fun k hk => by
    rw [setHas_add (wordsOf_words l) hn, wordsOf_has l k hk]
    by_cases e : k = n
    · subst e; simp
    · have : ¬ (k : Int) = (n : Int) := by omega
      simp [e, this]
theorem Small.sorted {l : List Int} (h : Small l) : Small (sortedL l) := fun x hx => h x (((sortedL_spec l).2 x).1 hx)
theorem IsRow.small {l : List Int} {b : Int} (h : IsRow l b) (hb : b ≤ 256) : Small l := fun x hx => by have := h.mem hx; omega

theorem set_Has' (l : List Int) (x : Int) (h0 : 0 ≤ x) (h1 : x < 256) (w : World) :
    Cal Tryd.prog 98 [setV l, .int .i64 x] w fun v w' => v = .bool (decide (x ∈ l)) ∧ Below w.heap.size w w' := by
  obtain ⟨n, rfl⟩ : ∃ n : Nat, x = n := ⟨x.toNat, by omega⟩
  have := set_Has (wordsOf l) (wordsOf_words l) n (by omega) w
  rwa [wordsOf_has l n (by omega)] at this
theorem set_Add' {l : List Int} (x : Int) (h0 : 0 ≤ x) (h1 : x < 256) {w : World} {g : Nat} (hk : Blk w g 64 (setCells (wordsOf l))) :
    Cal Tryd.prog 58 [.pointer (some ⟨g, 0, none⟩), .int .i64 x] w fun v w' => v = .tuple #[] ∧ Blk w' g 64 (setCells (wordsOf (l ++ [x]))) ∧ Grew w w' (some ⟨g, 0, none⟩) ∧ w'.heap.size = w.heap.size := by
  obtain ⟨n, rfl⟩ : ∃ n : Nat, x = n := ⟨x.toNat, by omega⟩
  have := set_Add (wordsOf_words l) n (by omega) hk
  rwa [wordsOf_snoc l (by omega)] at this
theorem machine_Of' {w : World} {A : Option Addr} {l : List Int} (h : Ints (· < w.heap.size) w A l) (c : Nat) (hl : l.length ≤ 17592186043904) (hr : Small l) :
    Cal Tryd.prog 74 [.slice A l.length c] w fun v w' => v = setV l ∧ Below w.heap.size w w' :=
  (machine_Of h c hl hr).mono fun _ _ ⟨_, e, hw, hh, hb⟩ => ⟨e.trans (by rw [words_eq hw hh]), hb⟩
theorem setCells_4 (l : List Int) : (setCells (wordsOf l)).length = 4 := by rw [setCells_len, (wordsOf_words l).1]
theorem setCells_one (l : List Int) : (setCells (wordsOf l)).all (·.oneCell') = true := by simp [setCells, Value.oneCell']
end

section
open Go.RowKit

/-- Where states lead to, at an event, as the arrows stand. -/
def stepT (m : Mach) (l : List Int) (e : Int) : List Int := (m.arrows.filter fun a => decide (a.evt = e) && decide (a.frm ∈ l)).map (·.to_)
def stepK (m : Mach) (l : List Int) (e : Int) (k : Nat) : List Int := ((m.arrows.take k).filter fun a => decide (a.evt = e) && decide (a.frm ∈ l)).map (·.to_)
theorem stepK_all (m : Mach) (l : List Int) (e : Int) : stepK m l e m.arrows.length = stepT m l e := by unfold stepK stepT; rw [List.take_length]
theorem stepK_snoc (m : Mach) (l : List Int) (e : Int) (k : Nat) (h : k < m.arrows.length) :
    stepK m l e (k + 1) = stepK m l e k ++ (if (m.arrows.getD k default).evt = e ∧ (m.arrows.getD k default).frm ∈ l then [(m.arrows.getD k default).to_] else []) := by
  unfold stepK
  rw [take_snoc _ default k h, List.filter_append, List.map_append]
  congr 1
  generalize m.arrows.getD k default = y
  by_cases h1 : y.evt = e <;> by_cases h2 : y.frm ∈ l <;> simp [h1, h2]
theorem stepK_le (m : Mach) (l : List Int) (e : Int) (k : Nat) : (stepK m l e k).length ≤ k := by
  unfold stepK
  rw [List.length_map]
  have := List.length_filter_le (fun a : Arr => decide (a.evt = e) && decide (a.frm ∈ l)) (m.arrows.take k)
  have := List.length_take_le k m.arrows
  omega
theorem May.arr {m : Mach} (hm : m.May) {y : Arr} (h : y ∈ m.arrows) : m.ArrOk y := by
  obtain ⟨i, hi, rfl⟩ := (mem_iff_getD m.arrows default y).1 h
  exact (hm.2.2.2.2.2.2.2 i hi).1
theorem stepT_small {m : Mach} (hm : m.May) (l : List Int) (e : Int) : ∀ x ∈ stepT m l e, 0 ≤ x ∧ x < m.states := by
  intro x hx
  obtain ⟨y, hy, rfl⟩ := List.mem_map.1 hx
  exact (May.arr hm (List.mem_filter.1 hy).1).2.1
/-- The row of where states lead to. -/
def stepL (m : Mach) (l : List Int) (e : Int) : List Int := sortedL (stepT m l e)
theorem stepL_row {m : Mach} (hm : m.May) (l : List Int) (e : Int) : IsRow (stepL m l e) m.states :=
  IsRow.of_strict (sortedL_spec _).1 fun x hx => by
    have := stepT_small hm l e x (((sortedL_spec _).2 x).1 hx)
    have : m.states ≤ 256 := hm.2.1
    omega
theorem setV_step (m : Mach) (l : List Int) (e : Int) : setV (stepT m l e) = setV (stepL m l e) := by unfold setV stepL; rw [wordsOf_sorted]

theorem machine_Step {w : World} {a : MV} {m : Mach} (h : IsM (· < w.heap.size) w a m) (hm : m.May) (l : List Int) (e : Int) :
    Cal Tryd.prog 89 [a.val m, setV l, .int .i64 e] w fun v w' => v = setV (stepL m l e) ∧ Below w.heap.size w w' := by
  have hst : m.states ≤ 256 := hm.2.1
  have nA := hm.2.2.2.2.1
  refine cal_machine_Step (by simp) 100000 fun Q hQ => ?_
  simp (disch := first | with_reducible assumption | omega) only [push_cast, x_blk, x_cd, ↓reduceIte, Nat.reduceEqDiff, List.map_cons, List.map_nil, Int.reduceEq, Int.lt_irrefl, F_machine_Step]
  refine blk_of (box_agg _ (a.cells m)) ?_
  intro w1 k1 b1 z1
  simp (disch := first | with_reducible assumption | omega) only [push_cast, x_blk, x_cd, ↓reduceIte, Nat.reduceEqDiff, List.map_cons, List.map_nil, Int.reduceEq, Int.lt_irrefl]
  refine blk_of (box_agg _ (setCells (wordsOf l))) ?_
  intro w2 k2 b2 z2
  have k1 := k1.below b2 (by omega)
  have b2 := b1.trans (b2.mono b1.size)
  simp (disch := first | with_reducible assumption | omega) only [push_cast, x_blk, x_cd, ↓reduceIte, Nat.reduceEqDiff, List.map_cons, List.map_nil, Int.reduceEq, Int.lt_irrefl]
  refine blk_of (cs := setCells (wordsOf [])) al_64 ?_
  intro w3 k3 b3 z3
  have k1 := k1.below b3 (by omega)
  have k2 := k2.below b3 (by omega)
  have b3 := b2.trans (b3.mono b2.size)
  simp (disch := first | with_reducible assumption | omega) only [push_cast, x_blk, x_cd, ↓reduceIte, Nat.reduceEqDiff, List.map_cons, List.map_nil, Int.reduceEq, Int.lt_irrefl]
  refine blk_of (cs := setCells (wordsOf [])) al_64 ?_
  intro w4 k4 b4 z4
  have k1' := k1.below b4 (by omega)
  have h3 := h.below b3
  simp (disch := first | with_reducible assumption | omega) only [push_cast, x_blk, x_cd, ↓reduceIte, Nat.reduceEqDiff, List.map_cons, List.map_nil, Int.reduceEq, Int.lt_irrefl, k1'.m3 ty_ag_23]
  refine loop_rule (fun f w' => ∃ k : Nat, k ≤ m.arrows.length ∧ (f 2 = .int .i64 e ∧ f 4 = .pointer (some ⟨w1.heap.size, 0, none⟩) ∧ f 6 = .pointer (some ⟨w2.heap.size, 0, none⟩) ∧ f 7 = .pointer (some ⟨w3.heap.size, 0, none⟩) ∧ f 11 = .slice a.Aa m.arrows.length a.ca ∧ f 12 = .int .i64 m.arrows.length ∧ f 13 = .int .i64 k) ∧
      Blk w' w3.heap.size 64 (setCells (wordsOf (stepK m l e k))) ∧ Below w3.heap.size w3 w')
    (fun f _ => m.arrows.length - (intOf (f 13)).toNat) ⟨0, Nat.zero_le _, ⟨rfl, rfl, rfl, rfl, rfl, rfl, rfl⟩, k4, b4⟩ ?_
  clear k4 b4 k1'
  rintro f w5 ⟨k, hk, fr, k5, b5⟩ J hJ
  have z5 := b5.size
  have kl := k2.below b5 (by omega)
  have kr := k3.below b5 (by omega)
  have hA' := (h.below (b3.trans (b5.mono b3.size))).arrows
  by_cases hlt : k < m.arrows.length
  case neg =>
    obtain rfl : k = m.arrows.length := by omega
    rw [stepK_all] at k5
    simp (disch := first | with_reducible assumption | omega) only [push_cast, x_blk, x_cd, ↓reduceIte, Nat.reduceEqDiff, List.map_cons, List.map_nil, Int.reduceEq, Int.lt_irrefl, L_machine_Step_0, fr, Nat.lt_irrefl, k5.setA (wordsOf_words _) ty_ag_64 ty_sz_64]
    have e4 : tySize Tryd.prog 64 = some (setCells (wordsOf (stepT m l e))).length := by rw [setCells_4]; exact ty_sz_64
    refine sto_blk kr e4 (by rw [setCells_4, setCells_4]) (setCells_one _) ?_
    intro w6 k6 g6 z6
    simp (disch := first | with_reducible assumption | omega) only [push_cast, x_blk, x_cd, ↓reduceIte, Nat.reduceEqDiff, List.map_cons, List.map_nil, Int.reduceEq, Int.lt_irrefl]
    exact fin_cell k6 ty_ag_64 e4 (by simp only [push_cast, ↓reduceIte, Nat.reduceEqDiff, true_and, and_true, and_self, eq_self, fr]) (hQ _ _ ⟨setV_step m l e, g6.below (b3.trans (b5.mono b3.size)) (by omega) (by intro a ha; injection ha with ha; subst ha; show w.heap.size ≤ w2.heap.size; omega)⟩)
  have hA := hA'.isSome (by omega)
  simp (disch := first | with_reducible assumption | omega) only [push_cast, x_blk, x_cd, ↓reduceIte, Nat.reduceEqDiff, List.map_cons, List.map_nil, Int.reduceEq, Int.lt_irrefl, L_machine_Step_0, fr, hlt, hA'.ldA ty_ag_91 ty_sz_91]
  refine blk_of al_91 ?_
  intro w6 k6 b6 z6
  simp (disch := first | with_reducible assumption | omega) only [push_cast, x_blk, x_cd, ↓reduceIte, Nat.reduceEqDiff, List.map_cons, List.map_nil, Int.reduceEq, Int.lt_irrefl]
  refine sto_blk k6 (cs := arrCells (m.arrows.getD k default)) ty_sz_91 rfl (by simp [arrCells, Value.oneCell']) ?_
  intro w7 k7 q7 z7
  have hsn := stepK_snoc m l e k hlt
  have hym := getD_mem m.arrows default k hlt
  generalize hy : m.arrows.getD k default = y at *
  obtain ⟨hyf, hyt, hye⟩ := May.arr hm hym
  have k5lt := k5.lt
  have b57 : Below w5.heap.size w5 w7 := q7.below b6 (by omega) (by intro a ha; injection ha with ha; subst ha; exact Nat.le_refl _)
  have k5 := k5.below b57 k5lt
  have kl := kl.below b57 (by omega)
  have b7 := b5.trans (b57.mono z5)
  by_cases c1 : y.evt = e
  case neg =>
    rw [if_neg (fun hh => c1 hh.1), List.append_nil] at hsn
    simp (disch := first | with_reducible assumption | omega) only [push_cast, x_blk, x_cd, ↓reduceIte, Nat.reduceEqDiff, List.map_cons, List.map_nil, Int.reduceEq, Int.lt_irrefl, fr, c1, k7.a1 ty_ag_3]
    exact hJ _ _ ⟨k + 1, hlt, (by simp only [push_cast, ↓reduceIte, Nat.reduceEqDiff, true_and, and_true, and_self, eq_self, fr]), hsn ▸ k5, b7⟩ (by simp only [push_cast, ↓reduceIte, Nat.reduceEqDiff, intOf, fr]; omega)
  simp (disch := first | with_reducible assumption | omega) only [push_cast, x_blk, x_cd, ↓reduceIte, Nat.reduceEqDiff, List.map_cons, List.map_nil, Int.reduceEq, Int.lt_irrefl, fr, c1, eq_self, k7.a0 ty_ag_3, k7.a1 ty_ag_3, kl.setA (wordsOf_words _) ty_ag_64 ty_sz_64]
  refine call_of (set_Has' l y.frm hyf.1 (by omega) _) ?_
  rintro v w8 ⟨rfl, b8⟩
  have z7' : w7.heap.size = w5.heap.size + 1 := by omega
  have k5 := k5.below b8 (by omega)
  have k7 := k7.below b8 (by omega)
  have b8 := b7.trans (b8.mono (by omega))
  by_cases c2 : y.frm ∈ l
  case neg =>
    rw [if_neg (fun hh => c2 hh.2), List.append_nil] at hsn
    simp (disch := first | with_reducible assumption | omega) only [push_cast, x_blk, x_cd, ↓reduceIte, Nat.reduceEqDiff, List.map_cons, List.map_nil, Int.reduceEq, Int.lt_irrefl, fr, c2]
    exact hJ _ _ ⟨k + 1, hlt, (by simp only [push_cast, ↓reduceIte, Nat.reduceEqDiff, true_and, and_true, and_self, eq_self, fr]), hsn ▸ k5, b8⟩ (by simp only [push_cast, ↓reduceIte, Nat.reduceEqDiff, intOf, fr]; omega)
  rw [if_pos ⟨c1, c2⟩] at hsn
  simp (disch := first | with_reducible assumption | omega) only [push_cast, x_blk, x_cd, ↓reduceIte, Nat.reduceEqDiff, List.map_cons, List.map_nil, Int.reduceEq, Int.lt_irrefl, fr, c2, k7.a2 ty_ag_3]
  refine call_of (set_Add' y.to_ hyt.1 (by omega) k5) ?_
  rintro v w9 ⟨rfl, k9, g9, z9⟩
  simp (disch := first | with_reducible assumption | omega) only [push_cast, x_blk, x_cd, ↓reduceIte, Nat.reduceEqDiff, List.map_cons, List.map_nil, Int.reduceEq, Int.lt_irrefl, fr]
  exact hJ _ _ ⟨k + 1, hlt, (by simp only [push_cast, ↓reduceIte, Nat.reduceEqDiff, true_and, and_true, and_self, eq_self, fr]), by rw [hsn]; exact k9, g9.below b8 b8.size (by intro a ha; injection ha with ha; subst ha; exact Nat.le_refl _)⟩ (by simp only [push_cast, ↓reduceIte, Nat.reduceEqDiff, intOf, fr]; omega)
end

section
open Go.RowKit

def MeetL (a b : List Int) : Prop := ∃ x ∈ a, x ∈ b
instance (a b : List Int) : Decidable (MeetL a b) := by unfold MeetL; exact inferInstance
theorem meets_iff {a b : List Int} (ha : Small a) : MeetL a b ↔ ∃ i, i < 4 ∧ (wordsOf a).getD i 0 &&& (wordsOf b).getD i 0 ≠ 0 := by
  constructor
  · rintro ⟨x, hx, hy⟩
    have hs := ha x hx
    refine ⟨x.toNat / 64, by omega, fun h => ?_⟩
    have h1 := wordsOf_has a x.toNat (by omega)
    have h2 := wordsOf_has b x.toNat (by omega)
    rw [show ((x.toNat : Nat) : Int) = x by omega] at h1 h2
    unfold setHas at h1 h2
    have : ((wordsOf a).getD (x.toNat / 64) 0 &&& (wordsOf b).getD (x.toNat / 64) 0).testBit (x.toNat % 64) = true := by rw [Nat.testBit_and, h1, h2]; simp [hx, hy]
    rw [h, Nat.zero_testBit] at this
    cases this
  · rintro ⟨i, hi, h⟩
    obtain ⟨k, hk⟩ := Nat.exists_testBit_of_ne_zero h
    rw [Nat.testBit_and, Bool.and_eq_true] at hk
    have hk64 : k < 64 := by
      rcases Nat.lt_or_ge k 64 with h1 | h1
      · exact h1
      · have p : 2 ^ 64 ≤ 2 ^ k := Nat.pow_le_pow_right (by decide) h1
        rw [Nat.testBit_lt_two_pow (Nat.lt_of_lt_of_le ((wordsOf_words a).2 i) p)] at hk
        cases hk.1
    have h1 := wordsOf_has a (64 * i + k) (by omega)
    have h2 := wordsOf_has b (64 * i + k) (by omega)
    unfold setHas at h1 h2
    rw [show (64 * i + k) / 64 = i by omega, show (64 * i + k) % 64 = k by omega] at h1 h2
    rw [hk.1] at h1
    rw [hk.2] at h2
    exact ⟨_, of_decide_eq_true h1.symm, of_decide_eq_true h2.symm⟩

theorem set_Meets {a b : List Int} (ha : Small a) (w : World) :
    Cal Tryd.prog 96 [setV a, setV b] w fun v w' => v = .bool (decide (MeetL a b)) ∧ Below w.heap.size w w' := by
  refine cal_machine_Set_Meets (by simp) 100000 fun Q hQ => ?_
  simp (disch := first | with_reducible assumption | omega) only [push_cast, x_blk, x_cd, ↓reduceIte, Nat.reduceEqDiff, List.map_cons, List.map_nil, Int.reduceEq, Int.lt_irrefl, F_machine_Set_Meets]
  refine blk_of (box_agg _ (setCells (wordsOf a))) ?_
  intro w1 k1 b1 z1
  simp (disch := first | with_reducible assumption | omega) only [push_cast, x_blk, x_cd, ↓reduceIte, Nat.reduceEqDiff, List.map_cons, List.map_nil, Int.reduceEq, Int.lt_irrefl]
  refine blk_of (box_agg _ (setCells (wordsOf b))) ?_
  intro w2 k2 b2 z2
  have k1 := k1.below b2 (by omega)
  have b2 := b1.trans (b2.mono b1.size)
  simp (disch := first | with_reducible assumption | omega) only [push_cast, x_blk, x_cd, ↓reduceIte, Nat.reduceEqDiff, List.map_cons, List.map_nil, Int.reduceEq, Int.lt_irrefl]
  refine loop_rule (fun f w' => ∃ i : Nat, i ≤ 4 ∧ (f 2 = .pointer (some ⟨w.heap.size, 0, none⟩) ∧ f 3 = .pointer (some ⟨w1.heap.size, 0, none⟩) ∧ f 6 = .int .i64 i) ∧
      (∀ j, j < i → (wordsOf a).getD j 0 &&& (wordsOf b).getD j 0 = 0) ∧ Blk w' w.heap.size 64 (setCells (wordsOf a)) ∧ Blk w' w1.heap.size 64 (setCells (wordsOf b)) ∧ Below w.heap.size w w')
    (fun f _ => 4 - (intOf (f 6)).toNat) ⟨0, by omega, ⟨rfl, rfl, rfl⟩, fun j hj => absurd hj (by omega), k1, k2, b2⟩ ?_
  clear k1 k2 b2
  rintro f w3 ⟨i, hi, fr, hp, k1, k2, b3⟩ J hJ
  by_cases hlt : (i : Int) < 4
  case neg =>
    have r : decide (MeetL a b) = false := decide_eq_false fun h => by
      obtain ⟨j, hj, hne⟩ := (meets_iff ha).1 h
      exact hne (hp j (by omega))
    simp (disch := first | with_reducible assumption | omega) only [push_cast, x_blk, x_cd, ↓reduceIte, Nat.reduceEqDiff, List.map_cons, List.map_nil, Int.reduceEq, Int.lt_irrefl, L_machine_Set_Meets_0, fr, hlt]
    exact fin_1 (hQ _ _ ⟨(by simp only [push_cast, ↓reduceIte, Nat.reduceEqDiff, Int.reduceEq, r]), b3⟩)
  have hi4 : i < 4 := by omega
  have hx := (wordsOf_words a).2 i
  have hy := (wordsOf_words b).2 i
  have k1' := k1.drew
  have k2' := k2.drew
  have hwd : ∀ (z : Nat), (wordsOf a).getD i 0 &&& (wordsOf b).getD i 0 = z → z ≠ 0 → decide (MeetL a b) = true := fun z h1 h2 => decide_eq_true ((meets_iff ha).2 ⟨i, hi4, h1 ▸ h2⟩)
  generalize hv : (wordsOf a).getD i 0 = x at *
  generalize hu : (wordsOf b).getD i 0 = y at *
  generalize hz : x &&& y = z at *
  by_cases c : z = 0
  · subst c
    simp (disch := first | with_reducible assumption | omega) only [push_cast, x_blk, x_cd, ↓reduceIte, Nat.reduceEqDiff, List.map_cons, List.map_nil, Int.reduceEq, Int.lt_irrefl, L_machine_Set_Meets_0, fr, hlt, Int.natCast_nonneg, bin_and' hz hx hy, k1'.word' (wordsOf_words a) ty_ag_62 i hi4 hv, k2'.word' (wordsOf_words b) ty_ag_62 i hi4 hu]
    exact hJ _ _ ⟨i + 1, by omega, (by simp only [push_cast, ↓reduceIte, Nat.reduceEqDiff, true_and, and_true, and_self, eq_self, fr]), fun j hj => if e : j = i then by rw [e, hv, hu, hz] else hp j (by omega), k1', k2', drawn b3⟩ (by simp only [push_cast, ↓reduceIte, Nat.reduceEqDiff, intOf, fr]; omega)
  · have r := hwd z rfl c
    have c' : ¬ ((z : Int) = 0) := by omega
    simp (disch := first | with_reducible assumption | omega) only [push_cast, x_blk, x_cd, ↓reduceIte, Nat.reduceEqDiff, List.map_cons, List.map_nil, Int.reduceEq, Int.lt_irrefl, L_machine_Set_Meets_0, fr, hlt, Int.natCast_nonneg, bin_and' hz hx hy, c', k1'.word' (wordsOf_words a) ty_ag_62 i hi4 hv, k2'.word' (wordsOf_words b) ty_ag_62 i hi4 hu]
    exact fin_1 (hQ _ _ ⟨(by simp only [push_cast, ↓reduceIte, Nat.reduceEqDiff, Int.reduceEq, r]), drawn b3⟩)

theorem ref2_Step {w : World} {a : MV} {m : Mach} (h : IsM (· < w.heap.size) w a m) (hf : m.Fits) {A1 : Option Addr} {c1 : Nat} {l : List Int} (h1 : Ints (· < w.heap.size) w A1 l) (n1 : l.length ≤ 17592186043904) (e : Int) :
    Cal Tryd.prog 84 [a.val m, .slice A1 l.length c1, .int .i64 e] w fun v w' => ∃ A c, v = .slice A (stepL m l e).length c ∧ OwnI w.heap.size 3 w' A c (stepL m l e) ∧ Below w.heap.size w w' := by
  have nA := hf.lenA
  refine cal_ref2_Step (by simp) 100000 fun Q hQ => ?_
  simp (disch := first | with_reducible assumption | omega) only [push_cast, x_blk, x_cd, ↓reduceIte, Nat.reduceEqDiff, List.map_cons, List.map_nil, Int.reduceEq, Int.lt_irrefl, F_ref2_Step]
  refine blk_of (box_agg _ (a.cells m)) ?_
  intro w1 k1 b1 z1
  simp (disch := first | with_reducible assumption | omega) only [push_cast, x_blk, x_cd, ↓reduceIte, Nat.reduceEqDiff, List.map_cons, List.map_nil, Int.reduceEq, Int.lt_irrefl]
  refine loop_rule (fun f w' => ∃ k : Nat, ∃ O co, k ≤ m.arrows.length ∧ (f 1 = .slice A1 l.length c1 ∧ f 2 = .int .i64 e ∧ f 3 = .pointer (some ⟨w.heap.size, 0, none⟩) ∧ f 7 = .slice O (stepK m l e k).length co ∧ f 8 = .int .i64 k) ∧
      OwnI w1.heap.size 3 w' O co (stepK m l e k) ∧ Below w1.heap.size w1 w')
    (fun f _ => m.arrows.length - (intOf (f 8)).toNat) ⟨0, none, 0, Nat.zero_le _, ⟨rfl, rfl, rfl, rfl, rfl⟩, Own.nil _ _ _ _, Below.refl _ _⟩ ?_
  rintro f w2 ⟨k, O, co, hk, fr, ho, b2⟩ J hJ
  have kM := k1.below b2 (by omega)
  have bb := b1.trans (b2.mono b1.size)
  by_cases hlt : k < m.arrows.length
  case neg =>
    obtain rfl : k = m.arrows.length := by omega
    rw [stepK_all] at fr ho
    have hle := stepK_le m l e m.arrows.length
    rw [stepK_all] at hle
    simp (disch := first | with_reducible assumption | omega) only [push_cast, x_blk, x_cd, ↓reduceIte, Nat.reduceEqDiff, List.map_cons, List.map_nil, Int.reduceEq, Int.lt_irrefl, L_ref2_Step_0, fr, Nat.lt_irrefl, kM.m3 ty_ag_23]
    refine call_of (ref1_Sorted (Ints.lt (OwnI.ints ho)) co (by omega)) ?_
    rintro v w3 ⟨A4, c4, rfl, o4, b4⟩
    simp (disch := first | with_reducible assumption | omega) only [push_cast, x_blk, x_cd, ↓reduceIte, Nat.reduceEqDiff, List.map_cons, List.map_nil, Int.reduceEq, Int.lt_irrefl]
    exact fin_1 (hQ _ _ ⟨A4, c4, rfl, o4.base bb.size, bb.trans (b4.mono bb.size)⟩)
  have hI := (h.below bb).arrows
  have hA := hI.isSome (by omega)
  have hsn := stepK_snoc m l e k hlt
  have hle := stepK_le m l e k
  by_cases c1' : (m.arrows.getD k default).evt = e
  case neg =>
    rw [if_neg (fun hh => c1' hh.1), List.append_nil] at hsn
    simp (disch := first | with_reducible assumption | omega) only [push_cast, x_blk, x_cd, ↓reduceIte, Nat.reduceEqDiff, List.map_cons, List.map_nil, Int.reduceEq, Int.lt_irrefl, L_ref2_Step_0, fr, hlt, kM.m3 ty_ag_23, hI.ld1 ty_ag_3, c1']
    exact hJ _ _ ⟨k + 1, O, co, hlt, (by simp only [push_cast, ↓reduceIte, Nat.reduceEqDiff, true_and, and_true, and_self, eq_self, fr, hsn]), by rw [hsn]; exact ho, b2⟩ (by simp only [push_cast, ↓reduceIte, Nat.reduceEqDiff, intOf, fr]; omega)
  simp (disch := first | with_reducible assumption | omega) only [push_cast, x_blk, x_cd, ↓reduceIte, Nat.reduceEqDiff, List.map_cons, List.map_nil, Int.reduceEq, Int.lt_irrefl, L_ref2_Step_0, fr, hlt, kM.m3 ty_ag_23, Nat.add_zero, hI.ld0 ty_ag_3, hI.ld1 ty_ag_3, c1', eq_self]
  refine call_of (ref1_Has (h1.below bb) c1 _ (by omega)) ?_
  rintro v w3 ⟨rfl, s3⟩
  have kM3 := kM.same s3
  have hI3 := hI.same s3
  have ho3 := ho.same s3
  have b3 := b2.trans (s3.below _)
  by_cases c2 : (m.arrows.getD k default).frm ∈ l
  case neg =>
    rw [if_neg (fun hh => c2 hh.2), List.append_nil] at hsn
    simp (disch := first | with_reducible assumption | omega) only [push_cast, x_blk, x_cd, ↓reduceIte, Nat.reduceEqDiff, List.map_cons, List.map_nil, Int.reduceEq, Int.lt_irrefl, fr, c2]
    exact hJ _ _ ⟨k + 1, O, co, hlt, (by simp only [push_cast, ↓reduceIte, Nat.reduceEqDiff, true_and, and_true, and_self, eq_self, fr, hsn]), by rw [hsn]; exact ho3, b3⟩ (by simp only [push_cast, ↓reduceIte, Nat.reduceEqDiff, intOf, fr]; omega)
  rw [if_pos ⟨c1', c2⟩] at hsn
  simp (disch := first | with_reducible assumption | omega) only [push_cast, x_blk, x_cd, ↓reduceIte, Nat.reduceEqDiff, List.map_cons, List.map_nil, Int.reduceEq, Int.lt_irrefl, fr, c2, hlt, kM3.m3 ty_ag_23, hI3.ld2 ty_ag_3]
  refine app_int slT_22 ho3 _ (by omega) b3.size ?_
  intro A' c' w4 ho4 hg4 hA4 hs4 hz4
  simp (disch := first | with_reducible assumption | omega) only [push_cast, x_blk, x_cd, ↓reduceIte, Nat.reduceEqDiff, List.map_cons, List.map_nil, Int.reduceEq, Int.lt_irrefl, fr]
  exact hJ _ _ ⟨k + 1, A', c', hlt, (by simp only [push_cast, ↓reduceIte, Nat.reduceEqDiff, true_and, and_true, and_self, eq_self, fr, hsn, List.length_append, List.length_cons, List.length_nil]), by rw [hsn]; exact ho4, hg4.below b3 b3.size ho3.geB⟩ (by simp only [push_cast, ↓reduceIte, Nat.reduceEqDiff, intOf, fr]; omega)
end
section
open Go.RowKit
def codeR (l : List Int) : Nat := (wordsOf l).getD 0 0
theorem codeR_lt {l : List Int} (h : IsRow l 6) : codeR l < 64 := by
  refine Nat.lt_pow_two_of_testBit (n := 6) _ fun i hi => ?_
  by_cases h64 : i < 64
  · have := wordsOf_has l i (by omega)
    unfold setHas at this
    rw [show i / 64 = 0 by omega, show i % 64 = i by omega] at this
    rw [show codeR l = (wordsOf l).getD 0 0 from rfl, this]
    exact decide_eq_false fun hm => by have := h.mem hm; omega
  · have p : 2 ^ 64 ≤ 2 ^ i := Nat.pow_le_pow_right (by decide) (by omega)
    exact Nat.testBit_lt_two_pow (Nat.lt_of_lt_of_le ((wordsOf_words l).2 0) p)
theorem codeR_inj {l m : List Int} (h : IsRow l 6) (h' : IsRow m 6) (e : codeR l = codeR m) : l = m := by
  refine h.strict.ext h'.strict fun x => ?_
  have key : ∀ {l : List Int}, IsRow l 6 → (x ∈ l ↔ 0 ≤ x ∧ x < 6 ∧ (codeR l).testBit x.toNat = true) := fun {l} hl => by
    constructor
    · intro hx
      have hb := hl.mem hx
      have := wordsOf_has l x.toNat (by omega)
      unfold setHas at this
      rw [show x.toNat / 64 = 0 by omega, show x.toNat % 64 = x.toNat by omega, show ((x.toNat : Nat) : Int) = x by omega] at this
      exact ⟨hb.1, hb.2.1, by rw [show codeR l = (wordsOf l).getD 0 0 from rfl, this]; exact decide_eq_true hx⟩
    · rintro ⟨h0, h6, ht⟩
      have := wordsOf_has l x.toNat (by omega)
      unfold setHas at this
      rw [show x.toNat / 64 = 0 by omega, show x.toNat % 64 = x.toNat by omega, show ((x.toNat : Nat) : Int) = x by omega] at this
      rw [show codeR l = (wordsOf l).getD 0 0 from rfl, this] at ht
      exact of_decide_eq_true ht
  rw [key h, key h', e]
theorem IsRow.more {l : List Int} {a b : Int} (h : IsRow l a) (hab : a ≤ b) : IsRow l b := fun i hi => by
  have := h i hi
  exact ⟨this.1, by have := this.2.1; omega, this.2.2.1, this.2.2.2⟩
end
end Go.Proofs.YtcjinmgieiebbaaDoor
