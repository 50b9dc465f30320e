/-
  Chapter 2: the program's sets of states: Of, Add, Has: by their contracts.
  Chapter 2: the value of a set of states as a function of a list of its numbers; the program's Of, Has, Add over it.
  Chapter 2: where states lead to, at an event: the program's Step and the reference's, by their contracts.
  Chapter 2: whether two sets meet; the reference's Step, Word: by their contracts.
-/
import Derived.Test.YtfckamjbeplceaaZOwn
import Derived.Test.YtfckamjbeplceaaZIr
import Derived.Test.YtfckamjbeplceaaZRow
import Derived.KernelRfl
import Derived.Test.YtfckamjbeplceaaZMach
namespace Go.Proofs.Ytfckamjbeplceaa
set_option linter.unusedSimpArgs false
set_option linter.unusedVariables false
set_option linter.unusedSectionVars false
section
open Go.RowKit

def setCells (ws : List Nat) : List Value := ws.map fun (x : Nat) => .int .u64 (x : Int)
abbrev setVal (ws : List Nat) : Value := .agg (setCells ws).toArray
/-- Four words. -/
def Words (ws : List Nat) : Prop := ws.length = 4 ∧ ∀ i, ws.getD i 0 < 2 ^ 64
def setHas (ws : List Nat) (n : Nat) : Bool := (ws.getD (n / 64) 0).testBit (n % 64)
def setAdd (ws : List Nat) (n : Nat) : List Nat := ws.set (n / 64) (ws.getD (n / 64) 0 ||| 2 ^ (n % 64))
theorem setCells_len (ws : List Nat) : (setCells ws).length = ws.length := by simp [setCells]
theorem Words.add {ws : List Nat} (h : Words ws) {n : Nat} (hn : n < 256) : Words (setAdd ws n) := by
  refine ⟨by simp [setAdd, h.1], fun i => ?_⟩
  unfold setAdd
  rw [getD_set _ _ _ _ _ (by rw [h.1]; omega)]
  split
  · exact Nat.or_lt_two_pow (h.2 _) (Nat.pow_lt_pow_right (by decide) (Nat.mod_lt _ (by decide)))
  · exact h.2 i
theorem setHas_add {ws : List Nat} (h : Words ws) {n : Nat} (hn : n < 256) (k : Nat) : setHas (setAdd ws n) k = (setHas ws k || decide (k = n)) := by
  unfold setHas setAdd
  rw [getD_set _ _ _ _ _ (by rw [h.1]; omega)]
  split
  · rename_i e
    rw [Nat.testBit_or, Nat.testBit_two_pow, e]
    congr 1
    exact decide_eq_decide.2 ⟨fun h => by omega, fun h => by omega⟩
  · rename_i e
    have : ¬ k = n := fun h => e (by rw [h])
    simp [this]
theorem setHas_nil (n : Nat) : setHas [0, 0, 0, 0] n = false := by
  unfold setHas
  have : ([0, 0, 0, 0] : List Nat).getD (n / 64) 0 = 0 := by
    match n / 64 with
    | 0 => rfl
    | 1 => rfl
    | 2 => rfl
    | 3 => rfl
    | k + 4 => simp [List.getD_eq_getElem?_getD]
  rw [this, Nat.zero_testBit]
section
variable {P : Program} {K : Fr → World → Prop} {u w w' : World} {f : Fr} {d : Option Nat} {g t ty : Nat} {ws : List Nat}
theorem Blk.word (h : Blk u g t (setCells ws)) (hw : Words ws) (ht : tyAgg P ty = some false) (j : Nat) (hj : j < 4) :
    Val1 P K (Instr.loadAt ty (.pointer (some ⟨g, j, none⟩))) u f d w = K (updO f d (.int .u64 (ws.getD j 0 : Nat))) w := by
  have hl : j < (setCells ws).length := by rw [setCells_len, hw.1]; exact hj
  have := h.ld (P := P) (K := K) (f := f) (d := d) (w := w) ht j hl
  have e : (setCells ws).getD j undef = .int .u64 ((ws.getD j 0 : Nat) : Int) := getD_map _ _ _ _ _ (by rw [hw.1]; exact hj)
  rw [e] at this
  exact this
end

theorem fin_cell {P : Program} {Rc : Value → World → Prop} {a t t' g : Nat} {cs : List Value} {f : Fr} {w : World} (hk : Blk w g t' cs) (ht : tyAgg P t = some true) (hs : tySize P t = some cs.length)
    (hf : f a = .pointer (some ⟨g, 0, none⟩)) (h : Rc (.agg cs.toArray) w) : FinX P #[.cell a t] Rc f w := by
  refine ⟨.agg cs.toArray, fun fn tmps hr hf' => ?_, h⟩
  have e : tmps.getD a undef = .pointer (some ⟨g, 0, none⟩) := by rw [hf', hf]
  have e2 : tmps[a]?.getD undef = .pointer (some ⟨g, 0, none⟩) := by simpa using e
  unfold tyAgg at ht
  unfold tySize at hs
  cases hu : P.underlying t with
  | none => simp [hu] at ht
  | some de =>
    cases hi : P.info? t with
    | none => simp [hi] at hs
    | some ie =>
      simp only [hi, Option.map_some, Option.some.injEq] at hs
      simp only [hu, Option.map_some, Option.some.injEq] at ht
      have hr' := run_loadCells_list (P := P) w ⟨g, 0, none⟩ cs (fun j v hv => by rw [addr_add, Nat.zero_add, hk.cell, hv])
      cases de <;> simp at ht <;> simp [results, hr, e2, asAddr, loadVar, isAgg, run_underlying hu, sizeOf, typeInfo, hi, hs, hr']

end

section
open Go.RowKit

/-- The four words of a list's numbers (those below 256). -/
def wordsOf (l : List Int) : List Nat := l.foldr (fun x ws => if 0 ≤ x ∧ x < 256 then setAdd ws x.toNat else ws) [0, 0, 0, 0]
abbrev setV (l : List Int) : Value := setVal (wordsOf l)
theorem words0 : Words [0, 0, 0, 0] := ⟨rfl, fun i => by match i with | 0 => decide | 1 => decide | 2 => decide | 3 => decide | j + 4 => simp [List.getD_eq_getElem?_getD]⟩
theorem wordsOf_words : ∀ l : List Int, Words (wordsOf l)
  | [] => words0
  | x :: l => by
    have ih := wordsOf_words l
    show Words (if 0 ≤ x ∧ x < 256 then setAdd (wordsOf l) x.toNat else wordsOf l)
    split
    · exact ih.add (by omega)
    · exact ih
theorem wordsOf_has : ∀ (l : List Int) (n : Nat), n < 256 → setHas (wordsOf l) n = decide ((n : Int) ∈ l)
  | [], n, _ => by rw [show wordsOf [] = [0, 0, 0, 0] from rfl, setHas_nil]; simp
  | x :: l, n, hn => by
    have ih := wordsOf_has l n hn
    show setHas (if 0 ≤ x ∧ x < 256 then setAdd (wordsOf l) x.toNat else wordsOf l) n = _
    split
    · rename_i h
      rw [setHas_add (wordsOf_words l) (by omega), ih]
      by_cases e : n = x.toNat
      · have q : (n : Int) = x := by omega
        rw [decide_eq_true e, Bool.or_true]
        exact (decide_eq_true (q ▸ List.mem_cons_self ..)).symm
      · have : ¬ (n : Int) = x := by omega
        simp [e, this]
    · rename_i h
      have : ¬ (n : Int) = x := by omega
      rw [ih]; simp [this]
theorem words_ext {ws ws' : List Nat} (h : Words ws) (h' : Words ws') (he : ∀ n, n < 256 → setHas ws n = setHas ws' n) : ws = ws' := by
  refine ext_getD 0 (h.1.trans h'.1.symm) fun k hk => ?_
  rw [h.1] at hk
  refine Nat.eq_of_testBit_eq fun i => ?_
  by_cases hi : i < 64
  · have := he (64 * k + i) (by omega)
    unfold setHas at this
    rwa [show (64 * k + i) / 64 = k by omega, show (64 * k + i) % 64 = i by omega] at this
  · have p : 2 ^ 64 ≤ 2 ^ i := Nat.pow_le_pow_right (by decide) (by omega)
    rw [Nat.testBit_lt_two_pow (Nat.lt_of_lt_of_le (h.2 k) p), Nat.testBit_lt_two_pow (Nat.lt_of_lt_of_le (h'.2 k) p)]
theorem wordsOf_ext {l l' : List Int} (h : ∀ x : Int, 0 ≤ x → x < 256 → (x ∈ l ↔ x ∈ l')) : wordsOf l = wordsOf l' :=
  words_ext (wordsOf_words l) (wordsOf_words l') fun n hn => by
    rw [wordsOf_has l n hn, wordsOf_has l' n hn]
    exact decide_eq_decide.2 (h n (by omega) (by omega))
theorem wordsOf_mem {l l' : List Int} (h : wordsOf l = wordsOf l') {x : Int} (h0 : 0 ≤ x) (h1 : x < 256) : x ∈ l ↔ x ∈ l' := by
  have e1 := wordsOf_has l x.toNat (by omega)
  have e2 := wordsOf_has l' x.toNat (by omega)
  rw [h] at e1
  rw [show ((x.toNat : Nat) : Int) = x by omega] at e1 e2
  rw [e1] at e2
  exact decide_eq_decide.1 e2
/-- Numbers of states. -/
def Small (l : List Int) : Prop := ∀ x ∈ l, 0 ≤ x ∧ x < 256
theorem Small.nil : Small [] := fun x h => absurd h (by simp)
theorem Small.snoc {l : List Int} (h : Small l) {x : Int} (hx : 0 ≤ x ∧ x < 256) : Small (l ++ [x]) := fun y hy => by
  rcases List.mem_append.1 hy with e | e
  · exact h y e
  · rw [List.mem_singleton.1 e]; exact hx
theorem Small.sorted {l : List Int} (h : Small l) : Small (sortedL l) := fun x hx => h x (((sortedL_spec l).2 x).1 hx)
theorem IsRow.small {l : List Int} {b : Int} (h : IsRow l b) (hb : b ≤ 256) : Small l := fun x hx => by have := h.mem hx; omega

end

section
open Go.RowKit

/-- Where states lead to, at an event, as the arrows stand. -/
def stepT (m : Mach) (l : List Int) (e : Int) : List Int := (m.arrows.filter fun a => decide (a.evt = e) && decide (a.frm ∈ l)).map (·.to_)
def stepK (m : Mach) (l : List Int) (e : Int) (k : Nat) : List Int := ((m.arrows.take k).filter fun a => decide (a.evt = e) && decide (a.frm ∈ l)).map (·.to_)
theorem stepK_all (m : Mach) (l : List Int) (e : Int) : stepK m l e m.arrows.length = stepT m l e := by unfold stepK stepT; rw [List.take_length]
theorem stepK_snoc (m : Mach) (l : List Int) (e : Int) (k : Nat) (h : k < m.arrows.length) :
    stepK m l e (k + 1) = stepK m l e k ++ (if (m.arrows.getD k default).evt = e ∧ (m.arrows.getD k default).frm ∈ l then [(m.arrows.getD k default).to_] else []) := by
  unfold stepK
  rw [take_snoc _ default k h, List.filter_append, List.map_append]
  congr 1
  generalize m.arrows.getD k default = y
  by_cases h1 : y.evt = e <;> by_cases h2 : y.frm ∈ l <;> simp [h1, h2]
theorem stepK_le (m : Mach) (l : List Int) (e : Int) (k : Nat) : (stepK m l e k).length ≤ k := by
  unfold stepK
  rw [List.length_map]
  have := List.length_filter_le (fun a : Arr => decide (a.evt = e) && decide (a.frm ∈ l)) (m.arrows.take k)
  have := List.length_take_le k m.arrows
  omega
theorem May.arr {m : Mach} (hm : m.May) {y : Arr} (h : y ∈ m.arrows) : m.ArrOk y := by
  obtain ⟨i, hi, rfl⟩ := (mem_iff_getD m.arrows default y).1 h
  exact (hm.2.2.2.2.2.2.2 i hi).1
theorem stepT_small {m : Mach} (hm : m.May) (l : List Int) (e : Int) : ∀ x ∈ stepT m l e, 0 ≤ x ∧ x < m.states := by
  intro x hx
  obtain ⟨y, hy, rfl⟩ := List.mem_map.1 hx
  exact (May.arr hm (List.mem_filter.1 hy).1).2.1
/-- The row of where states lead to. -/
def stepL (m : Mach) (l : List Int) (e : Int) : List Int := sortedL (stepT m l e)
theorem stepL_row {m : Mach} (hm : m.May) (l : List Int) (e : Int) : IsRow (stepL m l e) m.states :=
  IsRow.of_strict (sortedL_spec _).1 fun x hx => by
    have := stepT_small hm l e x (((sortedL_spec _).2 x).1 hx)
    have : m.states ≤ 256 := hm.2.1
    omega
end

section
open Go.RowKit

def MeetL (a b : List Int) : Prop := ∃ x ∈ a, x ∈ b
instance (a b : List Int) : Decidable (MeetL a b) := by unfold MeetL; exact inferInstance
theorem ref2_Step {w : World} {a : MV} {m : Mach} (h : IsM (· < w.heap.size) w a m) (hf : m.Fits) {A1 : Option Addr} {c1 : Nat} {l : List Int} (h1 : Ints (· < w.heap.size) w A1 l) (n1 : l.length ≤ 17592186043904) (e : Int) :
    Cal Try.prog 23 [a.val m, .slice A1 l.length c1, .int .i64 e] w fun v w' => ∃ A c, v = .slice A (stepL m l e).length c ∧ OwnI w.heap.size 3 w' A c (stepL m l e) ∧ Below w.heap.size w w' := by
  have nA := hf.lenA
  refine cal_ref2_Step (by simp) 100000 fun Q hQ => ?_
  simp (disch := first | with_reducible assumption | omega) only [push_cast, x_blk, x_cd, ↓reduceIte, Nat.reduceEqDiff, List.map_cons, List.map_nil, Int.reduceEq, Int.lt_irrefl, F_ref2_Step]
  refine blk_of (box_agg _ (a.cells m)) ?_
  intro w1 k1 b1 z1
  simp (disch := first | with_reducible assumption | omega) only [push_cast, x_blk, x_cd, ↓reduceIte, Nat.reduceEqDiff, List.map_cons, List.map_nil, Int.reduceEq, Int.lt_irrefl]
  refine loop_rule (fun f w' => ∃ k : Nat, ∃ O co, k ≤ m.arrows.length ∧ (f 1 = .slice A1 l.length c1 ∧ f 2 = .int .i64 e ∧ f 3 = .pointer (some ⟨w.heap.size, 0, none⟩) ∧ f 7 = .slice O (stepK m l e k).length co ∧ f 8 = .int .i64 k) ∧
      OwnI w1.heap.size 3 w' O co (stepK m l e k) ∧ Below w1.heap.size w1 w')
    (fun f _ => m.arrows.length - (intOf (f 8)).toNat) ⟨0, none, 0, Nat.zero_le _, ⟨rfl, rfl, rfl, rfl, rfl⟩, Own.nil _ _ _ _, Below.refl _ _⟩ ?_
  rintro f w2 ⟨k, O, co, hk, fr, ho, b2⟩ J hJ
  have kM := k1.below b2 (by omega)
  have bb := b1.trans (b2.mono b1.size)
  by_cases hlt : k < m.arrows.length
  case neg =>
    obtain rfl : k = m.arrows.length := by omega
    rw [stepK_all] at fr ho
    have hle := stepK_le m l e m.arrows.length
    rw [stepK_all] at hle
    simp (disch := first | with_reducible assumption | omega) only [push_cast, x_blk, x_cd, ↓reduceIte, Nat.reduceEqDiff, List.map_cons, List.map_nil, Int.reduceEq, Int.lt_irrefl, L_ref2_Step_0, fr, Nat.lt_irrefl, kM.m3 ty_ag_23]
    refine call_of (ref1_Sorted (Ints.lt (OwnI.ints ho)) co (by omega)) ?_
    rintro v w3 ⟨A4, c4, rfl, o4, b4⟩
    simp (disch := first | with_reducible assumption | omega) only [push_cast, x_blk, x_cd, ↓reduceIte, Nat.reduceEqDiff, List.map_cons, List.map_nil, Int.reduceEq, Int.lt_irrefl]
    exact fin_1 (hQ _ _ ⟨A4, c4, rfl, o4.base bb.size, bb.trans (b4.mono bb.size)⟩)
  have hI := (h.below bb).arrows
  have hA := hI.isSome (by omega)
  have hsn := stepK_snoc m l e k hlt
  have hle := stepK_le m l e k
  by_cases c1' : (m.arrows.getD k default).evt = e
  case neg =>
    rw [if_neg (fun hh => c1' hh.1), List.append_nil] at hsn
    simp (disch := first | with_reducible assumption | omega) only [push_cast, x_blk, x_cd, ↓reduceIte, Nat.reduceEqDiff, List.map_cons, List.map_nil, Int.reduceEq, Int.lt_irrefl, L_ref2_Step_0, fr, hlt, kM.m3 ty_ag_23, hI.ld1 ty_ag_3, c1']
    exact hJ _ _ ⟨k + 1, O, co, hlt, (by simp only [push_cast, ↓reduceIte, Nat.reduceEqDiff, true_and, and_true, and_self, eq_self, fr, hsn]), by rw [hsn]; exact ho, b2⟩ (by simp only [push_cast, ↓reduceIte, Nat.reduceEqDiff, intOf, fr]; omega)
  simp (disch := first | with_reducible assumption | omega) only [push_cast, x_blk, x_cd, ↓reduceIte, Nat.reduceEqDiff, List.map_cons, List.map_nil, Int.reduceEq, Int.lt_irrefl, L_ref2_Step_0, fr, hlt, kM.m3 ty_ag_23, Nat.add_zero, hI.ld0 ty_ag_3, hI.ld1 ty_ag_3, c1', eq_self]
  refine call_of (ref1_Has (h1.below bb) c1 _ (by omega)) ?_
  rintro v w3 ⟨rfl, s3⟩
  have kM3 := kM.same s3
  have hI3 := hI.same s3
  have ho3 := ho.same s3
  have b3 := b2.trans (s3.below _)
  by_cases c2 : (m.arrows.getD k default).frm ∈ l
  case neg =>
    rw [if_neg (fun hh => c2 hh.2), List.append_nil] at hsn
    simp (disch := first | with_reducible assumption | omega) only [push_cast, x_blk, x_cd, ↓reduceIte, Nat.reduceEqDiff, List.map_cons, List.map_nil, Int.reduceEq, Int.lt_irrefl, fr, c2]
    exact hJ _ _ ⟨k + 1, O, co, hlt, (by simp only [push_cast, ↓reduceIte, Nat.reduceEqDiff, true_and, and_true, and_self, eq_self, fr, hsn]), by rw [hsn]; exact ho3, b3⟩ (by simp only [push_cast, ↓reduceIte, Nat.reduceEqDiff, intOf, fr]; omega)
  rw [if_pos ⟨c1', c2⟩] at hsn
  simp (disch := first | with_reducible assumption | omega) only [push_cast, x_blk, x_cd, ↓reduceIte, Nat.reduceEqDiff, List.map_cons, List.map_nil, Int.reduceEq, Int.lt_irrefl, fr, c2, hlt, kM3.m3 ty_ag_23, hI3.ld2 ty_ag_3]
  refine app_int slT_22 ho3 _ (by omega) b3.size ?_
  intro A' c' w4 ho4 hg4 hA4 hs4 hz4
  simp (disch := first | with_reducible assumption | omega) only [push_cast, x_blk, x_cd, ↓reduceIte, Nat.reduceEqDiff, List.map_cons, List.map_nil, Int.reduceEq, Int.lt_irrefl, fr]
  exact hJ _ _ ⟨k + 1, A', c', hlt, (by simp only [push_cast, ↓reduceIte, Nat.reduceEqDiff, true_and, and_true, and_self, eq_self, fr, hsn, List.length_append, List.length_cons, List.length_nil]), by rw [hsn]; exact ho4, hg4.below b3 b3.size ho3.geB⟩ (by simp only [push_cast, ↓reduceIte, Nat.reduceEqDiff, intOf, fr]; omega)
end
section
open Go.RowKit
def codeR (l : List Int) : Nat := (wordsOf l).getD 0 0
theorem codeR_lt {l : List Int} (h : IsRow l 6) : codeR l < 64 := by
  refine Nat.lt_pow_two_of_testBit (n := 6) _ fun i hi => ?_
  by_cases h64 : i < 64
  · have := wordsOf_has l i (by omega)
    unfold setHas at this
    rw [show i / 64 = 0 by omega, show i % 64 = i by omega] at this
    rw [show codeR l = (wordsOf l).getD 0 0 from rfl, this]
    exact decide_eq_false fun hm => by have := h.mem hm; omega
  · have p : 2 ^ 64 ≤ 2 ^ i := Nat.pow_le_pow_right (by decide) (by omega)
    exact Nat.testBit_lt_two_pow (Nat.lt_of_lt_of_le ((wordsOf_words l).2 0) p)
theorem codeR_inj {l m : List Int} (h : IsRow l 6) (h' : IsRow m 6) (e : codeR l = codeR m) : l = m := by
  refine h.strict.ext h'.strict fun x => ?_
  have key : ∀ {l : List Int}, IsRow l 6 → (x ∈ l ↔ 0 ≤ x ∧ x < 6 ∧ (codeR l).testBit x.toNat = true) := fun {l} hl => by
    constructor
    · intro hx
      have hb := hl.mem hx
      have := wordsOf_has l x.toNat (by omega)
      unfold setHas at this
      rw [show x.toNat / 64 = 0 by omega, show x.toNat % 64 = x.toNat by omega, show ((x.toNat : Nat) : Int) = x by omega] at this
      exact ⟨hb.1, hb.2.1, by rw [show codeR l = (wordsOf l).getD 0 0 from rfl, this]; exact decide_eq_true hx⟩
    · rintro ⟨h0, h6, ht⟩
      have := wordsOf_has l x.toNat (by omega)
      unfold setHas at this
      rw [show x.toNat / 64 = 0 by omega, show x.toNat % 64 = x.toNat by omega, show ((x.toNat : Nat) : Int) = x by omega] at this
      rw [show codeR l = (wordsOf l).getD 0 0 from rfl, this] at ht
      exact of_decide_eq_true ht
  rw [key h, key h', e]
theorem IsRow.more {l : List Int} {a b : Int} (h : IsRow l a) (hab : a ≤ b) : IsRow l b := fun i hi => by
  have := h i hi
  exact ⟨this.1, by have := this.2.1; omega, this.2.2.1, this.2.2.2⟩
end
end Go.Proofs.Ytfckamjbeplceaa
