/-
  Chapter 2: the program's sets of states: Of, Add, Has: by their contracts.
  Chapter 2: the value of a set of states as a function of a list of its numbers; the program's Of, Has, Add over it.
  Chapter 2: where states lead to, at an event: the program's Step and the reference's, by their contracts.
  Chapter 2: whether two sets meet; the reference's Step, Word: by their contracts.
-/
import Derived.Test.YtfckamjbeplceaaZOwn
import Derived.Test.YtfckamjbeplceaaZIr
import Derived.Test.YtfckamjbeplceaaZRow
import Derived.KernelRfl
import Derived.Test.YtfckamjbeplceaaZMach
namespace Go.Proofs.Ytfckamjbeplceaa
set_option linter.unusedSimpArgs false
set_option linter.unusedVariables false
set_option linter.unusedSectionVars false
section
open Go.RowKit

def setCells (ws : List Nat) : List Value := ws.map fun (x : Nat) => .int .u64 (x : Int)
abbrev setVal (ws : List Nat) : Value := .agg (setCells ws).toArray
/-- Four words. -/
def Words (ws : List Nat) : Prop := ws.length = 4 ∧ ∀ i, ws.getD i 0 < 2 ^ 64
def setHas (ws : List Nat) (n : Nat) : Bool := (ws.getD (n / 64) 0).testBit (n % 64)
def setAdd (ws : List Nat) (n : Nat) : List Nat := ws.set (n / 64) (ws.getD (n / 64) 0 ||| 2 ^ (n % 64))
theorem setCells_len (ws : List Nat) : (setCells ws).length = ws.length := by simp [setCells]
theorem Words.add {ws : List Nat} (h : Words ws) {n : Nat} (hn : n < 256) : Words (setAdd ws n) := by
  refine ⟨by simp [setAdd, h.1], fun i => ?_⟩
  unfold setAdd
  rw [getD_set _ _ _ _ _ (by rw [h.1]; omega)]
  split
  · exact Nat.or_lt_two_pow (h.2 _) (Nat.pow_lt_pow_right (by decide) (Nat.mod_lt _ (by decide)))
  · exact h.2 i
theorem setHas_add {ws : List Nat} (h : Words ws) {n : Nat} (hn : n < 256) (k : Nat) : setHas (setAdd ws n) k = (setHas ws k || decide (k = n)) := by
  unfold setHas setAdd
  rw [getD_set _ _ _ _ _ (by rw [h.1]; omega)]
  split
  · rename_i e
    rw [Nat.testBit_or, Nat.testBit_two_pow, e]
    congr 1
    exact decide_eq_decide.2 ⟨fun h => by omega, fun h => by omega⟩
  · rename_i e
    have : ¬ k = n := fun h => e (by rw [h])
    simp [this]
theorem setHas_nil (n : Nat) : setHas [0, 0, 0, 0] n = false := by
  unfold setHas
  have : ([0, 0, 0, 0] : List Nat).getD (n / 64) 0 = 0 := by
    match n / 64 with
    | 0 => rfl
    | 1 => rfl
    | 2 => rfl
    | 3 => rfl
    | k + 4 => simp [List.getD_eq_getElem?_getD]
  rw [this, Nat.zero_testBit]
section
variable {P : Program} {K : Fr → World → Prop} {u w w' : World} {f : Fr} {d : Option Nat} {g t ty : Nat} {ws : List Nat}
theorem Blk.word (h : Blk u g t (setCells ws)) (hw : Words ws) (ht : tyAgg P ty = some false) (j : Nat) (hj : j < 4) :
    Val1 P K (Instr.loadAt ty (.pointer (some ⟨g, j, none⟩))) u f d w = K (updO f d (.int .u64 (ws.getD j 0 : Nat))) w := by
  have hl : j < (setCells ws).length := by rw [setCells_len, hw.1]; exact hj
  have := h.ld (P := P) (K := K) (f := f) (d := d) (w := w) ht j hl
  have e : (setCells ws).getD j undef = .int .u64 ((ws.getD j 0 : Nat) : Int) := getD_map _ _ _ _ _ (by rw [hw.1]; exact hj)
  rw [e] at this
  exact this
end

end

section
open Go.RowKit

/-- The four words of a list's numbers (those below 256). -/
def wordsOf (l : List Int) : List Nat := l.foldr (fun x ws => if 0 ≤ x ∧ x < 256 then setAdd ws x.toNat else ws) [0, 0, 0, 0]
abbrev setV (l : List Int) : Value := setVal (wordsOf l)
theorem words0 : Words [0, 0, 0, 0] := ⟨rfl, fun i => by match i with | 0 => decide | 1 => decide | 2 => decide | 3 => decide | j + 4 => simp [List.getD_eq_getElem?_getD]⟩
theorem wordsOf_words : ∀ l : List Int, Words (wordsOf l)
  | [] => words0
  | x :: l => by
    have ih := wordsOf_words l
    show Words (if 0 ≤ x ∧ x < 256 then setAdd (wordsOf l) x.toNat else wordsOf l)
    split
    · exact ih.add (by omega)
    · exact ih
theorem wordsOf_has : ∀ (l : List Int) (n : Nat), n < 256 → setHas (wordsOf l) n = decide ((n : Int) ∈ l)
  | [], n, _ => by rw [show wordsOf [] = [0, 0, 0, 0] from rfl, setHas_nil]; simp
  | x :: l, n, hn => by
    have ih := wordsOf_has l n hn
    show setHas (if 0 ≤ x ∧ x < 256 then setAdd (wordsOf l) x.toNat else wordsOf l) n = _
    split
    · rename_i h
      rw [setHas_add (wordsOf_words l) (by omega), ih]
      by_cases e : n = x.toNat
      · have q : (n : Int) = x := by omega
        rw [decide_eq_true e, Bool.or_true]
        exact (decide_eq_true (q ▸ List.mem_cons_self ..)).symm
      · have : ¬ (n : Int) = x := by omega
        simp [e, this]
    · rename_i h
      have : ¬ (n : Int) = x := by omega
      rw [ih]; simp [this]
theorem words_ext {ws ws' : List Nat} (h : Words ws) (h' : Words ws') (he : ∀ n, n < 256 → setHas ws n = setHas ws' n) : ws = ws' := by
  refine ext_getD 0 (h.1.trans h'.1.symm) fun k hk => ?_
  rw [h.1] at hk
  refine Nat.eq_of_testBit_eq fun i => ?_
  by_cases hi : i < 64
  · have := he (64 * k + i) (by omega)
    unfold setHas at this
    rwa [show (64 * k + i) / 64 = k by omega, show (64 * k + i) % 64 = i by omega] at this
  · have p : 2 ^ 64 ≤ 2 ^ i := Nat.pow_le_pow_right (by decide) (by omega)
    rw [Nat.testBit_lt_two_pow (Nat.lt_of_lt_of_le (h.2 k) p), Nat.testBit_lt_two_pow (Nat.lt_of_lt_of_le (h'.2 k) p)]
theorem wordsOf_ext {l l' : List Int} (h : ∀ x : Int, 0 ≤ x → x < 256 → (x ∈ l ↔ x ∈ l')) : wordsOf l = wordsOf l' :=
  words_ext (wordsOf_words l) (wordsOf_words l') fun n hn => by
    rw [wordsOf_has l n hn, wordsOf_has l' n hn]
    exact decide_eq_decide.2 (h n (by omega) (by omega))
theorem wordsOf_mem {l l' : List Int} (h : wordsOf l = wordsOf l') {x : Int} (h0 : 0 ≤ x) (h1 : x < 256) : x ∈ l ↔ x ∈ l' := by
  have e1 := wordsOf_has l x.toNat (by omega)
  have e2 := wordsOf_has l' x.toNat (by omega)
  rw [h] at e1
  rw [show ((x.toNat : Nat) : Int) = x by omega] at e1 e2
  rw [e1] at e2
  exact decide_eq_decide.1 e2
/-- Numbers of states. -/
def Small (l : List Int) : Prop := ∀ x ∈ l, 0 ≤ x ∧ x < 256
theorem Small.nil : Small [] := fun x h => absurd h (by simp)
theorem Small.snoc {l : List Int} (h : Small l) {x : Int} (hx : 0 ≤ x ∧ x < 256) : Small (l ++ [x]) := fun y hy => by
  rcases List.mem_append.1 hy with e | e
  · exact h y e
  · rw [List.mem_singleton.1 e]; exact hx
theorem Small.sorted {l : List Int} (h : Small l) : Small (sortedL l) := fun x hx => h x (((sortedL_spec l).2 x).1 hx)
theorem IsRow.small {l : List Int} {b : Int} (h : IsRow l b) (hb : b ≤ 256) : Small l := fun x hx => by have := h.mem hx; omega

end

section
open Go.RowKit

/-- Where states lead to, at an event, as the arrows stand. -/
def stepT (m : Mach) (l : List Int) (e : Int) : List Int := (m.arrows.filter fun a => decide (a.evt = e) && decide (a.frm ∈ l)).map (·.to_)
theorem May.arr {m : Mach} (hm : m.May) {y : Arr} (h : y ∈ m.arrows) : m.ArrOk y := by
  obtain ⟨i, hi, rfl⟩ := (mem_iff_getD m.arrows default y).1 h
  exact (hm.2.2.2.2.2.2.2 i hi).1
theorem stepT_small {m : Mach} (hm : m.May) (l : List Int) (e : Int) : ∀ x ∈ stepT m l e, 0 ≤ x ∧ x < m.states := by
  intro x hx
  obtain ⟨y, hy, rfl⟩ := List.mem_map.1 hx
  exact (May.arr hm (List.mem_filter.1 hy).1).2.1
/-- The row of where states lead to. -/
def stepL (m : Mach) (l : List Int) (e : Int) : List Int := sortedL (stepT m l e)
theorem stepL_row {m : Mach} (hm : m.May) (l : List Int) (e : Int) : IsRow (stepL m l e) m.states :=
  IsRow.of_strict (sortedL_spec _).1 fun x hx => by
    have := stepT_small hm l e x (((sortedL_spec _).2 x).1 hx)
    have : m.states ≤ 256 := hm.2.1
    omega
end

section
open Go.RowKit

def MeetL (a b : List Int) : Prop := ∃ x ∈ a, x ∈ b
instance (a b : List Int) : Decidable (MeetL a b) := by unfold MeetL; exact inferInstance
end
section
open Go.RowKit
def codeR (l : List Int) : Nat := (wordsOf l).getD 0 0
theorem codeR_lt {l : List Int} (h : IsRow l 6) : codeR l < 64 := by
  refine Nat.lt_pow_two_of_testBit (n := 6) _ fun i hi => ?_
  by_cases h64 : i < 64
  · have := wordsOf_has l i (by omega)
    unfold setHas at this
    rw [show i / 64 = 0 by omega, show i % 64 = i by omega] at this
    rw [show codeR l = (wordsOf l).getD 0 0 from rfl, this]
    exact decide_eq_false fun hm => by have := h.mem hm; omega
  · have p : 2 ^ 64 ≤ 2 ^ i := Nat.pow_le_pow_right (by decide) (by omega)
    exact Nat.testBit_lt_two_pow (Nat.lt_of_lt_of_le ((wordsOf_words l).2 0) p)
theorem codeR_inj {l m : List Int} (h : IsRow l 6) (h' : IsRow m 6) (e : codeR l = codeR m) : l = m := by
  refine h.strict.ext h'.strict fun x => ?_
  have key : ∀ {l : List Int}, IsRow l 6 → (x ∈ l ↔ 0 ≤ x ∧ x < 6 ∧ (codeR l).testBit x.toNat = true) := fun {l} hl => by
    constructor
    · intro hx
      have hb := hl.mem hx
      have := wordsOf_has l x.toNat (by omega)
      unfold setHas at this
      rw [show x.toNat / 64 = 0 by omega, show x.toNat % 64 = x.toNat by omega, show ((x.toNat : Nat) : Int) = x by omega] at this
      exact ⟨hb.1, hb.2.1, by rw [show codeR l = (wordsOf l).getD 0 0 from rfl, this]; exact decide_eq_true hx⟩
    · rintro ⟨h0, h6, ht⟩
      have := wordsOf_has l x.toNat (by omega)
      unfold setHas at this
      rw [show x.toNat / 64 = 0 by omega, show x.toNat % 64 = x.toNat by omega, show ((x.toNat : Nat) : Int) = x by omega] at this
      rw [show codeR l = (wordsOf l).getD 0 0 from rfl, this] at ht
      exact of_decide_eq_true ht
  rw [key h, key h', e]
theorem IsRow.more {l : List Int} {a b : Int} (h : IsRow l a) (hab : a ≤ b) : IsRow l b := fun i hi => by
  have := h i hi
  exact ⟨this.1, by have := this.2.1; omega, this.2.2.1, this.2.2.2⟩
end
end Go.Proofs.Ytfckamjbeplceaa
