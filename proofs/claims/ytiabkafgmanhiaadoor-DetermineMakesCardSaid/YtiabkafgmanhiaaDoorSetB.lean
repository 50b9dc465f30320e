/-
  Chapter 2: the value of a set of states as a function of a list of its numbers; the program's Of, Has, Add over it.
-/
import Derived.Test.YtiabkafgmanhiaaDoorSet
import Derived.Test.YtiabkafgmanhiaaDoorRowL
namespace Go.Proofs.YtiabkafgmanhiaaDoor
set_option linter.unusedSimpArgs false
set_option linter.unusedVariables false
set_option linter.unusedSectionVars false
open Go.RowKit

/-- The four words of a list's numbers (those below 256). -/
def wordsOf (l : List Int) : List Nat := l.foldr (fun x ws => if 0 ≤ x ∧ x < 256 then setAdd ws x.toNat else ws) [0, 0, 0, 0]
abbrev setV (l : List Int) : Value := setVal (wordsOf l)
theorem words0 : Words [0, 0, 0, 0] := ⟨rfl, fun i => by match i with | 0 => decide | 1 => decide | 2 => decide | 3 => decide | j + 4 => simp [List.getD_eq_getElem?_getD]⟩
theorem wordsOf_words : ∀ l : List Int, Words (wordsOf l)
  | [] => words0
  | x :: l => by
    have ih := wordsOf_words l
    show Words (if 0 ≤ x ∧ x < 256 then setAdd (wordsOf l) x.toNat else wordsOf l)
    split
    · exact ih.add (by omega)
    · exact ih
theorem wordsOf_has : ∀ (l : List Int) (n : Nat), n < 256 → setHas (wordsOf l) n = decide ((n : Int) ∈ l)
  | [], n, _ => by rw [show wordsOf [] = [0, 0, 0, 0] from rfl, setHas_nil]; simp
  | x :: l, n, hn => by
    have ih := wordsOf_has l n hn
    show setHas (if 0 ≤ x ∧ x < 256 then setAdd (wordsOf l) x.toNat else wordsOf l) n = _
    split
    · rename_i h
      rw [setHas_add (wordsOf_words l) (by omega), ih]
      by_cases e : n = x.toNat
      · have q : (n : Int) = x := by omega
        rw [decide_eq_true e, Bool.or_true]
        exact (decide_eq_true (q ▸ List.mem_cons_self ..)).symm
      · have : ¬ (n : Int) = x := by omega
        simp [e, this]
    · rename_i h
      have : ¬ (n : Int) = x := by omega
      rw [ih]; simp [this]
theorem words_ext {ws ws' : List Nat} (h : Words ws) (h' : Words ws') (he : ∀ n, n < 256 → setHas ws n = setHas ws' n) : ws = ws' := by
  refine ext_getD 0 (h.1.trans h'.1.symm) fun k hk => ?_
  rw [h.1] at hk
  refine Nat.eq_of_testBit_eq fun i => ?_
  by_cases hi : i < 64
  · have := he (64 * k + i) (by omega)
    unfold setHas at this
    rwa [show (64 * k + i) / 64 = k by omega, show (64 * k + i) % 64 = i by omega] at this
  · have p : 2 ^ 64 ≤ 2 ^ i := Nat.pow_le_pow_right (by decide) (by omega)
    rw [Nat.testBit_lt_two_pow (Nat.lt_of_lt_of_le (h.2 k) p), Nat.testBit_lt_two_pow (Nat.lt_of_lt_of_le (h'.2 k) p)]
theorem words_eq {ws : List Nat} (h : Words ws) {l : List Int} (he : ∀ n : Nat, n < 256 → setHas ws n = decide ((n : Int) ∈ l)) : ws = wordsOf l :=
  words_ext h (wordsOf_words l) fun n hn => by rw [he n hn, wordsOf_has l n hn]
theorem wordsOf_ext {l l' : List Int} (h : ∀ x : Int, 0 ≤ x → x < 256 → (x ∈ l ↔ x ∈ l')) : wordsOf l = wordsOf l' :=
  words_ext (wordsOf_words l) (wordsOf_words l') fun n hn => by
    rw [wordsOf_has l n hn, wordsOf_has l' n hn]
    exact decide_eq_decide.2 (h n (by omega) (by omega))
theorem wordsOf_mem {l l' : List Int} (h : wordsOf l = wordsOf l') {x : Int} (h0 : 0 ≤ x) (h1 : x < 256) : x ∈ l ↔ x ∈ l' := by
  have e1 := wordsOf_has l x.toNat (by omega)
  have e2 := wordsOf_has l' x.toNat (by omega)
  rw [h] at e1
  rw [show ((x.toNat : Nat) : Int) = x by omega] at e1 e2
  rw [e1] at e2
  exact decide_eq_decide.1 e2
/-- Numbers of states. -/
def Small (l : List Int) : Prop := ∀ x ∈ l, 0 ≤ x ∧ x < 256
theorem Small.nil : Small [] := fun x h => absurd h (by simp)
theorem Small.snoc {l : List Int} (h : Small l) {x : Int} (hx : 0 ≤ x ∧ x < 256) : Small (l ++ [x]) := fun y hy => by
  rcases List.mem_append.1 hy with e | e
  · exact h y e
  · rw [List.mem_singleton.1 e]; exact hx
theorem wordsOf_inj {l l' : List Int} (hl : Strict l) (hl' : Strict l') (h : Small l) (h' : Small l') (e : wordsOf l = wordsOf l') : l = l' :=
  hl.ext hl' fun x => ⟨fun hx => (wordsOf_mem e (h x hx).1 (h x hx).2).1 hx, fun hx => (wordsOf_mem e (h' x hx).1 (h' x hx).2).2 hx⟩
theorem wordsOf_sorted (l : List Int) : wordsOf (sortedL l) = wordsOf l := wordsOf_ext fun x _ _ => (sortedL_spec l).2 x
theorem wordsOf_snoc (l : List Int) {n : Nat} (hn : n < 256) : setAdd (wordsOf l) n = wordsOf (l ++ [(n : Int)]) :=
  words_eq ((wordsOf_words l).add hn) fun k hk => by
    rw [setHas_add (wordsOf_words l) hn, wordsOf_has l k hk]
    by_cases e : k = n
    · subst e; simp
    · have : ¬ (k : Int) = (n : Int) := by omega
      simp [e, this]
theorem Small.sorted {l : List Int} (h : Small l) : Small (sortedL l) := fun x hx => h x (((sortedL_spec l).2 x).1 hx)
theorem IsRow.small {l : List Int} {b : Int} (h : IsRow l b) (hb : b ≤ 256) : Small l := fun x hx => by have := h.mem hx; omega

theorem set_Has' (l : List Int) (x : Int) (h0 : 0 ≤ x) (h1 : x < 256) (w : World) :
    Cal Tryd.prog 99 [setV l, .int .i64 x] w fun v w' => v = .bool (decide (x ∈ l)) ∧ Below w.heap.size w w' := by
  obtain ⟨n, rfl⟩ : ∃ n : Nat, x = n := ⟨x.toNat, by omega⟩
  have := set_Has (wordsOf l) (wordsOf_words l) n (by omega) w
  rwa [wordsOf_has l n (by omega)] at this
theorem set_Add' {l : List Int} (x : Int) (h0 : 0 ≤ x) (h1 : x < 256) {w : World} {g : Nat} (hk : Blk w g 69 (setCells (wordsOf l))) :
    Cal Tryd.prog 102 [.pointer (some ⟨g, 0, none⟩), .int .i64 x] w fun v w' => v = .tuple #[] ∧ Blk w' g 69 (setCells (wordsOf (l ++ [x]))) ∧ Grew w w' (some ⟨g, 0, none⟩) ∧ w'.heap.size = w.heap.size := by
  obtain ⟨n, rfl⟩ : ∃ n : Nat, x = n := ⟨x.toNat, by omega⟩
  have := set_Add (wordsOf_words l) n (by omega) hk
  rwa [wordsOf_snoc l (by omega)] at this
theorem machine_Of' {w : World} {A : Option Addr} {l : List Int} (h : Ints (· < w.heap.size) w A l) (c : Nat) (hl : l.length ≤ 17592186043904) (hr : Small l) :
    Cal Tryd.prog 58 [.slice A l.length c] w fun v w' => v = setV l ∧ Below w.heap.size w w' :=
  (machine_Of h c hl hr).mono fun _ _ ⟨_, e, hw, hh, hb⟩ => ⟨e.trans (by rw [words_eq hw hh]), hb⟩
theorem setCells_4 (l : List Int) : (setCells (wordsOf l)).length = 4 := by rw [setCells_len, (wordsOf_words l).1]
theorem setCells_one (l : List Int) : (setCells (wordsOf l)).all (·.oneCell') = true := by simp [setCells, Value.oneCell']
theorem setCells_nil : setCells (wordsOf []) = [.int .u64 0, .int .u64 0, .int .u64 0, .int .u64 0] := rfl
end Go.Proofs.YtiabkafgmanhiaaDoor
