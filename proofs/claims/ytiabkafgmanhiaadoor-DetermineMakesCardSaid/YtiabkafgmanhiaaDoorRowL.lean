/-
  Chapter 1, in plain Lean: a merge of two rows is the row of what both have, and so on. No program in sight.
-/
import Derived.Test.YtiabkafgmanhiaaDoorRowE
namespace Go.Proofs.YtiabkafgmanhiaaDoor
set_option linter.unusedSimpArgs false
set_option linter.unusedVariables false
set_option linter.unusedSectionVars false
open Go.RowKit

def Strict (l : List Int) : Prop := l.Pairwise (· < ·)
theorem Strict.ext : ∀ {l m : List Int}, Strict l → Strict m → (∀ x, x ∈ l ↔ x ∈ m) → l = m
  | [], [], _, _, _ => rfl
  | [], y :: m, _, _, h => absurd ((h y).2 (List.mem_cons_self ..)) (by simp)
  | x :: l, [], _, _, h => absurd ((h x).1 (List.mem_cons_self ..)) (by simp)
  | x :: l, y :: m, hl, hm, h => by
    have hl' := List.pairwise_cons.1 hl
    have hm' := List.pairwise_cons.1 hm
    have h1 : x = y := by
      have a1 := (h x).1 (List.mem_cons_self ..)
      have a2 := (h y).2 (List.mem_cons_self ..)
      rcases List.mem_cons.1 a1 with e | e
      · exact e
      · rcases List.mem_cons.1 a2 with e2 | e2
        · exact e2.symm
        · have := hm'.1 x e; have := hl'.1 y e2; omega
    subst h1
    rw [Strict.ext hl'.2 hm'.2 fun z => ⟨fun hz => ?_, fun hz => ?_⟩]
    · rcases List.mem_cons.1 ((h z).1 (List.mem_cons_of_mem _ hz)) with e | e
      · have := hl'.1 z hz; omega
      · exact e
    · rcases List.mem_cons.1 ((h z).2 (List.mem_cons_of_mem _ hz)) with e | e
      · have := hm'.1 z hz; omega
      · exact e
theorem IsRow.strict {l : List Int} {b : Int} (h : IsRow l b) : Strict l := by
  have key : ∀ j i : Nat, i < j → j < l.length → l.getD i 0 < l.getD j 0 := by
    intro j
    induction j with
    | zero => intro i hi; omega
    | succ j ih =>
      intro i hi hj
      have h1 := (h (j + 1) hj).2.2.2 (by omega)
      simp only [Nat.add_sub_cancel] at h1
      rcases Nat.lt_or_ge i j with hij | hij
      · have := ih i hij (by omega); omega
      · rw [show i = j by omega]; exact h1
  refine List.pairwise_iff_getElem.2 fun i j hi hj hij => ?_
  have := key j i hij hj
  simpa [List.getD_eq_getElem?_getD, hi, hj] using this
theorem IsRow.of_strict {l : List Int} {b : Int} (h : Strict l) (hb : ∀ x ∈ l, 0 ≤ x ∧ x < b ∧ x < 2147483648) : IsRow l b := fun i hi => by
  have h1 := hb _ (getD_mem l 0 i hi)
  refine ⟨h1.1, h1.2.1, h1.2.2, fun h0 => ?_⟩
  have := List.pairwise_iff_getElem.1 h (i - 1) i (by omega) hi (by omega)
  simpa [List.getD_eq_getElem?_getD, hi, show i - 1 < l.length by omega] using this
theorem IsRow.mem {l : List Int} {b : Int} (h : IsRow l b) {x : Int} (hx : x ∈ l) : 0 ≤ x ∧ x < b ∧ x < 2147483648 := by
  obtain ⟨k, hk, rfl⟩ := (mem_iff_getD l 0 x).1 hx
  have := h k hk
  exact ⟨this.1, this.2.1, this.2.2.1⟩

theorem mem_ins (x z : Int) : ∀ o : List Int, z ∈ ins x o ↔ z = x ∨ z ∈ o
  | [] => by simp [ins]
  | y :: o => by
    unfold ins
    split
    · rw [List.mem_cons, mem_ins x z o, List.mem_cons]; exact ⟨fun h => by rcases h with h | h | h <;> simp [h], fun h => by rcases h with h | h | h <;> simp [h]⟩
    · split
      · rename_i h; subst h; simp
      · simp
theorem strict_ins (x : Int) : ∀ o : List Int, Strict o → Strict (ins x o)
  | [], _ => by simp [ins, Strict]
  | y :: o, h => by
    have h' := List.pairwise_cons.1 h
    unfold ins
    split
    · rename_i hlt
      refine List.pairwise_cons.2 ⟨fun z hz => ?_, strict_ins x o h'.2⟩
      rcases (mem_ins x z o).1 hz with e | e
      · omega
      · exact h'.1 z e
    · split
      · exact h
      · refine List.pairwise_cons.2 ⟨fun z hz => ?_, h⟩
        rcases List.mem_cons.1 hz with e | e
        · omega
        · have := h'.1 z e; omega
theorem sortedL_spec (l : List Int) : Strict (sortedL l) ∧ ∀ z, z ∈ sortedL l ↔ z ∈ l := by
  have key : ∀ (l o : List Int), Strict o → Strict (l.foldl (fun o x => ins x o) o) ∧ ∀ z, z ∈ l.foldl (fun o x => ins x o) o ↔ z ∈ o ∨ z ∈ l := by
    intro l
    induction l with
    | nil => intro o h; simp [h]
    | cons x l ih =>
      intro o h
      obtain ⟨h1, h2⟩ := ih (ins x o) (strict_ins x o h)
      refine ⟨h1, fun z => ?_⟩
      rw [List.foldl_cons, h2, mem_ins, List.mem_cons]
      exact ⟨fun h => by rcases h with (h | h) | h <;> simp [h], fun h => by rcases h with h | h | h <;> simp [h]⟩
  have := key l [] (by simp [Strict])
  simpa [sortedL] using this

theorem mem_opt {p : Prop} [Decidable p] {z x : Int} {l : List Int} : z ∈ (if p then [x] else []) ++ l ↔ (p ∧ z = x) ∨ z ∈ l := by
  by_cases h : p <;> simp [h]
theorem strict_opt {p : Prop} [Decidable p] {x : Int} {l : List Int} (hl : Strict l) (h : ∀ z ∈ l, x < z) : Strict ((if p then [x] else []) ++ l) := by
  by_cases hp : p
  · rw [if_pos hp]; exact List.pairwise_cons.2 ⟨h, hl⟩
  · rw [if_neg hp]; exact hl
theorem mergeL_spec (g : Bool → Bool → Bool) (a b : List Int) : Strict a → Strict b →
    Strict (mergeL g a b) ∧ ∀ z, z ∈ mergeL g a b ↔ (z ∈ a ∨ z ∈ b) ∧ g (decide (z ∈ a)) (decide (z ∈ b)) = true := by
  fun_induction mergeL g a b with
  | case1 => intro _ _; simp [Strict]
  | case2 x a ih =>
    intro ha hb
    have ha' := List.pairwise_cons.1 ha
    obtain ⟨h1, h2⟩ := ih ha'.2 hb
    refine ⟨strict_opt h1 fun z hz => ha'.1 z (by have := (h2 z).1 hz; simpa using this.1), fun z => ?_⟩
    rw [mem_opt, h2]
    by_cases e : z = x
    · subst e
      have : z ∉ a := fun h => by have := ha'.1 z h; omega
      simp [this]
    · simp [e]
  | case3 y b ih =>
    intro ha hb
    have hb' := List.pairwise_cons.1 hb
    obtain ⟨h1, h2⟩ := ih ha hb'.2
    refine ⟨strict_opt h1 fun z hz => hb'.1 z (by have := (h2 z).1 hz; simpa using this.1), fun z => ?_⟩
    rw [mem_opt, h2]
    by_cases e : z = y
    · subst e
      have : z ∉ b := fun h => by have := hb'.1 z h; omega
      simp [this]
    · simp [e]
  | case4 x a y b hlt ih =>
    intro ha hb
    have ha' := List.pairwise_cons.1 ha
    have hb' := List.pairwise_cons.1 hb
    obtain ⟨h1, h2⟩ := ih ha'.2 hb
    have hxb : ∀ z ∈ y :: b, x < z := fun z hz => by
      rcases List.mem_cons.1 hz with e | e
      · omega
      · have := hb'.1 z e; omega
    refine ⟨strict_opt h1 fun z hz => ?_, fun z => ?_⟩
    · rcases ((h2 z).1 hz).1 with e | e
      · exact ha'.1 z e
      · exact hxb z e
    · rw [mem_opt, h2]
      by_cases e : z = x
      · subst e
        have n1 : z ∉ a := fun h => by have := ha'.1 z h; omega
        have n2 : z ∉ y :: b := fun h => by have := hxb z h; omega
        simp only [n1, n2, false_or, or_false, decide_false, false_and, List.mem_cons_self, decide_true, true_and, and_true]
      · simp only [e, and_false, false_or, List.mem_cons (b := x)]
  | case5 x a y b hnlt hlt ih =>
    intro ha hb
    have ha' := List.pairwise_cons.1 ha
    have hb' := List.pairwise_cons.1 hb
    obtain ⟨h1, h2⟩ := ih ha hb'.2
    have hxb : ∀ z ∈ x :: a, y < z := fun z hz => by
      rcases List.mem_cons.1 hz with e | e
      · omega
      · have := ha'.1 z e; omega
    refine ⟨strict_opt h1 fun z hz => ?_, fun z => ?_⟩
    · rcases ((h2 z).1 hz).1 with e | e
      · exact hxb z e
      · exact hb'.1 z e
    · rw [mem_opt, h2]
      by_cases e : z = y
      · subst e
        have n1 : z ∉ b := fun h => by have := hb'.1 z h; omega
        have n2 : z ∉ x :: a := fun h => by have := hxb z h; omega
        simp only [n1, n2, false_or, or_false, decide_false, false_and, List.mem_cons_self, decide_true, true_and, and_true]
      · simp only [e, and_false, false_or, List.mem_cons (b := y)]
  | case6 x a y b h1 h2 ih =>
    intro ha hb
    obtain rfl : x = y := by omega
    have ha' := List.pairwise_cons.1 ha
    have hb' := List.pairwise_cons.1 hb
    obtain ⟨h1, h2⟩ := ih ha'.2 hb'.2
    refine ⟨strict_opt h1 fun z hz => ?_, fun z => ?_⟩
    · rcases ((h2 z).1 hz).1 with e | e
      · exact ha'.1 z e
      · exact hb'.1 z e
    · rw [mem_opt, h2]
      by_cases e : z = x
      · subst e
        have n1 : z ∉ a := fun h => by have := ha'.1 z h; omega
        have n2 : z ∉ b := fun h => by have := hb'.1 z h; omega
        simp [n1, n2]
      · simp [e]

theorem join_eq {a b : List Int} (ha : Strict a) (hb : Strict b) : mergeL gJoin a b = sortedL (a ++ b) :=
  Strict.ext (mergeL_spec _ a b ha hb).1 (sortedL_spec _).1 fun z => by rw [(mergeL_spec _ a b ha hb).2, (sortedL_spec _).2]; simp [gJoin]
theorem only_strict {a b : List Int} {p : Bool} (ha : Strict a) : Strict (onlyL a b p) := List.Pairwise.filter _ ha
theorem meet_eq {a b : List Int} (ha : Strict a) (hb : Strict b) : mergeL gMeet a b = onlyL a b true :=
  Strict.ext (mergeL_spec _ a b ha hb).1 (only_strict ha) fun z => by rw [(mergeL_spec _ a b ha hb).2]; simp [gMeet, onlyL]; exact fun h _ => .inl h
theorem less_eq {a b : List Int} (ha : Strict a) (hb : Strict b) : mergeL gLess a b = onlyL a b false :=
  Strict.ext (mergeL_spec _ a b ha hb).1 (only_strict ha) fun z => by
    rw [(mergeL_spec _ a b ha hb).2]; simp [gLess, onlyL]; exact fun h h1 => absurd h1 h

theorem merge_row {g : Bool → Bool → Bool} {a b : List Int} {x : Int} (ha : IsRow a x) (hb : IsRow b x) : IsRow (mergeL g a b) x := by
  obtain ⟨h1, h2⟩ := mergeL_spec g a b ha.strict hb.strict
  exact IsRow.of_strict h1 fun z hz => by
    rcases ((h2 z).1 hz).1 with h | h
    · exact ha.mem h
    · exact hb.mem h
theorem merge_len (a b : List Int) : (mergeL gJoin a b).length = (mergeL gLess a b).length + b.length := by
  have e : ∀ (g : Bool → Bool → Bool), g = gJoin → (mergeL g a b).length = (mergeL gLess a b).length + b.length := by
    intro g
    fun_induction mergeL g a b with
    | case1 => intro _; simp [mergeL]
    | case2 x a ih => intro h; have := ih h; subst h; rw [mergeL]; simp [gJoin, gLess] at *; omega
    | case3 y b ih => intro h; have := ih h; subst h; rw [mergeL]; simp [gJoin, gLess] at *; omega
    | case4 x a y b hlt ih => intro h; have := ih h; subst h; rw [mergeL, if_pos hlt]; simp [gJoin, gLess] at *; omega
    | case5 x a y b hn hlt ih => intro h; have := ih h; subst h; rw [mergeL, if_neg hn, if_pos hlt]; simp [gJoin, gLess] at *; omega
    | case6 x a y b h1 h2 ih => intro h; have := ih h; subst h; rw [mergeL, if_neg h1, if_neg h2]; simp [gJoin, gLess] at *; omega
  exact e gJoin rfl
end Go.Proofs.YtiabkafgmanhiaaDoor
