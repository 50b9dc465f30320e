/-
  Chapter 7: pairs of sets: how they lie, as keys of maps, as records.
-/
import Derived.Test.YtiabkafgmanhiaaDoorKey
import Derived.Test.YtiabkafgmanhiaaDoorSetB
import Derived.Test.YtiabkafgmanhiaaDoorTy
namespace Go.Proofs.YtiabkafgmanhiaaDoor
set_option linter.unusedSimpArgs false
set_option linter.unusedVariables false
set_option linter.unusedSectionVars false
open Go.RowKit

theorem laidOutK : laidOutB Tryd.prog = true := by kernel_rfl
theorem typesPos : 0 < Tryd.prog.types.size := of_decide_eq_true (by kernel_rfl)
theorem keyed_set : Maps.Keyed Tryd.prog 69 := Maps.Keyed.of_law (deep_law_laid laidOutK (m := 3) (by decide) (of_decide_eq_true (by kernel_rfl)) (by kernel_rfl) (by kernel_rfl))
theorem u64_wf {x : Nat} (h : x < 2 ^ 64) : (Lit.int .u64 (x : Int)).wf = true := by
  simp [Lit.wf, IntKind.min, IntKind.max, IntKind.signed, IntKind.bits]; omega
theorem lits_u64 (n : Nat) {x : Nat} (h : x < 2 ^ 64) : Tryd.prog.keyLits (n + 1) 67 [.int .u64 (x : Int)] = some [.int .u64 (x : Int)] := by
  have hu2 : Tryd.prog.underlying 67 = some (.int .u64) := Tryd.underlying67
  simp only [Program.keyLits, hu2, u64_wf h, and_self, if_true]
theorem lits_set (n : Nat) (l : List Int) : ∃ L, Tryd.prog.keyLits (n + 2) 69 (setCells (wordsOf l)) = some L := by
  have hW := wordsOf_words l
  generalize wordsOf l = ws at *
  match ws, hW.1 with
  | [a, b, c, d], _ =>
  have ha := lits_u64 n (hW.2 0)
  have hb := lits_u64 n (hW.2 1)
  have hc := lits_u64 n (hW.2 2)
  have hd := lits_u64 n (hW.2 3)
  simp only [List.getD_cons_zero, List.getD_cons_succ] at ha hb hc hd
  have hu : Tryd.prog.underlying 69 = some (.array 4 67) := Tryd.underlying69
  have hc4 : Tryd.prog.cellsOf 69 = 4 := by kernel_rfl
  have hc1 : Tryd.prog.cellsOf 67 = 1 := by kernel_rfl
  unfold Program.keyLits
  simp only [hu, hc4, hc1, setCells, List.map_cons, List.map_nil, List.length_cons, List.length_nil, Nat.zero_add, Nat.reduceAdd, if_true]
  simp [List.range_succ, ha, hb, hc, hd]
theorem key_set (l : List Int) : KeyIs Tryd.prog 69 (setV l) := by
  have hs : Tryd.prog.types.size + 1 = (Tryd.prog.types.size - 1) + 2 := by have := typesPos; omega
  obtain ⟨L, hL⟩ := lits_set (Tryd.prog.types.size - 1) l
  rw [← hs] at hL
  have hu : Tryd.prog.underlying 69 = some (.array 4 67) := Tryd.underlying69
  have hk : Tryd.prog.keyType 69 = true := by kernel_rfl
  have hc4 : Tryd.prog.cellsOf 69 = 4 := by kernel_rfl
  have hf : (setV l).formed Tryd.prog 69 = true := by
    simp only [setV, setVal, Value.formed, hu, hc4, beq_iff_eq, List.size_toArray]
    exact setCells_4 l
  unfold KeyIs keyOf
  simp only [hu, hk, hf, Bool.and_self, if_true]
  exact ⟨_, by rw [show (setV l).cells.toList = setCells (wordsOf l) from rfl, hL]; rfl⟩
theorem setV_eq {l m : List Int} : setV l = setV m ↔ wordsOf l = wordsOf m := by
  refine ⟨fun h => ?_, fun h => by unfold setV; rw [h]⟩
  injection h with h
  have h2 : setCells (wordsOf l) = setCells (wordsOf m) := by simpa using congrArg Array.toList h
  unfold setCells at h2
  exact (List.map_inj_right (fun a b hab => by injection hab with _ h; exact Int.ofNat.inj h)).1 h2

/-! ## Pairs -/
def pairCells (a b : List Int) : List Value := setCells (wordsOf a) ++ setCells (wordsOf b)
abbrev pairV (a b : List Int) : Value := .agg (pairCells a b).toArray
theorem pairCells_len (a b : List Int) : (pairCells a b).length = 8 := by simp [pairCells, setCells_4]
theorem pairCells_one (a b : List Int) : (pairCells a b).all (·.oneCell') = true := by
  unfold pairCells
  rw [List.all_append, setCells_one, setCells_one]; rfl
theorem keyed_pair : Maps.Keyed Tryd.prog 130 := Maps.Keyed.of_law (deep_law_laid laidOutK (m := 4) (by decide) (of_decide_eq_true (by kernel_rfl)) (by kernel_rfl) (by kernel_rfl))
theorem key_pair (a b : List Int) : KeyIs Tryd.prog 130 (pairV a b) := by
  have hs : Tryd.prog.types.size + 1 = (Tryd.prog.types.size - 2) + 2 + 1 := by
    have : 2 < Tryd.prog.types.size := of_decide_eq_true (by kernel_rfl)
    omega
  obtain ⟨L, hL⟩ := lits_set (Tryd.prog.types.size - 2) a
  obtain ⟨M, hM⟩ := lits_set (Tryd.prog.types.size - 2) b
  obtain ⟨n, hn⟩ : ∃ n, Tryd.prog.types.size - 2 + 2 = n := ⟨_, rfl⟩
  rw [hn] at hs hL hM
  obtain ⟨f0, f1, hu, h0, h1, o0, o1, n0, n1⟩ : ∃ f0 f1 : Field, Tryd.prog.underlying 130 = some (.struct #[f0, f1]) ∧ f0.type = 69 ∧ f1.type = 69 ∧ f0.offset = 0 ∧ f1.offset = 4 ∧ (f0.name != "_") = true ∧ (f1.name != "_") = true :=
    ⟨_, _, Tryd.underlying130, by kernel_rfl, by kernel_rfl, by kernel_rfl, by kernel_rfl, by kernel_rfl, by kernel_rfl⟩
  have hk : Tryd.prog.keyType 130 = true := by kernel_rfl
  have hc8 : Tryd.prog.cellsOf 130 = 8 := by kernel_rfl
  have hc4 : Tryd.prog.cellsOf 69 = 4 := by kernel_rfl
  have hf : (pairV a b).formed Tryd.prog 130 = true := by
    simp only [pairV, Value.formed, hu, hc8, beq_iff_eq, List.size_toArray]
    exact pairCells_len a b
  unfold KeyIs keyOf
  simp only [hu, hk, hf, Bool.and_self, if_true]
  refine ⟨.string (keyBytes (L ++ M)), ?_⟩
  have : Tryd.prog.keyLits (Tryd.prog.types.size + 1) 130 (pairV a b).cells.toList = some (L ++ M) := by
    rw [hs]
    have e0 : ((pairCells a b).drop 0).take 4 = setCells (wordsOf a) := by
      unfold pairCells
      rw [List.drop_zero]; exact List.take_left' (setCells_4 a)
    have e1 : ((pairCells a b).drop 4).take 4 = setCells (wordsOf b) := by
      unfold pairCells
      rw [List.drop_left' (setCells_4 a)]; exact List.take_of_length_le (by rw [setCells_4]; exact Nat.le_refl _)
    show Tryd.prog.keyLits (n + 1) 130 (pairCells a b) = _
    unfold Program.keyLits
    simp only [hu, hc8, pairCells_len, true_and]
    rw [if_pos (by simp [n0, n1])]
    simp [h0, h1, o0, o1, hc4, e1, hM]
    simp at e0
    simp [e0, hL]
  rw [this]; rfl
end Go.Proofs.YtiabkafgmanhiaaDoor
