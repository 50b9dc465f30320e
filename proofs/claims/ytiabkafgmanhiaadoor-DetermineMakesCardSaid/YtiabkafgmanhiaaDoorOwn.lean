/-
  Rows of integers of one's own; lists; slices of slices' tails. No program in sight.
-/
import Derived.Test.YtiabkafgmanhiaaDoorMem
namespace Go.Proofs.YtiabkafgmanhiaaDoor
set_option linter.unusedSimpArgs false
set_option linter.unusedVariables false
set_option linter.unusedSectionVars false
open Go.RowKit

/-! ## Lists -/
theorem take_snoc {α : Type} (l : List α) (d : α) (k : Nat) (h : k < l.length) : l.take (k + 1) = l.take k ++ [l.getD k d] := by
  rw [List.take_succ_eq_append_getElem h]
  simp [List.getD_eq_getElem?_getD, h]
theorem getD_map {α β : Type} (g : α → β) (l : List α) (d : α) (e : β) (k : Nat) (h : k < l.length) : (l.map g).getD k e = g (l.getD k d) := by
  simp [List.getD_eq_getElem?_getD, h]
theorem getD_mem {α : Type} (l : List α) (d : α) (k : Nat) (h : k < l.length) : l.getD k d ∈ l := by
  simp [List.getD_eq_getElem?_getD, h]
theorem mem_iff_getD {α : Type} (l : List α) (d x : α) : x ∈ l ↔ ∃ k, k < l.length ∧ l.getD k d = x := by
  constructor
  · intro h
    obtain ⟨k, hk, rfl⟩ := List.getElem_of_mem h
    exact ⟨k, hk, by simp [List.getD_eq_getElem?_getD, hk]⟩
  · rintro ⟨k, hk, rfl⟩; exact getD_mem l d k hk
theorem ext_getD {α : Type} (d : α) {l m : List α} (h : l.length = m.length) (hh : ∀ k, k < l.length → l.getD k d = m.getD k d) : l = m := by
  apply List.ext_getElem h
  intro k h1 h2
  have := hh k h1
  simpa [List.getD_eq_getElem?_getD, h1, h2] using this
theorem getD_append_left {α : Type} (l m : List α) (d : α) (k : Nat) (h : k < l.length) : (l ++ m).getD k d = l.getD k d := by
  simp [List.getD_eq_getElem?_getD, List.getElem?_append, h]
theorem getD_append_right {α : Type} (l m : List α) (d : α) (k : Nat) (h : l.length ≤ k) : (l ++ m).getD k d = m.getD (k - l.length) d := by
  simp [List.getD_eq_getElem?_getD, List.getElem?_append, Nat.not_lt.2 h]
theorem getD_set {α : Type} (l : List α) (d x : α) (i k : Nat) (h : i < l.length) : (l.set i x).getD k d = if k = i then x else l.getD k d := by
  simp only [List.getD_eq_getElem?_getD, List.getElem?_set]
  by_cases e : k = i
  · subst e; simp [h]
  · rw [if_neg (fun h => e h.symm), if_neg e]

/-! ## Rows of integers -/
abbrev iv (l : List Int) : List Value := l.map (Value.int .i64)
theorem iv_one (l : List Int) : ∀ u ∈ iv l, u.oneCell' = true := by
  intro u hu
  obtain ⟨x, _, rfl⟩ := List.mem_map.1 hu
  rfl
abbrev OwnI (B e : Nat) (w : World) (A : Option Addr) (c : Nat) (l : List Int) : Prop := Own B e 1 w A c l.length (iv l)
section
variable {P : Program} {K : Fr → World → Prop} {f : Fr} {d : Option Nat} {u w w' : World} {B e bytes t ty : Nat} {A A2 : Option Addr} {c c2 n : Nat} {l m : List Int} {ok : Nat → Prop}
theorem Ints.rd (h : Ints ok w A l) : Rd w A (iv l) :=
  ⟨fun hl => h.isSome (by simpa using hl), fun j v hv => by
    have hj : j < l.length := by
      rcases Nat.lt_or_ge j l.length with h | h
      · exact h
      · rw [List.getElem?_eq_none (by simpa using h)] at hv; cases hv
    rw [h.cell j hj]
    simp only [List.getElem?_map, List.getElem?_eq_getElem hj, Option.map_some, Option.some.injEq] at hv
    rw [← hv]; simp [List.getD_eq_getElem?_getD, hj]⟩
theorem Ints.of_rd (h : Rd w A (iv l)) (hb : 0 < l.length → ok (A.getD default).block) : Ints ok w A l :=
  ⟨fun hl => h.isSome (by simpa using hl), hb, fun i hi => h.cell i _ (by simp [List.getD_eq_getElem?_getD, hi])⟩
theorem OwnI.ints (h : OwnI B e w A c l) : Ints (fun b => B ≤ b ∧ A.map (·.block) = some b) w A l :=
  Ints.of_rd (h.rd (by decide)) fun hl => by
    have hs := h.isSome hl
    refine ⟨(h.block hs).1, ?_⟩
    cases A with
    | none => cases hs
    | some a => rfl
/-- append(x, v) -/
theorem app_int (hT : SlT P t e 1 8) (hown : OwnI B e w A c l) (x : Int) (hl : l.length + 1 ≤ 17592186044416) (hB : B ≤ w.heap.size)
    (hk : ∀ A' c' w', OwnI B e w' A' c' (l ++ [x]) → Grew w w' A → (A'.map (·.block) = A.map (·.block) ∨ ∃ g, A'.map (·.block) = some g ∧ w.heap.size ≤ g) → A'.isSome = true → w.heap.size ≤ w'.heap.size → K (updO f d (.slice A' (l.length + 1) c')) w') :
    Eff1 P K (Builtin.append_ #[t, t] ty #[.slice A l.length c, .slice (some ⟨w.heap.size, 0, none⟩) 1 1]) f d (w.alloc (.cells [.int .i64 x].toArray e)) := by
  refine append_own hT ty (hown.alloc _) (rd_new w [.int .i64 x] e) rfl (by intro u hu; simp at hu; subst hu; rfl) (by omega) (by omega) (by simp; omega) ?_
  intro A' c' w' ho hg hA hs hz
  have hz' : w.heap.size ≤ w'.heap.size := by have : (w.alloc (.cells [.int .i64 x].toArray e)).heap.size = w.heap.size + 1 := by simp
                                              omega
  refine hk A' c' w' ?_ ⟨⟨hg.by_.os, hg.by_.tape, hg.by_.output, hz', fun k hk hne => ?_⟩⟩ ?_ (hs (by decide)) hz'
  · unfold OwnI; simpa using ho
  · rw [hg.by_.block k (by simp; omega) hne, Below.heap_alloc w _ k hk]
  · rcases hA with h | h
    · exact .inl h
    · exact .inr ⟨_, h, by simp⟩
/-- append(x, y...), y a row of integers -/
theorem app_ints (hT : SlT P t e 1 8) (hown : OwnI B e w A c l) (hr : Ints ok w A2 m) (hl : l.length + m.length ≤ 17592186044416) (hB : B ≤ w.heap.size)
    (hk : ∀ A' c' w', OwnI B e w' A' c' (l ++ m) → Grew w w' A → (A'.map (·.block) = A.map (·.block) ∨ ∃ g, A'.map (·.block) = some g ∧ w.heap.size ≤ g) → w.heap.size ≤ w'.heap.size → K (updO f d (.slice A' (l.length + m.length) c')) w') :
    Eff1 P K (Builtin.append_ #[t, t] ty #[.slice A l.length c, .slice A2 m.length c2]) f d w := by
  refine append_own hT ty hown hr.rd (by simp) (iv_one m) (by omega) (by omega) hB ?_
  intro A' c' w' ho hg hA hs hz
  refine hk A' c' w' ?_ hg ?_ hz
  · unfold OwnI; simpa using ho
  · rcases hA with h | h
    · exact .inl h
    · exact .inr ⟨_, h, Nat.le_refl _⟩
/-- x[j] = v -/
theorem sto_int (_h1 : tyAgg P ty = some false) (h2 : tySize P ty = some 1) (hown : OwnI B e w A c l) (j : Nat) (hj : j < l.length) (x : Int)
    (hk : ∀ w', OwnI B e w' A c (l.set j x) → Grew w w' A → w'.heap.size = w.heap.size → K (updO f d undef) w') :
    Eff1 P K (do Instr.storeAt ty (.pointer (some (eA A j))) (.int .i64 x); pure undef) f d w := by
  rcases hown.form with ⟨_, h0, _⟩ | ⟨g, rfl, _, hg⟩
  · omega
  · have hs := hown.own.stored j (.int .i64 x)
    have hc := hown.ints.cell j hj
    rw [eA_zero] at hc ⊢
    have hf := hown.own.frozenAt (g := g) j
    refine ⟨undef, w.setCell ⟨g, j, none⟩ (.int .i64 x), ?_, hk _ ?_ ⟨hs.2⟩ (by simp)⟩
    · unfold tySize at h2
      cases hi : P.info? ty with
      | none => simp [hi] at h2
      | some ie =>
        simp only [hi, Option.map_some, Option.some.injEq] at h2
        simp [Instr.storeAt, Instr.sureAddr, storeVar, sizeOf, typeInfo, hi, h2, Value.cells, storeCells, addr_add, run_store_int, stored, hc, hf]
    · refine ⟨?_⟩
      have := hs.1
      rw [List.length_set]
      unfold iv
      rw [List.map_set]
      exact this

/-! ## x[k:] -/
theorem v_slice (o : Operand) (lo hi mx : Option Operand) : ValX P K (.slice t o lo hi mx) ty u f d w = Val1 P K (Instr.sliceAt t (ev f o) (lo.map (ev f)) (hi.map (ev f)) (mx.map (ev f))) u f d w := propext Iff.rfl
theorem slice_tail {sz : Nat} (hT : SlT P t e sz bytes) (k : Nat) (hk : k ≤ n) (_hc : n ≤ c) : Val1 P K (Instr.sliceAt t (.slice A n c) (some (.int .i64 k)) none none) u f d w =
    K (updO f d (.slice (if c = k then A else A.map (·.add (k * sz))) (n - k) (c - k))) w :=
  val1_of u f d w fun w' _ => by
    obtain ⟨i, z, hi, hz, hs, hb, hcc⟩ := hT.get
    have h1 : (0 : Int) ≤ (k : Int) ∧ (k : Int) ≤ (n : Int) := by omega
    simp [Instr.sliceAt, run_underlying hT.under, Instr.slice, Instr.sliceBounds, Instr.sliceBound, asIntOf, hk, sizeOf, typeInfo, hi, hs]
theorem Ints.tail (h : Ints ok w A l) (k : Nat) (hk : k ≤ l.length) (hc : l.length ≤ c) : Ints ok w (if c = k then A else A.map (·.add (k * 1))) (l.drop k) := by
  refine ⟨fun hl => ?_, fun hl => ?_, fun i hi => ?_⟩ <;> simp only [List.length_drop] at *
  · rw [if_neg (by omega)]
    have := h.isSome (by omega)
    cases A <;> simp_all
  · rw [if_neg (by omega)]
    have hb := h.block (by omega)
    have hs := h.isSome (by omega)
    cases A with
    | none => cases hs
    | some a =>
      simp only [Option.map_some, Option.getD_some] at hb ⊢
      have : (a.add (k * 1)).block = a.block := by unfold Addr.add; split <;> rfl
      rwa [this]
  · rw [if_neg (by omega)]
    have hc := h.cell (k + i) (by omega)
    have hs := h.isSome (by omega)
    cases A with
    | none => cases hs
    | some a =>
      simp only [Option.map_some, eA_some, Nat.mul_one, add_add] at hc ⊢
      rw [hc]
      simp [List.getD_eq_getElem?_getD]
theorem ext_2_0 (a b : Value) : Val1 P K (Instr.extract (.tuple #[a, b]) 0) u f d w = K (updO f d a) w := ext_tuple u f d w _ 0 (by simp)
theorem ext_2_1 (a b : Value) : Val1 P K (Instr.extract (.tuple #[a, b]) 1) u f d w = K (updO f d b) w := ext_tuple u f d w _ 1 (by simp)
theorem ext_3_0 (a b c : Value) : Val1 P K (Instr.extract (.tuple #[a, b, c]) 0) u f d w = K (updO f d a) w := ext_tuple u f d w _ 0 (by simp)
theorem ext_3_1 (a b c : Value) : Val1 P K (Instr.extract (.tuple #[a, b, c]) 1) u f d w = K (updO f d b) w := ext_tuple u f d w _ 1 (by simp)
theorem ext_3_2 (a b c : Value) : Val1 P K (Instr.extract (.tuple #[a, b, c]) 2) u f d w = K (updO f d c) w := ext_tuple u f d w _ 2 (by simp)
theorem ext_4_0 (x0 x1 x2 x3 : Value) : Val1 P K (Instr.extract (.tuple #[x0, x1, x2, x3]) 0) u f d w = K (updO f d x0) w := ext_tuple u f d w _ 0 (by simp)
theorem ext_4_1 (x0 x1 x2 x3 : Value) : Val1 P K (Instr.extract (.tuple #[x0, x1, x2, x3]) 1) u f d w = K (updO f d x1) w := ext_tuple u f d w _ 1 (by simp)
theorem ext_4_2 (x0 x1 x2 x3 : Value) : Val1 P K (Instr.extract (.tuple #[x0, x1, x2, x3]) 2) u f d w = K (updO f d x2) w := ext_tuple u f d w _ 2 (by simp)
theorem ext_4_3 (x0 x1 x2 x3 : Value) : Val1 P K (Instr.extract (.tuple #[x0, x1, x2, x3]) 3) u f d w = K (updO f d x3) w := ext_tuple u f d w _ 3 (by simp)
end
attribute [push_cast] ext_2_0 ext_2_1 ext_3_0 ext_3_1 ext_3_2 ext_4_0 ext_4_1 ext_4_2 ext_4_3 v_slice Option.map_some Option.map_none
end Go.Proofs.YtiabkafgmanhiaaDoor
