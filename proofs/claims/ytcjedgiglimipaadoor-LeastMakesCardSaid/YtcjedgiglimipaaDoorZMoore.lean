/-
  What words up to a length do not tell apart; when that is all that words do not tell apart. In plain Lean. No program in sight.
-/
import Derived.Test.YtcjedgiglimipaaDoorZBfs
namespace Go.Proofs.YtcjedgiglimipaaDoor
set_option linter.unusedSimpArgs false
set_option linter.unusedVariables false
set_option linter.unusedSectionVars false
open Go.RowKit

section
variable (n E : Nat) (δ : Nat → Nat → Nat) (fin : Nat → Prop)
def runM (s : Nat) (u : List Nat) : Nat := u.foldl δ s
def eqk (k : Nat) (s t : Nat) : Prop := ∀ u : List Nat, u.length ≤ k → (∀ e ∈ u, e < E) → (fin (runM δ s u) ↔ fin (runM δ t u))
/-- What no word tells apart. -/
def eqA (s t : Nat) : Prop := ∀ u : List Nat, (∀ e ∈ u, e < E) → (fin (runM δ s u) ↔ fin (runM δ t u))
variable {n E δ fin}
theorem eqk_zero {s t : Nat} : eqk E δ fin 0 s t ↔ (fin s ↔ fin t) :=
  ⟨fun h => h [] (Nat.le_refl _) (by simp), fun h u hu _ => by
    obtain rfl := List.length_eq_zero_iff.1 (Nat.le_zero.1 hu)
    exact h⟩
theorem eqk_succ {k s t : Nat} : eqk E δ fin (k + 1) s t ↔ eqk E δ fin k s t ∧ ∀ e, e < E → eqk E δ fin k (δ s e) (δ t e) := by
  constructor
  · intro h
    refine ⟨fun u hu he => h u (by omega) he, fun e he u hu hue => h (e :: u) (by simp; omega) fun x hx => ?_⟩
    rcases List.mem_cons.1 hx with rfl | hx
    · exact he
    · exact hue x hx
  · rintro ⟨h1, h2⟩ u hu he
    cases u with
    | nil => exact h1 [] (Nat.zero_le _) (by simp)
    | cons e u => exact h2 e (he e (List.mem_cons_self ..)) u (by simp at hu; omega) fun x hx => he x (List.mem_cons_of_mem _ hx)
theorem eqA_iff {s t : Nat} : eqA E δ fin s t ↔ ∀ k, eqk E δ fin k s t := ⟨fun h _ u _ he => h u he, fun h u he => h u.length u (Nat.le_refl _) he⟩
theorem eqA_step {s t e : Nat} (h : eqA E δ fin s t) (he : e < E) : eqA E δ fin (δ s e) (δ t e) := fun u hu => h (e :: u) fun x hx => by
  rcases List.mem_cons.1 hx with rfl | hx
  · exact he
  · exact hu x hx
/-- Where one round more tells nothing more apart, none does. -/
theorem eqk_stable (hδ : ∀ s, s < n → ∀ e, e < E → δ s e < n) {k : Nat} (h : ∀ s t, s < n → t < n → eqk E δ fin k s t → eqk E δ fin (k + 1) s t) {s t : Nat} (hs : s < n) (ht : t < n) (hk : eqk E δ fin k s t) : eqA E δ fin s t := by
  intro u
  induction u generalizing s t with
  | nil => intro _; exact hk [] (Nat.zero_le _) (by simp)
  | cons e u ih =>
    intro hu
    have he := hu e (List.mem_cons_self ..)
    exact ih (hδ s hs e he) (hδ t ht e he) ((eqk_succ.1 (h s t hs ht hk)).2 e he) fun x hx => hu x (List.mem_cons_of_mem _ hx)
/-- A relation that steps keep tells nothing more apart than words do. -/
theorem eqA_of_bisim (hδ : ∀ s, s < n → ∀ e, e < E → δ s e < n) {R : Nat → Nat → Prop} (h0 : ∀ s t, s < n → t < n → R s t → (fin s ↔ fin t)) (h1 : ∀ s t, s < n → t < n → R s t → ∀ e, e < E → R (δ s e) (δ t e)) {s t : Nat} (hs : s < n) (ht : t < n) (h : R s t) : eqA E δ fin s t := by
  intro u
  induction u generalizing s t with
  | nil => intro _; exact h0 s t hs ht h
  | cons e u ih =>
    intro hu
    have he := hu e (List.mem_cons_self ..)
    exact ih (hδ s hs e he) (hδ t ht e he) (h1 s t hs ht h e he) fun x hx => hu x (List.mem_cons_of_mem _ hx)
end
section
variable {α β : Type}
/-- Is it the first one of its kind? -/
def NewIn (p : Nat → α) (s : Nat) : Prop := ∀ s', s' < s → p s' ≠ p s
noncomputable instance (p : Nat → α) (s : Nat) : Decidable (NewIn p s) := Classical.propDecidable _
noncomputable def cnt (p : Nat → α) (n : Nat) : Nat := (List.range n).countP fun s => decide (NewIn p s)
theorem cnt_succ (p : Nat → α) (n : Nat) : cnt p (n + 1) = cnt p n + if NewIn p n then 1 else 0 := by
  unfold cnt
  rw [List.range_succ, List.countP_append, List.countP_cons, List.countP_nil, Nat.zero_add]
  simp
theorem cnt_le (p : Nat → α) (n : Nat) : cnt p n ≤ n := by
  unfold cnt
  have := List.countP_le_length (p := fun s => decide (NewIn p s)) (l := List.range n)
  simpa using this
theorem cnt_pos (p : Nat → α) {n : Nat} (h : 0 < n) : 0 < cnt p n := by
  unfold cnt
  refine List.countP_pos_iff.2 ⟨0, List.mem_range.2 h, decide_eq_true fun s' hs' => absurd hs' (by omega)⟩
theorem NewIn.up {p : Nat → α} {q : Nat → β} {n : Nat} (h : ∀ s t, s < n → t < n → q s = q t → p s = p t) {s : Nat} (hs : s < n) (hn : NewIn p s) : NewIn q s := fun s' hs' e => hn s' hs' (h s' s (by omega) hs e)
theorem cnt_mono {p : Nat → α} {q : Nat → β} {n : Nat} (h : ∀ s t, s < n → t < n → q s = q t → p s = p t) : cnt p n ≤ cnt q n := by
  unfold cnt
  exact List.countP_mono_left fun s hs hn => decide_eq_true (NewIn.up h (List.mem_range.1 hs) (of_decide_eq_true hn))
theorem countP_lt' {p q : Nat → Bool} : ∀ {l : List Nat}, (∀ x ∈ l, q x = true → p x = true) → (∃ x ∈ l, p x = true ∧ q x = false) → l.countP q < l.countP p
  | [], _, ⟨x, hx, _⟩ => absurd hx (by simp)
  | a :: l, h, ⟨x, hx, h1, h2⟩ => by
    have hle : l.countP q ≤ l.countP p := List.countP_mono_left fun y hy => h y (List.mem_cons_of_mem _ hy)
    rw [List.countP_cons, List.countP_cons]
    rcases List.mem_cons.1 hx with rfl | hx
    · rw [h1, h2]; simp; omega
    · have ih := countP_lt' (l := l) (fun y hy => h y (List.mem_cons_of_mem _ hy)) ⟨x, hx, h1, h2⟩
      have ha := h a (List.mem_cons_self ..)
      cases hq : q a <;> cases hp : p a <;> simp_all <;> omega
theorem NewIn.down {p : Nat → α} {q : Nat → β} {n : Nat} (h : ∀ s t, s < n → t < n → q s = q t → p s = p t) (hc : cnt p n = cnt q n) {s : Nat} (hs : s < n) (hn : NewIn q s) : NewIn p s := by
  refine Classical.byContradiction fun hno => ?_
  have : cnt p n < cnt q n := by
    unfold cnt
    exact countP_lt' (fun s hs hn => decide_eq_true (NewIn.up h (List.mem_range.1 hs) (of_decide_eq_true hn))) ⟨s, List.mem_range.2 hs, decide_eq_true hn, decide_eq_false hno⟩
  omega
theorem first_of (p : Nat → α) (s : Nat) : ∃ s', s' ≤ s ∧ p s' = p s ∧ NewIn p s' := by
  induction s using Nat.strongRecOn with
  | _ s ih =>
    by_cases h : NewIn p s
    · exact ⟨s, Nat.le_refl _, rfl, h⟩
    · obtain ⟨s', hs', he⟩ : ∃ s', s' < s ∧ p s' = p s := Classical.byContradiction fun hno => h fun s' hs' he => hno ⟨s', hs', he⟩
      obtain ⟨r, hr, hre, hrn⟩ := ih s' hs'
      exact ⟨r, by omega, hre.trans he, hrn⟩
theorem NewIn.eq {p : Nat → α} {s t : Nat} (hs : NewIn p s) (ht : NewIn p t) (h : p s = p t) : s = t := by
  rcases Nat.lt_trichotomy s t with c | c | c
  · exact absurd h (ht s c)
  · exact c
  · exact absurd h.symm (hs t c)
/-- The finer one, as many of a kind: it is no finer. -/
theorem kinds_same {p : Nat → α} {q : Nat → β} {n : Nat} (h : ∀ s t, s < n → t < n → q s = q t → p s = p t) (hc : cnt p n = cnt q n) {s t : Nat} (hs : s < n) (ht : t < n) (he : p s = p t) : q s = q t := by
  obtain ⟨s', hs', e1, n1⟩ := first_of q s
  obtain ⟨t', ht', e2, n2⟩ := first_of q t
  have m1 := NewIn.down h hc (by omega) n1
  have m2 := NewIn.down h hc (by omega) n2
  have : p s' = p t' := by rw [h s' s (by omega) hs e1, h t' t (by omega) ht e2, he]
  rw [← e1, ← e2, NewIn.eq m1 m2 this]
end
end Go.Proofs.YtcjedgiglimipaaDoor
