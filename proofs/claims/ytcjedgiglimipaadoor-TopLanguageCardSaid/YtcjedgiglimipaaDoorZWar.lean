/-
  Where states lead to, row by row, in place: one row joined to all that have its number, number by number. In plain Lean. No program in sight.
-/
import Derived.Test.YtcjedgiglimipaaDoorZTrim
namespace Go.Proofs.YtcjedgiglimipaaDoor
set_option linter.unusedSimpArgs false
set_option linter.unusedVariables false
set_option linter.unusedSectionVars false
open Go.RowKit

/-- t is in the s-th row. -/
def Mw (L : List (List Int)) (s : Nat) (t : Int) : Prop := t ∈ L.getD s []
noncomputable instance (L : List (List Int)) (s : Nat) (t : Int) : Decidable (Mw L s t) := Classical.propDecidable _
noncomputable def warS (L : List (List Int)) (b s : Nat) : List (List Int) := if Mw L s b then L.set s (L.getD s [] ++ L.getD b []) else L
noncomputable def warB (L : List (List Int)) (b : Nat) : Nat → List (List Int)
  | 0 => L
  | k + 1 => warS (warB L b k) b k
noncomputable def war (L : List (List Int)) (n : Nat) : Nat → List (List Int)
  | 0 => L
  | b + 1 => warB (war L n b) b n
theorem warS_len (L : List (List Int)) (b s : Nat) : (warS L b s).length = L.length := by unfold warS; split <;> simp
theorem warB_len (L : List (List Int)) (b : Nat) : ∀ k, (warB L b k).length = L.length
  | 0 => rfl
  | k + 1 => (warS_len _ _ _).trans (warB_len L b k)
theorem war_len (L : List (List Int)) (n : Nat) : ∀ b, (war L n b).length = L.length
  | 0 => rfl
  | b + 1 => (warB_len _ _ _).trans (war_len L n b)
theorem mw_set {L : List (List Int)} {s : Nat} (hs : s < L.length) (r : List Int) (i : Nat) (t : Int) : Mw (L.set s r) i t ↔ if i = s then t ∈ r else Mw L i t := by
  unfold Mw
  rw [getD_set _ _ _ _ _ hs]
  by_cases e : i = s
  · rw [if_pos e, if_pos e]
  · rw [if_neg e, if_neg e]
theorem mw_warS {L : List (List Int)} {b s : Nat} (hs : s < L.length) (i : Nat) (t : Int) : Mw (warS L b s) i t ↔ (Mw L i t ∨ (i = s ∧ Mw L s b ∧ Mw L b t)) := by
  unfold warS
  by_cases h : Mw L s b
  · rw [if_pos h, mw_set hs]
    by_cases e : i = s
    · subst e
      rw [if_pos rfl, List.mem_append]
      exact ⟨fun hh => hh.imp id fun h2 => ⟨rfl, h, h2⟩, fun hh => hh.imp id fun h2 => h2.2.2⟩
    · rw [if_neg e]
      exact ⟨.inl, fun hh => hh.resolve_right fun h2 => e h2.1⟩
  · rw [if_neg h]
    exact ⟨.inl, fun hh => hh.resolve_right fun h2 => h h2.2.1⟩
theorem mw_warB {L : List (List Int)} {b : Nat} : ∀ (k : Nat), k ≤ L.length → ∀ (i : Nat) (t : Int), Mw (warB L b k) i t ↔ (Mw L i t ∨ (i < k ∧ Mw L i b ∧ Mw L b t))
  | 0, _, i, t => ⟨.inl, fun h => h.resolve_right fun h2 => absurd h2.1 (by omega)⟩
  | k + 1, hk, i, t => by
    have ih := mw_warB (L := L) (b := b) k (by omega)
    show Mw (warS (warB L b k) b k) i t ↔ _
    rw [mw_warS (by rw [warB_len]; omega), ih, ih, ih]
    constructor
    · rintro ((h | ⟨h1, h2, h3⟩) | ⟨rfl, h1, h2⟩)
      · exact .inl h
      · exact .inr ⟨by omega, h2, h3⟩
      · have hb : Mw L i b := h1.elim id fun h => h.2.1
        have ht : Mw L b t := h2.elim id fun h => h.2.2
        exact .inr ⟨by omega, hb, ht⟩
    · rintro (h | ⟨h1, h2, h3⟩)
      · exact .inl (.inl h)
      · rcases Nat.lt_or_ge i k with c | c
        · exact .inl (.inr ⟨c, h2, h3⟩)
        · exact .inr ⟨by omega, .inl (by rw [show k = i by omega]; exact h2), .inl h3⟩
/-- Behind the numbers below k: whatever goes by one of them goes there at once. -/
theorem war_trans {L : List (List Int)} (hr : ∀ s, ∀ t, Mw L s t → 0 ≤ t ∧ t < L.length) : ∀ (k : Nat), k ≤ L.length → ∀ (c : Nat), c < k → ∀ (s : Nat) (t : Int), s < L.length → Mw (war L L.length k) s c → Mw (war L L.length k) c t → Mw (war L L.length k) s t
  | 0, _, c, hc, _, _, _, _, _ => absurd hc (by omega)
  | k + 1, hk, c, hc, s, t, hs, h1, h2 => by
    have ih := war_trans hr k (by omega)
    have key : ∀ (i : Nat) (t : Int), Mw (war L L.length (k + 1)) i t ↔ (Mw (war L L.length k) i t ∨ (i < L.length ∧ Mw (war L L.length k) i k ∧ Mw (war L L.length k) k t)) := fun i t =>
      mw_warB (L := war L L.length k) (b := k) L.length (by rw [war_len]; exact Nat.le_refl _) i t
    rw [key] at h1 h2 ⊢
    rcases Nat.lt_or_ge c k with hck | hck
    · rcases h1 with h1 | ⟨_, h1, h3⟩
      · rcases h2 with h2 | ⟨_, h2, h4⟩
        · exact .inl (ih c hck s t hs h1 h2)
        · exact .inr ⟨hs, ih c hck s k hs h1 h2, h4⟩
      · rcases h2 with h2 | ⟨_, h2, h4⟩
        · exact .inr ⟨hs, h1, ih c hck k t (by omega) h3 h2⟩
        · exact .inr ⟨hs, h1, h4⟩
    · obtain rfl : c = k := by omega
      have a1 : Mw (war L L.length c) s c := h1.elim id fun h => h.2.1
      have a2 : Mw (war L L.length c) c t := h2.elim id fun h => h.2.2
      exact .inr ⟨hs, a1, a2⟩
theorem war_more {L : List (List Int)} (s : Nat) (t : Int) (h : Mw L s t) : ∀ k, k ≤ L.length → Mw (war L L.length k) s t
  | 0, _ => h
  | k + 1, hk => (mw_warB (L := war L L.length k) (b := k) L.length (by rw [war_len]; exact Nat.le_refl _) s t).2 (.inl (war_more s t h k (by omega)))
/-- Nothing comes in that cannot be gone to. -/
theorem war_sound {L : List (List Int)} {E : List (Int × Int)} (h0 : ∀ (s : Nat) (t : Int), Mw L s t → Clos E [(s : Int)] t) : ∀ (k : Nat), k ≤ L.length → ∀ (s : Nat) (t : Int), Mw (war L L.length k) s t → Clos E [(s : Int)] t
  | 0, _ => h0
  | k + 1, hk => fun s t h => by
    have ih := war_sound h0 k (by omega)
    rcases (mw_warB (L := war L L.length k) (b := k) L.length (by rw [war_len]; exact Nat.le_refl _) s t).1 h with h | ⟨_, h1, h2⟩
    · exact ih s t h
    · exact Clos.trans (fun z hz => by rw [List.mem_singleton.1 hz]; exact ih s k h1) (ih k t h2)
/-- All rows: just what can be gone to. -/
theorem war_clos {L : List (List Int)} {E : List (Int × Int)} (hr : ∀ s, ∀ t, Mw L s t → 0 ≤ t ∧ t < L.length) (h0 : ∀ (s : Nat) (t : Int), Mw L s t → Clos E [(s : Int)] t) (hrefl : ∀ s : Nat, s < L.length → Mw L s s)
    (hE : ∀ e ∈ E, ∃ s : Nat, e.1 = (s : Int) ∧ s < L.length ∧ Mw L s e.2) (s : Nat) (hs : s < L.length) (t : Int) : Mw (war L L.length L.length) s t ↔ Clos E [(s : Int)] t := by
  refine ⟨war_sound h0 L.length (Nat.le_refl _) s t, fun h => ?_⟩
  induction h with
  | base z hz => rw [List.mem_singleton.1 hz]; exact war_more s s (hrefl s hs) _ (Nat.le_refl _)
  | step q hq _ ih =>
    obtain ⟨c, hc, hcl, hm⟩ := hE q hq
    rw [hc] at ih
    exact war_trans hr L.length (Nat.le_refl _) c hcl s q.2 hs ih (war_more c q.2 hm _ (Nat.le_refl _))
end Go.Proofs.YtcjedgiglimipaaDoor
