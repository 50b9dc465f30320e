/-
  Ways that meet again: a statement may be gone through up to a relation, and what follows once from there. No program in sight.
-/
import Derived.Test.YtiabkafgmanhiaaDoorOwn
namespace Go.Proofs.YtiabkafgmanhiaaDoor
set_option linter.unusedSimpArgs false
set_option linter.unusedVariables false
set_option linter.unusedSectionVars false
open Go.RowKit
section
variable {P : Program} {R : Fr → World → Prop}
theorem x_base (n : Nat) (k : List It) (b b' : World) (f : Fr) (w : World) (h : x P R n [] k b f w) : x P R n [] k b' f w := by
  cases n with
  | zero => exact h
  | succ n => cases k with
    | nil => exact h
    | cons i k => cases i <;> exact h
theorem stepI_mono {K K' : Fr → World → Prop} (hK : ∀ f w, K f w → K' f w) : ∀ (i : I) (u : World) (f : Fr) (w : World), stepI P K i u f w → stepI P K' i u f w
  | .mv _ _, _, _, _, h => hK _ _ h
  | .pick _ _ _ _, _, _, _, ⟨t, ht, h⟩ => ⟨t, ht, hK _ _ h⟩
  | .nilc _ _, _, _, _, ⟨h0, h⟩ => ⟨h0, hK _ _ h⟩
  | .val d o ty, u, f, w, h => by
    have h' : ValX P K o ty u f d w := h
    show ValX P K' o ty u f d w
    unfold ValX at *
    cases hv : valOf (ev f) ty o with
    | none => simp [hv] at h'
    | some s => simp only [hv] at h' ⊢; obtain ⟨v, hr, hk⟩ := h'; exact ⟨v, hr, hK _ _ hk⟩
  | .eff d o ty, _, f, w, h => by
    have h' : EffX P K o ty f d w := h
    show EffX P K' o ty f d w
    unfold EffX at *
    cases hv : valOf (ev f) ty o with
    | none => simp [hv] at h'
    | some s => simp only [hv] at h' ⊢; obtain ⟨v, w', hr, hk⟩ := h'; exact ⟨v, w', hr, hK _ _ hk⟩
  | .call _ _ _, _, _, _, ⟨h0, h⟩ => ⟨h0, h.mono fun _ _ ⟨v, he, hk⟩ => ⟨v, he, hK _ _ hk⟩⟩
  | .callv _ _ _, _, _, _, ⟨g, p, q, hg, h0, h⟩ => ⟨g, p, q, hg, h0, h.mono fun _ _ ⟨v, he, hk⟩ => ⟨v, he, hK _ _ hk⟩⟩
  | .gd s b d i, u, f, w, h => by
    simp only [stepI] at h ⊢
    split
    · rename_i t ht
      simp only [ht] at h
      split
      · rename_i hb; rw [if_pos hb] at h; exact stepI_mono hK i u f w h
      · rename_i hb; rw [if_neg hb] at h; exact hK _ _ h
    · rename_i hne
      split at h
      · rename_i t ht; exact absurd ht (hne t)
      · exact hK _ _ h
  | .q _, _, _, _, h => h.elim
  | .chk, _, _, _, h => h.elim
  | .bad, _, _, _, h => h.elim
theorem popTo_cut (id : Nat) (E : Fr → World → Prop) (k2 : List It) : ∀ (k1 : List It) (k' : List It), popTo id (k1 ++ .lp E :: k2) = some k' →
    (∃ k3, k' = k3 ++ .lp E :: k2 ∧ popTo id (k1 ++ k2) = some (k3 ++ k2)) ∨ popTo id (k1 ++ k2) = some k'
  | [], k', h => .inr (by simpa [popTo] using h)
  | .c _ :: k1, k', h => popTo_cut id E k2 k1 k' h
  | .lp _ :: k1, k', h => popTo_cut id E k2 k1 k' h
  | .sc :: k1, k', h => popTo_cut id E k2 k1 k' h
  | .t _ _ :: k1, k', h => popTo_cut id E k2 k1 k' h
  | .bl j :: k1, k', h => by
    simp only [List.cons_append, popTo] at h ⊢
    by_cases hj : id = j
    · rw [if_pos hj] at h ⊢
      injection h with h
      exact .inl ⟨k1, h.symm, rfl⟩
    · rw [if_neg hj] at h ⊢
      exact popTo_cut id E k2 k1 k' h
theorem x_fuel : ∀ (n : Nat) (l : List I) (k : List It) (b : World) (f : Fr) (w : World), x P R n l k b f w → x P R (n + 1) l k b f w
  | 0, _, _, _, _, _, h => h.elim
  | n + 1, [], [], _, _, _, h => h
  | n + 1, [], .bl _ :: k, _, f, w, h => x_fuel n [] k w f w h
  | n + 1, [], .sc :: k, _, f, w, h => x_fuel n [] k w f w h
  | n + 1, [], .lp _ :: _, _, _, _, h => h
  | n + 1, [], .t b0 t :: k, b, f, w, h => by
    cases t with
    | nil => exact x_fuel n [] k w f w h
    | q i t => exact x_fuel n [.q i] (.t b0 t :: k) b0 f w h
    | act i t => exact x_fuel n [i, .chk] (.t b0 t :: k) b0 f w h
    | two t u =>
      have h' : x P R n [] (.t b0 t :: k) b0 f w ∧ x P R n [] (.t b0 u :: k) b0 f w := h
      exact ⟨x_fuel n [] (.t b0 t :: k) b0 f w h'.1, x_fuel n [] (.t b0 u :: k) b0 f w h'.2⟩
  | n + 1, [], .c c :: k, b, f, w, h => by
    cases c with
    | sk => exact x_fuel n [] k w f w h
    | sq a d => exact x_fuel n [] (.c a :: .c d :: k) w f w h
    | op l => exact x_fuel n l k w f w h
    | dr l => exact x_fuel n l k w.drew f w.drew h
    | drt t => exact x_fuel n [] (.t w.drew t :: k) w.drew f w.drew h
    | drz l =>
      obtain ⟨b0, hb, h'⟩ := h
      exact ⟨b0, hb, x_fuel n l k b0 f w.drew h'⟩
    | cd c a d =>
      obtain ⟨t, ht, hh⟩ := h
      refine ⟨t, ht, ?_⟩
      cases t
      · exact x_fuel n [] (.c d :: k) w f w hh
      · exact x_fuel n [] (.c a :: k) w f w hh
    | bl id c => exact x_fuel n [] (.c c :: .bl id :: k) w f w h
    | lo c =>
      obtain ⟨J, μ, h0, hr⟩ := h
      exact ⟨J, μ, h0, fun f' w' hJ => x_fuel n _ _ w' f' w' (hr f' w' hJ)⟩
    | ex id =>
      have h' : (match popTo id k with | some k' => x P R n [] k' w f w | none => False) := h
      show (match popTo id k with | some k' => x P R (n + 1) [] k' w f w | none => False)
      cases hp : popTo id k with
      | none => rw [hp] at h'; exact h'.elim
      | some k' => rw [hp] at h'; exact x_fuel n [] k' w f w h'
    | sc c => exact x_fuel n [] (.c c :: .sc :: k) w f w h
    | rt => exact h
    | bad => exact h.elim
  | n + 1, i :: l, k, b, f, w, h => by
    cases i with
    | q i => exact stepI_mono (fun f w hh => x_fuel n l k b f w hh) i b f w h
    | chk => exact ⟨h.1, x_fuel n l k b f w h.2⟩
    | mv d o => exact x_fuel n l k b _ w h
    | pick d c o p => exact stepI_mono (fun f w hh => x_fuel n l k b f w hh) (.pick d c o p) w f w h
    | nilc d o => exact stepI_mono (fun f w hh => x_fuel n l k b f w hh) (.nilc d o) w f w h
    | val d o ty => exact stepI_mono (fun f w hh => x_fuel n l k b f w hh) (.val d o ty) w f w h
    | eff d o ty => exact stepI_mono (fun f w hh => x_fuel n l k b f w hh) (.eff d o ty) w f w h
    | call d g args => exact stepI_mono (fun f w hh => x_fuel n l k b f w hh) (.call d g args) w f w h
    | callv d g args => exact stepI_mono (fun f w hh => x_fuel n l k b f w hh) (.callv d g args) w f w h
    | gd s bb d i => exact stepI_mono (fun f w hh => x_fuel n l k b f w hh) (.gd s bb d i) w f w h
    | bad => exact h.elim
theorem x_more {n m : Nat} (h : n ≤ m) {l : List I} {k : List It} {b : World} {f : Fr} {w : World} (hx : x P R n l k b f w) : x P R m l k b f w := by
  obtain ⟨d, rfl⟩ := Nat.le.dest h
  clear h
  induction d with
  | zero => exact hx
  | succ d ih => exact x_fuel _ _ _ _ _ _ ih
theorem x_cut (E : Fr → World → Prop) (m : Nat) (k2 : List It) (hE : ∀ f w, E f w → x P R m [] k2 w f w) : ∀ (n : Nat) (l : List I) (k1 : List It) (b : World) (f : Fr) (w : World),
    x P R n l (k1 ++ .lp E :: k2) b f w → x P R (n + m) l (k1 ++ k2) b f w
  | 0, _, _, _, _, _, h => h.elim
  | n + 1, [], [], b, f, w, h => x_more (by omega) (x_base _ _ _ b _ _ (hE f w h))
  | n + 1, [], .bl _ :: k, _, f, w, h => by rw [show n + 1 + m = n + m + 1 by omega]; exact x_cut E m k2 hE n [] k w f w h
  | n + 1, [], .sc :: k, _, f, w, h => by rw [show n + 1 + m = n + m + 1 by omega]; exact x_cut E m k2 hE n [] k w f w h
  | n + 1, [], .lp _ :: _, _, _, _, h => by rw [show n + 1 + m = n + m + 1 by omega]; exact h
  | n + 1, [], .t b0 t :: k, b, f, w, h => by
    rw [show n + 1 + m = n + m + 1 by omega]
    cases t with
    | nil => exact x_cut E m k2 hE n [] k w f w h
    | q i t => exact x_cut E m k2 hE n [.q i] (.t b0 t :: k) b0 f w h
    | act i t => exact x_cut E m k2 hE n [i, .chk] (.t b0 t :: k) b0 f w h
    | two t u =>
      have h' : x P R n [] (.t b0 t :: (k ++ .lp E :: k2)) b0 f w ∧ x P R n [] (.t b0 u :: (k ++ .lp E :: k2)) b0 f w := h
      exact ⟨x_cut E m k2 hE n [] (.t b0 t :: k) b0 f w h'.1, x_cut E m k2 hE n [] (.t b0 u :: k) b0 f w h'.2⟩
  | n + 1, [], .c c :: k, b, f, w, h => by
    rw [show n + 1 + m = n + m + 1 by omega]
    cases c with
    | sk => exact x_cut E m k2 hE n [] k w f w h
    | sq a d => exact x_cut E m k2 hE n [] (.c a :: .c d :: k) w f w h
    | op l => exact x_cut E m k2 hE n l k w f w h
    | dr l => exact x_cut E m k2 hE n l k w.drew f w.drew h
    | drt t => exact x_cut E m k2 hE n [] (.t w.drew t :: k) w.drew f w.drew h
    | drz l =>
      obtain ⟨b0, hb, h'⟩ := h
      exact ⟨b0, hb, x_cut E m k2 hE n l k b0 f w.drew h'⟩
    | cd c a d =>
      obtain ⟨t, ht, hh⟩ := h
      refine ⟨t, ht, ?_⟩
      cases t
      · exact x_cut E m k2 hE n [] (.c d :: k) w f w hh
      · exact x_cut E m k2 hE n [] (.c a :: k) w f w hh
    | bl id c => exact x_cut E m k2 hE n [] (.c c :: .bl id :: k) w f w h
    | lo c =>
      obtain ⟨J, μ, h0, hr⟩ := h
      exact ⟨J, μ, h0, fun f' w' hJ => x_cut E m k2 hE n [] (.c c :: .lp _ :: k) w' f' w' (hr f' w' hJ)⟩
    | ex id =>
      have h' : (match popTo id (k ++ .lp E :: k2) with | some k' => x P R n [] k' w f w | none => False) := h
      show (match popTo id (k ++ k2) with | some k' => x P R (n + m) [] k' w f w | none => False)
      cases hp : popTo id (k ++ .lp E :: k2) with
      | none => rw [hp] at h'; exact h'.elim
      | some k' =>
        rw [hp] at h'
        rcases popTo_cut id E k2 k k' hp with ⟨k3, rfl, h3⟩ | h3
        · rw [h3]; exact x_cut E m k2 hE n [] k3 w f w h'
        · rw [h3]; exact x_more (by omega) h'
    | sc c => exact x_cut E m k2 hE n [] (.c c :: .sc :: k) w f w h
    | rt => exact h
    | bad => exact h.elim
  | n + 1, i :: l, k, b, f, w, h => by
    rw [show n + 1 + m = n + m + 1 by omega]
    have K : ∀ f w, x P R n l (k ++ .lp E :: k2) b f w → x P R (n + m) l (k ++ k2) b f w := fun f w hh => x_cut E m k2 hE n l k b f w hh
    cases i with
    | q i => exact stepI_mono K i b f w h
    | chk => exact ⟨h.1, K f w h.2⟩
    | mv d o => exact K _ w h
    | pick d c o p => exact stepI_mono K (.pick d c o p) w f w h
    | nilc d o => exact stepI_mono K (.nilc d o) w f w h
    | val d o ty => exact stepI_mono K (.val d o ty) w f w h
    | eff d o ty => exact stepI_mono K (.eff d o ty) w f w h
    | call d g args => exact stepI_mono K (.call d g args) w f w h
    | callv d g args => exact stepI_mono K (.callv d g args) w f w h
    | gd s bb d i => exact stepI_mono K (.gd s bb d i) w f w h
    | bad => exact h.elim
/-- Go through the next statement up to the relation E, and on from there once. -/
theorem cut (E : Fr → World → Prop) (n m : Nat) {N : Nat} (hN : n + m ≤ N) {c : C} {k : List It} {b : World} {f : Fr} {w : World}
    (h1 : ∀ E' : Fr → World → Prop, (∀ f w, E f w → E' f w) → x P R n [] (.c c :: .lp E' :: k) w f w) (h2 : ∀ f w, E f w → x P R m [] k w f w) : x P R N [] (.c c :: k) b f w :=
  x_more hN (x_base _ _ _ b _ _ (x_cut E m k h2 n [] [.c c] w f w (h1 E fun _ _ h => h)))
/-- .. and a region whose acts come up in more than one order, up to the relation E, and on from there once. -/
theorem cutT (E : Fr → World → Prop) (n m : Nat) {N : Nat} (hN : n + m ≤ N) {b0 : World} {t : T} {k : List It} {b : World} {f : Fr} {w : World}
    (h1 : ∀ E' : Fr → World → Prop, (∀ f w, E f w → E' f w) → x P R n [] (.t b0 t :: .lp E' :: k) b f w) (h2 : ∀ f w, E f w → x P R m [] k w f w) : x P R N [] (.t b0 t :: k) b f w :=
  x_more hN (x_cut E m k h2 n [] [.t b0 t] b f w (h1 E fun _ _ h => h))
end
end Go.Proofs.YtiabkafgmanhiaaDoor
