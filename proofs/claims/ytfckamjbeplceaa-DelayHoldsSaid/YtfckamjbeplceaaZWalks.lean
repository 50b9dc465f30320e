/-
  Walks whose edges count or do not: how much they count at most, or that this has no bound; in plain Lean. No program in sight.
-/
import Derived.Test.YtfckamjbeplceaaZBfs
namespace Go.Proofs.Ytfckamjbeplceaa
set_option linter.unusedSimpArgs false
set_option linter.unusedVariables false
set_option linter.unusedSectionVars false
open Go.RowKit

section
variable {T : Type}
inductive Pth (E : T → T → Nat → Prop) (s : T) : T → Nat → Nat → Prop where
  | nil : Pth E s s 0 0
  | snoc {t u : T} {n k c : Nat} : Pth E s t n k → E t u c → Pth E s u (n + c) (k + 1)
/-- A walk from a start: what it counts. -/
def Wk (St : T → Prop) (E : T → T → Nat → Prop) (t : T) (n : Nat) : Prop := ∃ s k, St s ∧ Pth E s t n k
variable {St : T → Prop} {E : T → T → Nat → Prop}
theorem Pth.cast {s t : T} {n m k l : Nat} (h : Pth E s t n k) (hn : n = m) (hk : k = l) : Pth E s t m l := hn ▸ hk ▸ h
theorem Pth.trans {s t u : T} {n m k l : Nat} (h : Pth E s t n k) (h' : Pth E t u m l) : Pth E s u (n + m) (k + l) := by
  induction h' with
  | nil => exact h
  | snoc _ he ih => exact (Pth.snoc ih he).cast (by omega) (by omega)
theorem Pth.zero {s t : T} {n k : Nat} (h : Pth E s t n k) (hk : k = 0) : n = 0 := by
  cases h with
  | nil => rfl
  | snoc => omega
theorem Pth.one {s t : T} {n k : Nat} (hone : ∀ t u c, E t u c → c ≤ 1) (h : Pth E s t n k) (hk : k = 1) : n ≤ 1 := by
  cases h with
  | nil => omega
  | snoc g he =>
    have := hone _ _ _ he
    have := g.zero (by omega)
    omega
theorem Wk.start {s : T} (h : St s) : Wk St E s 0 := ⟨s, 0, h, .nil⟩
theorem Wk.step {t u : T} {n c : Nat} (h : Wk St E t n) (he : E t u c) : Wk St E u (n + c) := by
  obtain ⟨s, k, hs, hp⟩ := h
  exact ⟨s, k + 1, hs, .snoc hp he⟩
theorem Wk.on {t u : T} {n m k : Nat} (h : Wk St E t n) (hp : Pth E t u m k) : Wk St E u (n + m) := by
  obtain ⟨s, k', hs, hq⟩ := h
  exact ⟨s, _, hs, hq.trans hp⟩
/-- A round that counts can be gone again and again. -/
theorem Wk.pump {u : T} {n c k : Nat} (h : Wk St E u n) (hp : Pth E u u c k) (hc : 0 < c) : ∀ N, ∃ m, N ≤ m ∧ Wk St E u m
  | 0 => ⟨n, Nat.zero_le _, h⟩
  | N + 1 => by
    obtain ⟨m, hm, hw⟩ := Wk.pump h hp hc N
    exact ⟨m + c, by omega, hw.on hp⟩
/-- What is met on the way. -/
theorem Pth.trace {s t : T} {n k : Nat} (h : Pth E s t n k) : ∃ tr : List (T × Nat), tr.length = k + 1 ∧ tr[0]? = some (s, 0) ∧ tr[k]? = some (t, n) ∧
    (∀ i j p q, i ≤ j → tr[i]? = some p → tr[j]? = some q → p.2 ≤ q.2 ∧ Pth E p.1 q.1 (q.2 - p.2) (j - i)) := by
  induction h with
  | nil =>
    refine ⟨[(s, 0)], rfl, rfl, rfl, fun i j p q hij hp hq => ?_⟩
    match i, j with
    | 0, 0 => simp at hp hq; subst hp hq; exact ⟨Nat.le_refl _, .nil⟩
    | _, j + 1 => simp at hq
    | i + 1, 0 => omega
  | @snoc t u n k c h he ih =>
    obtain ⟨tr, hl, h0, hk, hh⟩ := ih
    refine ⟨tr ++ [(u, n + c)], by simp [hl], by rw [List.getElem?_append_left (by omega)]; exact h0, by rw [List.getElem?_append_right (by omega), hl]; simp, fun i j p q hij hp hq => ?_⟩
    rcases Nat.lt_or_ge j (k + 1) with c1 | c1
    · rw [List.getElem?_append_left (by omega)] at hp hq
      exact hh i j p q hij hp hq
    · have hj : j = k + 1 := by
        rcases Nat.lt_or_ge j (k + 2) with d | d
        · omega
        · rw [List.getElem?_eq_none (by simp; omega)] at hq; cases hq
      subst hj
      rw [List.getElem?_append_right (by omega), hl] at hq
      simp at hq
      subst hq
      rcases Nat.lt_or_ge i (k + 1) with d | d
      · rw [List.getElem?_append_left (by omega)] at hp
        obtain ⟨h1, h2⟩ := hh i k p (t, n) (by omega) hp hk
        simp only at h1 h2
        exact ⟨by simp only; omega, (Pth.snoc h2 he).cast (by simp only; omega) (by omega)⟩
      · obtain rfl : i = k + 1 := by omega
        rw [List.getElem?_append_right (by omega), hl] at hp
        simp at hp
        subst hp
        exact ⟨Nat.le_refl _, (Pth.nil).cast (by simp) (by simp)⟩
/-- What is met are walks' ends. -/
theorem pigeon {N n : Nat} (f : Nat → T) (code : T → Nat) (hc : ∀ v, v ≤ n → code (f v) < N) (hi : ∀ v v', v ≤ n → v' ≤ n → code (f v) = code (f v') → f v = f v') (h : N ≤ n) : ∃ v v', v < v' ∧ v' ≤ n ∧ f v = f v' := by
  refine Classical.byContradiction fun hno => ?_
  have hnd : ((List.range (n + 1)).map fun v => code (f v)).Nodup := by
    rw [List.nodup_iff_pairwise_ne, List.pairwise_map]
    refine List.Pairwise.imp_of_mem (fun {a b} ha hb hab he => ?_) List.pairwise_lt_range
    rw [List.mem_range] at ha hb
    exact hno ⟨a, b, hab, by omega, hi a b (by omega) (by omega) he⟩
  have := nodup_nat_len N _ hnd fun x hx => by
    obtain ⟨v, hv, rfl⟩ := List.mem_map.1 hx
    rw [List.mem_range] at hv
    exact hc v (by omega)
  simp at this
  omega
section
variable (code : T → Nat) (N : Nat) (hc : ∀ t n, Wk St E t n → code t < N) (hi : ∀ t u n m, Wk St E t n → Wk St E u m → code t = code u → t = u) (h1 : ∀ t u c, E t u c → c ≤ 1)
include hc hi
/-- More than there are places: it goes round. -/
theorem Wk.round (hone : ∀ t u c, E t u c → c ≤ 1) {t : T} {n : Nat} (h : Wk St E t n) (hn : N ≤ n) : ∃ u m c k, Wk St E u m ∧ Pth E u u c k ∧ 0 < c := by
  obtain ⟨s, k, hs, hp⟩ := h
  obtain ⟨tr, hl, h0, hk, hh⟩ := hp.trace
  -- each number up to n is counted somewhere
  have mid : ∀ v : Nat, v ≤ n → ∃ (i : Nat) (u : T), tr[i]? = some (u, v) := by
    intro v hv
    -- the last place where no more than v is counted
    have : ∀ j : Nat, j ≤ k → (∃ p, tr[j]? = some p ∧ v ≤ p.2) → ∃ (i : Nat) (u : T), tr[i]? = some (u, v) := by
      intro j
      induction j with
      | zero =>
        rintro _ ⟨p, hp, hv⟩
        rw [h0] at hp
        have := Option.some.inj hp
        subst this
        exact ⟨0, s, by rw [h0]; simp at hv; subst hv; rfl⟩
      | succ j ih =>
        rintro hj ⟨p, hp, hv⟩
        have hjl : j < tr.length := by omega
        obtain ⟨q, hq⟩ : ∃ q, tr[j]? = some q := ⟨_, List.getElem?_eq_getElem hjl⟩
        rcases Nat.lt_or_ge q.2 v with c | c
        · obtain ⟨g1, g2⟩ := hh j (j + 1) q p (by omega) hq hp
          rw [show j + 1 - j = 1 by omega] at g2
          have : p.2 - q.2 ≤ 1 := Pth.one hone g2 rfl
          exact ⟨j + 1, p.1, by rw [hp]; congr 1; exact Prod.ext rfl (by simp only; omega)⟩
        · exact ih (by omega) ⟨q, hq, c⟩
    exact this k (Nat.le_refl _) ⟨(t, n), hk, hv⟩
  have walk : ∀ (i : Nat) (p : T × Nat), tr[i]? = some p → Wk St E p.1 p.2 := fun i p hi' => by
    obtain ⟨_, g⟩ := hh 0 i (s, 0) p (Nat.zero_le _) h0 hi'
    exact ⟨s, i, hs, g.cast (Nat.sub_zero _) (Nat.sub_zero _)⟩
  let f : Nat → T := fun v => if hv : v ≤ n then Classical.choose (Classical.choose_spec (mid v hv)) else t
  let g : Nat → Nat := fun v => if hv : v ≤ n then Classical.choose (mid v hv) else 0
  have hf : ∀ v, v ≤ n → tr[g v]? = some (f v, v) := fun v hv => by
    simp only [f, g, dif_pos hv]
    exact Classical.choose_spec (Classical.choose_spec (mid v hv))
  obtain ⟨v, v', hlt, hle, he⟩ := pigeon f code (fun v hv => hc _ _ (walk _ _ (hf v hv))) (fun v v' hv hv' e => hi _ _ _ _ (walk _ _ (hf v hv)) (walk _ _ (hf v' hv')) e) hn
  have a := hf v (by omega)
  have b := hf v' hle
  have hg : g v ≤ g v' := by
    rcases Nat.le_total (g v) (g v') with d | d
    · exact d
    · have := (hh _ _ _ _ d b a).1
      simp only at this; omega
  obtain ⟨_, q⟩ := hh _ _ _ _ hg a b
  simp only at q
  rw [← he] at q
  exact ⟨f v, v, v' - v, _, walk _ _ a, q, by omega⟩
end
/-- How much faulty walks count: what it is, where it has a bound; else -1. -/
def DelayIs (W : T → Nat → Prop) (F : T → Prop) (d : Int) : Prop :=
  (d = -1 ∧ ∀ N, ∃ t n, N ≤ n ∧ F t ∧ W t n) ∨
  (0 ≤ d ∧ (∀ t (n : Nat), F t → W t n → (n : Int) < d) ∧ (d = 0 ∨ ∃ t n, F t ∧ W t n ∧ d = (n : Int) + 1))
end
end Go.Proofs.Ytfckamjbeplceaa
