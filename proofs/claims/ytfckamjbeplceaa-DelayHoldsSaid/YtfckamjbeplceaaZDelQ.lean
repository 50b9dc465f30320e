/-
  How long a fault may stay unfound: going on from what has grown, till nothing is left; in plain Lean. No program in sight.
-/
import Derived.Test.YtfckamjbeplceaaZDelP
namespace Go.Proofs.Ytfckamjbeplceaa
set_option linter.unusedSimpArgs false
set_option linter.unusedVariables false
set_option linter.unusedSectionVars false
open Go.RowKit

section
variable {T : Type}
/-- A place is come to, with so much: what is known, and what is still to be gone on from. -/
inductive Come : List (T × Nat) → List T → T → Nat → List (T × Nat) → List T → Prop
  | no {M : List (T × Nat)} {W : List T} {t : T} {n n' : Nat} : (t, n') ∈ M → n ≤ n' → Come M W t n M W
  | new {M : List (T × Nat)} {W : List T} {t : T} {n : Nat} : (∀ p ∈ M, p.1 ≠ t) → Come M W t n (M ++ [(t, n)]) (W ++ [t])
  | more {M : List (T × Nat)} {W : List T} {t : T} {n n' j : Nat} : M[j]? = some (t, n') → n' < n → Come M W t n (M.set j (t, n)) (W ++ [t])
inductive Comes : List (T × Nat) → List T → List (T × Nat) → List (T × Nat) → List T → Prop
  | nil {M : List (T × Nat)} {W : List T} : Comes M W [] M W
  | snoc {M M' M'' : List (T × Nat)} {W W' W'' : List T} {cs : List (T × Nat)} {t : T} {n : Nat} : Comes M W cs M' W' → Come M' W' t n M'' W'' → Comes M W (cs ++ [(t, n)]) M'' W''
theorem Comes.trans {M M' M'' : List (T × Nat)} {W W' W'' : List T} {cs ds : List (T × Nat)} (h : Comes M W cs M' W') (h' : Comes M' W' ds M'' W'') : Comes M W (cs ++ ds) M'' W'' := by
  induction h' with
  | nil => rw [List.append_nil]; exact h
  | snoc _ hc ih => rw [← List.append_assoc]; exact (ih h).snoc hc
/-- What all together count. -/
def tot (M : List (T × Nat)) : Nat := (M.map fun p => p.2 + 1).sum
theorem tot_snoc (M : List (T × Nat)) (t : T) (n : Nat) : tot (M ++ [(t, n)]) = tot M + (n + 1) := by unfold tot; simp
theorem tot_set : ∀ (M : List (T × Nat)) (j : Nat) (t t' : T) (n n' : Nat), M[j]? = some (t', n') → tot (M.set j (t, n)) + n' = tot M + n
  | [], j, _, _, _, _, h => by simp at h
  | p :: M, 0, t, t', n, n', h => by
      simp at h; subst h
      show tot ((t, n) :: M) + n' = tot ((t', n') :: M) + n
      unfold tot; simp only [List.map_cons, List.sum_cons]; omega
  | p :: M, j + 1, t, t', n, n', h => by
      have := tot_set M j t t' n n' (by simpa using h)
      show tot (p :: M.set j (t, n)) + n' = tot (p :: M) + n
      unfold tot at *; simp only [List.map_cons, List.sum_cons]; omega
theorem tot_le (M : List (T × Nat)) (c : Nat) (h : ∀ p ∈ M, p.2 + 1 ≤ c) : tot M ≤ M.length * c := by
  induction M with
  | nil => simp [tot]
  | cons p M ih =>
    have h1 := h p List.mem_cons_self
    have h2 := ih fun q hq => h q (List.mem_cons_of_mem _ hq)
    unfold tot at *
    simp only [List.map_cons, List.sum_cons, List.length_cons, Nat.succ_mul]; omega
/-- What is kept to, whatever is come to. -/
structure CGood (St : T → Prop) (E : T → T → Nat → Prop) (B : Nat) (M : List (T × Nat)) (W : List T) : Prop where
  keys : (M.map (·.1)).Nodup
  real : ∀ p ∈ M, Wk St E p.1 p.2
  bnd : ∀ p ∈ M, p.2 ≤ B
  work : ∀ x ∈ W, ∃ n, (x, n) ∈ M
variable {St : T → Prop} {E : T → T → Nat → Prop} {B : Nat} {M M' : List (T × Nat)} {W W' : List T}
theorem CGood.one (h : CGood St E B M W) {x : T} {n n' : Nat} (h1 : (x, n) ∈ M) (h2 : (x, n') ∈ M) : n = n' := by
  obtain ⟨i, hi, hix⟩ := List.getElem_of_mem h1
  obtain ⟨j, hj, hjx⟩ := List.getElem_of_mem h2
  have := (List.getElem?_inj (l := M.map (·.1)) (i := i) (j := j) (by simpa using hi) h.keys).1 (by
    rw [List.getElem?_map, List.getElem?_map, List.getElem?_eq_getElem hi, List.getElem?_eq_getElem hj, hix, hjx]; rfl)
  subst this
  rw [hix] at hjx
  exact congrArg (·.2) hjx
theorem Come.good {t : T} {n : Nat} (hc : Come M W t n M' W') (h : CGood St E B M W) (hw : Wk St E t n) (hn : n ≤ B) : CGood St E B M' W' := by
  cases hc with
  | no _ _ => exact h
  | new hnew =>
    refine ⟨?_, fun p hp => ?_, fun p hp => ?_, fun x hx => ?_⟩
    · rw [List.map_append, List.map_singleton, List.nodup_append]
      refine ⟨h.keys, by simp, fun a ha b hb => ?_⟩
      rw [List.mem_singleton.1 hb]
      obtain ⟨p, hp, rfl⟩ := List.mem_map.1 ha
      exact hnew p hp
    · rcases List.mem_append.1 hp with hp | hp
      · exact h.real p hp
      · rw [List.mem_singleton.1 hp]; exact hw
    · rcases List.mem_append.1 hp with hp | hp
      · exact h.bnd p hp
      · rw [List.mem_singleton.1 hp]; exact hn
    · rcases List.mem_append.1 hx with hx | hx
      · obtain ⟨k, hk⟩ := h.work x hx
        exact ⟨k, List.mem_append_left _ hk⟩
      · rw [List.mem_singleton.1 hx]; exact ⟨n, by simp⟩
  | @more n' j hj hlt =>
    have hjl : j < M.length := lt_of_some hj
    have hset : ∀ p ∈ M.set j (t, n), p ∈ M ∨ p = (t, n) := fun p hp => (List.mem_or_eq_of_mem_set hp)
    have hks : (M.set j (t, n)).map (·.1) = M.map (·.1) := by
      rw [List.map_set]
      refine List.ext_getElem? fun i => ?_
      rw [List.getElem?_set]
      split
      · rename_i e; subst e
        rw [List.getElem?_map, hj]; simp [hjl]
      · rfl
    refine ⟨by rw [hks]; exact h.keys, fun p hp => ?_, fun p hp => ?_, fun x hx => ?_⟩
    · rcases hset p hp with hp | rfl
      · exact h.real p hp
      · exact hw
    · rcases hset p hp with hp | rfl
      · exact h.bnd p hp
      · exact hn
    · have hx' : x = t ∨ x ∈ W := by
        rcases List.mem_append.1 hx with hx | hx
        · exact .inr hx
        · exact .inl (List.mem_singleton.1 hx)
      have key : ∀ y : T, (∃ k, (y, k) ∈ M) → ∃ k, (y, k) ∈ M.set j (t, n) := fun y ⟨k, hk⟩ => by
        have : y ∈ (M.set j (t, n)).map (·.1) := by rw [hks]; exact List.mem_map.2 ⟨_, hk, rfl⟩
        obtain ⟨p, hp, rfl⟩ := List.mem_map.1 this
        exact ⟨p.2, hp⟩
      rcases hx' with rfl | hx'
      · exact key x ⟨n', List.mem_of_getElem? hj⟩
      · exact key x (h.work x hx')
/-- What was known is known on, with as much; what counts more is to be gone on from. -/
theorem Come.mono {t : T} {n : Nat} (hc : Come M W t n M' W') (h : CGood St E B M W) : (∀ x k, (x, k) ∈ M → ∃ k', k ≤ k' ∧ (x, k') ∈ M') ∧ (∃ k', n ≤ k' ∧ (t, k') ∈ M') ∧ (∀ x ∈ W, x ∈ W') ∧ (∀ p ∈ M', p ∈ M ∨ p.1 ∈ W') := by
  cases hc with
  | @no n' hin hle => exact ⟨fun x k hk => ⟨k, Nat.le_refl _, hk⟩, ⟨n', hle, hin⟩, fun _ hx => hx, fun p hp => .inl hp⟩
  | new hnew =>
    refine ⟨fun x k hk => ⟨k, Nat.le_refl _, List.mem_append_left _ hk⟩, ⟨n, Nat.le_refl _, by simp⟩, fun x hx => List.mem_append_left _ hx, fun p hp => ?_⟩
    rcases List.mem_append.1 hp with hp | hp
    · exact .inl hp
    · rw [List.mem_singleton.1 hp]; exact .inr (by simp)
  | @more n' j hj hlt =>
    have hjl : j < M.length := lt_of_some hj
    have hin : (t, n) ∈ M.set j (t, n) := List.mem_iff_getElem?.2 ⟨j, by rw [List.getElem?_set_self hjl]⟩
    refine ⟨fun x k hk => ?_, ⟨n, Nat.le_refl _, hin⟩, fun x hx => List.mem_append_left _ hx, fun p hp => ?_⟩
    · obtain ⟨i, hi, hix⟩ := List.getElem_of_mem hk
      by_cases e : i = j
      · subst e
        rw [List.getElem?_eq_getElem hi, hix] at hj
        have e1 := congrArg Prod.fst (Option.some.inj hj)
        have e2 := congrArg Prod.snd (Option.some.inj hj)
        simp only at e1 e2
        subst e1
        exact ⟨n, by omega, hin⟩
      · exact ⟨k, Nat.le_refl _, List.mem_iff_getElem?.2 ⟨i, by rw [List.getElem?_set_ne (Ne.symm e), List.getElem?_eq_getElem hi, hix]⟩⟩
    · rcases List.mem_or_eq_of_mem_set hp with hp | rfl
      · exact .inl hp
      · exact .inr (by simp)
theorem Come.tot {t : T} {n : Nat} (hc : Come M W t n M' W') : tot M + W'.length ≤ tot M' + W.length ∧ tot M ≤ tot M' := by
  cases hc with
  | no _ _ => exact ⟨Nat.le_refl _, Nat.le_refl _⟩
  | new _ => rw [tot_snoc, List.length_append, List.length_singleton]; omega
  | @more n' j hj hlt =>
    have := tot_set M j t t n n' hj
    rw [List.length_append, List.length_singleton]; omega
/-- Going on from a place with so much, by all that it leads to. -/
theorem Comes.all {cs : List (T × Nat)} (hc : Comes M W cs M' W') (h : CGood St E B M W) (hcs : ∀ p ∈ cs, Wk St E p.1 p.2 ∧ p.2 ≤ B) :
    CGood St E B M' W' ∧ (∀ x k, (x, k) ∈ M → ∃ k', k ≤ k' ∧ (x, k') ∈ M') ∧ (∀ p ∈ cs, ∃ k', p.2 ≤ k' ∧ (p.1, k') ∈ M') ∧ (∀ x ∈ W, x ∈ W') ∧ (∀ p ∈ M', p ∈ M ∨ p.1 ∈ W') ∧ (Go.Proofs.Ytfckamjbeplceaa.tot M + W'.length ≤ Go.Proofs.Ytfckamjbeplceaa.tot M' + W.length) ∧ Go.Proofs.Ytfckamjbeplceaa.tot M ≤ Go.Proofs.Ytfckamjbeplceaa.tot M' := by
  induction hc with
  | nil => exact ⟨h, fun x k hk => ⟨k, Nat.le_refl _, hk⟩, fun p hp => absurd hp (by simp), fun _ hx => hx, fun p hp => .inl hp, Nat.le_refl _, Nat.le_refl _⟩
  | @snoc M1 M2 W W1 W2 cs t n _ hc ih =>
    obtain ⟨g1, m1, d1, w1, n1, t1, u1⟩ := ih h fun p hp => hcs p (List.mem_append_left _ hp)
    obtain ⟨hw, hb⟩ := hcs (t, n) (by simp)
    have g2 := hc.good g1 hw hb
    obtain ⟨m2, d2, w2, n2⟩ := hc.mono g1
    obtain ⟨t2, u2⟩ := hc.tot
    refine ⟨g2, fun x k hk => ?_, fun p hp => ?_, fun x hx => w2 x (w1 x hx), fun p hp => ?_, by omega, by omega⟩
    · obtain ⟨k', hk', hm⟩ := m1 x k hk
      obtain ⟨k'', hk'', hm'⟩ := m2 x k' hm
      exact ⟨k'', by omega, hm'⟩
    · rcases List.mem_append.1 hp with hp | hp
      · obtain ⟨k', hk', hm⟩ := d1 p hp
        obtain ⟨k'', hk'', hm'⟩ := m2 _ _ hm
        exact ⟨k'', by omega, hm'⟩
      · rw [List.mem_singleton.1 hp]; exact d2
    · rcases n2 p hp with hp | hp
      · rcases n1 p hp with hp | hp
        · exact .inl hp
        · exact .inr (w2 _ hp)
      · exact .inr hp
/-- Between two rounds: all that is known is gone on from, or still to be. -/
structure DInv (St : T → Prop) (E : T → T → Nat → Prop) (F : T → Prop) (B : Nat) (M : List (T × Nat)) (W : List T) (most : Int) : Prop where
  good : CGood St E B M W
  start : ∀ x, St x → ∃ n, (x, n) ∈ M
  edge : ∀ p ∈ M, p.1 ∈ W ∨ ∀ y c, E p.1 y c → ∃ n, p.2 + c ≤ n ∧ (y, n) ∈ M
  mst : ∀ p ∈ M, F p.1 → p.1 ∈ W ∨ (p.2 : Int) ≤ most
  one : most = -1 ∨ ∃ t n, F t ∧ Wk St E t n ∧ most = (n : Int)
/-- One more is gone on from. -/
theorem DInv.next {F : T → Prop} {most most' : Int} {x : T} {n : Nat} {cs : List (T × Nat)} (h : DInv St E F B M (W ++ [x]) most) (hx : (x, n) ∈ M) (hm : (F x ∧ most' = max most n) ∨ (¬ F x ∧ most' = most))
    (hc : Comes M W cs M' W') (hcs : ∀ u k, (u, k) ∈ cs ↔ ∃ c, E x u c ∧ k = n + c) (hb : ∀ u c, E x u c → n + c ≤ B) : DInv St E F B M' W' most' := by
  have g0 : CGood St E B M W := ⟨h.good.keys, h.good.real, h.good.bnd, fun y hy => h.good.work y (List.mem_append_left _ hy)⟩
  have hw := h.good.real _ hx
  have hle : most ≤ most' := by rcases hm with ⟨_, rfl⟩ | ⟨_, rfl⟩ <;> omega
  obtain ⟨g, m, d, w, nw, _, _⟩ := hc.all g0 fun p hp => by
    obtain ⟨c, he, hk⟩ := (hcs p.1 p.2).1 hp
    rw [hk]
    exact ⟨hw.step he, hb _ _ he⟩
  have split : ∀ p ∈ M, p.1 ∈ W ++ [x] → p.1 ∈ W ∨ p = (x, n) := fun p hp hpw => by
    rcases List.mem_append.1 hpw with hpw | hpw
    · exact .inl hpw
    · have e := List.mem_singleton.1 hpw
      obtain ⟨a, b⟩ := p
      simp only at e
      subst e
      rw [h.good.one hp hx]
      exact .inr rfl
  refine ⟨g, fun y hy => ?_, fun p hp => ?_, fun p hp hF => ?_, ?_⟩
  · obtain ⟨k, hk⟩ := h.start y hy
    obtain ⟨k', _, hk'⟩ := m y k hk
    exact ⟨k', hk'⟩
  · rcases nw p hp with hp | hp
    · have done : (∀ y c, E p.1 y c → ∃ k, p.2 + c ≤ k ∧ (y, k) ∈ M) → ∀ y c, E p.1 y c → ∃ k, p.2 + c ≤ k ∧ (y, k) ∈ M' := fun hh y c he => by
        obtain ⟨k, hk, hk'⟩ := hh y c he
        obtain ⟨k2, h2, h3⟩ := m _ _ hk'
        exact ⟨k2, by omega, h3⟩
      rcases h.edge p hp with h1 | h1
      · rcases split p hp h1 with h1 | rfl
        · exact .inl (w _ h1)
        · refine .inr fun y c he => ?_
          obtain ⟨k', hk', hk2⟩ := d (y, n + c) ((hcs y (n + c)).2 ⟨c, he, rfl⟩)
          exact ⟨k', hk', hk2⟩
      · exact .inr (done h1)
    · exact .inl hp
  · rcases nw p hp with hp | hp
    · rcases h.mst p hp hF with h1 | h1
      · rcases split p hp h1 with h1 | rfl
        · exact .inl (w _ h1)
        · rcases hm with ⟨_, rfl⟩ | ⟨hn, _⟩
          · exact .inr (by simp only; omega)
          · exact absurd hF hn
      · exact .inr (by omega)
    · exact .inl hp
  · rcases hm with ⟨hF, rfl⟩ | ⟨_, rfl⟩
    · rcases Int.le_total most n with h1 | h1
      · rw [Int.max_eq_right h1]; exact .inr ⟨x, n, hF, hw, rfl⟩
      · rw [Int.max_eq_left h1]; exact h.one
    · exact h.one
theorem DInv.done {F : T → Prop} {most : Int} (h : DInv St E F B M [] most) : DelayIs (Wk St E) F (most + 1) := by
  have all : ∀ t n, Wk St E t n → ∃ k, n ≤ k ∧ (t, k) ∈ M := fun t n hw => by
    obtain ⟨s, k, hs, hp⟩ := hw
    induction hp with
    | nil =>
      obtain ⟨k, hk⟩ := h.start s hs
      exact ⟨k, Nat.zero_le _, hk⟩
    | snoc _ he ih =>
      obtain ⟨k1, h1, h2⟩ := ih
      rcases h.edge _ h2 with h3 | h3
      · exact absurd h3 (by simp)
      · obtain ⟨k2, h4, h5⟩ := h3 _ _ he
        simp only at h4
        exact ⟨k2, by omega, h5⟩
  have h0 : -1 ≤ most := by
    rcases h.one with h1 | ⟨_, n, _, _, h1⟩ <;> omega
  refine .inr ⟨by omega, fun t n hF hw => ?_, ?_⟩
  · obtain ⟨k, h1, h2⟩ := all t n hw
    rcases h.mst _ h2 hF with h3 | h3
    · exact absurd h3 (by simp)
    · simp only at h3; omega
  · rcases h.one with h1 | ⟨t, n, hF, hw, h1⟩
    · exact .inl (by omega)
    · exact .inr ⟨t, n, hF, hw, by omega⟩
/-- More than there are places: it goes round. -/
theorem delay_round {F : T → Prop} (code : T → Nat) (N : Nat) (hc : ∀ t n, Wk St E t n → code t < N) (hi : ∀ t u n m, Wk St E t n → Wk St E u m → code t = code u → t = u) (hone : ∀ t u c, E t u c → c ≤ 1)
    (hF : ∀ u c k, Pth E u u c k → 0 < c → F u) {t : T} {n : Nat} (h : Wk St E t n) (hn : N ≤ n) : DelayIs (Wk St E) F (-1) := by
  obtain ⟨u, m, c, k, h1, h2, h3⟩ := Wk.round code N hc hi hone h hn
  refine .inl ⟨rfl, fun K => ?_⟩
  obtain ⟨m', hm', hw⟩ := h1.pump h2 h3 K
  exact ⟨u, m', hm', hF u c k h2 h3, hw⟩
theorem DInv.first {F : T → Prop} {cs : List (T × Nat)} (hc : Comes [] [] cs M W) (hcs : ∀ u k, (u, k) ∈ cs ↔ St u ∧ k = 0) : DInv St E F B M W (-1) := by
  obtain ⟨g, _, d, _, nw, _, _⟩ := hc.all (St := St) (E := E) (B := B) ⟨by simp, fun p hp => absurd hp (by simp), fun p hp => absurd hp (by simp), fun x hx => absurd hx (by simp)⟩ fun p hp => by
    obtain ⟨h1, h2⟩ := (hcs p.1 p.2).1 hp
    rw [h2]; exact ⟨Wk.start h1, Nat.zero_le _⟩
  have inW : ∀ p ∈ M, p.1 ∈ W := fun p hp => (nw p hp).elim (fun h => absurd h (by simp)) id
  exact ⟨g, fun x hx => by
    obtain ⟨k, _, hk⟩ := d (x, 0) ((hcs x 0).2 ⟨hx, rfl⟩)
    exact ⟨k, hk⟩, fun p hp => .inl (inW p hp), fun p hp _ => .inl (inW p hp), .inl rfl⟩
end
end Go.Proofs.Ytfckamjbeplceaa
