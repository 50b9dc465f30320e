/-
  Going through what steps lead to, the lesser words ahead: in plain Lean. No program in sight.
  Words in order, the shorter ahead: what is gone through comes in that order, and nothing is left out. In plain Lean. No program in sight.
-/
import Derived.Test.YtpinjiikiaakaaaZRow
namespace Go.Proofs.Ytpinjiikiaakaaa
set_option linter.unusedSimpArgs false
set_option linter.unusedVariables false
set_option linter.unusedSectionVars false
section
open Go.RowKit

theorem nodup_nat_len : ∀ (N : Nat) (l : List Nat), l.Nodup → (∀ x ∈ l, x < N) → l.length ≤ N
  | 0, l, _, h => by
    cases l with
    | nil => simp
    | cons a l => exact absurd (h a (by simp)) (by omega)
  | N + 1, l, hn, h => by
    have h1 := nodup_nat_len N (l.erase N) (hn.erase N) fun x hx => by
      have := h x (List.mem_of_mem_erase hx)
      have hne : x ≠ N := fun e => by
        rw [e] at hx
        exact absurd hx (by rw [List.Nodup.mem_erase_iff hn]; simp)
      omega
    have := List.length_erase (a := N) (l := l)
    split at this <;> omega

section
variable {S : Type} [DecidableEq S] (step : S → Int → S) (es : List Int)
/-- One step more, from the place k on. -/
def bAdd (k : Nat) (l : List (S × List Int)) (e : Int) : List (S × List Int) :=
  match l[k]? with
  | some p => if step p.1 e ∈ l.map (·.1) then l else l ++ [(step p.1 e, p.2 ++ [e])]
  | none => l
variable {step es}
theorem bAdd_cases (k : Nat) (l : List (S × List Int)) (e : Int) : bAdd step k l e = l ∨ ∃ p, l[k]? = some p ∧ step p.1 e ∉ l.map (·.1) ∧ bAdd step k l e = l ++ [(step p.1 e, p.2 ++ [e])] := by
  unfold bAdd
  cases hk : l[k]? with
  | none => exact .inl rfl
  | some p =>
    simp only
    by_cases h : step p.1 e ∈ l.map (·.1)
    · rw [if_pos h]; exact .inl rfl
    · rw [if_neg h]; exact .inr ⟨p, rfl, h, rfl⟩
/-- What the places keep to. -/
structure BGood (step : S → Int → S) (es : List Int) (U : S → Prop) (l : List (S × List Int)) : Prop where
  nodup : (l.map (·.1)).Nodup
  univ : ∀ p ∈ l, U p.1
theorem BGood.add {U : S → Prop} (hU : ∀ s, U s → ∀ e ∈ es, U (step s e)) {k : Nat} {l : List (S × List Int)} (h : BGood step es U l) {e : Int} (he : e ∈ es) : BGood step es U (bAdd step k l e) := by
  rcases bAdd_cases (step := step) k l e with h1 | ⟨p, hp, hn, h1⟩
  · rw [h1]; exact h
  · rw [h1]
    refine ⟨?_, fun q hq => ?_⟩
    · rw [List.map_append, List.map_singleton, List.nodup_append]
      refine ⟨h.nodup, by simp, fun a ha b hb => ?_⟩
      rw [List.mem_singleton.1 hb]
      exact fun hab => hn (by rw [← show a = step p.1 e from hab]; exact ha)
    · rcases List.mem_append.1 hq with hq | hq
      · exact h.univ q hq
      · rw [List.mem_singleton.1 hq]
        exact hU _ (h.univ p (List.mem_of_getElem? hp)) e he
/-- There are no more places than codes. -/
theorem BGood.len {U : S → Prop} {l : List (S × List Int)} (h : BGood step es U l) (code : S → Nat) (N : Nat) (hc : ∀ s, U s → code s < N) (hi : ∀ s t, U s → U t → code s = code t → s = t) : l.length ≤ N := by
  have h1 : ((l.map (·.1)).map code).Nodup := by
    have := h.nodup
    rw [List.nodup_iff_pairwise_ne] at this ⊢
    rw [List.pairwise_map]
    refine this.imp_of_mem fun {a b} ha hb hab hcode => hab ?_
    obtain ⟨p, hp, rfl⟩ := List.mem_map.1 ha
    obtain ⟨q, hq, rfl⟩ := List.mem_map.1 hb
    exact hi _ _ (h.univ p hp) (h.univ q hq) hcode
  have := nodup_nat_len N _ h1 fun x hx => by
    obtain ⟨s, hs, rfl⟩ := List.mem_map.1 hx
    obtain ⟨p, hp, rfl⟩ := List.mem_map.1 hs
    exact hc _ (h.univ p hp)
  simpa using this
end
end

section
open Go.RowKit

/-- Lesser: shorter, or as long and lesser where they differ first. -/
def Shl (u v : List Int) : Prop := u.length < v.length ∨ (u.length = v.length ∧ ∃ i, i < u.length ∧ (∀ j, j < i → u.getD j 0 = v.getD j 0) ∧ u.getD i 0 < v.getD i 0)
noncomputable instance (u v : List Int) : Decidable (Shl u v) := Classical.propDecidable _
theorem Shl.irrefl (u : List Int) : ¬ Shl u u := by
  rintro (h | ⟨_, i, _, _, h⟩) <;> omega
theorem Shl.trans {u v x : List Int} (h : Shl u v) (h' : Shl v x) : Shl u x := by
  rcases h with h | ⟨hl, i, hi, he, h⟩ <;> rcases h' with h' | ⟨hl', i', hi', he', h'⟩
  · exact .inl (by omega)
  · exact .inl (by omega)
  · exact .inl (by omega)
  · refine .inr ⟨by omega, ?_⟩
    rcases Nat.lt_trichotomy i i' with c | c | c
    · exact ⟨i, hi, fun j hj => (he j hj).trans (he' j (by omega)), by rw [← he' i c]; exact h⟩
    · subst c
      exact ⟨i, hi, fun j hj => (he j hj).trans (he' j hj), by omega⟩
    · exact ⟨i', by omega, fun j hj => (he j (by omega)).trans (he' j hj), by rw [he i' c]; exact h'⟩
theorem getD_snoc_lt (u : List Int) (e : Int) {j : Nat} (h : j < u.length) : (u ++ [e]).getD j 0 = u.getD j 0 := by
  rw [List.getD_eq_getElem?_getD, List.getD_eq_getElem?_getD, List.getElem?_append_left h]
theorem getD_snoc_len (u : List Int) (e : Int) : (u ++ [e]).getD u.length 0 = e := by simp
theorem Shl.snoc {u v : List Int} (h : Shl u v) (e e' : Int) : Shl (u ++ [e]) (v ++ [e']) := by
  rcases h with h | ⟨hl, i, hi, he, h⟩
  · exact .inl (by simp; omega)
  · refine .inr ⟨by simp; omega, i, by simp; omega, fun j hj => ?_, ?_⟩
    · rw [getD_snoc_lt _ _ (by omega), getD_snoc_lt _ _ (by omega)]; exact he j hj
    · rw [getD_snoc_lt _ _ (by omega), getD_snoc_lt _ _ (by omega)]; exact h
theorem Shl.snoc_lt (u : List Int) {e e' : Int} (h : e < e') : Shl (u ++ [e]) (u ++ [e']) := by
  refine .inr ⟨by simp, u.length, by simp, fun j hj => ?_, ?_⟩
  · rw [getD_snoc_lt _ _ hj, getD_snoc_lt _ _ hj]
  · rw [getD_snoc_len, getD_snoc_len]; exact h
theorem Shl.nil (v : List Int) (e : Int) : Shl [] (v ++ [e]) := .inl (by simp)
/-- No greater. -/
def Shle (u v : List Int) : Prop := u = v ∨ Shl u v
theorem Shle.trans {u v x : List Int} (h : Shle u v) (h' : Shle v x) : Shle u x := by
  rcases h with rfl | h
  · exact h'
  · rcases h' with rfl | h'
    · exact .inr h
    · exact .inr (h.trans h')
theorem Shle.not {u v : List Int} (h : Shle u v) : ¬ Shl v u := fun h' => by
  rcases h with rfl | h
  · exact Shl.irrefl _ h'
  · exact Shl.irrefl _ (h.trans h')
theorem Shle.snoc {u v : List Int} (h : Shle u v) (e : Int) : Shle (u ++ [e]) (v ++ [e]) := by
  rcases h with rfl | h
  · exact .inl rfl
  · exact .inr (h.snoc e e)

section
variable {S : Type} [DecidableEq S] {step : S → Int → S} {es : List Int}
/-- What the places are, in what order: the next one to be tried is p.2 ++ [e], from place k. -/
structure Ordered (step : S → Int → S) (first : S) (es : List Int) (k : Nat) (m : List Int) (l : List (S × List Int)) : Prop where
  run : ∀ p ∈ l, p.1 = p.2.foldl step first ∧ ∀ e ∈ p.2, e ∈ es
  sorted : l.Pairwise fun p q => Shl p.2 q.2
  made : ∀ p ∈ l, p.2 = [] ∨ ∃ i q e, l[i]? = some q ∧ p.2 = q.2 ++ [e] ∧ e ∈ es ∧ (i < k ∨ (i = k ∧ e ∈ m))
theorem Ordered.get {first : S} {k : Nat} {m : List Int} {l : List (S × List Int)} (h : Ordered step first es k m l) {i j : Nat} {p q : S × List Int} (hi : l[i]? = some p) (hj : l[j]? = some q) (hij : i < j) : Shl p.2 q.2 := by
  have li : i < l.length := by rcases Nat.lt_or_ge i l.length with c | c; exact c; rw [List.getElem?_eq_none c] at hi; cases hi
  have lj : j < l.length := by rcases Nat.lt_or_ge j l.length with c | c; exact c; rw [List.getElem?_eq_none c] at hj; cases hj
  have := List.pairwise_iff_getElem.1 h.sorted i j li lj hij
  rw [List.getElem?_eq_getElem li] at hi; rw [List.getElem?_eq_getElem lj] at hj
  rw [← Option.some.inj hi, ← Option.some.inj hj]; exact this
/-- All that there is comes ahead of the next one. -/
theorem Ordered.ahead {first : S} {k : Nat} {m : List Int} {l : List (S × List Int)} (h : Ordered step first es k m l) {q : S × List Int} {e : Int} (hq : l[k]? = some q) (hm : ∀ x ∈ m, x < e) {p : S × List Int} (hp : p ∈ l) : Shl p.2 (q.2 ++ [e]) := by
  rcases h.made p hp with c | ⟨i, r, x, hr, hx, _, hi | ⟨rfl, hxm⟩⟩
  · rw [c]; exact Shl.nil _ _
  · rw [hx]; exact (h.get hr hq hi).snoc _ _
  · rw [hr] at hq
    rw [hx, Option.some.inj hq]; exact Shl.snoc_lt _ (hm x hxm)
theorem Ordered.grow {first : S} {k : Nat} {m m' : List Int} {l : List (S × List Int)} (h : Ordered step first es k m l) (hm : ∀ x ∈ m, x ∈ m') : Ordered step first es k m' l :=
  ⟨h.run, h.sorted, fun p hp => (h.made p hp).imp id fun ⟨i, q, e, h1, h2, h3, h4⟩ => ⟨i, q, e, h1, h2, h3, h4.imp id fun ⟨a, b⟩ => ⟨a, hm _ b⟩⟩⟩
theorem Ordered.add {first : S} {k : Nat} {m : List Int} {l : List (S × List Int)} (h : Ordered step first es k m l) {e : Int} (he : e ∈ es) (hm : ∀ x ∈ m, x < e) : Ordered step first es k (m ++ [e]) (bAdd step k l e) := by
  rcases bAdd_cases (step := step) k l e with h1 | ⟨q, hq, _, h1⟩
  · rw [h1]; exact h.grow fun x hx => List.mem_append_left _ hx
  · rw [h1]
    have hqm : q ∈ l := List.mem_of_getElem? hq
    have up : ∀ {i : Nat} {r : S × List Int}, l[i]? = some r → (l ++ [(step q.1 e, q.2 ++ [e])])[i]? = some r := fun {i r} hr => by
      rw [List.getElem?_append_left (by rcases Nat.lt_or_ge i l.length with c | c; exact c; rw [List.getElem?_eq_none c] at hr; cases hr)]
      exact hr
    refine ⟨fun p hp => ?_, ?_, fun p hp => ?_⟩
    · rcases List.mem_append.1 hp with hp | hp
      · exact h.run p hp
      · rw [List.mem_singleton.1 hp]
        refine ⟨by rw [List.foldl_append, ← (h.run q hqm).1]; rfl, fun x hx => ?_⟩
        rcases List.mem_append.1 hx with hx | hx
        · exact (h.run q hqm).2 x hx
        · rw [List.mem_singleton.1 hx]; exact he
    · rw [List.pairwise_append]
      refine ⟨h.sorted, List.pairwise_singleton _ _, fun a ha b hb => ?_⟩
      rw [List.mem_singleton.1 hb]
      exact h.ahead hq hm ha
    · rcases List.mem_append.1 hp with hp | hp
      · rcases h.made p hp with c | ⟨i, r, x, hr, hx, hxe, hi⟩
        · exact .inl c
        · exact .inr ⟨i, r, x, up hr, hx, hxe, hi.imp id fun ⟨a, b⟩ => ⟨a, List.mem_append_left _ b⟩⟩
      · rw [List.mem_singleton.1 hp]
        exact .inr ⟨k, q, e, up hq, rfl, he, .inr ⟨rfl, by simp⟩⟩
theorem Ordered.next {first : S} {k : Nat} {m : List Int} {l : List (S × List Int)} (h : Ordered step first es k m l) : Ordered step first es (k + 1) [] l :=
  ⟨h.run, h.sorted, fun p hp => (h.made p hp).imp id fun ⟨i, q, e, h1, h2, h3, h4⟩ => ⟨i, q, e, h1, h2, h3, .inl (by omega)⟩⟩
end
end
end Go.Proofs.Ytpinjiikiaakaaa
