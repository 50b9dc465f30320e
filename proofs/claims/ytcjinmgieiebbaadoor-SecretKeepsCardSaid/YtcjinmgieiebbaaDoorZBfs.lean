/-
  Going through what steps lead to, the lesser words ahead: in plain Lean. No program in sight.
  Words in order, the shorter ahead: what is gone through comes in that order, and nothing is left out. In plain Lean. No program in sight.
-/
import Derived.Test.YtcjinmgieiebbaaDoorZRow
namespace Go.Proofs.YtcjinmgieiebbaaDoor
set_option linter.unusedSimpArgs false
set_option linter.unusedVariables false
set_option linter.unusedSectionVars false
section
open Go.RowKit

theorem nodup_nat_len : ∀ (N : Nat) (l : List Nat), l.Nodup → (∀ x ∈ l, x < N) → l.length ≤ N
  | 0, l, _, h => by
    cases l with
    | nil => simp
    | cons a l => exact absurd (h a (by simp)) (by omega)
  | N + 1, l, hn, h => by
    have h1 := nodup_nat_len N (l.erase N) (hn.erase N) fun x hx => by
      have := h x (List.mem_of_mem_erase hx)
      have hne : x ≠ N := fun e => by
        rw [e] at hx
        exact absurd hx (by rw [List.Nodup.mem_erase_iff hn]; simp)
      omega
    have := List.length_erase (a := N) (l := l)
    split at this <;> omega

section
variable {S : Type} [DecidableEq S] (step : S → Int → S) (es : List Int)
/-- One step more, from the place k on. -/
def bAdd (k : Nat) (l : List (S × List Int)) (e : Int) : List (S × List Int) :=
  match l[k]? with
  | some p => if step p.1 e ∈ l.map (·.1) then l else l ++ [(step p.1 e, p.2 ++ [e])]
  | none => l
def bRound (k : Nat) (l : List (S × List Int)) : List (S × List Int) := es.foldl (bAdd step k) l
/-- All places, gone on from the first k of them. -/
def bIter (first : S) : Nat → List (S × List Int)
  | 0 => [(first, [])]
  | k + 1 => bRound step es k (bIter first k)
/-- .. and by the first j events from the next one. -/
def bPart (first : S) (k j : Nat) : List (S × List Int) := (es.take j).foldl (bAdd step k) (bIter step es first k)
theorem bPart_succ (first : S) (k j : Nat) (h : j < es.length) : bPart step es first k (j + 1) = bAdd step k (bPart step es first k j) (es.getD j 0) := by
  unfold bPart
  rw [take_snoc es 0 j h, List.foldl_append]
  rfl
theorem bPart_all (first : S) (k : Nat) : bPart step es first k es.length = bIter step es first (k + 1) := by
  unfold bPart
  rw [List.take_length]
  rfl
variable {step es}
theorem bAdd_cases (k : Nat) (l : List (S × List Int)) (e : Int) : bAdd step k l e = l ∨ ∃ p, l[k]? = some p ∧ step p.1 e ∉ l.map (·.1) ∧ bAdd step k l e = l ++ [(step p.1 e, p.2 ++ [e])] := by
  unfold bAdd
  cases hk : l[k]? with
  | none => exact .inl rfl
  | some p =>
    simp only
    by_cases h : step p.1 e ∈ l.map (·.1)
    · rw [if_pos h]; exact .inl rfl
    · rw [if_neg h]; exact .inr ⟨p, rfl, h, rfl⟩
theorem bAdd_old {k : Nat} {l : List (S × List Int)} {e : Int} {p : S × List Int} (hk : l[k]? = some p) (h : step p.1 e ∈ l.map (·.1)) : bAdd step k l e = l := by
  unfold bAdd
  rw [hk]
  simp only
  rw [if_pos h]
theorem bAdd_new {k : Nat} {l : List (S × List Int)} {e : Int} {p : S × List Int} (hk : l[k]? = some p) (h : step p.1 e ∉ l.map (·.1)) : bAdd step k l e = l ++ [(step p.1 e, p.2 ++ [e])] := by
  unfold bAdd
  rw [hk]
  simp only
  rw [if_neg h]
theorem bAdd_prefix (k : Nat) (l : List (S × List Int)) (e : Int) : l <+: bAdd step k l e := by
  rcases bAdd_cases (step := step) k l e with h | ⟨p, _, _, h⟩
  · rw [h]; exact List.prefix_refl _
  · rw [h]; exact List.prefix_append _ _
theorem foldl_prefix (k : Nat) : ∀ (es : List Int) (l : List (S × List Int)), l <+: es.foldl (bAdd step k) l
  | [], l => List.prefix_refl _
  | e :: es, l => (bAdd_prefix k l e).trans (foldl_prefix k es _)
theorem bPart_prefix (first : S) (k j : Nat) : bIter step es first k <+: bPart step es first k j := foldl_prefix k _ _
theorem bIter_succ_prefix (first : S) (k : Nat) : bIter step es first k <+: bIter step es first (k + 1) := foldl_prefix k _ _
theorem bIter_prefix (first : S) {k : Nat} : ∀ {n : Nat}, k ≤ n → bIter step es first k <+: bIter step es first n
  | 0, h => by rw [Nat.le_zero.1 h]; exact List.prefix_refl _
  | n + 1, h => by
    rcases Nat.lt_or_ge n k with h1 | h1
    · rw [show k = n + 1 by omega]; exact List.prefix_refl _
    · exact (bIter_prefix first h1).trans (bIter_succ_prefix first n)
theorem prefix_getElem? {α : Type} {l m : List α} (h : l <+: m) {i : Nat} (hi : i < l.length) : m[i]? = l[i]? := by
  obtain ⟨t, rfl⟩ := h
  exact List.getElem?_append_left hi
theorem bIter_pos (first : S) (k : Nat) : 0 < (bIter step es first k).length := by
  have := (bIter_prefix (step := step) (es := es) first (Nat.zero_le k)).length_le
  simp [bIter] at this; omega
/-- What the places keep to. -/
structure BGood (step : S → Int → S) (es : List Int) (U : S → Prop) (l : List (S × List Int)) : Prop where
  nodup : (l.map (·.1)).Nodup
  univ : ∀ p ∈ l, U p.1
theorem BGood.add {U : S → Prop} (hU : ∀ s, U s → ∀ e ∈ es, U (step s e)) {k : Nat} {l : List (S × List Int)} (h : BGood step es U l) {e : Int} (he : e ∈ es) : BGood step es U (bAdd step k l e) := by
  rcases bAdd_cases (step := step) k l e with h1 | ⟨p, hp, hn, h1⟩
  · rw [h1]; exact h
  · rw [h1]
    refine ⟨?_, fun q hq => ?_⟩
    · rw [List.map_append, List.map_singleton, List.nodup_append]
      refine ⟨h.nodup, by simp, fun a ha b hb => ?_⟩
      rw [List.mem_singleton.1 hb]
      exact fun hab => hn (by rw [← show a = step p.1 e from hab]; exact ha)
    · rcases List.mem_append.1 hq with hq | hq
      · exact h.univ q hq
      · rw [List.mem_singleton.1 hq]
        exact hU _ (h.univ p (List.mem_of_getElem? hp)) e he
theorem BGood.fold {U : S → Prop} (hU : ∀ s, U s → ∀ e ∈ es, U (step s e)) {k : Nat} : ∀ (m : List Int) (l : List (S × List Int)), (∀ e ∈ m, e ∈ es) → BGood step es U l → BGood step es U (m.foldl (bAdd step k) l)
  | [], _, _, h => h
  | e :: m, _, hm, h => BGood.fold hU m _ (fun e' he' => hm e' (List.mem_cons_of_mem _ he')) (h.add hU (hm e (List.mem_cons_self ..)))
theorem bIter_good {U : S → Prop} (hU : ∀ s, U s → ∀ e ∈ es, U (step s e)) {first : S} (h0 : U first) : ∀ k, BGood step es U (bIter step es first k)
  | 0 => ⟨by simp [bIter], by simp [bIter, h0]⟩
  | k + 1 => BGood.fold hU es _ (fun _ h => h) (bIter_good hU h0 k)
theorem bPart_good {U : S → Prop} (hU : ∀ s, U s → ∀ e ∈ es, U (step s e)) {first : S} (h0 : U first) (k j : Nat) : BGood step es U (bPart step es first k j) :=
  BGood.fold hU _ _ (fun _ h => List.mem_of_mem_take h) (bIter_good hU h0 k)
/-- There are no more places than codes. -/
theorem BGood.len {U : S → Prop} {l : List (S × List Int)} (h : BGood step es U l) (code : S → Nat) (N : Nat) (hc : ∀ s, U s → code s < N) (hi : ∀ s t, U s → U t → code s = code t → s = t) : l.length ≤ N := by
  have h1 : ((l.map (·.1)).map code).Nodup := by
    have := h.nodup
    rw [List.nodup_iff_pairwise_ne] at this ⊢
    rw [List.pairwise_map]
    refine this.imp_of_mem fun {a b} ha hb hab hcode => hab ?_
    obtain ⟨p, hp, rfl⟩ := List.mem_map.1 ha
    obtain ⟨q, hq, rfl⟩ := List.mem_map.1 hb
    exact hi _ _ (h.univ p hp) (h.univ q hq) hcode
  have := nodup_nat_len N _ h1 fun x hx => by
    obtain ⟨s, hs, rfl⟩ := List.mem_map.1 hx
    obtain ⟨p, hp, rfl⟩ := List.mem_map.1 hs
    exact hc _ (h.univ p hp)
  simpa using this
/-- A word is no longer than its place's number. -/
theorem bAdd_word {k : Nat} {l : List (S × List Int)} {e : Int} (h : ∀ (j : Nat) (p : S × List Int), l[j]? = some p → p.2.length ≤ j) : ∀ (j : Nat) (p : S × List Int), (bAdd step k l e)[j]? = some p → p.2.length ≤ j := by
  intro j p hp
  rcases bAdd_cases (step := step) k l e with h1 | ⟨q, hq, _, h1⟩
  · rw [h1] at hp; exact h j p hp
  · rw [h1] at hp
    by_cases hj : j < l.length
    · rw [List.getElem?_append_left hj] at hp; exact h j p hp
    · rw [List.getElem?_append_right (by omega)] at hp
      have hk : k < l.length := by
        rcases Nat.lt_or_ge k l.length with h2 | h2
        · exact h2
        · rw [List.getElem?_eq_none h2] at hq; cases hq
      have hkq := h k q hq
      match hjl : j - l.length with
      | 0 => rw [hjl] at hp; simp at hp; subst hp; simp; omega
      | m + 1 => rw [hjl] at hp; simp at hp
theorem fold_word {k : Nat} : ∀ (m : List Int) (l : List (S × List Int)), (∀ (j : Nat) (p : S × List Int), l[j]? = some p → p.2.length ≤ j) → ∀ (j : Nat) (p : S × List Int), (m.foldl (bAdd step k) l)[j]? = some p → p.2.length ≤ j
  | [], _, h => h
  | e :: m, _, h => fold_word m _ (bAdd_word h)
theorem bIter_word (first : S) : ∀ (k j : Nat) (p : S × List Int), (bIter step es first k)[j]? = some p → p.2.length ≤ j
  | 0 => fun j p hp => by
    match j with
    | 0 => simp [bIter] at hp; subst hp; simp
    | j + 1 => simp [bIter] at hp
  | k + 1 => fold_word es _ (bIter_word first k)
theorem bPart_word (first : S) (k i j : Nat) (p : S × List Int) (hp : (bPart step es first k i)[j]? = some p) : p.2.length ≤ j := fold_word _ _ (bIter_word first k) j p hp
/-- The end: at the first place that there is none behind. -/
theorem bIter_stop {first : S} {k : Nat} (h : (bIter step es first k).length ≤ k) : ∀ n, k ≤ n → bIter step es first n = bIter step es first k
  | 0, hn => by rw [Nat.le_zero.1 hn]
  | n + 1, hn => by
    rcases Nat.lt_or_ge n k with h1 | h1
    · rw [show k = n + 1 by omega]
    · have ih := bIter_stop h n h1
      show bRound step es n (bIter step es first n) = _
      rw [ih]
      have hnone : (bIter step es first k)[n]? = none := List.getElem?_eq_none (by omega)
      generalize bIter step es first k = l at *
      unfold bRound
      generalize es = m
      induction m with
      | nil => rfl
      | cons e m ih2 =>
        rw [List.foldl_cons]
        have : bAdd step n l e = l := by unfold bAdd; rw [hnone]
        rw [this]; exact ih2
end
end

section
open Go.RowKit

/-- Lesser: shorter, or as long and lesser where they differ first. -/
def Shl (u v : List Int) : Prop := u.length < v.length ∨ (u.length = v.length ∧ ∃ i, i < u.length ∧ (∀ j, j < i → u.getD j 0 = v.getD j 0) ∧ u.getD i 0 < v.getD i 0)
noncomputable instance (u v : List Int) : Decidable (Shl u v) := Classical.propDecidable _
theorem Shl.irrefl (u : List Int) : ¬ Shl u u := by
  rintro (h | ⟨_, i, _, _, h⟩) <;> omega
theorem Shl.trans {u v x : List Int} (h : Shl u v) (h' : Shl v x) : Shl u x := by
  rcases h with h | ⟨hl, i, hi, he, h⟩ <;> rcases h' with h' | ⟨hl', i', hi', he', h'⟩
  · exact .inl (by omega)
  · exact .inl (by omega)
  · exact .inl (by omega)
  · refine .inr ⟨by omega, ?_⟩
    rcases Nat.lt_trichotomy i i' with c | c | c
    · exact ⟨i, hi, fun j hj => (he j hj).trans (he' j (by omega)), by rw [← he' i c]; exact h⟩
    · subst c
      exact ⟨i, hi, fun j hj => (he j hj).trans (he' j hj), by omega⟩
    · exact ⟨i', by omega, fun j hj => (he j (by omega)).trans (he' j hj), by rw [he i' c]; exact h'⟩
theorem getD_snoc_lt (u : List Int) (e : Int) {j : Nat} (h : j < u.length) : (u ++ [e]).getD j 0 = u.getD j 0 := by
  rw [List.getD_eq_getElem?_getD, List.getD_eq_getElem?_getD, List.getElem?_append_left h]
theorem getD_snoc_len (u : List Int) (e : Int) : (u ++ [e]).getD u.length 0 = e := by simp
theorem Shl.snoc {u v : List Int} (h : Shl u v) (e e' : Int) : Shl (u ++ [e]) (v ++ [e']) := by
  rcases h with h | ⟨hl, i, hi, he, h⟩
  · exact .inl (by simp; omega)
  · refine .inr ⟨by simp; omega, i, by simp; omega, fun j hj => ?_, ?_⟩
    · rw [getD_snoc_lt _ _ (by omega), getD_snoc_lt _ _ (by omega)]; exact he j hj
    · rw [getD_snoc_lt _ _ (by omega), getD_snoc_lt _ _ (by omega)]; exact h
theorem Shl.snoc_lt (u : List Int) {e e' : Int} (h : e < e') : Shl (u ++ [e]) (u ++ [e']) := by
  refine .inr ⟨by simp, u.length, by simp, fun j hj => ?_, ?_⟩
  · rw [getD_snoc_lt _ _ hj, getD_snoc_lt _ _ hj]
  · rw [getD_snoc_len, getD_snoc_len]; exact h
theorem Shl.nil (v : List Int) (e : Int) : Shl [] (v ++ [e]) := .inl (by simp)
/-- No greater. -/
def Shle (u v : List Int) : Prop := u = v ∨ Shl u v
theorem Shle.trans {u v x : List Int} (h : Shle u v) (h' : Shle v x) : Shle u x := by
  rcases h with rfl | h
  · exact h'
  · rcases h' with rfl | h'
    · exact .inr h
    · exact .inr (h.trans h')
theorem Shle.not {u v : List Int} (h : Shle u v) : ¬ Shl v u := fun h' => by
  rcases h with rfl | h
  · exact Shl.irrefl _ h'
  · exact Shl.irrefl _ (h.trans h')
theorem Shle.snoc {u v : List Int} (h : Shle u v) (e : Int) : Shle (u ++ [e]) (v ++ [e]) := by
  rcases h with rfl | h
  · exact .inl rfl
  · exact .inr (h.snoc e e)

section
variable {S : Type} [DecidableEq S] {step : S → Int → S} {es : List Int}
/-- What the places are, in what order: the next one to be tried is p.2 ++ [e], from place k. -/
structure Ordered (step : S → Int → S) (first : S) (es : List Int) (k : Nat) (m : List Int) (l : List (S × List Int)) : Prop where
  run : ∀ p ∈ l, p.1 = p.2.foldl step first ∧ ∀ e ∈ p.2, e ∈ es
  sorted : l.Pairwise fun p q => Shl p.2 q.2
  made : ∀ p ∈ l, p.2 = [] ∨ ∃ i q e, l[i]? = some q ∧ p.2 = q.2 ++ [e] ∧ e ∈ es ∧ (i < k ∨ (i = k ∧ e ∈ m))
theorem Ordered.get {first : S} {k : Nat} {m : List Int} {l : List (S × List Int)} (h : Ordered step first es k m l) {i j : Nat} {p q : S × List Int} (hi : l[i]? = some p) (hj : l[j]? = some q) (hij : i < j) : Shl p.2 q.2 := by
  have li : i < l.length := by rcases Nat.lt_or_ge i l.length with c | c; exact c; rw [List.getElem?_eq_none c] at hi; cases hi
  have lj : j < l.length := by rcases Nat.lt_or_ge j l.length with c | c; exact c; rw [List.getElem?_eq_none c] at hj; cases hj
  have := List.pairwise_iff_getElem.1 h.sorted i j li lj hij
  rw [List.getElem?_eq_getElem li] at hi; rw [List.getElem?_eq_getElem lj] at hj
  rw [← Option.some.inj hi, ← Option.some.inj hj]; exact this
/-- All that there is comes ahead of the next one. -/
theorem Ordered.ahead {first : S} {k : Nat} {m : List Int} {l : List (S × List Int)} (h : Ordered step first es k m l) {q : S × List Int} {e : Int} (hq : l[k]? = some q) (hm : ∀ x ∈ m, x < e) {p : S × List Int} (hp : p ∈ l) : Shl p.2 (q.2 ++ [e]) := by
  rcases h.made p hp with c | ⟨i, r, x, hr, hx, _, hi | ⟨rfl, hxm⟩⟩
  · rw [c]; exact Shl.nil _ _
  · rw [hx]; exact (h.get hr hq hi).snoc _ _
  · rw [hr] at hq
    rw [hx, Option.some.inj hq]; exact Shl.snoc_lt _ (hm x hxm)
theorem Ordered.grow {first : S} {k : Nat} {m m' : List Int} {l : List (S × List Int)} (h : Ordered step first es k m l) (hm : ∀ x ∈ m, x ∈ m') : Ordered step first es k m' l :=
  ⟨h.run, h.sorted, fun p hp => (h.made p hp).imp id fun ⟨i, q, e, h1, h2, h3, h4⟩ => ⟨i, q, e, h1, h2, h3, h4.imp id fun ⟨a, b⟩ => ⟨a, hm _ b⟩⟩⟩
theorem Ordered.add {first : S} {k : Nat} {m : List Int} {l : List (S × List Int)} (h : Ordered step first es k m l) {e : Int} (he : e ∈ es) (hm : ∀ x ∈ m, x < e) : Ordered step first es k (m ++ [e]) (bAdd step k l e) := by
  rcases bAdd_cases (step := step) k l e with h1 | ⟨q, hq, _, h1⟩
  · rw [h1]; exact h.grow fun x hx => List.mem_append_left _ hx
  · rw [h1]
    have hqm : q ∈ l := List.mem_of_getElem? hq
    have up : ∀ {i : Nat} {r : S × List Int}, l[i]? = some r → (l ++ [(step q.1 e, q.2 ++ [e])])[i]? = some r := fun {i r} hr => by
      rw [List.getElem?_append_left (by rcases Nat.lt_or_ge i l.length with c | c; exact c; rw [List.getElem?_eq_none c] at hr; cases hr)]
      exact hr
    refine ⟨fun p hp => ?_, ?_, fun p hp => ?_⟩
    · rcases List.mem_append.1 hp with hp | hp
      · exact h.run p hp
      · rw [List.mem_singleton.1 hp]
        refine ⟨by rw [List.foldl_append, ← (h.run q hqm).1]; rfl, fun x hx => ?_⟩
        rcases List.mem_append.1 hx with hx | hx
        · exact (h.run q hqm).2 x hx
        · rw [List.mem_singleton.1 hx]; exact he
    · rw [List.pairwise_append]
      refine ⟨h.sorted, List.pairwise_singleton _ _, fun a ha b hb => ?_⟩
      rw [List.mem_singleton.1 hb]
      exact h.ahead hq hm ha
    · rcases List.mem_append.1 hp with hp | hp
      · rcases h.made p hp with c | ⟨i, r, x, hr, hx, hxe, hi⟩
        · exact .inl c
        · exact .inr ⟨i, r, x, up hr, hx, hxe, hi.imp id fun ⟨a, b⟩ => ⟨a, List.mem_append_left _ b⟩⟩
      · rw [List.mem_singleton.1 hp]
        exact .inr ⟨k, q, e, up hq, rfl, he, .inr ⟨rfl, by simp⟩⟩
theorem Ordered.fold {first : S} {k : Nat} : ∀ (r m : List Int) (l : List (S × List Int)), Ordered step first es k m l → (∀ e ∈ r, e ∈ es) → (∀ x ∈ m, ∀ e ∈ r, x < e) → r.Pairwise (· < ·) → Ordered step first es k (m ++ r) (r.foldl (bAdd step k) l)
  | [], m, l, h, _, _, _ => by rw [List.append_nil]; exact h
  | e :: r, m, l, h, h1, h2, h3 => by
    have := Ordered.fold r (m ++ [e]) (bAdd step k l e) (h.add (h1 e (List.mem_cons_self ..)) fun x hx => h2 x hx e (List.mem_cons_self ..)) (fun x hx => h1 x (List.mem_cons_of_mem _ hx))
      (fun x hx y hy => by
        rcases List.mem_append.1 hx with hx | hx
        · exact h2 x hx y (List.mem_cons_of_mem _ hy)
        · rw [List.mem_singleton.1 hx]; exact (List.pairwise_cons.1 h3).1 y hy) (List.pairwise_cons.1 h3).2
    rw [List.append_assoc] at this
    exact this
theorem Ordered.next {first : S} {k : Nat} {m : List Int} {l : List (S × List Int)} (h : Ordered step first es k m l) : Ordered step first es (k + 1) [] l :=
  ⟨h.run, h.sorted, fun p hp => (h.made p hp).imp id fun ⟨i, q, e, h1, h2, h3, h4⟩ => ⟨i, q, e, h1, h2, h3, .inl (by omega)⟩⟩
theorem bIter_ordered (hes : es.Pairwise (· < ·)) (first : S) : ∀ k, Ordered step first es k [] (bIter step es first k)
  | 0 => ⟨by simp [bIter], by simp [bIter], by simp [bIter]⟩
  | k + 1 => (Ordered.fold es [] _ (bIter_ordered hes first k) (fun _ h => h) (by simp) hes).next
/-- Whatever word: the place where it leads is come to, by a word that is no greater. -/
theorem bIter_all (hes : es.Pairwise (· < ·)) (first : S) (u : List Int) (hu : ∀ e ∈ u, e ∈ es) : ∃ k i : Nat, ∃ p : S × List Int, (bIter step es first k)[i]? = some p ∧ p.1 = u.foldl step first ∧ Shle p.2 u := by
  induction hn : u.length generalizing u with
  | zero =>
    obtain rfl := List.length_eq_zero_iff.1 hn
    exact ⟨0, 0, (first, []), rfl, rfl, .inl rfl⟩
  | succ n ih =>
    obtain ⟨u', e, rfl⟩ : ∃ u' e, u = u' ++ [e] := ⟨u.dropLast, u.getLast (by intro h; rw [h] at hn; simp at hn), (List.dropLast_concat_getLast _).symm⟩
    obtain ⟨k, i, p, hp, hs, hle⟩ := ih u' (fun x hx => hu x (List.mem_append_left _ hx)) (by simp at hn; omega)
    have he : e ∈ es := hu e (by simp)
    obtain ⟨s, t, hst⟩ := List.append_of_mem he
    -- the list at the place's turn
    have li : i < (bIter step es first k).length := by rcases Nat.lt_or_ge i (bIter step es first k).length with c | c; exact c; rw [List.getElem?_eq_none c] at hp; cases hp
    have hpi : (bIter step es first i)[i]? = some p ∨ (bIter step es first i).length ≤ i := by
      rcases Nat.lt_or_ge i (bIter step es first i).length with c | c
      · refine .inl ?_
        rcases Nat.le_total i k with d | d
        · rw [← hp]; exact (prefix_getElem? (bIter_prefix (step := step) (es := es) first d) c).symm
        · rw [← hp]; exact prefix_getElem? (bIter_prefix (step := step) (es := es) first d) li
      · exact .inr c
    have hpi : (bIter step es first i)[i]? = some p := by
      rcases hpi with c | c
      · exact c
      · rcases Nat.le_total i k with d | d
        · rw [bIter_stop (step := step) (es := es) c k d] at li; omega
        · rw [← hp]; exact prefix_getElem? (bIter_prefix (step := step) (es := es) first d) li
    have ho := bIter_ordered (step := step) hes first i
    have hsp : ∀ x ∈ s, x < e := fun x hx => by
      rw [hst, List.pairwise_append] at hes
      exact hes.2.2 x hx e (by simp)
    have hss : s.Pairwise (· < ·) := by rw [hst, List.pairwise_append] at hes; exact hes.1
    have h1 := Ordered.fold s [] _ ho (fun x hx => by rw [hst]; exact List.mem_append_left _ hx) (by simp) hss
    rw [List.nil_append] at h1
    have hp1 : (s.foldl (bAdd step i) (bIter step es first i))[i]? = some p := by
      rw [prefix_getElem? (foldl_prefix i s _) (by rcases Nat.lt_or_ge i (bIter step es first i).length with c | c; exact c; rw [List.getElem?_eq_none c] at hpi; cases hpi)]
      exact hpi
    have hfold : ∀ L : List (S × List Int), es.foldl (bAdd step i) L = t.foldl (bAdd step i) (bAdd step i (s.foldl (bAdd step i) L) e) := fun L => by rw [hst, List.foldl_append, List.foldl_cons]
    have hfin : ∀ {j : Nat} {q : S × List Int}, (bAdd step i (s.foldl (bAdd step i) (bIter step es first i)) e)[j]? = some q → (bIter step es first (i + 1))[j]? = some q := fun {j q} hq => by
      show (es.foldl (bAdd step i) (bIter step es first i))[j]? = some q
      rw [hfold, prefix_getElem? (foldl_prefix i t _) (by rcases Nat.lt_or_ge j (bAdd step i (s.foldl (bAdd step i) (bIter step es first i)) e).length with c | c; exact c; rw [List.getElem?_eq_none c] at hq; cases hq)]
      exact hq
    have hrun : step p.1 e = (u' ++ [e]).foldl step first := by rw [List.foldl_append, ← hs]; rfl
    have hle' : Shle (p.2 ++ [e]) (u' ++ [e]) := hle.snoc e
    generalize s.foldl (bAdd step i) (bIter step es first i) = l at *
    by_cases hmem : step p.1 e ∈ l.map (·.1)
    · obtain ⟨q, hq, hqe⟩ := List.mem_map.1 hmem
      obtain ⟨j, hj⟩ := List.mem_iff_getElem?.1 hq
      exact ⟨i + 1, j, q, hfin (by rw [bAdd_old hp1 hmem]; exact hj), hqe.trans hrun, .trans (.inr (h1.ahead hp1 hsp hq)) hle'⟩
    · exact ⟨i + 1, l.length, (step p.1 e, p.2 ++ [e]), hfin (by rw [bAdd_new hp1 hmem]; simp), hrun, hle'⟩
theorem first_none (hes : es.Pairwise (· < ·)) {first : S} {found : S → Bool} {k : Nat} (hk : (bIter step es first k).length = k) (hno : ∀ (j : Nat) (p : S × List Int), (bIter step es first k)[j]? = some p → found p.1 = false)
    (u : List Int) (hu : ∀ e ∈ u, e ∈ es) : found (u.foldl step first) = false := by
  obtain ⟨n, i, p, hp, hs, _⟩ := bIter_all (step := step) hes first u hu
  rw [← hs]
  refine hno i p ?_
  rcases Nat.le_total k n with c | c
  · rw [← bIter_stop (step := step) (es := es) (Nat.le_of_eq hk) n c]; exact hp
  · rw [prefix_getElem? (bIter_prefix (step := step) (es := es) first c) (by rcases Nat.lt_or_ge i (bIter step es first n).length with d | d; exact d; rw [List.getElem?_eq_none d] at hp; cases hp)]
    exact hp
theorem bIter_run (hes : es.Pairwise (· < ·)) {first : S} {k j : Nat} {q : S × List Int} (hk : (bIter step es first k)[j]? = some q) : q.1 = q.2.foldl step first ∧ ∀ e ∈ q.2, e ∈ es :=
  (bIter_ordered (step := step) hes first k).run q (List.mem_of_getElem? hk)
end
end
end Go.Proofs.YtcjinmgieiebbaaDoor
