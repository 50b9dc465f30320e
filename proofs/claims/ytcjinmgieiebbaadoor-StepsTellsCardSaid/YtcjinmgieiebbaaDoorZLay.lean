/-
  Going through what steps lead to by layers, from behind: each place with its least word; and the least of those that are found. In plain Lean. No program in sight.
-/
import Derived.Test.YtcjinmgieiebbaaDoorZBfs
namespace Go.Proofs.YtcjinmgieiebbaaDoor
set_option linter.unusedSimpArgs false
set_option linter.unusedVariables false
set_option linter.unusedSectionVars false
open Go.RowKit

theorem Shl.total (u v : List Int) : Shl u v ∨ u = v ∨ Shl v u := by
  rcases Nat.lt_trichotomy u.length v.length with h | h | h
  · exact .inl (.inl h)
  · by_cases e : u = v
    · exact .inr (.inl e)
    have : ∃ i, i < u.length ∧ u.getD i 0 ≠ v.getD i 0 := by
      refine Classical.byContradiction fun hn => e (ext_getD 0 h fun k hk => ?_)
      exact Classical.byContradiction fun hne => hn ⟨k, hk, hne⟩
    obtain ⟨n, hn, hne⟩ := this
    have key : ∀ n, n < u.length → u.getD n 0 ≠ v.getD n 0 → ∃ i, i < u.length ∧ (∀ j, j < i → u.getD j 0 = v.getD j 0) ∧ u.getD i 0 ≠ v.getD i 0 := by
      intro n
      induction n using Nat.strongRecOn with
      | _ n ih =>
        intro hn hne
        by_cases hj : ∃ j, j < n ∧ u.getD j 0 ≠ v.getD j 0
        · obtain ⟨j, hj, hne'⟩ := hj
          exact ih j hj (by omega) hne'
        · exact ⟨n, hn, fun j hj' => Classical.byContradiction fun hne' => hj ⟨j, hj', hne'⟩, hne⟩
    obtain ⟨i, hi, he, hne⟩ := key n hn hne
    rcases Int.lt_or_gt_of_ne hne with h1 | h1
    · exact .inl (.inr ⟨h, i, hi, he, h1⟩)
    · exact .inr (.inr (.inr ⟨h.symm, i, by omega, fun j hj => (he j hj).symm, h1⟩))
  · exact .inr (.inr (.inl h))
theorem Shle.of_not {u v : List Int} (h : ¬ Shl v u) : Shle u v := by
  rcases Shl.total u v with c | c | c
  · exact .inr c
  · exact .inl c
  · exact absurd c h
theorem Shle.total (u v : List Int) : Shle u v ∨ Shle v u := by
  rcases Shl.total u v with c | c | c
  · exact .inl (.inr c)
  · exact .inl (.inl c)
  · exact .inr (.inr c)
theorem Shl.cons {u v : List Int} (h : Shl u v) (e : Int) : Shl (e :: u) (e :: v) := by
  rcases h with h | ⟨hl, i, hi, he, h⟩
  · exact .inl (by simp; omega)
  · refine .inr ⟨by simp; omega, i + 1, by simp; omega, fun j hj => ?_, by simpa using h⟩
    match j with
    | 0 => rfl
    | j + 1 => simpa using he j (by omega)
theorem Shle.cons {u v : List Int} (h : Shle u v) (e : Int) : Shle (e :: u) (e :: v) := by
  rcases h with rfl | h
  · exact .inl rfl
  · exact .inr (h.cons e)
theorem Shle.len {u v : List Int} (h : Shle u v) : u.length ≤ v.length := by
  rcases h with rfl | h | ⟨h, _⟩ <;> omega
section
variable {S : Type} [DecidableEq S] (step : S → Int → S) (es : List Int)
/-- a place's number among some; as many as there are: it is new -/
def atS (s : S) : List (S × List Int) → Nat
  | [] => 0
  | p :: l => if p.1 = s then 0 else atS s l + 1
/-- One step more, ahead of a place's word. -/
noncomputable def lAdd (old : List (S × List Int)) (x : S × List Int) (next : List (S × List Int)) (e : Int) : List (S × List Int) :=
  if step x.1 e ∈ old.map (·.1) then next
  else if step x.1 e ∈ next.map (·.1) then
    if Shl (e :: x.2) (next.getD (atS (step x.1 e) next) x).2 then next.set (atS (step x.1 e) next) (step x.1 e, e :: x.2) else next
  else next ++ [(step x.1 e, e :: x.2)]
noncomputable def lOne (old : List (S × List Int)) (next : List (S × List Int)) (x : S × List Int) : List (S × List Int) := es.foldl (lAdd step old x) next
/-- what the first i places of a layer lead to -/
noncomputable def lNext (old layer : List (S × List Int)) (i : Nat) : List (S × List Int) := (layer.take i).foldl (lOne step es old) []
/-- .. and the next one's first j events -/
noncomputable def lPart (old layer : List (S × List Int)) (i j : Nat) : List (S × List Int) :=
  match layer[i]? with
  | some x => (es.take j).foldl (lAdd step old x) (lNext step es old layer i)
  | none => lNext step es old layer i
/-- all places, and those of the last layer -/
noncomputable def lays (first : S) : Nat → List (S × List Int) × List (S × List Int)
  | 0 => ([(first, [])], [(first, [])])
  | n + 1 => ((lays first n).1 ++ lNext step es (lays first n).1 (lays first n).2 (lays first n).2.length, lNext step es (lays first n).1 (lays first n).2 (lays first n).2.length)
variable {step es}
theorem lPart_zero (old layer : List (S × List Int)) (i : Nat) : lPart step es old layer i 0 = lNext step es old layer i := by
  unfold lPart
  cases layer[i]? <;> rfl
theorem lPart_succ {old layer : List (S × List Int)} {i j : Nat} {x : S × List Int} (hx : layer[i]? = some x) (hj : j < es.length) : lPart step es old layer i (j + 1) = lAdd step old x (lPart step es old layer i j) (es.getD j 0) := by
  unfold lPart
  rw [hx]
  simp only
  rw [take_snoc es 0 j hj, List.foldl_append]
  rfl
theorem lPart_all {old layer : List (S × List Int)} {i : Nat} (hi : i < layer.length) : lPart step es old layer i es.length = lNext step es old layer (i + 1) := by
  unfold lPart lNext
  rw [List.getElem?_eq_getElem hi, List.take_succ_eq_append_getElem hi, List.foldl_append]
  simp only [List.take_length, List.foldl_cons, List.foldl_nil]
  rfl
theorem atS_lt {s : S} : ∀ {l : List (S × List Int)}, s ∈ l.map (·.1) → atS s l < l.length
  | [], h => absurd h (by simp)
  | p :: l, h => by
    unfold atS
    by_cases e : p.1 = s
    · rw [if_pos e]; simp
    · rw [if_neg e]
      have : s ∈ l.map (·.1) := by
        rw [List.map_cons, List.mem_cons] at h
        exact h.resolve_left fun hh => e hh.symm
      have := atS_lt this
      simp; omega
theorem atS_at {s : S} : ∀ {l : List (S × List Int)}, s ∈ l.map (·.1) → ∃ w, l[atS s l]? = some (s, w)
  | [], h => absurd h (by simp)
  | p :: l, h => by
    unfold atS
    by_cases e : p.1 = s
    · rw [if_pos e]; exact ⟨p.2, by rw [← e]; rfl⟩
    · rw [if_neg e]
      have : s ∈ l.map (·.1) := by
        rw [List.map_cons, List.mem_cons] at h
        exact h.resolve_left fun hh => e hh.symm
      obtain ⟨w, hw⟩ := atS_at this
      exact ⟨w, by simpa using hw⟩
theorem atS_of {s : S} {w : List Int} : ∀ {l : List (S × List Int)} {i : Nat}, (l.map (·.1)).Nodup → l[i]? = some (s, w) → atS s l = i
  | [], i, _, h => by simp at h
  | p :: l, 0, _, h => by
    simp only [List.getElem?_cons_zero, Option.some.injEq] at h
    unfold atS
    rw [if_pos (by rw [h])]
  | p :: l, i + 1, hn, h => by
    simp only [List.getElem?_cons_succ] at h
    rw [List.map_cons, List.nodup_cons] at hn
    unfold atS
    rw [if_neg fun e => hn.1 (by rw [e]; exact List.mem_map.2 ⟨_, List.mem_of_getElem? h, rfl⟩), atS_of hn.2 h]
theorem lAdd_old {old next : List (S × List Int)} {x : S × List Int} {e : Int} (h : step x.1 e ∈ old.map (·.1)) : lAdd step old x next e = next := if_pos h
theorem lAdd_new {old next : List (S × List Int)} {x : S × List Int} {e : Int} (h : step x.1 e ∉ old.map (·.1)) (h' : step x.1 e ∉ next.map (·.1)) : lAdd step old x next e = next ++ [(step x.1 e, e :: x.2)] := by
  unfold lAdd
  rw [if_neg h, if_neg h']
theorem lAdd_set {old next : List (S × List Int)} {x : S × List Int} {e : Int} {w : List Int} (h : step x.1 e ∉ old.map (·.1)) {i : Nat} (hn : (next.map (·.1)).Nodup) (hi : next[i]? = some (step x.1 e, w)) (hs : Shl (e :: x.2) w) : lAdd step old x next e = next.set i (step x.1 e, e :: x.2) := by
  unfold lAdd
  have hm : step x.1 e ∈ next.map (·.1) := List.mem_map.2 ⟨_, List.mem_of_getElem? hi, rfl⟩
  rw [if_neg h, if_pos hm, atS_of hn hi, List.getD_eq_getElem?_getD, hi, Option.getD_some, if_pos hs]
theorem lAdd_keep {old next : List (S × List Int)} {x : S × List Int} {e : Int} {w : List Int} (h : step x.1 e ∉ old.map (·.1)) {i : Nat} (hn : (next.map (·.1)).Nodup) (hi : next[i]? = some (step x.1 e, w)) (hs : ¬ Shl (e :: x.2) w) : lAdd step old x next e = next := by
  unfold lAdd
  have hm : step x.1 e ∈ next.map (·.1) := List.mem_map.2 ⟨_, List.mem_of_getElem? hi, rfl⟩
  rw [if_neg h, if_pos hm, atS_of hn hi, List.getD_eq_getElem?_getD, hi, Option.getD_some, if_neg hs]
/-- What the next layer keeps to. -/
structure LGood (step : S → Int → S) (es : List Int) (first : S) (U : S → Prop) (old : List (S × List Int)) (n : Nat) (next : List (S × List Int)) : Prop where
  nodup : (next.map (·.1)).Nodup
  apart : ∀ p ∈ next, p.1 ∉ old.map (·.1)
  univ : ∀ p ∈ next, U p.1
  run : ∀ p ∈ next, p.1 = p.2.foldr (fun e s => step s e) first ∧ (∀ e ∈ p.2, e ∈ es) ∧ p.2.length = n
theorem map_fst_set (l : List (S × List Int)) (i : Nat) (s : S) (w w' : List Int) (h : l[i]? = some (s, w)) : (l.set i (s, w')).map (·.1) = l.map (·.1) := by
  rw [List.map_set]
  apply List.ext_getElem?
  intro k
  rw [List.getElem?_set]
  by_cases e : i = k
  · subst e
    have hi : i < l.length := by rcases Nat.lt_or_ge i l.length with c | c; exact c; rw [List.getElem?_eq_none c] at h; cases h
    rw [if_pos rfl, if_pos (by rw [List.length_map]; exact hi), List.getElem?_map, h]; rfl
  · rw [if_neg e]
theorem LGood.add {first : S} {U : S → Prop} (hU : ∀ s, U s → ∀ e ∈ es, U (step s e)) {old next : List (S × List Int)} {n : Nat} (h : LGood step es first U old (n + 1) next) {x : S × List Int} (hx : U x.1) (hr : x.1 = x.2.foldr (fun e s => step s e) first ∧ (∀ e ∈ x.2, e ∈ es) ∧ x.2.length = n) {e : Int} (he : e ∈ es) :
    LGood step es first U old (n + 1) (lAdd step old x next e) := by
  have hnew : (step x.1 e, e :: x.2).1 = (step x.1 e, e :: x.2).2.foldr (fun e s => step s e) first ∧ (∀ e' ∈ (step x.1 e, e :: x.2).2, e' ∈ es) ∧ (step x.1 e, e :: x.2).2.length = n + 1 := by
    refine ⟨by simp only [List.foldr_cons]; rw [← hr.1], fun e' he' => ?_, by simp [hr.2.2]⟩
    rcases List.mem_cons.1 he' with rfl | he'
    · exact he
    · exact hr.2.1 _ he'
  by_cases h1 : step x.1 e ∈ old.map (·.1)
  · rw [lAdd_old h1]; exact h
  by_cases h2 : step x.1 e ∈ next.map (·.1)
  · obtain ⟨w, hw⟩ := atS_at h2
    by_cases h3 : Shl (e :: x.2) w
    · rw [lAdd_set h1 h.nodup hw h3]
      refine ⟨by rw [map_fst_set _ _ _ _ _ hw]; exact h.nodup, fun p hp => ?_, fun p hp => ?_, fun p hp => ?_⟩ <;> rcases List.mem_or_eq_of_mem_set hp with hp | rfl
      · exact h.apart p hp
      · exact h1
      · exact h.univ p hp
      · exact hU _ hx _ he
      · exact h.run p hp
      · exact hnew
    · rw [lAdd_keep h1 h.nodup hw h3]; exact h
  · rw [lAdd_new h1 h2]
    refine ⟨?_, fun p hp => ?_, fun p hp => ?_, fun p hp => ?_⟩
    · rw [List.map_append, List.map_singleton, List.nodup_append]
      refine ⟨h.nodup, by simp, fun a ha b hb => ?_⟩
      rw [List.mem_singleton.1 hb]
      exact fun hab => h2 (by rw [← show a = step x.1 e from hab]; exact ha)
    all_goals rcases List.mem_append.1 hp with hp | hp
    · exact h.apart p hp
    · rw [List.mem_singleton.1 hp]; exact h1
    · exact h.univ p hp
    · rw [List.mem_singleton.1 hp]; exact hU _ hx _ he
    · exact h.run p hp
    · rw [List.mem_singleton.1 hp]; exact hnew
/-- a place that was there is there, by no greater word -/
theorem lAdd_more {first : S} {U : S → Prop} {old next : List (S × List Int)} {n : Nat} (h : LGood step es first U old n next) {x : S × List Int} {e : Int} {p : S × List Int} (hp : p ∈ next) : ∃ q ∈ lAdd step old x next e, q.1 = p.1 ∧ Shle q.2 p.2 := by
  by_cases h1 : step x.1 e ∈ old.map (·.1)
  · rw [lAdd_old h1]; exact ⟨p, hp, rfl, .inl rfl⟩
  by_cases h2 : step x.1 e ∈ next.map (·.1)
  · obtain ⟨w, hw⟩ := atS_at h2
    by_cases h3 : Shl (e :: x.2) w
    · rw [lAdd_set h1 h.nodup hw h3]
      obtain ⟨i, hi⟩ := List.mem_iff_getElem?.1 hp
      by_cases hie : atS (step x.1 e) next = i
      · rw [hie] at hw ⊢
        rw [hi] at hw
        have hpw := Option.some.inj hw
        subst hpw
        have hl : i < next.length := by rcases Nat.lt_or_ge i next.length with c | c; exact c; rw [List.getElem?_eq_none c] at hi; cases hi
        exact ⟨(step x.1 e, e :: x.2), List.mem_iff_getElem?.2 ⟨i, by rw [List.getElem?_set, if_pos rfl, if_pos hl]⟩, rfl, .inr h3⟩
      · exact ⟨p, List.mem_iff_getElem?.2 ⟨i, by rw [List.getElem?_set, if_neg hie]; exact hi⟩, rfl, .inl rfl⟩
    · rw [lAdd_keep h1 h.nodup hw h3]; exact ⟨p, hp, rfl, .inl rfl⟩
  · rw [lAdd_new h1 h2]; exact ⟨p, List.mem_append_left _ hp, rfl, .inl rfl⟩
/-- what was gone to is there, or was of old -/
theorem lAdd_has {first : S} {U : S → Prop} {old next : List (S × List Int)} {n : Nat} (h : LGood step es first U old n next) (x : S × List Int) (e : Int) (h1 : step x.1 e ∉ old.map (·.1)) : ∃ q ∈ lAdd step old x next e, q.1 = step x.1 e ∧ Shle q.2 (e :: x.2) := by
  by_cases h2 : step x.1 e ∈ next.map (·.1)
  · obtain ⟨w, hw⟩ := atS_at h2
    by_cases h3 : Shl (e :: x.2) w
    · rw [lAdd_set h1 h.nodup hw h3]
      have hl := atS_lt h2
      exact ⟨_, List.mem_iff_getElem?.2 ⟨atS (step x.1 e) next, by rw [List.getElem?_set, if_pos rfl, if_pos hl]⟩, rfl, .inl rfl⟩
    · rw [lAdd_keep h1 h.nodup hw h3]
      exact ⟨_, List.mem_of_getElem? hw, rfl, .of_not h3⟩
  · rw [lAdd_new h1 h2]
    exact ⟨_, List.mem_append_right _ (List.mem_singleton.2 rfl), rfl, .inl rfl⟩
section
variable {first : S} {U : S → Prop} (hU : ∀ s, U s → ∀ e ∈ es, U (step s e))
include hU
theorem LGood.fold {old : List (S × List Int)} {n : Nat} {x : S × List Int} (hx : U x.1) (hr : x.1 = x.2.foldr (fun e s => step s e) first ∧ (∀ e ∈ x.2, e ∈ es) ∧ x.2.length = n) :
    ∀ (m : List Int) (next : List (S × List Int)), (∀ e ∈ m, e ∈ es) → LGood step es first U old (n + 1) next → LGood step es first U old (n + 1) (m.foldl (lAdd step old x) next) ∧
      (∀ p ∈ next, ∃ q ∈ m.foldl (lAdd step old x) next, q.1 = p.1 ∧ Shle q.2 p.2) ∧ ∀ e ∈ m, step x.1 e ∉ old.map (·.1) → ∃ q ∈ m.foldl (lAdd step old x) next, q.1 = step x.1 e ∧ Shle q.2 (e :: x.2)
  | [], next, _, h => ⟨h, fun p hp => ⟨p, hp, rfl, .inl rfl⟩, fun e he => absurd he (by simp)⟩
  | e :: m, next, hm, h => by
    have h1 := h.add hU hx hr (hm e (List.mem_cons_self ..))
    obtain ⟨g, g1, g2⟩ := LGood.fold hx hr m _ (fun e' he' => hm e' (List.mem_cons_of_mem _ he')) h1
    refine ⟨g, fun p hp => ?_, fun e' he' hno => ?_⟩
    · obtain ⟨q, hq, hq1, hq2⟩ := lAdd_more h (x := x) (e := e) hp
      obtain ⟨r, hr', hr1, hr2⟩ := g1 q hq
      exact ⟨r, hr', hr1.trans hq1, hr2.trans hq2⟩
    · rcases List.mem_cons.1 he' with rfl | he'
      · obtain ⟨q, hq, hq1, hq2⟩ := lAdd_has h x e' hno
        obtain ⟨r, hr', hr1, hr2⟩ := g1 q hq
        exact ⟨r, hr', hr1.trans hq1, hr2.trans hq2⟩
      · exact g2 e' he' hno
theorem LGood.folds {old : List (S × List Int)} {n : Nat} :
    ∀ (m : List (S × List Int)) (next : List (S × List Int)), (∀ x ∈ m, U x.1 ∧ x.1 = x.2.foldr (fun e s => step s e) first ∧ (∀ e ∈ x.2, e ∈ es) ∧ x.2.length = n) → LGood step es first U old (n + 1) next → LGood step es first U old (n + 1) (m.foldl (lOne step es old) next) ∧
      (∀ p ∈ next, ∃ q ∈ m.foldl (lOne step es old) next, q.1 = p.1 ∧ Shle q.2 p.2) ∧ ∀ x ∈ m, ∀ e ∈ es, step x.1 e ∉ old.map (·.1) → ∃ q ∈ m.foldl (lOne step es old) next, q.1 = step x.1 e ∧ Shle q.2 (e :: x.2)
  | [], next, _, h => ⟨h, fun p hp => ⟨p, hp, rfl, .inl rfl⟩, fun e he => absurd he (by simp)⟩
  | x :: m, next, hm, h => by
    obtain ⟨hx, hr⟩ := hm x (List.mem_cons_self ..)
    obtain ⟨h1, h2, h3⟩ := LGood.fold hU hx hr es next (fun _ h => h) h
    obtain ⟨g, g1, g2⟩ := LGood.folds m _ (fun e' he' => hm e' (List.mem_cons_of_mem _ he')) h1
    refine ⟨g, fun p hp => ?_, fun y hy e he hno => ?_⟩
    · obtain ⟨q, hq, hq1, hq2⟩ := h2 p hp
      obtain ⟨r, hr', hr1, hr2⟩ := g1 q hq
      exact ⟨r, hr', hr1.trans hq1, hr2.trans hq2⟩
    · rcases List.mem_cons.1 hy with rfl | hy
      · obtain ⟨q, hq, hq1, hq2⟩ := h3 e he hno
        obtain ⟨r, hr', hr1, hr2⟩ := g1 q hq
        exact ⟨r, hr', hr1.trans hq1, hr2.trans hq2⟩
      · exact g2 y hy e he hno
/-- What all layers keep to. -/
structure AGood (step : S → Int → S) (es : List Int) (first : S) (U : S → Prop) (n : Nat) (A : List (S × List Int) × List (S × List Int)) : Prop where
  nodup : (A.1.map (·.1)).Nodup
  univ : ∀ p ∈ A.1, U p.1
  run : ∀ p ∈ A.1, p.1 = p.2.foldr (fun e s => step s e) first ∧ (∀ e ∈ p.2, e ∈ es) ∧ p.2.length ≤ n
  sub : ∀ p ∈ A.2, p ∈ A.1
  lay : ∀ p ∈ A.1, p.2.length = n ↔ p ∈ A.2
omit hU in
theorem AGood.layer {n : Nat} {A : List (S × List Int) × List (S × List Int)} (h : AGood step es first U n A) : ∀ x ∈ A.2, U x.1 ∧ x.1 = x.2.foldr (fun e s => step s e) first ∧ (∀ e ∈ x.2, e ∈ es) ∧ x.2.length = n :=
  fun x hx => ⟨h.univ x (h.sub x hx), (h.run x (h.sub x hx)).1, (h.run x (h.sub x hx)).2.1, (h.lay x (h.sub x hx)).2 hx⟩
omit hU in
theorem LGood.nil (old : List (S × List Int)) (n : Nat) : LGood step es first U old n [] := ⟨by simp, by simp, by simp, by simp⟩
theorem lays_next {n : Nat} {A : List (S × List Int) × List (S × List Int)} (h : AGood step es first U n A) (i : Nat) : LGood step es first U A.1 (n + 1) (lNext step es A.1 A.2 i) :=
  (LGood.folds hU (A.2.take i) [] (fun x hx => h.layer x (List.mem_of_mem_take hx)) (LGood.nil _ _)).1
theorem lays_part {n : Nat} {A : List (S × List Int) × List (S × List Int)} (h : AGood step es first U n A) (i j : Nat) : LGood step es first U A.1 (n + 1) (lPart step es A.1 A.2 i j) := by
  unfold lPart
  cases hx : A.2[i]? with
  | none => exact lays_next hU h i
  | some x =>
    obtain ⟨h1, h2⟩ := h.layer x (List.mem_of_getElem? hx)
    exact (LGood.fold hU h1 h2 (es.take j) _ (fun _ h => List.mem_of_mem_take h) (lays_next hU h i)).1
theorem lays_good (h0 : U first) : ∀ n, AGood step es first U n (lays step es first n)
  | 0 => ⟨by simp [lays], by simp [lays, h0], by simp [lays], by simp [lays], by simp [lays]⟩
  | n + 1 => by
    have ih := lays_good h0 n
    have hn := lays_next hU ih (lays step es first n).2.length
    refine ⟨?_, fun p hp => ?_, fun p hp => ?_, fun p hp => List.mem_append_right _ hp, fun p hp => ?_⟩
    · show ((_ ++ _ : List (S × List Int)).map (·.1)).Nodup
      rw [List.map_append, List.nodup_append]
      refine ⟨ih.nodup, hn.nodup, fun a ha b hb hab => ?_⟩
      obtain ⟨p, hp, rfl⟩ := List.mem_map.1 hb
      exact hn.apart p hp (by rw [← hab]; exact ha)
    · rcases List.mem_append.1 hp with hp | hp
      · exact ih.univ p hp
      · exact hn.univ p hp
    · rcases List.mem_append.1 hp with hp | hp
      · have := ih.run p hp; exact ⟨this.1, this.2.1, by omega⟩
      · have := hn.run p hp; exact ⟨this.1, this.2.1, by omega⟩
    · rcases List.mem_append.1 hp with hp | hp
      · have h1 := (ih.run p hp).2.2
        refine ⟨fun h => by omega, fun hh => ?_⟩
        exact absurd (List.mem_map.2 ⟨p, hp, rfl⟩) (hn.apart p hh)
      · exact ⟨fun _ => hp, fun _ => (hn.run p hp).2.2⟩
omit hU in
theorem lays_mono {n k : Nat} (h : n ≤ k) : (lays step es first n).1 <+: (lays step es first k).1 := by
  induction k with
  | zero => rw [Nat.le_zero.1 h]; exact List.prefix_refl _
  | succ k ih =>
    rcases Nat.lt_or_ge n (k + 1) with h1 | h1
    · exact (ih (by omega)).trans (List.prefix_append _ _)
    · rw [show n = k + 1 by omega]; exact List.prefix_refl _
/-- Whatever word: the place where it leads is come to, by a word that is no greater. -/
theorem lays_all (h0 : U first) (u : List Int) (hu : ∀ e ∈ u, e ∈ es) : ∃ p ∈ (lays step es first u.length).1, p.1 = u.foldr (fun e s => step s e) first ∧ Shle p.2 u := by
  induction hn : u.length using Nat.strongRecOn generalizing u with
  | _ n ih =>
    cases u with
    | nil => subst hn; exact ⟨(first, []), by simp [lays], rfl, .inl rfl⟩
    | cons e u =>
      simp only [List.length_cons] at hn
      subst hn
      obtain ⟨p, hp, hp1, hp2⟩ := ih u.length (by omega) u (fun x hx => hu x (List.mem_cons_of_mem _ hx)) rfl
      have hg := lays_good hU h0 u.length
      have hpl := hp2.len
      have he := hu e (List.mem_cons_self ..)
      rcases Nat.lt_or_ge p.2.length u.length with hlt | hge
      · obtain ⟨q, hq, hq1, hq2⟩ := ih (p.2.length + 1) (by omega) (e :: p.2) (fun x hx => by
          rcases List.mem_cons.1 hx with rfl | hx
          · exact he
          · exact (hg.run p hp).2.1 x hx) rfl
        refine ⟨q, (lays_mono (by omega)).subset hq, ?_, .trans hq2 (.inr (.inl (by simp; omega)))⟩
        rw [hq1]
        simp only [List.foldr_cons]
        rw [← (hg.run p hp).1, hp1]
      · have hlay := (hg.lay p hp).1 (by omega)
        by_cases hold : step p.1 e ∈ (lays step es first u.length).1.map (·.1)
        · obtain ⟨q, hq, hqe⟩ := List.mem_map.1 hold
          refine ⟨q, List.mem_append_left _ hq, ?_, .inr (.inl ?_)⟩
          · rw [hqe]; simp only [List.foldr_cons]; rw [hp1]
          · have := (hg.run q hq).2.2; simp; omega
        · have := (LGood.folds hU (lays step es first u.length).2 [] (fun x hx => hg.layer x hx) (LGood.nil (lays step es first u.length).1 _)).2.2 p hlay e he hold
          obtain ⟨q, hq, hq1, hq2⟩ := this
          refine ⟨q, List.mem_append_right _ ?_, ?_, .trans hq2 (hp2.cons e)⟩
          · unfold lNext
            rw [List.take_length]
            exact hq
          · rw [hq1]; simp only [List.foldr_cons]; rw [hp1]
end
/-- The end: where a layer has none. -/
theorem lays_stop {first : S} {n : Nat} (h : (lays step es first n).2 = []) : ∀ k, n ≤ k → lays step es first k = lays step es first n
  | 0, hk => by rw [Nat.le_zero.1 hk]
  | k + 1, hk => by
    rcases Nat.lt_or_ge k n with h1 | h1
    · rw [show n = k + 1 by omega]
    · have ih := lays_stop h k h1
      have he : (lays step es first k).2 = [] := by rw [ih]; exact h
      have h2 : lNext step es (lays step es first k).1 (lays step es first k).2 (lays step es first k).2.length = [] := by rw [he]; rfl
      show ((lays step es first k).1 ++ lNext step es (lays step es first k).1 (lays step es first k).2 (lays step es first k).2.length, lNext step es (lays step es first k).1 (lays step es first k).2 (lays step es first k).2.length) = lays step es first n
      rw [h2, List.append_nil, ← ih]
      exact Prod.ext rfl he.symm
theorem AGood.few {first : S} {U : S → Prop} {n : Nat} {A : List (S × List Int) × List (S × List Int)} (h : AGood step es first U n A) (code : S → Nat) (N : Nat) (hc : ∀ s, U s → code s < N) (hi : ∀ s t, U s → U t → code s = code t → s = t) : A.1.length ≤ N :=
  BGood.len (step := step) (es := es) ⟨h.nodup, h.univ⟩ code N hc hi

end
end Go.Proofs.YtcjinmgieiebbaaDoor
