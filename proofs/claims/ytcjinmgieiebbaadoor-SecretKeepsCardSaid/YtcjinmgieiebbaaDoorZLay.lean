/-
  Going through what steps lead to by layers, from behind: each place with its least word; and the least of those that are found. In plain Lean. No program in sight.
-/
import Derived.Test.YtcjinmgieiebbaaDoorZBfs
namespace Go.Proofs.YtcjinmgieiebbaaDoor
set_option linter.unusedSimpArgs false
set_option linter.unusedVariables false
set_option linter.unusedSectionVars false
open Go.RowKit

theorem Shl.total (u v : List Int) : Shl u v ∨ u = v ∨ Shl v u := by
  rcases Nat.lt_trichotomy u.length v.length with h | h | h
  · exact .inl (.inl h)
  · by_cases e : u = v
    · exact .inr (.inl e)
    have : ∃ i, i < u.length ∧ u.getD i 0 ≠ v.getD i 0 := by
      refine Classical.byContradiction fun hn => e (ext_getD 0 h fun k hk => ?_)
      exact Classical.byContradiction fun hne => hn ⟨k, hk, hne⟩
    obtain ⟨n, hn, hne⟩ := this
    have key : ∀ n, n < u.length → u.getD n 0 ≠ v.getD n 0 → ∃ i, i < u.length ∧ (∀ j, j < i → u.getD j 0 = v.getD j 0) ∧ u.getD i 0 ≠ v.getD i 0 := by
      intro n
      induction n using Nat.strongRecOn with
      | _ n ih =>
        intro hn hne
        by_cases hj : ∃ j, j < n ∧ u.getD j 0 ≠ v.getD j 0
        · obtain ⟨j, hj, hne'⟩ := hj
          exact ih j hj (by omega) hne'
        · exact ⟨n, hn, fun j hj' => Classical.byContradiction fun hne' => hj ⟨j, hj', hne'⟩, hne⟩
    obtain ⟨i, hi, he, hne⟩ := key n hn hne
    rcases Int.lt_or_gt_of_ne hne with h1 | h1
    · exact .inl (.inr ⟨h, i, hi, he, h1⟩)
    · exact .inr (.inr (.inr ⟨h.symm, i, by omega, fun j hj => (he j hj).symm, h1⟩))
  · exact .inr (.inr (.inl h))
theorem Shle.of_not {u v : List Int} (h : ¬ Shl v u) : Shle u v := by
  rcases Shl.total u v with c | c | c
  · exact .inr c
  · exact .inl c
  · exact absurd c h
theorem Shle.total (u v : List Int) : Shle u v ∨ Shle v u := by
  rcases Shl.total u v with c | c | c
  · exact .inl (.inr c)
  · exact .inl (.inl c)
  · exact .inr (.inr c)
theorem Shl.cons {u v : List Int} (h : Shl u v) (e : Int) : Shl (e :: u) (e :: v) := by
  rcases h with h | ⟨hl, i, hi, he, h⟩
  · exact .inl (by simp; omega)
  · refine .inr ⟨by simp; omega, i + 1, by simp; omega, fun j hj => ?_, by simpa using h⟩
    match j with
    | 0 => rfl
    | j + 1 => simpa using he j (by omega)
theorem Shle.cons {u v : List Int} (h : Shle u v) (e : Int) : Shle (e :: u) (e :: v) := by
  rcases h with rfl | h
  · exact .inl rfl
  · exact .inr (h.cons e)
theorem Shle.len {u v : List Int} (h : Shle u v) : u.length ≤ v.length := by
  rcases h with rfl | h | ⟨h, _⟩ <;> omega
section
variable {S : Type} [DecidableEq S] (step : S → Int → S) (es : List Int)
/-- a place's number among some; as many as there are: it is new -/
def atS (s : S) : List (S × List Int) → Nat
  | [] => 0
  | p :: l => if p.1 = s then 0 else atS s l + 1
/-- One step more, ahead of a place's word. -/
noncomputable def lAdd (old : List (S × List Int)) (x : S × List Int) (next : List (S × List Int)) (e : Int) : List (S × List Int) :=
  if step x.1 e ∈ old.map (·.1) then next
  else if step x.1 e ∈ next.map (·.1) then
    if Shl (e :: x.2) (next.getD (atS (step x.1 e) next) x).2 then next.set (atS (step x.1 e) next) (step x.1 e, e :: x.2) else next
  else next ++ [(step x.1 e, e :: x.2)]
variable {step es}
theorem atS_lt {s : S} : ∀ {l : List (S × List Int)}, s ∈ l.map (·.1) → atS s l < l.length
  | [], h => absurd h (by simp)
  | p :: l, h => by
    unfold atS
    by_cases e : p.1 = s
    · rw [if_pos e]; simp
    · rw [if_neg e]
      have : s ∈ l.map (·.1) := by
        rw [List.map_cons, List.mem_cons] at h
        exact h.resolve_left fun hh => e hh.symm
      have := atS_lt this
      simp; omega
theorem atS_at {s : S} : ∀ {l : List (S × List Int)}, s ∈ l.map (·.1) → ∃ w, l[atS s l]? = some (s, w)
  | [], h => absurd h (by simp)
  | p :: l, h => by
    unfold atS
    by_cases e : p.1 = s
    · rw [if_pos e]; exact ⟨p.2, by rw [← e]; rfl⟩
    · rw [if_neg e]
      have : s ∈ l.map (·.1) := by
        rw [List.map_cons, List.mem_cons] at h
        exact h.resolve_left fun hh => e hh.symm
      obtain ⟨w, hw⟩ := atS_at this
      exact ⟨w, by simpa using hw⟩
theorem atS_of {s : S} {w : List Int} : ∀ {l : List (S × List Int)} {i : Nat}, (l.map (·.1)).Nodup → l[i]? = some (s, w) → atS s l = i
  | [], i, _, h => by simp at h
  | p :: l, 0, _, h => by
    simp only [List.getElem?_cons_zero, Option.some.injEq] at h
    unfold atS
    rw [if_pos (by rw [h])]
  | p :: l, i + 1, hn, h => by
    simp only [List.getElem?_cons_succ] at h
    rw [List.map_cons, List.nodup_cons] at hn
    unfold atS
    rw [if_neg fun e => hn.1 (by rw [e]; exact List.mem_map.2 ⟨_, List.mem_of_getElem? h, rfl⟩), atS_of hn.2 h]
theorem lAdd_old {old next : List (S × List Int)} {x : S × List Int} {e : Int} (h : step x.1 e ∈ old.map (·.1)) : lAdd step old x next e = next := if_pos h
theorem lAdd_new {old next : List (S × List Int)} {x : S × List Int} {e : Int} (h : step x.1 e ∉ old.map (·.1)) (h' : step x.1 e ∉ next.map (·.1)) : lAdd step old x next e = next ++ [(step x.1 e, e :: x.2)] := by
  unfold lAdd
  rw [if_neg h, if_neg h']
theorem lAdd_set {old next : List (S × List Int)} {x : S × List Int} {e : Int} {w : List Int} (h : step x.1 e ∉ old.map (·.1)) {i : Nat} (hn : (next.map (·.1)).Nodup) (hi : next[i]? = some (step x.1 e, w)) (hs : Shl (e :: x.2) w) : lAdd step old x next e = next.set i (step x.1 e, e :: x.2) := by
  unfold lAdd
  have hm : step x.1 e ∈ next.map (·.1) := List.mem_map.2 ⟨_, List.mem_of_getElem? hi, rfl⟩
  rw [if_neg h, if_pos hm, atS_of hn hi, List.getD_eq_getElem?_getD, hi, Option.getD_some, if_pos hs]
theorem lAdd_keep {old next : List (S × List Int)} {x : S × List Int} {e : Int} {w : List Int} (h : step x.1 e ∉ old.map (·.1)) {i : Nat} (hn : (next.map (·.1)).Nodup) (hi : next[i]? = some (step x.1 e, w)) (hs : ¬ Shl (e :: x.2) w) : lAdd step old x next e = next := by
  unfold lAdd
  have hm : step x.1 e ∈ next.map (·.1) := List.mem_map.2 ⟨_, List.mem_of_getElem? hi, rfl⟩
  rw [if_neg h, if_pos hm, atS_of hn hi, List.getD_eq_getElem?_getD, hi, Option.getD_some, if_neg hs]
/-- What the next layer keeps to. -/
structure LGood (step : S → Int → S) (es : List Int) (first : S) (U : S → Prop) (old : List (S × List Int)) (n : Nat) (next : List (S × List Int)) : Prop where
  nodup : (next.map (·.1)).Nodup
  apart : ∀ p ∈ next, p.1 ∉ old.map (·.1)
  univ : ∀ p ∈ next, U p.1
  run : ∀ p ∈ next, p.1 = p.2.foldr (fun e s => step s e) first ∧ (∀ e ∈ p.2, e ∈ es) ∧ p.2.length = n
theorem map_fst_set (l : List (S × List Int)) (i : Nat) (s : S) (w w' : List Int) (h : l[i]? = some (s, w)) : (l.set i (s, w')).map (·.1) = l.map (·.1) := by
  rw [List.map_set]
  apply List.ext_getElem?
  intro k
  rw [List.getElem?_set]
  by_cases e : i = k
  · subst e
    have hi : i < l.length := by rcases Nat.lt_or_ge i l.length with c | c; exact c; rw [List.getElem?_eq_none c] at h; cases h
    rw [if_pos rfl, if_pos (by rw [List.length_map]; exact hi), List.getElem?_map, h]; rfl
  · rw [if_neg e]
theorem LGood.add {first : S} {U : S → Prop} (hU : ∀ s, U s → ∀ e ∈ es, U (step s e)) {old next : List (S × List Int)} {n : Nat} (h : LGood step es first U old (n + 1) next) {x : S × List Int} (hx : U x.1) (hr : x.1 = x.2.foldr (fun e s => step s e) first ∧ (∀ e ∈ x.2, e ∈ es) ∧ x.2.length = n) {e : Int} (he : e ∈ es) :
    LGood step es first U old (n + 1) (lAdd step old x next e) := by
  have hnew : (step x.1 e, e :: x.2).1 = (step x.1 e, e :: x.2).2.foldr (fun e s => step s e) first ∧ (∀ e' ∈ (step x.1 e, e :: x.2).2, e' ∈ es) ∧ (step x.1 e, e :: x.2).2.length = n + 1 := by
    refine ⟨by simp only [List.foldr_cons]; rw [← hr.1], fun e' he' => ?_, by simp [hr.2.2]⟩
    rcases List.mem_cons.1 he' with rfl | he'
    · exact he
    · exact hr.2.1 _ he'
  by_cases h1 : step x.1 e ∈ old.map (·.1)
  · rw [lAdd_old h1]; exact h
  by_cases h2 : step x.1 e ∈ next.map (·.1)
  · obtain ⟨w, hw⟩ := atS_at h2
    by_cases h3 : Shl (e :: x.2) w
    · rw [lAdd_set h1 h.nodup hw h3]
      refine ⟨by rw [map_fst_set _ _ _ _ _ hw]; exact h.nodup, fun p hp => ?_, fun p hp => ?_, fun p hp => ?_⟩ <;> rcases List.mem_or_eq_of_mem_set hp with hp | rfl
      · exact h.apart p hp
      · exact h1
      · exact h.univ p hp
      · exact hU _ hx _ he
      · exact h.run p hp
      · exact hnew
    · rw [lAdd_keep h1 h.nodup hw h3]; exact h
  · rw [lAdd_new h1 h2]
    refine ⟨?_, fun p hp => ?_, fun p hp => ?_, fun p hp => ?_⟩
    · rw [List.map_append, List.map_singleton, List.nodup_append]
      refine ⟨h.nodup, by simp, fun a ha b hb => ?_⟩
      rw [List.mem_singleton.1 hb]
      exact fun hab => h2 (by rw [← show a = step x.1 e from hab]; exact ha)
    all_goals rcases List.mem_append.1 hp with hp | hp
    · exact h.apart p hp
    · rw [List.mem_singleton.1 hp]; exact h1
    · exact h.univ p hp
    · rw [List.mem_singleton.1 hp]; exact hU _ hx _ he
    · exact h.run p hp
    · rw [List.mem_singleton.1 hp]; exact hnew
/-- a place that was there is there, by no greater word -/
theorem lAdd_more {first : S} {U : S → Prop} {old next : List (S × List Int)} {n : Nat} (h : LGood step es first U old n next) {x : S × List Int} {e : Int} {p : S × List Int} (hp : p ∈ next) : ∃ q ∈ lAdd step old x next e, q.1 = p.1 ∧ Shle q.2 p.2 := by
  by_cases h1 : step x.1 e ∈ old.map (·.1)
  · rw [lAdd_old h1]; exact ⟨p, hp, rfl, .inl rfl⟩
  by_cases h2 : step x.1 e ∈ next.map (·.1)
  · obtain ⟨w, hw⟩ := atS_at h2
    by_cases h3 : Shl (e :: x.2) w
    · rw [lAdd_set h1 h.nodup hw h3]
      obtain ⟨i, hi⟩ := List.mem_iff_getElem?.1 hp
      by_cases hie : atS (step x.1 e) next = i
      · rw [hie] at hw ⊢
        rw [hi] at hw
        have hpw := Option.some.inj hw
        subst hpw
        have hl : i < next.length := by rcases Nat.lt_or_ge i next.length with c | c; exact c; rw [List.getElem?_eq_none c] at hi; cases hi
        exact ⟨(step x.1 e, e :: x.2), List.mem_iff_getElem?.2 ⟨i, by rw [List.getElem?_set, if_pos rfl, if_pos hl]⟩, rfl, .inr h3⟩
      · exact ⟨p, List.mem_iff_getElem?.2 ⟨i, by rw [List.getElem?_set, if_neg hie]; exact hi⟩, rfl, .inl rfl⟩
    · rw [lAdd_keep h1 h.nodup hw h3]; exact ⟨p, hp, rfl, .inl rfl⟩
  · rw [lAdd_new h1 h2]; exact ⟨p, List.mem_append_left _ hp, rfl, .inl rfl⟩
/-- what was gone to is there, or was of old -/
theorem lAdd_has {first : S} {U : S → Prop} {old next : List (S × List Int)} {n : Nat} (h : LGood step es first U old n next) (x : S × List Int) (e : Int) (h1 : step x.1 e ∉ old.map (·.1)) : ∃ q ∈ lAdd step old x next e, q.1 = step x.1 e ∧ Shle q.2 (e :: x.2) := by
  by_cases h2 : step x.1 e ∈ next.map (·.1)
  · obtain ⟨w, hw⟩ := atS_at h2
    by_cases h3 : Shl (e :: x.2) w
    · rw [lAdd_set h1 h.nodup hw h3]
      have hl := atS_lt h2
      exact ⟨_, List.mem_iff_getElem?.2 ⟨atS (step x.1 e) next, by rw [List.getElem?_set, if_pos rfl, if_pos hl]⟩, rfl, .inl rfl⟩
    · rw [lAdd_keep h1 h.nodup hw h3]
      exact ⟨_, List.mem_of_getElem? hw, rfl, .of_not h3⟩
  · rw [lAdd_new h1 h2]
    exact ⟨_, List.mem_append_right _ (List.mem_singleton.2 rfl), rfl, .inl rfl⟩
section
variable {first : S} {U : S → Prop} (hU : ∀ s, U s → ∀ e ∈ es, U (step s e))
include hU
theorem LGood.fold {old : List (S × List Int)} {n : Nat} {x : S × List Int} (hx : U x.1) (hr : x.1 = x.2.foldr (fun e s => step s e) first ∧ (∀ e ∈ x.2, e ∈ es) ∧ x.2.length = n) :
    ∀ (m : List Int) (next : List (S × List Int)), (∀ e ∈ m, e ∈ es) → LGood step es first U old (n + 1) next → LGood step es first U old (n + 1) (m.foldl (lAdd step old x) next) ∧
      (∀ p ∈ next, ∃ q ∈ m.foldl (lAdd step old x) next, q.1 = p.1 ∧ Shle q.2 p.2) ∧ ∀ e ∈ m, step x.1 e ∉ old.map (·.1) → ∃ q ∈ m.foldl (lAdd step old x) next, q.1 = step x.1 e ∧ Shle q.2 (e :: x.2)
  | [], next, _, h => ⟨h, fun p hp => ⟨p, hp, rfl, .inl rfl⟩, fun e he => absurd he (by simp)⟩
  | e :: m, next, hm, h => by
    have h1 := h.add hU hx hr (hm e (List.mem_cons_self ..))
    obtain ⟨g, g1, g2⟩ := LGood.fold hx hr m _ (fun e' he' => hm e' (List.mem_cons_of_mem _ he')) h1
    refine ⟨g, fun p hp => ?_, fun e' he' hno => ?_⟩
    · obtain ⟨q, hq, hq1, hq2⟩ := lAdd_more h (x := x) (e := e) hp
      obtain ⟨r, hr', hr1, hr2⟩ := g1 q hq
      exact ⟨r, hr', hr1.trans hq1, hr2.trans hq2⟩
    · rcases List.mem_cons.1 he' with rfl | he'
      · obtain ⟨q, hq, hq1, hq2⟩ := lAdd_has h x e' hno
        obtain ⟨r, hr', hr1, hr2⟩ := g1 q hq
        exact ⟨r, hr', hr1.trans hq1, hr2.trans hq2⟩
      · exact g2 e' he' hno
/-- What all layers keep to. -/
structure AGood (step : S → Int → S) (es : List Int) (first : S) (U : S → Prop) (n : Nat) (A : List (S × List Int) × List (S × List Int)) : Prop where
  nodup : (A.1.map (·.1)).Nodup
  univ : ∀ p ∈ A.1, U p.1
  run : ∀ p ∈ A.1, p.1 = p.2.foldr (fun e s => step s e) first ∧ (∀ e ∈ p.2, e ∈ es) ∧ p.2.length ≤ n
  sub : ∀ p ∈ A.2, p ∈ A.1
  lay : ∀ p ∈ A.1, p.2.length = n ↔ p ∈ A.2
omit hU in
theorem AGood.layer {n : Nat} {A : List (S × List Int) × List (S × List Int)} (h : AGood step es first U n A) : ∀ x ∈ A.2, U x.1 ∧ x.1 = x.2.foldr (fun e s => step s e) first ∧ (∀ e ∈ x.2, e ∈ es) ∧ x.2.length = n :=
  fun x hx => ⟨h.univ x (h.sub x hx), (h.run x (h.sub x hx)).1, (h.run x (h.sub x hx)).2.1, (h.lay x (h.sub x hx)).2 hx⟩
omit hU in
theorem LGood.nil (old : List (S × List Int)) (n : Nat) : LGood step es first U old n [] := ⟨by simp, by simp, by simp, by simp⟩
end
noncomputable def bestF (t : S → Bool) (l : List (S × List Int)) : Option (List Int) := l.foldl (fun b x => if t x.1 = true ∧ (∀ v, b = some v → Shl x.2 v) then some x.2 else b) none
theorem bestF_snoc (t : S → Bool) (l : List (S × List Int)) (x : S × List Int) : bestF t (l ++ [x]) = if t x.1 = true ∧ (∀ v, bestF t l = some v → Shl x.2 v) then some x.2 else bestF t l := by
  unfold bestF; rw [List.foldl_append]; rfl
theorem bestF_spec (t : S → Bool) (l : List (S × List Int)) : (bestF t l = none ∧ ∀ x ∈ l, t x.1 = false) ∨ ∃ x ∈ l, t x.1 = true ∧ bestF t l = some x.2 ∧ ∀ y ∈ l, t y.1 = true → Shle x.2 y.2 := by
  induction hn : l.length generalizing l with
  | zero =>
    obtain rfl := List.length_eq_zero_iff.1 hn
    exact .inl ⟨rfl, by simp⟩
  | succ n ih =>
    obtain ⟨l, x, rfl⟩ : ∃ l' x, l = l' ++ [x] := ⟨l.dropLast, l.getLast (by intro h; rw [h] at hn; simp at hn), (List.dropLast_concat_getLast _).symm⟩
    replace ih := ih l (by simp at hn; omega)
    rw [bestF_snoc]
    rcases ih with ⟨h, hn⟩ | ⟨y, hy, hty, h, hmin⟩
    · rw [h]
      by_cases ht : t x.1 = true
      · rw [if_pos ⟨ht, fun v hv => by cases hv⟩]
        refine .inr ⟨x, by simp, ht, rfl, fun z hz htz => ?_⟩
        rcases List.mem_append.1 hz with hz | hz
        · rw [hn z hz] at htz; cases htz
        · rw [List.mem_singleton.1 hz]; exact .inl rfl
      · rw [if_neg fun hh => ht hh.1]
        refine .inl ⟨rfl, fun z hz => ?_⟩
        rcases List.mem_append.1 hz with hz | hz
        · exact hn z hz
        · rw [List.mem_singleton.1 hz]; simpa using ht
    · rw [h]
      by_cases hc : t x.1 = true ∧ ∀ v, some y.2 = some v → Shl x.2 v
      · rw [if_pos hc]
        refine .inr ⟨x, by simp, hc.1, rfl, fun z hz htz => ?_⟩
        rcases List.mem_append.1 hz with hz | hz
        · exact .trans (.inr (hc.2 _ rfl)) (hmin z hz htz)
        · rw [List.mem_singleton.1 hz]; exact .inl rfl
      · rw [if_neg hc]
        refine .inr ⟨y, List.mem_append_left _ hy, hty, rfl, fun z hz htz => ?_⟩
        rcases List.mem_append.1 hz with hz | hz
        · exact hmin z hz htz
        · rw [List.mem_singleton.1 hz] at htz ⊢
          refine .of_not fun hs => hc ⟨htz, fun v hv => ?_⟩
          rw [← Option.some.inj hv]; exact hs
/-- where the places come in order, the least is the first one -/
theorem bestF_first {t : S → Bool} {l : List (S × List Int)} (hl : l.Pairwise fun p q => Shl p.2 q.2) {k : Nat} {x : S × List Int} (hk : l[k]? = some x) (ht : t x.1 = true) (hno : ∀ j, j < k → ∀ y, l[j]? = some y → t y.1 = false) : bestF t l = some x.2 := by
  have hx := List.mem_of_getElem? hk
  have hkl : k < l.length := by rcases Nat.lt_or_ge k l.length with c | c; exact c; rw [List.getElem?_eq_none c] at hk; cases hk
  rcases bestF_spec t l with ⟨_, hn⟩ | ⟨y, hy, hty, h, hmin⟩
  · rw [hn x hx] at ht; cases ht
  · obtain ⟨j, hj⟩ := List.mem_iff_getElem?.1 hy
    have hjl : j < l.length := by rcases Nat.lt_or_ge j l.length with c | c; exact c; rw [List.getElem?_eq_none c] at hj; cases hj
    rw [h]
    rcases Nat.lt_trichotomy j k with c | rfl | c
    · rw [hno j c y hj] at hty; cases hty
    · rw [hk] at hj; rw [Option.some.inj hj]
    · have := List.pairwise_iff_getElem.1 hl k j hkl hjl c
      rw [List.getElem?_eq_getElem hkl] at hk
      rw [List.getElem?_eq_getElem hjl] at hj
      rw [Option.some.inj hk, Option.some.inj hj] at this
      exact absurd this (hmin x hx ht).not
end
end Go.Proofs.YtcjinmgieiebbaaDoor
