/-
  Going through what steps lead to, the lesser words ahead: in plain Lean. No program in sight.
  Words in order, the shorter ahead: what is gone through comes in that order, and nothing is left out. In plain Lean. No program in sight.
-/
import Derived.Test.YtpinjiikiaakaaaDoorZM8
import Derived.Maps.Keyed
import Derived.DeepKeys4
import Derived.Laws.StructEq
import Derived.Carry
import Derived.Test.YtpinjiikiaakaaaDoorZTy
import Derived.Test.YtpinjiikiaakaaaDoorZIr
import Derived.Shelf.Slices.Reverse
import Derived.Lib.OwnBridge
import Derived.ChangeKeysEq
import Derived.Room.Shelf.Join48
namespace Go.Proofs.YtpinjiikiaakaaaDoor
set_option linter.unusedSimpArgs false
set_option linter.unusedVariables false
set_option linter.unusedSectionVars false
section
open Go.RowKit

theorem nodup_nat_len : ∀ (N : Nat) (l : List Nat), l.Nodup → (∀ x ∈ l, x < N) → l.length ≤ N
  | 0, l, _, h => by
    cases l with
    | nil => simp
    | cons a l => exact absurd (h a (by simp)) (by omega)
  | N + 1, l, hn, h => by
    have h1 := nodup_nat_len N (l.erase N) (hn.erase N) fun x hx => by
      have := h x (List.mem_of_mem_erase hx)
      have hne : x ≠ N := fun e => by
        rw [e] at hx
        exact absurd hx (by rw [List.Nodup.mem_erase_iff hn]; simp)
      omega
    have := List.length_erase (a := N) (l := l)
    split at this <;> omega

section
variable {S : Type} [DecidableEq S] (step : S → Int → S) (es : List Int)
/-- One step more, from the place k on. -/
def bAdd (k : Nat) (l : List (S × List Int)) (e : Int) : List (S × List Int) :=
  match l[k]? with
  | some p => if step p.1 e ∈ l.map (·.1) then l else l ++ [(step p.1 e, p.2 ++ [e])]
  | none => l
variable {step es}
theorem bAdd_cases (k : Nat) (l : List (S × List Int)) (e : Int) : bAdd step k l e = l ∨ ∃ p, l[k]? = some p ∧ step p.1 e ∉ l.map (·.1) ∧ bAdd step k l e = l ++ [(step p.1 e, p.2 ++ [e])] := by
  unfold bAdd
  cases hk : l[k]? with
  | none => exact .inl rfl
  | some p =>
    simp only
    by_cases h : step p.1 e ∈ l.map (·.1)
    · rw [if_pos h]; exact .inl rfl
    · rw [if_neg h]; exact .inr ⟨p, rfl, h, rfl⟩
/-- What the places keep to. -/
structure BGood (step : S → Int → S) (es : List Int) (U : S → Prop) (l : List (S × List Int)) : Prop where
  nodup : (l.map (·.1)).Nodup
  univ : ∀ p ∈ l, U p.1
theorem BGood.add {U : S → Prop} (hU : ∀ s, U s → ∀ e ∈ es, U (step s e)) {k : Nat} {l : List (S × List Int)} (h : BGood step es U l) {e : Int} (he : e ∈ es) : BGood step es U (bAdd step k l e) := by
  rcases bAdd_cases (step := step) k l e with h1 | ⟨p, hp, hn, h1⟩
  · rw [h1]; exact h
  · rw [h1]
    refine ⟨?_, fun q hq => ?_⟩
    · rw [List.map_append, List.map_singleton, List.nodup_append]
      refine ⟨h.nodup, by simp, fun a ha b hb => ?_⟩
      rw [List.mem_singleton.1 hb]
      exact fun hab => hn (by rw [← show a = step p.1 e from hab]; exact ha)
    · rcases List.mem_append.1 hq with hq | hq
      · exact h.univ q hq
      · rw [List.mem_singleton.1 hq]
        exact hU _ (h.univ p (List.mem_of_getElem? hp)) e he
/-- There are no more places than codes. -/
theorem BGood.len {U : S → Prop} {l : List (S × List Int)} (h : BGood step es U l) (code : S → Nat) (N : Nat) (hc : ∀ s, U s → code s < N) (hi : ∀ s t, U s → U t → code s = code t → s = t) : l.length ≤ N := by
  have h1 : ((l.map (·.1)).map code).Nodup := by
    have := h.nodup
    rw [List.nodup_iff_pairwise_ne] at this ⊢
    rw [List.pairwise_map]
    refine this.imp_of_mem fun {a b} ha hb hab hcode => hab ?_
    obtain ⟨p, hp, rfl⟩ := List.mem_map.1 ha
    obtain ⟨q, hq, rfl⟩ := List.mem_map.1 hb
    exact hi _ _ (h.univ p hp) (h.univ q hq) hcode
  have := nodup_nat_len N _ h1 fun x hx => by
    obtain ⟨s, hs, rfl⟩ := List.mem_map.1 hx
    obtain ⟨p, hp, rfl⟩ := List.mem_map.1 hs
    exact hc _ (h.univ p hp)
  simpa using this
end
end

section
open Go.RowKit

/-- Lesser: shorter, or as long and lesser where they differ first. -/
def Shl (u v : List Int) : Prop := u.length < v.length ∨ (u.length = v.length ∧ ∃ i, i < u.length ∧ (∀ j, j < i → u.getD j 0 = v.getD j 0) ∧ u.getD i 0 < v.getD i 0)
noncomputable instance (u v : List Int) : Decidable (Shl u v) := Classical.propDecidable _
theorem Shl.irrefl (u : List Int) : ¬ Shl u u := by
  rintro (h | ⟨_, i, _, _, h⟩) <;> omega
theorem Shl.trans {u v x : List Int} (h : Shl u v) (h' : Shl v x) : Shl u x := by
  rcases h with h | ⟨hl, i, hi, he, h⟩ <;> rcases h' with h' | ⟨hl', i', hi', he', h'⟩
  · exact .inl (by omega)
  · exact .inl (by omega)
  · exact .inl (by omega)
  · refine .inr ⟨by omega, ?_⟩
    rcases Nat.lt_trichotomy i i' with c | c | c
    · exact ⟨i, hi, fun j hj => (he j hj).trans (he' j (by omega)), by rw [← he' i c]; exact h⟩
    · subst c
      exact ⟨i, hi, fun j hj => (he j hj).trans (he' j hj), by omega⟩
    · exact ⟨i', by omega, fun j hj => (he j (by omega)).trans (he' j hj), by rw [he i' c]; exact h'⟩
theorem getD_snoc_lt (u : List Int) (e : Int) {j : Nat} (h : j < u.length) : (u ++ [e]).getD j 0 = u.getD j 0 := by
  rw [List.getD_eq_getElem?_getD, List.getD_eq_getElem?_getD, List.getElem?_append_left h]
theorem getD_snoc_len (u : List Int) (e : Int) : (u ++ [e]).getD u.length 0 = e := by simp
theorem Shl.snoc {u v : List Int} (h : Shl u v) (e e' : Int) : Shl (u ++ [e]) (v ++ [e']) := by
  rcases h with h | ⟨hl, i, hi, he, h⟩
  · exact .inl (by simp; omega)
  · refine .inr ⟨by simp; omega, i, by simp; omega, fun j hj => ?_, ?_⟩
    · rw [getD_snoc_lt _ _ (by omega), getD_snoc_lt _ _ (by omega)]; exact he j hj
    · rw [getD_snoc_lt _ _ (by omega), getD_snoc_lt _ _ (by omega)]; exact h
theorem Shl.snoc_lt (u : List Int) {e e' : Int} (h : e < e') : Shl (u ++ [e]) (u ++ [e']) := by
  refine .inr ⟨by simp, u.length, by simp, fun j hj => ?_, ?_⟩
  · rw [getD_snoc_lt _ _ hj, getD_snoc_lt _ _ hj]
  · rw [getD_snoc_len, getD_snoc_len]; exact h
theorem Shl.nil (v : List Int) (e : Int) : Shl [] (v ++ [e]) := .inl (by simp)
/-- No greater. -/
def Shle (u v : List Int) : Prop := u = v ∨ Shl u v
theorem Shle.trans {u v x : List Int} (h : Shle u v) (h' : Shle v x) : Shle u x := by
  rcases h with rfl | h
  · exact h'
  · rcases h' with rfl | h'
    · exact .inr h
    · exact .inr (h.trans h')
theorem Shle.not {u v : List Int} (h : Shle u v) : ¬ Shl v u := fun h' => by
  rcases h with rfl | h
  · exact Shl.irrefl _ h'
  · exact Shl.irrefl _ (h.trans h')
theorem Shle.snoc {u v : List Int} (h : Shle u v) (e : Int) : Shle (u ++ [e]) (v ++ [e]) := by
  rcases h with rfl | h
  · exact .inl rfl
  · exact .inr (h.snoc e e)

section
variable {S : Type} [DecidableEq S] {step : S → Int → S} {es : List Int}
/-- What the places are, in what order: the next one to be tried is p.2 ++ [e], from place k. -/
structure Ordered (step : S → Int → S) (first : S) (es : List Int) (k : Nat) (m : List Int) (l : List (S × List Int)) : Prop where
  run : ∀ p ∈ l, p.1 = p.2.foldl step first ∧ ∀ e ∈ p.2, e ∈ es
  sorted : l.Pairwise fun p q => Shl p.2 q.2
  made : ∀ p ∈ l, p.2 = [] ∨ ∃ i q e, l[i]? = some q ∧ p.2 = q.2 ++ [e] ∧ e ∈ es ∧ (i < k ∨ (i = k ∧ e ∈ m))
theorem Ordered.get {first : S} {k : Nat} {m : List Int} {l : List (S × List Int)} (h : Ordered step first es k m l) {i j : Nat} {p q : S × List Int} (hi : l[i]? = some p) (hj : l[j]? = some q) (hij : i < j) : Shl p.2 q.2 := by
  have li : i < l.length := by rcases Nat.lt_or_ge i l.length with c | c; exact c; rw [List.getElem?_eq_none c] at hi; cases hi
  have lj : j < l.length := by rcases Nat.lt_or_ge j l.length with c | c; exact c; rw [List.getElem?_eq_none c] at hj; cases hj
  have := List.pairwise_iff_getElem.1 h.sorted i j li lj hij
  rw [List.getElem?_eq_getElem li] at hi; rw [List.getElem?_eq_getElem lj] at hj
  rw [← Option.some.inj hi, ← Option.some.inj hj]; exact this
/-- All that there is comes ahead of the next one. -/
theorem Ordered.ahead {first : S} {k : Nat} {m : List Int} {l : List (S × List Int)} (h : Ordered step first es k m l) {q : S × List Int} {e : Int} (hq : l[k]? = some q) (hm : ∀ x ∈ m, x < e) {p : S × List Int} (hp : p ∈ l) : Shl p.2 (q.2 ++ [e]) := by
  rcases h.made p hp with c | ⟨i, r, x, hr, hx, _, hi | ⟨rfl, hxm⟩⟩
  · rw [c]; exact Shl.nil _ _
  · rw [hx]; exact (h.get hr hq hi).snoc _ _
  · rw [hr] at hq
    rw [hx, Option.some.inj hq]; exact Shl.snoc_lt _ (hm x hxm)
theorem Ordered.grow {first : S} {k : Nat} {m m' : List Int} {l : List (S × List Int)} (h : Ordered step first es k m l) (hm : ∀ x ∈ m, x ∈ m') : Ordered step first es k m' l :=
  ⟨h.run, h.sorted, fun p hp => (h.made p hp).imp id fun ⟨i, q, e, h1, h2, h3, h4⟩ => ⟨i, q, e, h1, h2, h3, h4.imp id fun ⟨a, b⟩ => ⟨a, hm _ b⟩⟩⟩
theorem Ordered.add {first : S} {k : Nat} {m : List Int} {l : List (S × List Int)} (h : Ordered step first es k m l) {e : Int} (he : e ∈ es) (hm : ∀ x ∈ m, x < e) : Ordered step first es k (m ++ [e]) (bAdd step k l e) := by
  rcases bAdd_cases (step := step) k l e with h1 | ⟨q, hq, _, h1⟩
  · rw [h1]; exact h.grow fun x hx => List.mem_append_left _ hx
  · rw [h1]
    have hqm : q ∈ l := List.mem_of_getElem? hq
    have up : ∀ {i : Nat} {r : S × List Int}, l[i]? = some r → (l ++ [(step q.1 e, q.2 ++ [e])])[i]? = some r := fun {i r} hr => by
      rw [List.getElem?_append_left (by rcases Nat.lt_or_ge i l.length with c | c; exact c; rw [List.getElem?_eq_none c] at hr; cases hr)]
      exact hr
    refine ⟨fun p hp => ?_, ?_, fun p hp => ?_⟩
    · rcases List.mem_append.1 hp with hp | hp
      · exact h.run p hp
      · rw [List.mem_singleton.1 hp]
        refine ⟨by rw [List.foldl_append, ← (h.run q hqm).1]; rfl, fun x hx => ?_⟩
        rcases List.mem_append.1 hx with hx | hx
        · exact (h.run q hqm).2 x hx
        · rw [List.mem_singleton.1 hx]; exact he
    · rw [List.pairwise_append]
      refine ⟨h.sorted, List.pairwise_singleton _ _, fun a ha b hb => ?_⟩
      rw [List.mem_singleton.1 hb]
      exact h.ahead hq hm ha
    · rcases List.mem_append.1 hp with hp | hp
      · rcases h.made p hp with c | ⟨i, r, x, hr, hx, hxe, hi⟩
        · exact .inl c
        · exact .inr ⟨i, r, x, up hr, hx, hxe, hi.imp id fun ⟨a, b⟩ => ⟨a, List.mem_append_left _ b⟩⟩
      · rw [List.mem_singleton.1 hp]
        exact .inr ⟨k, q, e, up hq, rfl, he, .inr ⟨rfl, by simp⟩⟩
theorem Ordered.next {first : S} {k : Nat} {m : List Int} {l : List (S × List Int)} (h : Ordered step first es k m l) : Ordered step first es (k + 1) [] l :=
  ⟨h.run, h.sorted, fun p hp => (h.made p hp).imp id fun ⟨i, q, e, h1, h2, h3, h4⟩ => ⟨i, q, e, h1, h2, h3, .inl (by omega)⟩⟩
end
end
end Go.Proofs.YtpinjiikiaakaaaDoor

/-
  Maps whose keys are compared cell by cell, and equality of such keys. No program in sight.
  Chapter 7: pairs of sets: how they lie, as keys of maps, as records.
  The library's slices.Reverse on a row of one's own, by the shelf's contract.
  Chapter 7: the program's Words goes over all pairs that words lead to, the least word ahead: by its contract.
-/
namespace Go.Proofs.YtpinjiikiaakaaaDoor
set_option linter.unusedSimpArgs false
set_option linter.unusedVariables false
set_option linter.unusedSectionVars false
section
open Go.RowKit

def KeyIs (P : Program) (k : TypeId) (v : Value) : Prop := ∃ l, keyOf P k v = some l
/-- Block b is a map with these entries, in this order. -/
def MapIs (P : Program) (k : TypeId) (w : World) (b : Nat) (kv : List (Value × Value)) : Prop :=
  ∃ es clock, w.heap[b]? = some (.map es clock) ∧ es.toList.map (fun e => (e.key, e.val)) = kv ∧ (∀ p ∈ kv, KeyIs P k p.1) ∧ kv.Pairwise fun p q => p.1 ≠ q.1
section
variable {P : Program} {K : Fr → World → Prop} {k e t ty b : Nat} {u w w' : World} {f : Fr} {d : Option Nat} {kv : List (Value × Value)}
theorem MapIs.lt (h : MapIs P k w b kv) : b < w.heap.size := by
  obtain ⟨es, c, h1, _⟩ := h
  rcases Nat.lt_or_ge b w.heap.size with hlt | hge
  · exact hlt
  · rw [Array.getElem?_eq_none hge] at h1; cases h1
theorem MapIs.keep (h : MapIs P k w b kv) (hk : w'.heap[b]? = w.heap[b]?) : MapIs P k w' b kv := by
  obtain ⟨es, c, h1, h2⟩ := h
  exact ⟨es, c, hk.trans h1, h2⟩
theorem MapIs.below {B : Nat} (h : MapIs P k w b kv) (hb : Below B w w') (hB : b < B) : MapIs P k w' b kv := h.keep (hb.block b hB)
theorem MapIs.same (h : MapIs P k w b kv) (hs : Same w w') : MapIs P k w' b kv := h.keep (by rw [hs.heap])
theorem MapIs.grown {row : Option Nat} (h : MapIs P k w b kv) (hb : w.grownBy w' row) (hg : some b ≠ row) : MapIs P k w' b kv := h.keep (hb.block b h.lt hg)
theorem MapIs.alloc (h : MapIs P k w b kv) (o : Obj) : MapIs P k (w.alloc o) b kv := h.keep (Below.heap_alloc w o b h.lt)
theorem MapIs.ne_own {B e' sz : Nat} {A : Option Addr} {c n : Nat} {xs : List Value} (h : MapIs P k w b kv) (ho : Own B e' sz w A c n xs) : some b ≠ A.map (·.block) := by
  obtain ⟨es, cl, h1, _⟩ := h
  obtain ⟨_, h2⟩ := ho.own
  rcases h2 with ⟨h2, _⟩ | ⟨g', cap, cur, hv, hb, hh, r⟩
  · injection h2 with h3; subst h3; simp
  · injection hv with h3
    subst h3
    simp only [Option.map_some, ne_eq, Option.some.injEq]
    rintro rfl
    rw [h1] at hh
    cases hh
theorem MapIs.ne_blk {g t' : Nat} {cs : List Value} (h : MapIs P k w b kv) (ho : Blk w g t' cs) : b ≠ g := by
  obtain ⟨es, cl, h1, _⟩ := h
  rintro rfl
  unfold Blk at ho
  rw [h1] at ho
  cases ho
section
variable (t : TypeId) (ty : TypeId)
end
end
end

section
open Go.RowKit

end

section
open Go.RowKit Go.Shelf Go.Lib Go.Sort

end

section
open Go.RowKit

abbrev St := List Int × List Int
abbrev PL := St × Int × Int
/-- Whence each place was come to. -/
def Par (pl : List PL) (L : List (St × List Int)) : Prop :=
  pl.map (·.1) = L.map (·.1) ∧ ∀ j p q, pl[j]? = some p → L[j]? = some q → (p.2.1 = -1 ∧ q.2 = []) ∨ ∃ i : Nat, p.2.1 = (i : Int) ∧ i < j ∧ ∃ q', L[i]? = some q' ∧ q.2 = q'.2 ++ [p.2.2]
theorem Par.len {pl : List PL} {L : List (St × List Int)} (h : Par pl L) : pl.length = L.length := by simpa using congrArg List.length h.1
theorem Par.at_ {pl : List PL} {L : List (St × List Int)} (h : Par pl L) {j : Nat} {p : PL} (hp : pl[j]? = some p) : ∃ q, L[j]? = some q ∧ q.1 = p.1 := by
  have h1 : (pl.map (·.1))[j]? = some p.1 := by rw [List.getElem?_map, hp]; rfl
  rw [h.1, List.getElem?_map] at h1
  cases hq : L[j]? with
  | none => rw [hq] at h1; cases h1
  | some q => rw [hq] at h1; exact ⟨q, rfl, by simpa using h1⟩
theorem Par.snoc {pl : List PL} {L : List (St × List Int)} (h : Par pl L) {k : Nat} {q' : St × List Int} (hk : L[k]? = some q') (s : St) (e : Int) : Par (pl ++ [(s, (k : Int), e)]) (L ++ [(s, q'.2 ++ [e])]) := by
  have hl := h.len
  have hkl : k < L.length := by
    rcases Nat.lt_or_ge k L.length with h1 | h1
    · exact h1
    · rw [List.getElem?_eq_none h1] at hk; cases hk
  refine ⟨by simp [h.1], fun j p q hp hq => ?_⟩
  by_cases hj : j < pl.length
  · rw [List.getElem?_append_left hj] at hp
    rw [List.getElem?_append_left (by omega)] at hq
    rcases h.2 j p q hp hq with h1 | ⟨i, h1, h2, q2, h3, h4⟩
    · exact .inl h1
    · exact .inr ⟨i, h1, h2, q2, by rw [List.getElem?_append_left (by omega)]; exact h3, h4⟩
  · have hjl : j = pl.length := by
      rcases Nat.lt_or_ge j (pl.length + 1) with h1 | h1
      · omega
      · rw [List.getElem?_eq_none (by simp; omega)] at hp; cases hp
    subst hjl
    rw [List.getElem?_append_right (Nat.le_refl _)] at hp
    rw [List.getElem?_append_right (by omega)] at hq
    simp at hp
    rw [hl] at hq
    simp at hq
    subst hp hq
    exact .inr ⟨k, rfl, by omega, q', by rw [List.getElem?_append_left (by omega)]; exact hk, rfl⟩

theorem Recs.lt {α : Type} {enc : α → List Value} {sz : Nat} (E : Enc enc sz) (hs : 0 < sz) {ok : Nat → Prop} {w : World} {A : Option Addr} {l : List α} (h : Recs enc sz ok w A l) : Recs enc sz (· < w.heap.size) w A l :=
  ⟨h.isSome, fun hl => by
    have h0 : l[0]? = some (l[0]'hl) := List.getElem?_eq_getElem hl
    have h1 : (enc (l[0]'hl))[0]? = some ((enc (l[0]'hl))[0]'(by rw [E.len]; exact hs)) := List.getElem?_eq_getElem _
    have := World.block_lt_of_cell? w _ (h.cell 0 _ h0 0 _ h1)
    rwa [eA_block] at this, h.cell⟩

end
section
open Go.RowKit
/-- A row that can be read, in a block that lay there at first or that holds elements of the type e. -/
structure RowT (B e : Nat) (w : World) (A : Option Addr) (l : List Int) : Prop where
  ints : Ints (fun b => b < w.heap.size ∧ (b < B ∨ ∃ cs r, w.heap[b]? = some (.cells cs e r))) w A l
section
variable {B e : Nat} {w w' : World} {A : Option Addr} {l : List Int}
theorem RowT.lt (h : RowT B e w A l) : Ints (· < w.heap.size) w A l := h.ints.mono fun _ hb => hb.1
theorem RowT.keep (h : RowT B e w A l) (hz : w.heap.size ≤ w'.heap.size) (hk : ∀ b, b < w.heap.size → (b < B ∨ ∃ cs r, w.heap[b]? = some (.cells cs e r)) → w'.heap[b]? = w.heap[b]?) : RowT B e w' A l := by
  refine ⟨⟨h.ints.isSome, fun hl => ?_, fun i hi => ?_⟩⟩
  · obtain ⟨h1, h2⟩ := h.ints.block hl
    refine ⟨by omega, ?_⟩
    rcases h2 with h2 | ⟨cs, r, h3⟩
    · exact .inl h2
    · exact .inr ⟨cs, r, by rw [hk _ h1 (.inr ⟨cs, r, h3⟩)]; exact h3⟩
  · obtain ⟨h1, h2⟩ := h.ints.block (by omega)
    rw [← h.ints.cell i hi]
    exact World.cell?_of_block (by rw [eA_block]; exact hk _ h1 h2)
theorem RowT.below (h : RowT B e w A l) (hb : Below w.heap.size w w') : RowT B e w' A l := h.keep hb.size fun b hlt _ => hb.block b hlt
theorem RowT.grew {e' sz c n : Nat} {A2 : Option Addr} {xs : List Value} (h : RowT B e w A l) (ho : Own B e' sz w A2 c n xs) (hne : e' ≠ e) (hg : Grew w w' A2) : RowT B e w' A l :=
  h.keep hg.by_.size fun b hlt hor => hg.by_.block b hlt (by
    rcases ho.own.2 with ⟨h0, _⟩ | ⟨g, cap, cur, hv, hB, hh, _⟩
    · injection h0 with h0; subst h0; simp
    · injection hv with hv
      subst hv
      simp only [Option.map_some, ne_eq, Option.some.injEq]
      rintro rfl
      rcases hor with h1 | ⟨cs, r, h1⟩
      · omega
      · rw [h1] at hh
        injection hh with hh
        injection hh with _ ht
        exact hne ht.symm)
theorem RowT.of_arg (h : Ints (· < B) w A l) (hB : B ≤ w.heap.size) : RowT B e w A l := ⟨h.mono fun b hb => ⟨by omega, .inl hb⟩⟩
end
end
end Go.Proofs.YtpinjiikiaakaaaDoor

/-
  Chapter 6: the program's Sets goes over all sets that steps lead to, as they are found: by its contract.
  Chapter 6: the program's Make makes the machine of the sets: by its contract.
-/
namespace Go.Proofs.YtpinjiikiaakaaaDoor
set_option linter.unusedSimpArgs false
set_option linter.unusedVariables false
set_option linter.unusedSectionVars false
section
open Go.RowKit

theorem arrEnc : Enc arrCells 3 := ⟨fun _ => rfl, fun a u hu => by
  unfold arrCells at hu
  rcases List.mem_cons.1 hu with rfl | hu
  · rfl
  · rcases List.mem_cons.1 hu with rfl | hu
    · rfl
    · rw [List.mem_singleton.1 hu]; rfl⟩
theorem Own.apart {B e e' sz sz' : Nat} {w : World} {A A' : Option Addr} {c c' n n' : Nat} {xs xs' : List Value} (h : Own B e sz w A c n xs) (h' : Own B e' sz' w A' c' n' xs') (hne : e ≠ e') : A = none ∨ A.map (·.block) ≠ A'.map (·.block) := by
  rcases h.own.2 with ⟨h0, _⟩ | ⟨g, cap, cur, hv, hB, hh, _⟩
  · injection h0 with h0; exact .inl h0
  · refine .inr ?_
    injection hv with hv
    subst hv
    rcases h'.own.2 with ⟨h0, _⟩ | ⟨g', cap', cur', hv', hB', hh', _⟩
    · injection h0 with h0; subst h0; simp
    · injection hv' with hv'
      subst hv'
      simp only [Option.map_some, ne_eq, Option.some.injEq]
      rintro rfl
      rw [hh] at hh'
      injection hh' with hh'
      injection hh' with _ ht
      exact hne ht

/-- From which place, by which event, in order: all of the first k places, and j events from the next one. -/
def prs (es : List Int) (k j : Nat) : List (Int × Int) := (List.range k).flatMap (fun (i : Nat) => es.map fun e => ((i : Int), e)) ++ (es.take j).map fun e => ((k : Int), e)
theorem prs_succ (es : List Int) (k j : Nat) (h : j < es.length) : prs es k (j + 1) = prs es k j ++ [((k : Int), es.getD j 0)] := by
  unfold prs
  rw [take_snoc es 0 j h, List.map_append, List.append_assoc]; rfl
theorem prs_len (es : List Int) (k j : Nat) (h : j ≤ es.length) : (prs es k j).length = k * es.length + j := by
  unfold prs
  rw [List.length_append, List.length_map, List.length_take, Nat.min_eq_left h]
  congr 1
  induction k with
  | zero => simp
  | succ k ih => rw [List.range_succ, List.flatMap_append, List.length_append, ih]; simp [Nat.succ_mul]
/-- An arrow from place to place, as the step leads. -/
def Led {S : Type} (step : S → Int → S) (L : List S) (a : Arr) : Prop := ∃ (i j : Nat) (s : S), a.frm = i ∧ a.to_ = j ∧ L[i]? = some s ∧ L[j]? = some (step s a.evt)
theorem Led.snoc {S : Type} {step : S → Int → S} {L : List S} {a : Arr} (h : Led step L a) (t : S) : Led step (L ++ [t]) a := by
  obtain ⟨i, j, s, h1, h2, h3, h4⟩ := h
  have up : ∀ {i : Nat} {r : S}, L[i]? = some r → (L ++ [t])[i]? = some r := fun {i r} hr => by
    rw [List.getElem?_append_left (by rcases Nat.lt_or_ge i L.length with c | c; exact c; rw [List.getElem?_eq_none c] at hr; cases hr)]
    exact hr
  exact ⟨i, j, s, h1, h2, up h3, up h4⟩
/-- All places, and all arrows between them. -/
def Arrows {S : Type} (step : S → Int → S) (es : List Int) (k j : Nat) (L : List S) (ar : List Arr) : Prop := ar.map (fun a => (a.frm, a.evt)) = prs es k j ∧ ∀ a ∈ ar, Led step L a
theorem Arrows.len {S : Type} {step : S → Int → S} {es : List Int} {k j : Nat} {L : List S} {ar : List Arr} (h : Arrows step es k j L ar) (hj : j ≤ es.length) : ar.length = k * es.length + j := by
  rw [← prs_len es k j hj, ← h.1, List.length_map]
theorem Arrows.add {S : Type} {step : S → Int → S} {es : List Int} {k j i : Nat} {L : List S} {ar : List Arr} (h : Arrows step es k j L ar) (hj : j < es.length) {s : S} (hk : L[k]? = some s) (hi : L[i]? = some (step s (es.getD j 0))) : Arrows step es k (j + 1) L (ar ++ [⟨k, es.getD j 0, i⟩]) := by
  refine ⟨by rw [List.map_append, h.1, prs_succ es k j hj]; rfl, fun a ha => ?_⟩
  rcases List.mem_append.1 ha with ha | ha
  · exact h.2 a ha
  · rw [List.mem_singleton.1 ha]; exact ⟨k, i, s, rfl, rfl, hk, hi⟩
theorem Arrows.more {S : Type} {step : S → Int → S} {es : List Int} {k j : Nat} {L : List S} {ar : List Arr} (h : Arrows step es k j L ar) (t : S) : Arrows step es k j (L ++ [t]) ar := ⟨h.1, fun a ha => (h.2 a ha).snoc t⟩
end

section
open Go.RowKit

theorem Arrs.of_recs {ok : Nat → Prop} {w : World} {A : Option Addr} {l : List Arr} (h : Recs arrCells 3 ok w A l) : Arrs ok w A l :=
  ⟨h.isSome, h.block, fun i hi j hj => by
    have hl : l[i]? = some (l.getD i default) := by simp [List.getD_eq_getElem?_getD, hi]
    refine h.cell i _ hl j _ ?_
    match j, hj with
    | 0, _ => rfl
    | 1, _ => rfl
    | 2, _ => rfl⟩
theorem Own.cap {B e sz c n : Nat} {w : World} {A : Option Addr} {xs : List Value} (h : Own B e sz w A c n xs) : n ≤ c := by
  rcases h.own.2 with ⟨h0, _⟩ | ⟨g, cap, cur, hv, _, _, hnc, _⟩
  · injection h0 with _ h1 h2; omega
  · injection hv with _ _ h2; omega
theorem Own.ltB {B e sz c n : Nat} {w : World} {A : Option Addr} {xs : List Value} (h : Own B e sz w A c n xs) {b : Nat} (hb : some b = A.map (·.block)) : b < w.heap.size := by
  rcases h.form with ⟨h0, _⟩ | ⟨g, h0, _, hg⟩
  · subst h0; cases hb
  · subst h0; injection hb with hb; subst hb; exact hg
structure Hd where
  A : Option Addr
  c : Nat
  l : List Int
def Hd.cells (h : Hd) : List Value := [.slice h.A h.l.length h.c]
/-- Where a row may lie: not in what is written to. -/
structure Apt (lo : Nat) (w : World) (g : Nat) (X Y : Option Nat) (b : Nat) : Prop where
  lo : lo < b
  lt : b < w.heap.size
  g : b ≠ g
  x : some b ≠ X
  y : some b ≠ Y
def RowsAt (ok : Nat → Prop) (w : World) (hs : List Hd) : Prop := ∀ h ∈ hs, Ints ok w h.A h.l
theorem RowsAt.keep {ok ok' : Nat → Prop} {w w' : World} {hs : List Hd} (h : RowsAt ok w hs) (hk : ∀ b, ok b → w'.heap[b]? = w.heap[b]? ∧ ok' b) : RowsAt ok' w' hs := fun x hx => ((h x hx).keep fun b hb => (hk b hb).1).mono fun b hb => (hk b hb).2
theorem RowsAt.below {lo : Nat} {w w' : World} {g : Nat} {X Y : Option Nat} {hs : List Hd} (h : RowsAt (Apt lo w g X Y) w hs) (hb : Below w.heap.size w w') : RowsAt (Apt lo w' g X Y) w' hs :=
  h.keep fun b hb' => ⟨hb.block b hb'.lt, hb'.lo, Nat.lt_of_lt_of_le hb'.lt hb.size, hb'.g, hb'.x, hb'.y⟩
theorem RowsAt.lt {lo : Nat} {w : World} {g : Nat} {X Y : Option Nat} {hs : List Hd} (h : RowsAt (Apt lo w g X Y) w hs) : RowsAt (· < w.heap.size) w hs := fun x hx => (h x hx).mono fun _ hb => hb.lt

theorem Ints.both {ok ok' : Nat → Prop} {w : World} {A : Option Addr} {l : List Int} (h : Ints ok w A l) (h' : Ints ok' w A l) : Ints (fun b => ok b ∧ ok' b) w A l := ⟨h.isSome, fun hl => ⟨h.block hl, h'.block hl⟩, h.cell⟩
theorem Recs.both {α : Type} {enc : α → List Value} {sz : Nat} {ok ok' : Nat → Prop} {w : World} {A : Option Addr} {l : List α} (h : Recs enc sz ok w A l) (h' : Recs enc sz ok' w A l) : Recs enc sz (fun b => ok b ∧ ok' b) w A l := ⟨h.isSome, fun hl => ⟨h.block hl, h'.block hl⟩, h.cell⟩
theorem Arrs.keep' {ok ok' : Nat → Prop} {w w' : World} {A : Option Addr} {l : List Arr} (h : Arrs ok w A l) (hk : ∀ b, ok b → w'.heap[b]? = w.heap[b]? ∧ ok' b) : Arrs ok' w' A l := (h.keep fun b hb => (hk b hb).1).mono fun b hb => (hk b hb).2
theorem Ints.keep' {ok ok' : Nat → Prop} {w w' : World} {A : Option Addr} {l : List Int} (h : Ints ok w A l) (hk : ∀ b, ok b → w'.heap[b]? = w.heap[b]? ∧ ok' b) : Ints ok' w' A l := (h.keep fun b hb => (hk b hb).1).mono fun b hb => (hk b hb).2
theorem Recs.keep' {α : Type} {enc : α → List Value} {sz : Nat} {ok ok' : Nat → Prop} {w w' : World} {A : Option Addr} {l : List α} (h : Recs enc sz ok w A l) (hk : ∀ b, ok b → w'.heap[b]? = w.heap[b]? ∧ ok' b) : Recs enc sz ok' w' A l := (h.keep fun b hb => (hk b hb).1).mono fun b hb => (hk b hb).2
/-- one cell of a block: a slice -/
theorem sto_slice {P : Program} {K : Fr → World → Prop} {w : World} {f : Fr} {d : Option Nat} {g t ty : Nat} {cs : List Value} (hk : Blk w g t cs) (hty : tySize P ty = some 1) (j : Nat) (hj : j < cs.length) (A : Option Addr) (n c : Nat)
    (h : ∀ w', Blk w' g t (cs.set j (.slice A n c)) → Grew w w' (some ⟨g, 0, none⟩) → w'.heap.size = w.heap.size → K (updO f d undef) w') :
    Eff1 P K (do Instr.storeAt ty (.pointer (some ⟨g, j, none⟩)) (.slice A n c); pure undef) f d w := by
  have hc := hk.cell j
  have hf := hk.frozen j
  refine ⟨undef, w.setCell ⟨g, j, none⟩ (.slice A n c), ?_, h _ (hk.set j _) ⟨⟨rfl, rfl, rfl, by simp, fun _ hk' hne => Below.heap_setCell w _ _ _ (by simpa using hne)⟩⟩ (by simp)⟩
  unfold tySize at hty
  cases hi : P.info? ty with
  | none => simp [hi] at hty
  | some ie =>
    simp only [hi, Option.map_some, Option.some.injEq] at hty
    rw [List.getElem?_eq_getElem hj] at hc
    simp [Instr.storeAt, Instr.sureAddr, storeVar, sizeOf, typeInfo, hi, hty, Value.cells, storeCells, addr_add, run_store_slice, stored, hc, hf]

def mach0 : Mach := ⟨0, 0, [], [], []⟩
abbrev mv0 : MV := ⟨none, 0, none, 0, none, 0⟩
theorem mach0_is (ok : Nat → Prop) (w : World) : IsM ok w mv0 mach0 := ⟨Ints.nil _ _ _, Arrs.nil _ _ _, Ints.nil _ _ _⟩
end
end Go.Proofs.YtpinjiikiaakaaaDoor

/-
  Are two machines the same, two rows of rows: by their contracts.
-/
namespace Go.Proofs.YtpinjiikiaakaaaDoor
set_option linter.unusedSimpArgs false
set_option linter.unusedVariables false
set_option linter.unusedSectionVars false
open Go.RowKit

theorem arr_fields : (Tryd.prog.fieldsOf 66).toList.map (fun f => (f.name != "_", f.type, f.offset)) = [(true, 3, 0), (true, 3, 1), (true, 3, 2)] := by kernel_rfl
theorem eqFields_int (w : World) (d : Nat) (xs ys : Array Value) : ∀ (fs : List Field) (us vs : List Int), (∀ f ∈ fs, (f.name != "_") = true ∧ f.type = 3) → fs.length = us.length → us.length = vs.length →
    (∀ i f, fs[i]? = some f → (part 3 xs f.offset).run Tryd.prog w = .ok (.int .i64 (us.getD i 0)) w ∧ (part 3 ys f.offset).run Tryd.prog w = .ok (.int .i64 (vs.getD i 0)) w) →
    (Op.eqFields (d + 1) xs ys fs).run Tryd.prog w = .ok (decide (us = vs)) w
  | [], [], [], _, _, _, _ => by simp [Op.eqFields]
  | f :: fs, a :: us, b :: vs, hf, h1, h2, hp => by
    have hff := hf f (List.mem_cons_self ..)
    have hn : f.name ≠ "_" := by have := hff.1; simpa using this
    have hp0 := hp 0 f rfl
    simp only [List.getD_cons_zero] at hp0
    have ih := eqFields_int w d xs ys fs us vs (fun g hg => hf g (List.mem_cons_of_mem _ hg)) (by simpa using h1) (by simpa using h2) fun i g hg => by
      have := hp (i + 1) g (by simpa using hg)
      simpa using this
    unfold Op.eqFields
    rw [if_pos hn, hff.2]
    simp only [Sem.run_bind, hp0.1, hp0.2, Result.andThen_ok, run_equalIn_int w d 3 .i64 .i64 a b Tryd.underlying3]
    by_cases hab : a = b
    · subst hab
      simp [ih]
    · have : (a == b) = false := by simpa using hab
      simp [this, hab]
theorem run_part_arr (w : World) (a : Arr) (j : Nat) (hj : j < 3) : (part 3 (arrCells a).toArray j).run Tryd.prog w = .ok (.int .i64 (a.cell j)) w :=
  run_part_plain w (by kernel_rfl) (by
    match j, hj with
    | 0, _ => rfl
    | 1, _ => rfl
    | 2, _ => rfl)
theorem equal_arr (w : World) (a b : Arr) : (Op.equalIn 10000 66 (arrVal a) (arrVal b)).run Tryd.prog w = .ok (decide (a = b)) w := by
  have hx := arr_fields
  have hs : Tryd.prog.underlying 66 = some (.struct (Tryd.prog.fieldsOf 66)) := by kernel_rfl
  rw [run_equalIn_agg w 9999 66 _ _ hs (by kernel_rfl)]
  generalize (Tryd.prog.fieldsOf 66).toList = fs at hx
  obtain ⟨f0, f1, f2, rfl⟩ : ∃ f0 f1 f2, fs = [f0, f1, f2] := by
    have hl : fs.length = 3 := by simpa using congrArg List.length hx
    match fs, hl with
    | [a, b, c], _ => exact ⟨a, b, c, rfl⟩
  simp only [List.map_cons, List.map_nil, List.cons.injEq, Prod.mk.injEq] at hx
  obtain ⟨⟨n0, t0, o0⟩, ⟨n1, t1, o1⟩, ⟨n2, t2, o2⟩, _⟩ := hx
  rw [eqFields_int w 9998 _ _ [f0, f1, f2] [a.frm, a.evt, a.to_] [b.frm, b.evt, b.to_] (by
    intro f hf
    rcases List.mem_cons.1 hf with rfl | hf
    · exact ⟨n0, t0⟩
    · rcases List.mem_cons.1 hf with rfl | hf
      · exact ⟨n1, t1⟩
      · rw [List.mem_singleton.1 hf]; exact ⟨n2, t2⟩) rfl rfl (by
    intro i f hi
    match i, hi with
    | 0, hi => cases hi; rw [o0]; exact ⟨run_part_arr w a 0 (by decide), run_part_arr w b 0 (by decide)⟩
    | 1, hi => cases hi; rw [o1]; exact ⟨run_part_arr w a 1 (by decide), run_part_arr w b 1 (by decide)⟩
    | 2, hi => cases hi; rw [o2]; exact ⟨run_part_arr w a 2 (by decide), run_part_arr w b 2 (by decide)⟩
    | n + 3, hi => cases hi)]
  have he : decide ([a.frm, a.evt, a.to_] = [b.frm, b.evt, b.to_]) = decide (a = b) := decide_eq_decide.2 ⟨fun h => by cases a; cases b; simp_all, fun h => by rw [h]⟩
  rw [he]
end Go.Proofs.YtpinjiikiaakaaaDoor

/-
  Chapter 3: what can be come to: the program's spread, back, Reach, Live: by their contracts.
  Chapter 3: the program's Only, Reach, Live, Trim: by their contracts.
  Chapter 3: the reference's place, places, Reach, Live; chapter 2: its Sort: by their contracts.
-/
namespace Go.Proofs.YtpinjiikiaakaaaDoor
set_option linter.unusedSimpArgs false
set_option linter.unusedVariables false
set_option linter.unusedSectionVars false
section
open Go.RowKit

/-- Arrows between states. -/
def ArSmall (ar : List Arr) : Prop := ∀ a ∈ ar, (0 ≤ a.frm ∧ a.frm < 256) ∧ (0 ≤ a.to_ ∧ a.to_ < 256)
theorem ArSmall.eds {ar : List Arr} (h : ArSmall ar) (p : Arr → Bool) (rev : Bool) : ∀ e ∈ eds p rev ar, 0 ≤ e.2 ∧ e.2 < 256 := fun e he => by
  obtain ⟨a, ha, _, rfl⟩ := mem_eds.1 he
  cases rev
  · exact (h a ha).2
  · exact (h a ha).1
/-- An arrow the other way round. -/
def Arr.back (a : Arr) : Arr := ⟨a.to_, a.evt, a.frm⟩
end

section
open Go.RowKit

structure Mid (lo hi : Nat) (w w' : World) : Prop where
  size : hi ≤ w'.heap.size
  block : ∀ b, lo < b → b < hi → w'.heap[b]? = w.heap[b]?
theorem Mid.start {lo : Nat} {w : World} : Mid lo w.heap.size w w := ⟨Nat.le_refl _, fun _ _ _ => rfl⟩
theorem Mid.below {lo hi : Nat} {w w' w'' : World} (h : Mid lo hi w w') (hb : Below w'.heap.size w' w'') : Mid lo hi w w'' :=
  ⟨Nat.le_trans h.size hb.size, fun b h1 h2 => (hb.block b (Nat.lt_of_lt_of_le h2 h.size)).trans (h.block b h1 h2)⟩
theorem Mid.same {lo hi : Nat} {w w' w'' : World} (h : Mid lo hi w w') (hs : Same w' w'') : Mid lo hi w w'' := h.below (hs.below _)
theorem Mid.grew {lo hi : Nat} {w w' w'' : World} {A : Option Addr} (h : Mid lo hi w w') (hg : Grew w' w'' A) (hA : ∀ a, A = some a → a.block ≤ lo ∨ hi ≤ a.block) : Mid lo hi w w'' :=
  ⟨Nat.le_trans h.size hg.by_.size, fun b h1 h2 => (hg.by_.block b (Nat.lt_of_lt_of_le h2 h.size) (fun e => by
    cases A with
    | none => cases e
    | some a => have e : b = a.block := by simpa using e
                rcases hA a rfl with h3 | h3 <;> omega)).trans (h.block b h1 h2)⟩
/-- What one owns, newer than a mark. -/
theorem OwnI.between {B e c : Nat} {w : World} {A : Option Addr} {l : List Int} (h : OwnI B e w A c l) {lo : Nat} (hlo : lo < B) : Ints (fun b => lo < b ∧ b < w.heap.size) w A l :=
  ((OwnI.ints h).both (OwnI.ints h).lt).mono fun b hb => ⟨Nat.lt_of_lt_of_le hlo hb.1.1, hb.2⟩

section
variable {P : Program} {K : Fr → World → Prop} {f : Fr} {d : Option Nat} {w : World} {t e bytes : Nat}
end
end

section
open Go.RowKit

def atA (x : Arr) : List Arr → Nat
  | [] => 0
  | y :: o => if y.lt x then atA x o + 1 else 0
theorem atA_eq {x : Arr} : ∀ {o : List Arr} {n : Nat}, n ≤ o.length → (∀ j, j < n → (o.getD j default).lt x) → (n < o.length → ¬ (o.getD n default).lt x) → atA x o = n
  | [], n, hn, _, _ => by simp at hn; rw [hn]; rfl
  | y :: o, 0, _, _, h2 => by
    have := h2 (by simp)
    unfold atA
    rw [if_neg (show ¬ y.lt x from this)]
  | y :: o, n + 1, hn, h1, h2 => by
    unfold atA
    have h0 := h1 0 (by omega)
    rw [if_pos (show y.lt x from h0), atA_eq (o := o) (n := n) (by simpa using hn) (fun j hj => by have := h1 (j + 1) (by omega); simpa using this) fun hlt => by
      have := h2 (by simpa using hlt)
      simpa using this]
def insA (x : Arr) (o : List Arr) : List Arr := if atA x o < o.length ∧ o.getD (atA x o) default = x then o else o.take (atA x o) ++ x :: o.drop (atA x o)
def sortA (l : List Arr) : List Arr := l.foldl (fun o x => insA x o) []
theorem sortA_snoc (l : List Arr) (k : Nat) (h : k < l.length) : sortA (l.take (k + 1)) = insA (l.getD k default) (sortA (l.take k)) := by
  unfold sortA
  rw [take_snoc _ default k h, List.foldl_append]; rfl
theorem sortA_ord {l : List Arr} (h : OrdA l) : sortA l = l := by
  have key : ∀ k, k ≤ l.length → sortA (l.take k) = l.take k := by
    intro k
    induction k with
    | zero => intro _; rfl
    | succ k ih =>
      intro hk
      rw [sortA_snoc l k hk, ih (by omega), take_snoc l default k hk]
      have hl : (l.take k).length = k := by simp; omega
      have hat : atA (l.getD k default) (l.take k) = k := atA_eq (by omega) (fun j hj => by
        have := h.at_ hj hk
        rwa [show (l.take k).getD j default = l.getD j default by simp [List.getD_eq_getElem?_getD, List.getElem?_take, hj]]) (by omega)
      unfold insA
      rw [hat, if_neg (by omega), List.take_of_length_le (by omega), List.drop_of_length_le (by omega)]
  have := key l.length (Nat.le_refl _)
  rwa [List.take_length] at this
section
variable {P : Program} {K : Fr → World → Prop} {u w : World} {f : Fr} {d : Option Nat} {A : Option Addr} {n c B e bytes t : Nat} {xs : List Value}
theorem Own.take {sz : Nat} (h : Own B e sz w A c n xs) {k : Nat} (hk : k ≤ n) (h0 : n = 0 → k = 0) : Own B e sz w A c k (xs.take (k * sz)) := by
  obtain ⟨hl, hh⟩ := h.own
  have hkn : k * sz ≤ n * sz := Nat.mul_le_mul_right _ hk
  refine ⟨⟨by rw [List.length_take]; omega, ?_⟩⟩
  rcases hh with ⟨h1, h2⟩ | ⟨g, cap, cur, hv, hB, hg, hnc, h3, h4, h5⟩
  · injection h1 with h1 h6 h7
    subst h1 h6 h7
    obtain rfl := h0 rfl
    exact .inl ⟨rfl, rfl⟩
  · injection hv with e1 e2 e3
    subst e1 e3
    refine .inr ⟨g, c, cur, rfl, hB, hg, by omega, h3, h4, ?_⟩
    rw [← h5, List.take_take, Nat.min_eq_left hkn]
end
theorem eql_run_arr (w : World) (xo yo : Operand) (a b : Arr) : (binS .eql 66 xo yo (arrVal a) (arrVal b)).run Tryd.prog w = .ok (.bool (decide (a = b))) w := by
  unfold binS
  rw [Sem.run_bind, run_eqGuard_agg w .eql 66 xo yo _ _ (by kernel_rfl), Result.andThen_ok, run_eql_struct w, equal_arr w a b]; rfl
theorem eql_arr {K : Fr → World → Prop} {u w : World} {f : Fr} {d : Option Nat} {xo yo : Operand} (a b : Arr) : Val1 Tryd.prog K (binS .eql 66 xo yo (arrVal a) (arrVal b)) u f d w = K (updO f d (.bool (decide (a = b)))) w :=
  val1_of u f d w fun w' _ => eql_run_arr w' xo yo a b
theorem Arrs.lt {ok : Nat → Prop} {w : World} {A : Option Addr} {l : List Arr} (h : Arrs ok w A l) : Arrs (· < w.heap.size) w A l :=
  ⟨h.isSome, fun hl => by
    have := World.block_lt_of_cell? w _ (h.cell 0 hl 0 (by decide))
    rwa [eA_block] at this, h.cell⟩
theorem Rd.below {w w' : World} {A : Option Addr} {xs : List Value} (h : Rd w A xs) (hb : Below w.heap.size w w') : Rd w' A xs := ⟨h.isSome, fun j v hv => below_cell hb (h.cell j v hv)⟩
end
end Go.Proofs.YtpinjiikiaakaaaDoor

/-
  What a text is read as: tokens, their fform, names and numbers; or the first fault. As functions of the text; no program in sight.
-/
namespace Go.Proofs.YtpinjiikiaakaaaDoor
set_option linter.unusedSimpArgs false
set_option linter.unusedVariables false
set_option linter.unusedSectionVars false
open Go.RowKit

/-- A token: its kind, its bytes, where it stands. -/
structure Tok where
  k : Int
  s : ByteArray
  at_ : Int
instance : Inhabited Tok := ⟨⟨0, ⟨#[]⟩, 0⟩⟩
def Tok.cells (t : Tok) : List Value := [.int .i64 t.k, .string t.s, .int .i64 t.at_]
theorem tokEnc : Enc Tok.cells 3 := ⟨fun _ => rfl, fun t u hu => by
  unfold Tok.cells at hu
  simp only [List.mem_cons, List.not_mem_nil, or_false] at hu
  rcases hu with rfl | rfl | rfl <;> rfl⟩
def isBlank (c : Int) : Prop := c = 32 ∨ c = 10
def isSign (c : Int) : Prop := c = 59 ∨ c = 44
instance (c : Int) : Decidable (isBlank c) := inferInstanceAs (Decidable (_ ∨ _))
instance (c : Int) : Decidable (isSign c) := inferInstanceAs (Decidable (_ ∨ _))
/-- How far a word goes. -/
def wordN : List UInt8 → Nat
  | [] => 0
  | c :: l => if IsIn (c.toNat : Int) then wordN l + 1 else 0
theorem wordN_at : ∀ (l : List UInt8) (n : Nat), n ≤ l.length → (∀ j, j < n → IsIn ((l.getD j 0).toNat : Int)) → (n < l.length → ¬ IsIn ((l.getD n 0).toNat : Int)) → wordN l = n
  | [], n, h, _, _ => by have : n = 0 := by simpa using h
                         subst this; rfl
  | c :: l, 0, _, _, h2 => by
    unfold wordN
    rw [if_neg (by simpa using h2 (by simp))]
  | c :: l, n + 1, h, h1, h2 => by
    unfold wordN
    rw [if_pos (by simpa using h1 0 (by omega)), wordN_at l n (by simpa using h) (fun j hj => by simpa using h1 (j + 1) (by omega)) (fun hn => by simpa using h2 (by simpa using hn))]
/-- The tokens of a text from a place on, or the first fault (code, place). -/
def toks (at_ : Nat) (l : List UInt8) : List Tok × Option (Int × Int) :=
  match l with
  | [] => ([], none)
  | c :: r =>
    if isBlank (c.toNat : Int) then toks (at_ + 1) r
    else if isSign (c.toNat : Int) then (⟨3, ⟨#[c]⟩, at_⟩ :: (toks (at_ + 1) r).1, (toks (at_ + 1) r).2)
    else if ¬ IsLet (c.toNat : Int) then ([], some (2, at_))
    else if 16 < wordN r + 1 then ([], some (1, at_))
    else (⟨1, ⟨(c :: r.take (wordN r)).toArray⟩, at_⟩ :: (toks (at_ + 1 + wordN r) (r.drop (wordN r))).1, (toks (at_ + 1 + wordN r) (r.drop (wordN r))).2)
termination_by l.length
decreasing_by all_goals (simp only [List.length_cons, List.length_drop]; omega)
theorem toks_nil (a : Nat) : toks a [] = ([], none) := by rw [toks]
theorem toks_cons (a : Nat) (c : UInt8) (r : List UInt8) : toks a (c :: r) =
    if isBlank (c.toNat : Int) then toks (a + 1) r
    else if isSign (c.toNat : Int) then (⟨3, ⟨#[c]⟩, a⟩ :: (toks (a + 1) r).1, (toks (a + 1) r).2)
    else if ¬ IsLet (c.toNat : Int) then ([], some (2, (a : Int)))
    else if 16 < wordN r + 1 then ([], some (1, (a : Int)))
    else (⟨1, ⟨(c :: r.take (wordN r)).toArray⟩, a⟩ :: (toks (a + 1 + wordN r) (r.drop (wordN r))).1, (toks (a + 1 + wordN r) (r.drop (wordN r))).2) := by
  rw [toks]
theorem toks_len : ∀ (n : Nat) (l : List UInt8), l.length ≤ n → ∀ a, (toks a l).1.length ≤ l.length
  | _, [], _, a => by rw [toks_nil]; exact Nat.le_refl _
  | 0, c :: r, h, _ => by simp at h
  | n + 1, c :: r, h, a => by
    have hr : r.length ≤ n := by simpa using h
    rw [toks_cons, List.length_cons]
    split
    · have := toks_len n r hr (a + 1); omega
    · split
      · have := toks_len n r hr (a + 1); simp only [List.length_cons]; omega
      · split
        · simp
        · split
          · simp
          · have := toks_len n (r.drop (wordN r)) (by rw [List.length_drop]; omega) (a + 1 + wordN r)
            rw [List.length_drop] at this
            simp only [List.length_cons]; omega
/-- What may come next: a part's word; a name; a name or the end; a comma or the end. -/
inductive Nx where
  | p
  | n
  | m
  | z
  deriving DecidableEq
structure FSt where
  part : Nat
  names : Nat
  next : Nx
def partWs : List ByteArray := [⟨stB.toArray⟩, ⟨evB.toArray⟩, ⟨snB.toArray⟩, ⟨frB.toArray⟩, ⟨fuB.toArray⟩, ⟨scB.toArray⟩, ⟨saB.toArray⟩, ⟨enB.toArray⟩, ⟨arB.toArray⟩]
abbrev semi : ByteArray := ⟨#[59]⟩
abbrev comma : ByteArray := ⟨#[44]⟩
def afterName (st : FSt) : Option (FSt × Int) := some (⟨st.part, st.names + 1, if st.part = 8 then (if 0 < (st.names + 1) % 3 then .n else .z) else .m⟩, (st.part : Int))
def fstep (st : FSt) (t : Tok) : Option (FSt × Int) :=
  match st.next with
  | .p => if st.part < 9 ∧ t.k = 1 ∧ t.s = partWs.getD st.part ⟨#[]⟩ then some (⟨st.part, 0, if st.part = 0 then .n else .m⟩, -1) else none
  | .n => if t.k = 1 then afterName st else none
  | .m => if t.k = 1 then afterName st else if t.s = semi then some (⟨st.part + 1, st.names, .p⟩, -1) else none
  | .z => if t.s = semi then some (⟨st.part + 1, st.names, .p⟩, -1) else if t.s = comma then some (⟨st.part, st.names, .n⟩, -1) else none
def fs0 : FSt := ⟨0, 0, .p⟩
/-- Of each right token the part that it is a name of; and where that stops. -/
def fform : FSt → List Tok → List Int × FSt
  | st, [] => ([], st)
  | st, t :: ts => match fstep st t with
    | none => ([], st)
    | some (st', i) => (i :: (fform st' ts).1, (fform st' ts).2)
def endTok (en : Int) : Tok := ⟨0, ⟨#[]⟩, en⟩
theorem step_end (st : FSt) (en : Int) : fstep st (endTok en) = none := by
  unfold fstep endTok
  cases st.next <;> simp [semi, comma]
theorem form_some {st st' : FSt} {t : Tok} {ts : List Tok} {i : Int} (h : fstep st t = some (st', i)) : fform st (t :: ts) = (i :: (fform st' ts).1, (fform st' ts).2) := by
  rw [fform, h]
theorem form_none {st : FSt} {t : Tok} {ts : List Tok} (h : fstep st t = none) : fform st (t :: ts) = ([], st) := by
  rw [fform, h]
structure FReach (ts : List Tok) (i : Nat) (st : FSt) (of : List Int) : Prop where
  eq : fform fs0 ts = (of ++ (fform st (ts.drop i)).1, (fform st (ts.drop i)).2)
  len : of.length = i
  le : i ≤ ts.length
theorem FReach.zero (ts : List Tok) : FReach ts 0 fs0 [] := ⟨rfl, rfl, Nat.zero_le _⟩
theorem FReach.next {ts : List Tok} {i : Nat} {st st' : FSt} {of : List Int} {x en : Int} (h : FReach ts i st of) (hs : fstep st (ts.getD i (endTok en)) = some (st', x)) : i < ts.length ∧ FReach ts (i + 1) st' (of ++ [x]) := by
  have hi : i < ts.length := by
    apply Classical.byContradiction
    intro hc
    rw [List.getD_eq_getElem?_getD, List.getElem?_eq_none (by omega)] at hs
    rw [Option.getD_none, step_end] at hs
    cases hs
  refine ⟨hi, ⟨?_, by rw [List.length_append, h.len]; rfl, hi⟩⟩
  have hd : ts.drop i = ts[i] :: ts.drop (i + 1) := List.drop_eq_getElem_cons hi
  have hg : ts.getD i (endTok en) = ts[i] := by rw [List.getD_eq_getElem?_getD, List.getElem?_eq_getElem hi]; rfl
  rw [hg] at hs
  rw [h.eq, hd, form_some hs]
  simp only [List.append_assoc, List.singleton_append]
theorem FReach.stuck {ts : List Tok} {i : Nat} {st : FSt} {of : List Int} {en : Int} (h : FReach ts i st of) (hs : fstep st (ts.getD i (endTok en)) = none) : fform fs0 ts = (of, st) := by
  rw [h.eq]
  rcases Nat.lt_or_ge i ts.length with hi | hi
  · have hd : ts.drop i = ts[i] :: ts.drop (i + 1) := List.drop_eq_getElem_cons hi
    have hg : ts.getD i (endTok en) = ts[i] := by rw [List.getD_eq_getElem?_getD, List.getElem?_eq_getElem hi]; rfl
    rw [hg] at hs
    rw [hd, form_none hs]
    simp
  · rw [List.drop_eq_nil_of_le hi]
    simp [fform]
def fsel (ts : List Tok) (of : List Int) (j : Nat) : List Tok := ((ts.zip of).filter fun p => decide (p.2 = (j : Int))).map (·.1)
theorem sel_next (ts : List Tok) (of : List Int) (x : Int) (j : Nat) (en : Int) (h : of.length < ts.length) : fsel ts (of ++ [x]) j = fsel ts of j ++ (if x = j then [ts.getD of.length (endTok en)] else []) := by
  have hg : ts.getD of.length (endTok en) = ts[of.length] := by rw [List.getD_eq_getElem?_getD, List.getElem?_eq_getElem h]; rfl
  have hz : ts.zip (of ++ [x]) = ts.zip of ++ [(ts[of.length], x)] := by
    apply List.ext_getElem?
    intro i
    rw [List.getElem?_append]
    have hl : (ts.zip of).length = of.length := by rw [List.length_zip]; omega
    rw [hl]
    simp only [List.zip, List.getElem?_zipWith, List.getElem?_append]
    by_cases c : i < of.length
    · rw [if_pos c, if_pos c]
    · rw [if_neg c, if_neg c]
      by_cases c2 : i = of.length
      · subst c2
        simp [h]
      · have : i - of.length ≠ 0 := by omega
        obtain ⟨k, hk⟩ := Nat.exists_eq_succ_of_ne_zero this
        rw [hk]
        simp
  unfold fsel
  rw [hz, List.filter_append, List.map_append, hg]
  congr 1
  by_cases c : x = (j : Int)
  · rw [if_pos c]; simp [c]
  · rw [if_neg c]; simp [c]
abbrev Flt := Int × Int
def decl (most : Nat) : List ByteArray → List Tok → Except Flt (List ByteArray)
  | acc, [] => .ok acc
  | acc, t :: ts => if t.s ∈ acc then .error (5, t.at_) else if most ≤ acc.length then .error (1, t.at_) else decl most (acc ++ [t.s]) ts
def rowF (names : List ByteArray) : List Int → List Tok → Except Flt (List Int)
  | acc, [] => .ok acc
  | acc, t :: ts => if ixS t.s names < 0 then .error (4, t.at_) else if ixS t.s names ∈ acc then .error (5, t.at_) else rowF names (acc ++ [ixS t.s names]) ts
def arrF (S E : List ByteArray) : List Arr → List Tok → Except Flt (List Arr)
  | acc, a :: b :: c :: ts => if ixS a.s S < 0 then .error (4, a.at_) else if ixS b.s E < 0 then .error (4, b.at_) else if ixS c.s S < 0 then .error (4, c.at_)
      else if (⟨ixS a.s S, ixS b.s E, ixS c.s S⟩ : Arr) ∈ acc then .error (5, a.at_) else arrF S E (acc ++ [⟨ixS a.s S, ixS b.s E, ixS c.s S⟩]) ts
  | acc, _ => .ok acc
/-- What the names of the parts come to: part by part. -/
def namesS (N : Nat → List Tok) : Except Flt Pj :=
  match decl 6 [] (N 0) with
  | .error f => .error f
  | .ok S => match decl 8 [] (N 1) with
    | .error f => .error f
    | .ok E => match rowF E [] (N 2) with
      | .error f => .error f
      | .ok r2 => match rowF E [] (N 3) with
        | .error f => .error f
        | .ok r3 => match rowF E [] (N 4) with
          | .error f => .error f
          | .ok r4 => match rowF S [] (N 5) with
            | .error f => .error f
            | .ok r5 => match rowF S [] (N 6) with
              | .error f => .error f
              | .ok r6 => match rowF S [] (N 7) with
                | .error f => .error f
                | .ok r7 => match arrF S E [] (N 8) with
                  | .error f => .error f
                  | .ok A => .ok ⟨S, E, ⟨S.length, E.length, sortedL r6, sortA A, sortedL r7⟩, sortedL r2, sortedL r3, sortedL r4, sortedL r5⟩
/-- What a text is read as. -/
def parseS (l : List UInt8) : Except Flt Pj :=
  if 4000 < l.length then .error (1, 0)
  else match (toks 0 l).2 with
    | some f => .error f
    | none =>
      if (fform fs0 (toks 0 l).1).1.length = (toks 0 l).1.length ∧ (fform fs0 (toks 0 l).1).2.part = 9 then namesS fun j => fsel (toks 0 l).1 (fform fs0 (toks 0 l).1).1 j
      else .error (2, ((toks 0 l).1.getD (fform fs0 (toks 0 l).1).1.length (endTok l.length)).at_)
structure RS where
  S : List ByteArray
  E : List ByteArray
  rows : List (List Int)
  arrows : List Arr
  three : List Int
  first : Int
def RS.out (s : RS) : Pj := ⟨s.S, s.E, ⟨s.S.length, s.E.length, sortedL (s.rows.getD 6 []), sortA s.arrows, sortedL (s.rows.getD 7 [])⟩, sortedL (s.rows.getD 2 []), sortedL (s.rows.getD 3 []), sortedL (s.rows.getD 4 []), sortedL (s.rows.getD 5 [])⟩
def tg (k : Nat) (ts : List Tok) : List (Tok × Int) := ts.map fun t => (t, (k : Int))
structure FSt.Ok (st : FSt) : Prop where
  le : st.part ≤ 9
  lt : st.next ≠ .p → st.part ≤ 8
  mz : st.part = 8 → (st.next = .m ∨ st.next = .z) → st.names % 3 = 0
theorem fs0_ok : fs0.Ok := ⟨by decide, fun h => absurd rfl h, fun h => by cases h⟩
def fcnt (st : FSt) : Nat := if st.part = 8 ∧ st.next ≠ .p then st.names else 0
structure StepOk (st st' : FSt) (i : Int) : Prop where
  ok : st'.Ok
  le : st.part ≤ st'.part
  tag : i = -1 ∨ (i = st.part ∧ st'.part = st.part ∧ st.part ≤ 8)
  fcnt : ((if i = 8 then 1 else 0) + fcnt st) % 3 = fcnt st' % 3
theorem an_ok {st st' : FSt} {i : Int} (h : st.Ok) (hp : st.next ≠ .p) (ha : afterName st = some (st', i)) : StepOk st st' i := by
  have h8 := h.lt hp
  unfold afterName at ha
  injection ha with ha
  injection ha with h1 h2
  subst h1 h2
  refine ⟨⟨h.le, fun _ => h8, fun e hm => ?_⟩, Nat.le_refl _, .inr ⟨rfl, rfl, h8⟩, ?_⟩
  · simp only at e hm ⊢
    rw [if_pos e] at hm
    by_cases c : 0 < (st.names + 1) % 3
    · rw [if_pos c] at hm; rcases hm with hm | hm <;> cases hm
    · omega
  · unfold Go.Proofs.YtpinjiikiaakaaaDoor.fcnt
    by_cases e : st.part = 8
    · have : (if st.part = 8 then (if 0 < (st.names + 1) % 3 then Nx.n else .z) else .m) ≠ .p := by
        rw [if_pos e]; split <;> simp
      rw [if_pos (by omega), if_pos ⟨e, hp⟩, if_pos ⟨e, this⟩, Nat.add_comm]
    · rw [if_neg (by omega), if_neg (fun c => e c.1), if_neg (fun c => e c.1)]
theorem sm_ok {st st' : FSt} {i : Int} (h : st.Ok) (hp : st.next ≠ .p) (hm : st.part = 8 → st.names % 3 = 0) (ha : some ((⟨st.part + 1, st.names, .p⟩ : FSt), (-1 : Int)) = some (st', i)) : StepOk st st' i := by
  have h8 := h.lt hp
  injection ha with ha
  injection ha with h1 h2
  subst h1 h2
  refine ⟨⟨by simp only; omega, fun e => absurd rfl e, fun _ e => by rcases e with e | e <;> cases e⟩, Nat.le_succ _, .inl rfl, ?_⟩
  unfold Go.Proofs.YtpinjiikiaakaaaDoor.fcnt
  by_cases e : st.part = 8
  · rw [if_neg (by decide), if_pos ⟨e, hp⟩]; have := hm e; simp only [ne_eq, not_true_eq_false, and_false, ↓reduceIte]; omega
  · rw [if_neg (by decide), if_neg (fun c => e c.1)]; simp
theorem step_ok {st st' : FSt} {t : Tok} {i : Int} (h : st.Ok) (hs : fstep st t = some (st', i)) : StepOk st st' i := by
  have hq := h.mz
  have hl := h.lt
  unfold fstep at hs
  cases hn : st.next with
  | p =>
    simp only [hn] at hs
    split at hs
    · rename_i hc
      injection hs with hs
      injection hs with h1 h2
      subst h1 h2
      refine ⟨⟨h.le, fun _ => by simp only; omega, fun _ _ => rfl⟩, Nat.le_refl _, .inl rfl, ?_⟩
      unfold Go.Proofs.YtpinjiikiaakaaaDoor.fcnt
      rw [if_neg (by decide), if_neg (fun c => c.2 hn)]
      simp
    · cases hs
  | n =>
    simp only [hn] at hs
    split at hs
    · exact an_ok h (by rw [hn]; simp) hs
    · cases hs
  | m =>
    simp only [hn] at hs
    split at hs
    · exact an_ok h (by rw [hn]; simp) hs
    · split at hs
      · exact sm_ok h (by rw [hn]; simp) (fun e => hq e (.inl hn)) hs
      · cases hs
  | z =>
    have hp : st.next ≠ .p := by rw [hn]; simp
    simp only [hn] at hs
    split at hs
    · exact sm_ok h hp (fun e => hq e (.inr hn)) hs
    · split at hs
      · injection hs with hs
        injection hs with h1 h2
        subst h1 h2
        refine ⟨⟨h.le, fun _ => hl hp, fun _ e => by rcases e with e | e <;> cases e⟩, Nat.le_refl _, .inl rfl, ?_⟩
        unfold Go.Proofs.YtpinjiikiaakaaaDoor.fcnt
        by_cases e : st.part = 8
        · rw [if_neg (by decide), if_pos ⟨e, hp⟩, if_pos ⟨e, by simp⟩, Nat.zero_add]
        · rw [if_neg (by decide), if_neg (fun c => e c.1), if_neg (fun c => e c.1)]
      · cases hs
/-- The tagged tokens, in order. -/
def tagd (ts : List Tok) (of : List Int) : List (Tok × Int) := (ts.zip of).filter fun p => decide (0 ≤ p.2)
theorem form_ok : ∀ (ts : List Tok) (st : FSt), st.Ok → (fform st ts).2.Ok ∧ st.part ≤ (fform st ts).2.part ∧
    (∀ p ∈ tagd ts (fform st ts).1, (st.part : Int) ≤ p.2 ∧ p.2 ≤ 8) ∧ (tagd ts (fform st ts).1).Pairwise (fun p q => p.2 ≤ q.2) ∧
    (((tagd ts (fform st ts).1).filter fun p => decide (p.2 = 8)).length + fcnt st) % 3 = fcnt (fform st ts).2 % 3
  | [], st, h => by
    have e : tagd [] (fform st []).1 = [] := rfl
    rw [e]
    exact ⟨h, Nat.le_refl _, (fun p hp => by cases hp), List.Pairwise.nil, by simp [fform]⟩
  | t :: ts, st, h => by
    cases hs : fstep st t with
    | none =>
      rw [form_none hs]
      have e : tagd (t :: ts) [] = [] := rfl
      simp only [e]
      exact ⟨h, Nat.le_refl _, (fun p hp => by cases hp), List.Pairwise.nil, by simp⟩
    | some q =>
      obtain ⟨st', i⟩ := q
      rw [form_some hs]
      have so := step_ok h hs
      obtain ⟨i1, i2, i3, i4, i5⟩ := form_ok ts st' so.ok
      have le := so.le
      have sc := so.fcnt
      refine ⟨i1, Nat.le_trans le i2, ?_⟩
      rcases so.tag with hi | ⟨hi, hp, h8⟩
      · have e : tagd (t :: ts) (i :: (fform st' ts).1) = tagd ts (fform st' ts).1 := by
          unfold tagd
          rw [List.zip_cons_cons, List.filter_cons_of_neg (by simp [hi])]
        simp only [e]
        rw [if_neg (by omega)] at sc
        exact ⟨fun p hp => ⟨by have := (i3 p hp).1; omega, (i3 p hp).2⟩, i4, by omega⟩
      · have e : tagd (t :: ts) (i :: (fform st' ts).1) = (t, i) :: tagd ts (fform st' ts).1 := by
          unfold tagd
          rw [List.zip_cons_cons, List.filter_cons_of_pos (by simp; omega)]
        simp only [e]
        refine ⟨fun p hp' => ?_, List.Pairwise.cons (fun p hp' => by have := (i3 p hp').1; simp only; omega) i4, ?_⟩
        · rcases List.mem_cons.1 hp' with rfl | hp'
          · simp only; omega
          · have := i3 p hp'; omega
        · by_cases c : i = 8
          · rw [if_pos c] at sc
            rw [List.filter_cons_of_pos (by simpa using c), List.length_cons]; omega
          · rw [if_neg c] at sc
            rw [List.filter_cons_of_neg (by simpa using c)]; omega
theorem sel_tg (ts : List Tok) (of : List Int) (j : Nat) : (tagd ts of).filter (fun p => decide (p.2 = (j : Int))) = tg j (fsel ts of j) := by
  unfold tagd fsel tg
  rw [List.filter_filter, List.map_map]
  have e : ((ts.zip of).filter fun p => decide (p.2 = (j : Int)) && decide (0 ≤ p.2)) = (ts.zip of).filter fun p => decide (p.2 = (j : Int)) := by
    apply List.filter_congr
    intro p _
    by_cases c : p.2 = (j : Int)
    · simp [c]
    · simp [c]
  rw [e]
  generalize ts.zip of = l
  induction l with
  | nil => rfl
  | cons p l ih =>
    by_cases c : p.2 = (j : Int)
    · rw [List.filter_cons_of_pos (by simpa using c), List.map_cons, ← ih]
      cases p
      simp only at c
      subst c
      rfl
    · rw [List.filter_cons_of_neg (by simpa using c)]; exact ih
theorem sel8_mod (ts : List Tok) (h : (fform fs0 ts).2.part = 9) : (fsel ts (fform fs0 ts).1 8).length % 3 = 0 := by
  obtain ⟨_, _, _, _, h5⟩ := form_ok ts fs0 fs0_ok
  have e := sel_tg ts (fform fs0 ts).1 8
  have e2 : fcnt (fform fs0 ts).2 = 0 := by unfold fcnt; rw [if_neg (by omega)]
  have e3 : fcnt fs0 = 0 := rfl
  rw [e2, e3] at h5
  have e4 : ((tagd ts (fform fs0 ts).1).filter fun p => decide (p.2 = 8)).length = (fsel ts (fform fs0 ts).1 8).length := by
    have := congrArg List.length e
    rw [show (tg 8 (fsel ts (fform fs0 ts).1 8)).length = (fsel ts (fform fs0 ts).1 8).length by simp [tg]] at this
    exact this
  omega
end Go.Proofs.YtpinjiikiaakaaaDoor

/-
  What lies in blocks that hold elements of some types, or that lay there at first, is kept while rows of other types grow. No program in sight.
-/
namespace Go.Proofs.YtpinjiikiaakaaaDoor
set_option linter.unusedSimpArgs false
set_option linter.unusedVariables false
set_option linter.unusedSectionVars false
open Go.RowKit

def TyB (es : List Nat) (B : Nat) (w : World) (b : Nat) : Prop := b < w.heap.size ∧ (b < B ∨ ∃ e, e ∈ es ∧ ∃ cs r, w.heap[b]? = some (.cells cs e r))
structure KeepT (es : List Nat) (B : Nat) (w w' : World) : Prop where
  size : w.heap.size ≤ w'.heap.size
  at_ : ∀ b, TyB es B w b → w'.heap[b]? = w.heap[b]?
section
variable {es : List Nat} {B : Nat} {w w' : World} {A : Option Addr}
theorem TyB.lt {b : Nat} (h : TyB es B w b) : b < w.heap.size := h.1
theorem KeepT.tyb (k : KeepT es B w w') {b : Nat} (h : TyB es B w b) : TyB es B w' b := by
  refine ⟨Nat.lt_of_lt_of_le h.1 k.size, ?_⟩
  rcases h.2 with h2 | ⟨e, he, cs, r, h3⟩
  · exact .inl h2
  · exact .inr ⟨e, he, cs, r, by rw [k.at_ b h]; exact h3⟩
theorem KeepT.refl (w : World) : KeepT es B w w := ⟨Nat.le_refl _, fun _ _ => rfl⟩
theorem KeepT.trans {w2 : World} (h : KeepT es B w w') (k : KeepT es B w' w2) : KeepT es B w w2 := ⟨Nat.le_trans h.size k.size, fun b hb => (k.at_ b (h.tyb hb)).trans (h.at_ b hb)⟩
theorem KeepT.below (h : Below w.heap.size w w') : KeepT es B w w' := ⟨h.size, fun b hb => h.block b hb.1⟩
theorem KeepT.same (h : Same w w') : KeepT es B w w' := .below (h.below _)
theorem KeepT.grew {B' e' sz c n : Nat} {xs : List Value} (ho : Own B' e' sz w A c n xs) (hB : B ≤ B') (hne : e' ∉ es) (hg : Grew w w' A) : KeepT es B w w' :=
  ⟨hg.by_.size, fun b hb => hg.by_.block b hb.1 (by
    rcases ho.own.2 with ⟨h0, _⟩ | ⟨g, cap, cur, hv, hB', hh, _⟩
    · injection h0 with h0; subst h0; simp
    · injection hv with hv
      subst hv
      simp only [Option.map_some, ne_eq, Option.some.injEq]
      rintro rfl
      rcases hb.2 with h1 | ⟨e, he, cs, r, h1⟩
      · omega
      · rw [h1] at hh
        injection hh with hh
        injection hh with _ ht
        exact hne (ht ▸ he))⟩
theorem KeepT.grewB {g i t : Nat} {cs : List Value} (hk : Blk w g t cs) (hB : B ≤ g) (hne : t ∉ es) (hg : Grew w w' (some ⟨g, i, none⟩)) : KeepT es B w w' :=
  ⟨hg.by_.size, fun b hb => hg.by_.block b hb.1 (by
    simp only [Option.map_some, ne_eq, Option.some.injEq]
    rintro rfl
    rcases hb.2 with h1 | ⟨e, he, cs, r, h1⟩
    · omega
    · unfold Blk at hk
      rw [h1] at hk
      injection hk with hh
      injection hh with _ ht
      exact hne (ht ▸ he))⟩
theorem Ints.keepT {l : List Int} (h : Ints (TyB es B w) w A l) (k : KeepT es B w w') : Ints (TyB es B w') w' A l := h.keep' fun b hb => ⟨k.at_ b hb, k.tyb hb⟩
theorem Recs.keepT {α : Type} {enc : α → List Value} {sz : Nat} {l : List α} (h : Recs enc sz (TyB es B w) w A l) (k : KeepT es B w w') : Recs enc sz (TyB es B w') w' A l := h.keep' fun b hb => ⟨k.at_ b hb, k.tyb hb⟩
theorem Ints.of_arg {l : List Int} (h : Ints (· < B) w A l) (hB : B ≤ w.heap.size) : Ints (TyB es B w) w A l := h.mono fun _ hb => ⟨Nat.lt_of_lt_of_le hb hB, .inl hb⟩
theorem RowT.tyb {e : Nat} {l : List Int} (h : RowT B e w A l) (he : e ∈ es) : Ints (TyB es B w) w A l := h.ints.mono fun _ hb => ⟨hb.1, hb.2.imp id fun ⟨cs, r, hh⟩ => ⟨e, he, cs, r, hh⟩⟩
theorem Own.tyb {B' e sz c n : Nat} {xs : List Value} (h : Own B' e sz w A c n xs) (he : e ∈ es) {b : Nat} (hb : A.map (·.block) = some b) : TyB es B w b := by
  refine ⟨h.ltB hb.symm, .inr ⟨e, he, ?_⟩⟩
  rcases h.own.2 with ⟨h0, _⟩ | ⟨g, cap, cur, hv, hB', hh, _⟩
  · injection h0 with h0; subst h0; cases hb
  · injection hv with hv
    subst hv
    injection hb with hb
    simp only at hb
    subst hb
    exact ⟨_, _, hh⟩
theorem OwnI.tyb {B' e c : Nat} {l : List Int} (h : OwnI B' e w A c l) (he : e ∈ es) : Ints (TyB es B w) w A l := (OwnI.ints h).mono fun _ hb => Own.tyb h he hb.2
theorem OwnR.tyb {α : Type} {enc : α → List Value} {B' e sz c : Nat} {l : List α} (h : OwnR enc B' e sz w A c l) (E : Enc enc sz) (hs : 0 < sz) (he : e ∈ es) : Recs enc sz (TyB es B w) w A l := (OwnR.recs h E hs).mono fun _ hb => Own.tyb h he hb.2
/-- One of two rows of the same kind grows. -/
theorem Own.far {B1 e sz c n B2 e2 sz2 c2 n2 : Nat} {A2 A2' : Option Addr} {xs ys : List Value} (h : Own B1 e sz w A c n xs) (_ : Own B2 e2 sz2 w A2 c2 n2 ys) (hne : A = none ∨ A.map (·.block) ≠ A2.map (·.block))
    (hA : A2'.map (·.block) = A2.map (·.block) ∨ ∃ g, A2'.map (·.block) = some g ∧ w.heap.size ≤ g) : A = none ∨ A.map (·.block) ≠ A2'.map (·.block) := by
  rcases hne with hne | hne
  · exact .inl hne
  · rcases hA with hA | ⟨g, hg, hz⟩
    · exact .inr (by rw [hA]; exact hne)
    · cases A with
      | none => exact .inl rfl
      | some a =>
        refine .inr fun e => ?_
        rw [hg] at e
        have := h.ltB (b := g) e.symm
        omega
end
end Go.Proofs.YtpinjiikiaakaaaDoor

/-
  The words of a project's text as they are written: all, write: by their contracts.
-/
namespace Go.Proofs.YtpinjiikiaakaaaDoor
set_option linter.unusedSimpArgs false
set_option linter.unusedVariables false
set_option linter.unusedSectionVars false
open Go.RowKit

def ids (n : Nat) : List Int := (List.range n).map fun (i : Nat) => (i : Int)
theorem ids_succ (n : Nat) : ids (n + 1) = ids n ++ [(n : Int)] := by unfold ids; rw [List.range_succ, List.map_append]; rfl
theorem ids_len (n : Nat) : (ids n).length = n := by unfold ids; simp
theorem ids_mem {n : Nat} : ∀ x ∈ ids n, 0 ≤ x ∧ x < n := fun x hx => by
  obtain ⟨i, hi, rfl⟩ := List.mem_map.1 hx
  have := List.mem_range.1 hi; omega
theorem nms_ids (l : List ByteArray) : nms l (ids l.length) = l := by
  unfold nms ids
  rw [List.map_map]
  refine List.ext_getElem (by simp) fun i h1 h2 => ?_
  simp only [List.getElem_map, List.getElem_range, Function.comp_apply]
  have := nm_at (names := l) (x := (i : Int)) (by omega) (by omega)
  rw [Int.toNat_natCast, List.getElem?_eq_getElem h2] at this
  exact (Option.some.inj this).symm
theorem text_all {w : World} (n : Nat) (hn : n ≤ 1000) :
    Cal Tryd.prog 29 [.int .i64 n] w fun v w' => (∃ (A : Option Addr) (c : Nat), v = .slice A (ids n).length c ∧ OwnI w.heap.size 3 w' A c (ids n)) ∧ Below w.heap.size w w' := by
  refine cal_text_Print_2 (by simp) 1000 fun Q hQ => ?_
  simp (disch := first | with_reducible assumption | omega) only [push_cast, x_blk, x_cd, ↓reduceIte, Nat.reduceEqDiff, List.map_cons, List.map_nil, Int.reduceEq, Int.lt_irrefl, F_text_Print_2]
  refine loop_rule (fun f w' => ∃ (k : Nat) (A : Option Addr) (c : Nat), k ≤ n ∧ (f 2 = .slice A (ids k).length c ∧ f 4 = .int .i64 n ∧ f 5 = .int .i64 k) ∧ OwnI w.heap.size 3 w' A c (ids k) ∧ Below w.heap.size w w')
    (fun f _ => n - (intOf (f 5)).toNat) ⟨0, none, 0, Nat.zero_le _, ⟨rfl, rfl, rfl⟩, Own.nil _ _ _ _, Below.refl _ _⟩ ?_
  rintro f w1 ⟨k, A, c, hk, fr, o1, b1⟩ J hJ
  have hmu : (intOf (f 5)).toNat = k := by rw [fr.2.2]; simp [intOf]
  have hil := ids_len k
  by_cases hlt : k < n
  case neg =>
    obtain rfl : k = n := by omega
    simp (disch := first | with_reducible assumption | omega) only [push_cast, x_blk, x_cd, ↓reduceIte, Nat.reduceEqDiff, List.map_cons, List.map_nil, Int.reduceEq, Int.lt_irrefl, L_text_Print_2_0, fr, Nat.lt_irrefl]
    exact fin_1 (hQ _ _ ⟨⟨A, c, (by simp only [push_cast, ↓reduceIte, Nat.reduceEqDiff, Int.reduceEq, fr]), o1⟩, b1⟩)
  simp (disch := first | with_reducible assumption | omega) only [push_cast, x_blk, x_cd, ↓reduceIte, Nat.reduceEqDiff, List.map_cons, List.map_nil, Int.reduceEq, Int.lt_irrefl, L_text_Print_2_0, fr, hlt, bs_23]
  refine app_int slT_23 o1 (k : Int) (by omega) b1.size ?_
  intro A' c' w' o' g' _ _ z'
  simp (disch := first | with_reducible assumption | omega) only [push_cast, x_blk, x_cd, ↓reduceIte, Nat.reduceEqDiff, List.map_cons, List.map_nil, Int.reduceEq, Int.lt_irrefl, fr]
  exact hJ _ _ ⟨k + 1, A', c', hlt, (by simp only [push_cast, ↓reduceIte, Nat.reduceEqDiff, true_and, and_true, and_self, eq_self, fr, ids_len]), by rw [ids_succ]; exact o', g'.below b1 b1.size o1.geB⟩ (by rw [hmu]; simp only [push_cast, ↓reduceIte, Nat.reduceEqDiff, intOf, fr]; omega)
def pwd (pt : List UInt8) (names : List ByteArray) (l : List Int) : List ByteArray := ⟨pt.toArray⟩ :: nms names l ++ [⟨#[59]⟩]
/-- The words so far, in their variable. -/
structure WMem (g : Nat) (w : World) (W : List ByteArray) (A : Option Addr) (c : Nat) : Prop where
  k : Blk w g 22 [.slice A W.length c]
  o : OwnR strE g 9 1 w A c W
theorem e1_sl (v : Value) : tySize Tryd.prog 22 = some [v].length := by kernel_rfl
theorem WMem.ld {K : Fr → World → Prop} {u w : World} {f : Fr} {d : Option Nat} {g c : Nat} {W : List ByteArray} {A : Option Addr} (h : WMem g u W A c) : Val1 Tryd.prog K (Instr.loadAt 22 (.pointer (some ⟨g, 0, none⟩))) u f d w = K (updO f d (.slice A W.length c)) w := h.k.ld ty_ag_22 0 (by simp)
theorem WMem.below {w w' : World} {g c : Nat} {W : List ByteArray} {A : Option Addr} (h : WMem g w W A c) (b : Below w.heap.size w w') : WMem g w' W A c := ⟨h.k.below b h.k.lt, h.o.below b (Nat.le_refl _)⟩
/-- One more word, appended and stored. -/
theorem WMem.put {w w1 w2 : World} {g c c' : Nat} {W : List ByteArray} {A A' : Option Addr} {x : ByteArray} (h : WMem g w W A c) (o' : OwnR strE g 9 1 w1 A' c' (W ++ [x])) (g1 : Grew w w1 A) (k2 : Blk w2 g 22 [.slice A' (W.length + 1) c']) (g2 : Grew w1 w2 (some ⟨g, 0, none⟩)) :
    WMem g w2 (W ++ [x]) A' c' ∧ Below g w w2 ∧ KeepT [3] g w w2 := by
  have hk1 : Blk w1 g 22 [.slice A W.length c] := h.k.grown g1.by_ (h.o.ne_blk h.k (by decide)).symm
  refine ⟨⟨by rw [List.length_append]; exact k2, o'.grew g2 (.inr (o'.ne_blk hk1 (by decide)))⟩, ?_, ?_⟩
  · exact g2.below (g1.below (Below.refl _ _) (Nat.le_of_lt h.k.lt) h.o.geB) (Nat.le_of_lt hk1.lt) (by intro a ha; injection ha with ha; subst ha; exact Nat.le_refl _)
  · exact (KeepT.grew h.o (Nat.le_refl _) (by decide) g1).trans (KeepT.grewB hk1 (Nat.le_refl _) (by decide) g2)
set_option maxHeartbeats 2000000 in
theorem text_write {w : World} {g : Nat} (pt : List UInt8) {A : Option Addr} {names : List ByteArray} (h : Strs (· < g) w A names) (c : Nat)
    {A2 : Option Addr} {l : List Int} (h2 : Ints (TyB [3] g w) w A2 l) (c2 : Nat) (hl : ∀ x ∈ l, 0 ≤ x ∧ x < names.length) (nl : l.length ≤ 1000)
    {W : List ByteArray} {Aw : Option Addr} {cw : Nat} (hW : WMem g w W Aw cw) (nW : W.length ≤ 100000) :
    Cal Tryd.prog 28 [.string ⟨pt.toArray⟩, .slice A names.length c, .slice A2 l.length c2, .pointer (some ⟨g, 0, none⟩)] w fun v w' => (∃ (A' : Option Addr) (c' : Nat), v = .tuple #[] ∧ WMem g w' (W ++ pwd pt names l) A' c') ∧ Below g w w' := by
  have hgw := hW.k.lt
  refine cal_text_Print_1 (by simp) 100000 fun Q hQ => ?_
  simp (disch := first | with_reducible assumption | omega) only [push_cast, x_blk, x_cd, ↓reduceIte, Nat.reduceEqDiff, List.map_cons, List.map_nil, Int.reduceEq, Int.lt_irrefl, F_text_Print_1, hW.ld, bs_22]
  refine app_rec strEnc slT_22 hW.o ⟨pt.toArray⟩ (by omega) (by omega) (by omega) ?_
  intro A3 c3 w3 o3 g3 hA3 hs3 z3
  have hk3 : Blk w3 g 22 [.slice Aw W.length cw] := hW.k.grown g3.by_ (hW.o.ne_blk hW.k (by decide)).symm
  simp (disch := first | with_reducible assumption | omega) only [push_cast, x_blk, x_cd, ↓reduceIte, Nat.reduceEqDiff, List.map_cons, List.map_nil, Int.reduceEq, Int.lt_irrefl]
  refine sto_blk hk3 (cs := [.slice A3 (W.length + 1) c3]) (e1_sl _) rfl rfl ?_
  intro w4 k4 g4 z4
  obtain ⟨hW4, b4, kt4⟩ := hW.put o3 g3 k4 g4
  have hz4 := b4.size
  simp (disch := first | with_reducible assumption | omega) only [push_cast, x_blk, x_cd, ↓reduceIte, Nat.reduceEqDiff, List.map_cons, List.map_nil, Int.reduceEq, Int.lt_irrefl]
  refine loop_rule (fun f w' => ∃ (k : Nat) (A' : Option Addr) (c' : Nat), k ≤ l.length ∧ (f 1 = .slice A names.length c ∧ f 3 = .pointer (some ⟨g, 0, none⟩) ∧ f 13 = .slice A2 l.length c2 ∧ f 14 = .int .i64 l.length ∧ f 15 = .int .i64 k) ∧ WMem g w' (W ++ ⟨pt.toArray⟩ :: nms names (l.take k)) A' c' ∧ KeepT [3] g w w' ∧ Below g w w')
    (fun f _ => l.length - (intOf (f 15)).toNat) ⟨0, A3, c3, Nat.zero_le _, ⟨rfl, rfl, rfl, rfl, rfl⟩, hW4, kt4, b4⟩ ?_
  rintro f w5 ⟨k, A5, c5, hk, fr, hW5, kt5, b5⟩ J hJ
  have hmu : (intOf (f 15)).toNat = k := by rw [fr.2.2.2.2]; simp [intOf]
  have nW5 : (W ++ ⟨pt.toArray⟩ :: nms names (l.take k)).length ≤ 110000 := by
    rw [List.length_append, List.length_cons]; unfold nms; rw [List.length_map, List.length_take]; omega
  have hgw5 := hW5.k.lt
  by_cases hlt : k < l.length
  case neg =>
    obtain rfl : k = l.length := by omega
    rw [List.take_length] at hW5 nW5
    simp (disch := first | with_reducible assumption | omega) only [push_cast, x_blk, x_cd, ↓reduceIte, Nat.reduceEqDiff, List.map_cons, List.map_nil, Int.reduceEq, Int.lt_irrefl, L_text_Print_1_0, fr, Nat.lt_irrefl, hW5.ld, bs_22]
    refine app_rec strEnc slT_22 hW5.o ⟨#[59]⟩ (by omega) (by omega) (by omega) ?_
    intro A6 c6 w6 o6 g6 hA6 hs6 z6
    have hk6 := hW5.k.grown g6.by_ (hW5.o.ne_blk hW5.k (by decide)).symm
    simp (disch := first | with_reducible assumption | omega) only [push_cast, x_blk, x_cd, ↓reduceIte, Nat.reduceEqDiff, List.map_cons, List.map_nil, Int.reduceEq, Int.lt_irrefl, fr]
    refine sto_blk hk6 (cs := [.slice A6 ((W ++ ⟨pt.toArray⟩ :: nms names l).length + 1) c6]) (e1_sl _) rfl rfl ?_
    intro w7 k7 g7 z7
    obtain ⟨hW7, b7, kt7⟩ := hW5.put o6 g6 k7 g7
    simp (disch := first | with_reducible assumption | omega) only [push_cast, x_blk, x_cd, ↓reduceIte, Nat.reduceEqDiff, List.map_cons, List.map_nil, Int.reduceEq, Int.lt_irrefl]
    refine fin_0 (hQ _ _ ⟨⟨A6, c6, rfl, ?_⟩, b5.trans b7⟩)
    have e : W ++ pwd pt names l = W ++ ⟨pt.toArray⟩ :: nms names l ++ [⟨#[59]⟩] := by unfold pwd; simp [List.append_assoc]
    rw [e]; exact hW7
  have hx := hl (l.getD k 0) (by rw [List.getD_eq_getElem?_getD, List.getElem?_eq_getElem hlt]; exact List.getElem_mem hlt)
  have hts : l.take (k + 1) = l.take k ++ [l.getD k 0] := take_snoc l 0 k hlt
  have i2 := h2.keepT kt5
  have sA2 := h2.isSome (by omega)
  have ld2 := fun {K : Fr → World → Prop} {f : Fr} {d : Option Nat} {w' : World} => i2.ld (P := Tryd.prog) (K := K) (f := f) (d := d) (w := w') ty_ag_3 k hlt
  generalize l.getD k 0 = x at *
  have hnx := nm_at hx.1 hx.2
  have sA := h.isSome (by omega)
  have bd5 : Below w5.heap.size w5 w5.drew := (Same.refl w5).drew.below _
  have hWu := hW5.below bd5
  have b5u := b5.trans (bd5.mono (by omega))
  have hu5 := h.below b5u
  have ktu := kt5.trans (KeepT.below bd5)
  generalize hu : w5.drew = u at *
  have ld1 := fun {K : Fr → World → Prop} {f : Fr} {d : Option Nat} {w' : World} => Strs.ld (K := K) (f := f) (d := d) (w := w') hu5 hnx
  have hx1 : x < (names.length : Int) := hx.2
  have hx0 : 0 ≤ x := hx.1
  have hgu := hWu.k.lt
  have bE : Below u.heap.size u (u.alloc (.cells [.string (nm names x)].toArray 9)) := (Below.refl _ _).alloc (Nat.le_refl _) _
  simp (disch := first | with_reducible assumption | omega) only [push_cast, x_blk, x_cd, ↓reduceIte, Nat.reduceEqDiff, List.map_cons, List.map_nil, Int.reduceEq, Int.lt_irrefl, L_text_Print_1_0, fr, hlt, sA2, ld2, hu, hWu.ld, hx0, hx1, sA, ld1, bs_22]
  refine ⟨bE, ?_⟩
  refine app_rec strEnc slT_22 hWu.o (nm names x) (by omega) (by omega) (by omega) ?_
  intro A6 c6 w6 o6 g6 hA6 hs6 z6
  have hk6 := hWu.k.grown g6.by_ (hWu.o.ne_blk hWu.k (by decide)).symm
  simp (disch := first | with_reducible assumption | omega) only [push_cast, x_blk, x_cd, ↓reduceIte, Nat.reduceEqDiff, List.map_cons, List.map_nil, Int.reduceEq, Int.lt_irrefl, fr]
  refine sto_blk hk6 (cs := [.slice A6 ((W ++ ⟨pt.toArray⟩ :: nms names (l.take k)).length + 1) c6]) (e1_sl _) rfl rfl ?_
  intro w7 k7 g7 z7
  obtain ⟨hW7, b7, kt7⟩ := hWu.put o6 g6 k7 g7
  simp (disch := first | with_reducible assumption | omega) only [push_cast, x_blk, x_cd, ↓reduceIte, Nat.reduceEqDiff, List.map_cons, List.map_nil, Int.reduceEq, Int.lt_irrefl, fr]
  have e : W ++ ⟨pt.toArray⟩ :: nms names (l.take (k + 1)) = W ++ ⟨pt.toArray⟩ :: nms names (l.take k) ++ [nm names x] := by rw [hts]; unfold nms; simp [List.append_assoc]
  exact hJ _ _ ⟨k + 1, A6, c6, hlt, (by simp only [push_cast, ↓reduceIte, Nat.reduceEqDiff, true_and, and_true, and_self, eq_self, fr]), by rw [e]; exact hW7, ktu.trans kt7, b5u.trans b7⟩ (by rw [hmu]; simp only [push_cast, ↓reduceIte, Nat.reduceEqDiff, intOf, fr]; omega)
end Go.Proofs.YtpinjiikiaakaaaDoor

/-
  strings.Join, by the library's contract.
-/
namespace Go.Proofs.YtpinjiikiaakaaaDoor
set_option linter.unusedSimpArgs false
set_option linter.unusedVariables false
set_option linter.unusedSectionVars false
open Go.Shelf Go.RowKit
def laysJoin_ren : Go.Shelf.Ren := ⟨fun | 156 => 30 | 165 => 52 | 166 => 53 | 169 => 54 | 240 => 66 | 241 => 67 | 276 => 89 | 277 => 90 | n => n, fun | 31 => 22 | 9 => 9 | 3 => 3 | 4 => 4 | 0 => 0 | 20 => 20 | 72 => 92 | 76 => 95 | 70 => 89 | 37 => 90 | 75 => 94 | 127 => 104 | 164 => 124 | 5 => 5 | 80 => 97 | n => n, fun | n => n⟩
theorem laysJoin : Go.Proofs.Lays.n156 Tryd.prog laysJoin_ren where
  mixed := by kernel_rfl
  f156 := Tryd.func30.trans (congrArg some (by kernel_rfl))
  f165 := Tryd.func52.trans (congrArg some (by kernel_rfl))
  f166 := Tryd.func53.trans (congrArg some (by kernel_rfl))
  f169 := Tryd.func54.trans (congrArg some (by kernel_rfl))
  f240 := Tryd.func66.trans (congrArg some (by kernel_rfl))
  f241 := Tryd.func67.trans (congrArg some (by kernel_rfl))
  f276 := Tryd.func89.trans (congrArg some (by kernel_rfl))
  f277 := Tryd.func90.trans (congrArg some (by kernel_rfl))
  t0 := Tryd.underlying0
  a0 := Tryd.isAgg0
  z0 := Tryd.sizeOf0
  v0 := Tryd.zeroValue0
  t3 := Tryd.underlying3
  a3 := Tryd.isAgg3
  z3 := Tryd.sizeOf3
  v3 := Tryd.zeroValue3
  t4 := Tryd.underlying4
  a4 := Tryd.isAgg4
  z4 := Tryd.sizeOf4
  v4 := Tryd.zeroValue4
  t9 := Tryd.underlying9
  a9 := Tryd.isAgg9
  z9 := Tryd.sizeOf9
  v9 := Tryd.zeroValue9
  t20 := Tryd.underlying20
  a20 := Tryd.isAgg20
  z20 := Tryd.sizeOf20
  v20 := Tryd.zeroValue20
  t31 := Tryd.underlying22
  a31 := Tryd.isAgg22
  z31 := Tryd.sizeOf22
  v31 := Tryd.zeroValue22
  t37 := Tryd.underlying90
  a37 := Tryd.isAgg90
  z37 := Tryd.sizeOf90
  v37 := Tryd.zeroValue90
  t70 := Tryd.underlying89
  a70 := Tryd.isAgg89
  z70 := Tryd.sizeOf89
  v70 := Tryd.zeroValue89
  t72 := Tryd.underlying92
  a72 := Tryd.isAgg92
  z72 := Tryd.sizeOf92
  v72 := Tryd.zeroValue92
  t75 := Tryd.underlying94
  a75 := Tryd.isAgg94
  z75 := Tryd.sizeOf94
  v75 := Tryd.zeroValue94
  t76 := Tryd.underlying95
  a76 := Tryd.isAgg95
  z76 := Tryd.sizeOf95
  v76 := Tryd.zeroValue95
  t127 := Tryd.underlying104
  a127 := Tryd.isAgg104
  z127 := Tryd.sizeOf104
  v127 := Tryd.zeroValue104
  t164 := Tryd.underlying124
  a164 := Tryd.isAgg124
  z164 := Tryd.sizeOf124
  v164 := Tryd.zeroValue124
theorem extraJ : Builder.Extra Tryd.prog laysJoin_ren where
  sizeBuilder := by kernel_rfl
  liesBuilder := by kernel_rfl
  t5 := by kernel_rfl
  a5 := Tryd.isAgg5
  z5 := Tryd.sizeOf5
  v5 := Tryd.zeroValue5
  infoByte := by kernel_rfl
  cellsByte := by kernel_rfl
  sizeByte := by kernel_rfl
  neB5 := by decide
theorem join_sp (x : ByteArray) (W : List ByteArray) : Lib.join ((x :: W).map (·.data.toList)) [32] = x.data.toList ++ sp W := by
  rw [List.map_cons, Lib.join_cons]
  congr 1
  induction W with
  | nil => simp [Lib.joinTail, sp]
  | cons y W ih =>
    unfold Lib.joinTail at *
    unfold sp at *
    rw [List.map_cons, List.map_cons, List.flatten_cons, ih, List.flatMap_cons]
    rfl
theorem join_no : laysJoin_ren.f 156 = 30 := by kernel_rfl
theorem strings_Join {w : World} {g : Nat} {x : ByteArray} {W : List ByteArray} {ok : Nat → Prop} (h : Strs ok w (some ⟨g, 0, none⟩) (x :: W)) (c : Nat) (hc : (x :: W).length ≤ c) (hn : (x :: W).length ≤ 1000000) (hl : (x.data.toList ++ sp W).length ≤ 281474976710656) :
    Cal Tryd.prog 30 [.slice (some ⟨g, 0, none⟩) (x :: W).length c, .string ⟨#[32]⟩] w fun v w' => v = .string ⟨(x.data.toList ++ sp W).toArray⟩ ∧ Below w.heap.size w w' := by
  have hlt : g < w.heap.size := (Recs.lt strEnc (by decide) h).block (by simp)
  have hcell : ∀ (j : Nat) (y : ByteArray), (x :: W)[j]? = some y → w.cell? ⟨g, 0 + j, none⟩ = some (.string y) := fun j y hy => by
    have h1 := h.cell j y hy 0 (.string y) rfl
    rw [eA_some, Nat.mul_one, Nat.add_zero] at h1
    have e : (⟨g, 0, none⟩ : Addr).add j = ⟨g, 0 + j, none⟩ := by
      unfold Addr.add
      by_cases hj0 : j = 0 <;> simp [hj0]
    rwa [e] at h1
  have hj : (Lib.join ((x :: W).map (·.data.toList)) [32]) = x.data.toList ++ sp W := join_sp x W
  have hN : (x :: W).length ≤ 140737488355328 := by omega
  have hlen : (Lib.join ((x :: W).map (·.data.toList)) (⟨#[32]⟩ : ByteArray).data.toList).length ≤ 281474976710656 := by
    show (Lib.join ((x :: W).map (·.data.toList)) [32]).length ≤ _
    rw [hj]; exact hl
  have hJ := Any.strings_Join_48 laysJoin extraJ g 0 c (x :: W) ⟨#[32]⟩ w hcell hlt hN hc hlen
  rw [join_no] at hJ
  refine ⟨k_strings_Join, hJ.mono ?_⟩
  rintro e w' ⟨rfl, b⟩
  refine ⟨_, rfl, ?_, b⟩
  show Value.string ⟨(Lib.join ((x :: W).map (·.data.toList)) [32]).toArray⟩ = _
  rw [hj]
section
variable {P : Program} {K : Fr → World → Prop} {f : Fr} {d : Option Nat} {w : World} {A : Option Addr} {l : List ByteArray} {B e bytes t ty c : Nat}
theorem fill_3v (x y z : Value) (a b c : ByteArray) : Instr.fill (fun i => some (i * 1, 1)) #[x, y, z] [(0, .string a), (1, .string b), (2, .string c)] = some #[.string a, .string b, .string c] := by
  simp [Instr.fill, Value.cells]
theorem bsl3_str {e bytes : Nat} (hT : SlT P t e 1 bytes) (a b c : ByteArray) :
    Eff1 P K (Instr.buildSlice t 3 #[(0, .string a), (1, .string b), (2, .string c)]) f d w = K (updO f d (.slice (some ⟨w.heap.size, 0, none⟩) 3 3)) (w.alloc (.cells [.string a, .string b, .string c].toArray e)) := by
  obtain ⟨i, z, hi, hz, hs, hb, hc⟩ := hT.get
  refine eff1_of ?_
  have hz3 : (Array.range 3).map (z.cells[· % z.cells.size]!) = #[z.cells[0 % z.cells.size]!, z.cells[1 % z.cells.size]!, z.cells[2 % z.cells.size]!] := by
    apply Array.ext'; simp [List.range_succ]
  have hf := fill_3v (z.cells[0 % z.cells.size]!) (z.cells[1 % z.cells.size]!) (z.cells[2 % z.cells.size]!) a b c
  rw [← hz3] at hf
  simp only [Instr.buildSlice, run_underlying hT.under, sizeOf, typeInfo, Sem.run_bind, Result.andThen_ok]
  simp only [Nat.mul_one] at hf
  simp [hi, hs, zeroValue, typeInfo, hz, newRow, hf]
theorem app_3str (hT : SlT P t e 1 bytes) (hown : OwnR strE B e 1 w A c l) (x y z : ByteArray) (hl : (l.length + 3) * bytes ≤ 140737488355328) (h63 : l.length + 3 ≤ 9223372036854775807) (hB : B ≤ w.heap.size)
    (hk : ∀ A' c' w', OwnR strE B e 1 w' A' c' (l ++ [x, y, z]) → Grew w w' A → w.heap.size ≤ w'.heap.size → K (updO f d (.slice A' (l.length + 3) c')) w') :
    Eff1 P K (Builtin.append_ #[t, t] ty #[.slice A l.length c, .slice (some ⟨w.heap.size, 0, none⟩) 3 3]) f d (w.alloc (.cells [.string x, .string y, .string z].toArray e)) := by
  refine append_own hT ty (hown.alloc _) (rd_new w [.string x, .string y, .string z] e) (by simp) (by simp [Value.oneCell']) hl h63 (by simp; omega) ?_
  intro A' c' w' ho hg hA hs hz
  have hz' : w.heap.size ≤ w'.heap.size := by have : (w.alloc (.cells [.string x, .string y, .string z].toArray e)).heap.size = w.heap.size + 1 := by simp
                                              omega
  refine hk A' c' w' ?_ ⟨⟨hg.by_.os, hg.by_.tape, hg.by_.output, hz', fun k hk hne => ?_⟩⟩ hz'
  · unfold OwnR
    rw [List.flatMap_append, List.length_append]
    exact ho
  · rw [hg.by_.block k (by simp; omega) hne, Below.heap_alloc w _ k hk]
end
end Go.Proofs.YtpinjiikiaakaaaDoor

/-
  The program's text of a project: by its contract.
-/
namespace Go.Proofs.YtpinjiikiaakaaaDoor
set_option linter.unusedSimpArgs false
set_option linter.unusedVariables false
set_option linter.unusedSectionVars false
open Go.RowKit

theorem IsJ.belowB {B : Nat} {u w : World} {a : JV} {p : Pj} (h : IsJ (· < B) u a p) (b : Below B u w) : IsJ (· < B) w a p := h.keep fun k hk => b.block k hk
theorem WMem.putL {w w1 w2 : World} {g c c' : Nat} {W X : List ByteArray} {A A' : Option Addr} (h : WMem g w W A c) (o' : OwnR strE g 9 1 w1 A' c' (W ++ X)) (g1 : Grew w w1 A) (k2 : Blk w2 g 22 [.slice A' (W.length + X.length) c']) (g2 : Grew w1 w2 (some ⟨g, 0, none⟩)) :
    WMem g w2 (W ++ X) A' c' ∧ Below g w w2 := by
  have hk1 : Blk w1 g 22 [.slice A W.length c] := h.k.grown g1.by_ (h.o.ne_blk h.k (by decide)).symm
  refine ⟨⟨by rw [List.length_append]; exact k2, o'.grew g2 (.inr (o'.ne_blk hk1 (by decide)))⟩, ?_⟩
  exact g2.below (g1.below (Below.refl _ _) (Nat.le_of_lt h.k.lt) h.o.geB) (Nat.le_of_lt hk1.lt) (by intro a ha; injection ha with ha; subst ha; exact Nat.le_refl _)
/-- The words of a project's text up to the arrows. -/
def headW (p : Pj) : List ByteArray := pwd stB p.S (ids p.S.length) ++ pwd evB p.E (ids p.E.length) ++ pwd snB p.E p.seen ++ pwd frB p.E p.free ++ pwd fuB p.E p.faults ++ pwd scB p.S p.secret ++ pwd saB p.S p.m.starts ++ pwd enB p.S p.m.ends ++ [⟨arB.toArray⟩]
theorem sp_app (A B : List ByteArray) : sp (A ++ B) = sp A ++ sp B := by simp [sp]
theorem sp_pwd (pt : List UInt8) (names : List ByteArray) (l : List Int) : sp (pwd pt names l) = 32 :: (pt ++ sp (nms names l) ++ [32, 59]) := by
  unfold pwd
  rw [List.cons_append]
  show sp (⟨pt.toArray⟩ :: (nms names l ++ [⟨#[59]⟩])) = _
  unfold sp
  rw [List.flatMap_cons, List.flatMap_append]
  simp
theorem words_txt (p : Pj) : sp (headW p ++ arTo p p.m.arrows.length ++ [⟨#[59]⟩]) = 32 :: txt p := by
  unfold txt headB headW listB
  simp only [sp_app, sp_pwd, nms_ids]
  simp [sp, List.append_assoc]
theorem pwd_len (pt : List UInt8) (names : List ByteArray) (l : List Int) : (pwd pt names l).length = l.length + 2 := by unfold pwd nms; simp
theorem txt_len {p : Pj} (hM : p.May) : (txt p).length ≤ 1000000 := by
  have s6 := hM.s6
  have e8 := hM.e8
  have r1 := row_in hM.r1
  have r2 := row_in hM.r2
  have r3 := row_in hM.r3
  have r4 := row_in hM.r4
  have r5 := row_in hM.m.2.2.2.2.2.1
  have r6 := row_in hM.m.2.2.2.2.2.2.1
  rw [hM.ev] at r1 r2 r3
  rw [hM.st] at r4 r5 r6
  have n1 := row_lenN hM.r1
  have n2 := row_lenN hM.r2
  have n3 := row_lenN hM.r3
  have n4 := row_lenN hM.r4
  have n5 := row_lenN hM.m.2.2.2.2.2.1
  have n6 := row_lenN hM.m.2.2.2.2.2.2.1
  have eve := hM.ev
  have ste := hM.st
  have hL1 := sp_len hM.nS.small
  have hL2 := sp_len hM.nE.small
  have m1 := listB_len (pt := snB) hM.nE.small r1 (by omega) (by decide)
  have m2 := listB_len (pt := frB) hM.nE.small r2 (by omega) (by decide)
  have m3 := listB_len (pt := fuB) hM.nE.small r3 (by omega) (by decide)
  have m4 := listB_len (pt := scB) hM.nS.small r4 (by omega) (by decide)
  have m5 := listB_len (pt := saB) hM.nS.small r5 (by omega) (by decide)
  have m6 := listB_len (pt := enB) hM.nS.small r6 (by omega) (by decide)
  have na := hM.m.2.2.2.2.1
  obtain ⟨al, asm⟩ := arTo_ok hM p.m.arrows.length (Nat.le_refl _)
  have hal := sp_len asm
  unfold txt headB
  simp only [List.length_append, List.length_cons, List.length_nil]
  omega
theorem Own.capS {B e sz c n : Nat} {w : World} {A : Option Addr} {xs : List Value} (h : Own B e sz w A c n xs) : n ≤ c := by
  rcases h.own.2 with ⟨h0, h1⟩ | ⟨g, cap, cur, hv, hB, hg, hnc, h3, h4, h5⟩
  · injection h0 with h0 h2 h3; omega
  · injection hv with hv h2 h3; omega
set_option maxHeartbeats 4000000 in
theorem text_Print {w : World} {a : JV} {p : Pj} (ha : IsJ (· < w.heap.size) w a p) (hf : p.Fits) (hc : a.Caps p) :
    Cal Tryd.prog 8 [a.val p] w fun v w' => v = prOut p ∧ Below w.heap.size w w' := by
  refine cal_text_Print (by simp) 1000000 fun Q hQ => ?_
  simp (disch := first | with_reducible assumption | omega) only [push_cast, x_blk, x_cd, ↓reduceIte, Nat.reduceEqDiff, List.map_cons, List.map_nil, Int.reduceEq, Int.lt_irrefl, F_text_Print]
  refine blk_of (box_agg _ (a.cells p)) ?_
  intro w1 k1 b1 z1
  simp (disch := first | with_reducible assumption | omega) only [push_cast, x_blk, x_cd, ↓reduceIte, Nat.reduceEqDiff, List.map_cons, List.map_nil, Int.reduceEq, Int.lt_irrefl, k1.jA]
  refine call_of (text_May (ha.up b1) hf hc) ?_
  rintro v w2 ⟨⟨r2, rfl, h2⟩, b2⟩
  have bb2 := b1.trans (b2.mono b1.size)
  have k2 := k1.below b2 k1.lt
  cases r2 with
  | false =>
    have hno : ¬ p.May := fun h => by have := h2.2 h; cases this
    simp (disch := first | with_reducible assumption | omega) only [push_cast, x_blk, x_cd, ↓reduceIte, Nat.reduceEqDiff, List.map_cons, List.map_nil, Int.reduceEq, Int.lt_irrefl]
    exact fin_2 (hQ _ _ ⟨by unfold prOut; rw [if_neg hno]; simp only [push_cast, ↓reduceIte, Nat.reduceEqDiff], bb2⟩)
  | true =>
  have hM := h2.1 rfl
  have s6 := hM.s6
  have e8 := hM.e8
  have r1 := row_in hM.r1
  have r2 := row_in hM.r2
  have r3 := row_in hM.r3
  have r4 := row_in hM.r4
  have r5 := row_in hM.m.2.2.2.2.2.1
  have r6 := row_in hM.m.2.2.2.2.2.2.1
  rw [hM.ev] at r1 r2 r3
  rw [hM.st] at r4 r5 r6
  have n1 := row_lenN hM.r1
  have n2 := row_lenN hM.r2
  have n3 := row_lenN hM.r3
  have n4 := row_lenN hM.r4
  have n5 := row_lenN hM.m.2.2.2.2.2.1
  have n6 := row_lenN hM.m.2.2.2.2.2.2.1
  have eve := hM.ev
  have ste := hM.st
  have na := hM.m.2.2.2.2.1
  have l2 := k2.lt
  simp (disch := first | with_reducible assumption | omega) only [push_cast, x_blk, x_cd, ↓reduceIte, Nat.reduceEqDiff, List.map_cons, List.map_nil, Int.reduceEq, Int.lt_irrefl]
  refine blk_of (cs := [.slice none 0 0]) al_22 ?_
  intro w3 k3 b3 z3
  obtain ⟨g, hg⟩ : ∃ g, g = w2.heap.size := ⟨_, rfl⟩
  rw [← hg] at k3 l2
  have b3g : Below g w2 w3 := hg ▸ b3
  have hb2 : w.heap.size ≤ g := by rw [hg]; exact bb2.size
  have hJ3 : IsJ (· < g) w3 a p := by
    have h := ha.up (bb2)
    rw [← hg] at h
    exact h.belowB b3g
  have kP3 : Blk w3 w.heap.size 28 (a.cells p) := k2.below b3g l2
  have hW3 : WMem g w3 [] none 0 := ⟨k3, Own.nil _ _ _ _⟩
  have bb3 : Below w.heap.size w w3 := bb2.trans (b3g.mono hb2)
  rw [← hg]
  clear b3 b3g k3 k2 k1 b2 b1
  have hW0 := hW3
  have hJ0 := hJ3
  have kP0 := kP3
  have bb0 := bb3
  have sd1 : Below w3.heap.size w3 w3.drew := (Same.refl w3).drew.below _
  have lg1 := hW0.k.lt
  have sg1 := sd1.mono (show g ≤ w3.heap.size by omega)
  have kQ1 := kP0.below sd1 kP0.lt
  have hV1 := hW0.below sd1
  have hI1 := hJ0.belowB sg1
  have bc1 := bb0.trans (sg1.mono hb2)
  generalize hu1 : w3.drew = u1 at *
  have lh1 := hV1.k.lt
  simp (disch := first | with_reducible assumption | omega) only [push_cast, x_blk, x_cd, ↓reduceIte, Nat.reduceEqDiff, List.map_cons, List.map_nil, Int.reduceEq, Int.lt_irrefl, hu1, kQ1.jS]
  refine call_of (text_all p.S.length (by omega)) ?_
  rintro v x1 ⟨⟨L1, d1, rfl, oL1⟩, t1⟩
  have tg1 := t1.mono (show g ≤ u1.heap.size by omega)
  have hV1' := hV1.below t1
  have hI1' := hI1.belowB tg1
  have kQ1' := kQ1.below t1 kQ1.lt
  simp (disch := first | with_reducible assumption | omega) only [push_cast, x_blk, x_cd, ↓reduceIte, Nat.reduceEqDiff, List.map_cons, List.map_nil, Int.reduceEq, Int.lt_irrefl]
  refine ⟨t1, ?_⟩
  refine call_of (text_write stB hI1'.S a.cS (OwnI.tyb oL1 (by decide)) d1 ids_mem (by rw [ids_len]; omega) hV1' (by simp only [List.length_append, List.length_nil, pwd_len, ids_len]; omega)) ?_
  rintro v y1 ⟨⟨A1, e1, rfl, hW1⟩, v1⟩
  have hJ1 := hI1'.belowB v1
  have kP1 := kQ1'.below v1 l2
  have bb1 := bc1.trans ((tg1.trans v1).mono hb2)
  have sd2 : Below y1.heap.size y1 y1.drew := (Same.refl y1).drew.below _
  have lg2 := hW1.k.lt
  have sg2 := sd2.mono (show g ≤ y1.heap.size by omega)
  have kQ2 := kP1.below sd2 kP1.lt
  have hV2 := hW1.below sd2
  have hI2 := hJ1.belowB sg2
  have bc2 := bb1.trans (sg2.mono hb2)
  generalize hu2 : y1.drew = u2 at *
  have lh2 := hV2.k.lt
  simp (disch := first | with_reducible assumption | omega) only [push_cast, x_blk, x_cd, ↓reduceIte, Nat.reduceEqDiff, List.map_cons, List.map_nil, Int.reduceEq, Int.lt_irrefl, hu2, kQ2.jE]
  refine call_of (text_all p.E.length (by omega)) ?_
  rintro v x2 ⟨⟨L2, d2, rfl, oL2⟩, t2⟩
  have tg2 := t2.mono (show g ≤ u2.heap.size by omega)
  have hV2' := hV2.below t2
  have hI2' := hI2.belowB tg2
  have kQ2' := kQ2.below t2 kQ2.lt
  simp (disch := first | with_reducible assumption | omega) only [push_cast, x_blk, x_cd, ↓reduceIte, Nat.reduceEqDiff, List.map_cons, List.map_nil, Int.reduceEq, Int.lt_irrefl]
  refine ⟨t2, ?_⟩
  refine call_of (text_write evB hI2'.E a.cE (OwnI.tyb oL2 (by decide)) d2 ids_mem (by rw [ids_len]; omega) hV2' (by simp only [List.length_append, List.length_nil, pwd_len, ids_len]; omega)) ?_
  rintro v y2 ⟨⟨A2, e2, rfl, hW2⟩, v2⟩
  have hJ2 := hI2'.belowB v2
  have kP2 := kQ2'.below v2 l2
  have bb2 := bc2.trans ((tg2.trans v2).mono hb2)
  have lg3 := hW2.k.lt
  simp (disch := first | with_reducible assumption | omega) only [push_cast, x_blk, x_cd, ↓reduceIte, Nat.reduceEqDiff, List.map_cons, List.map_nil, Int.reduceEq, Int.lt_irrefl, kP2.jE, kP2.j1]
  refine call_of (text_write snB hJ2.E a.cE (Ints.of_arg hJ2.seen (by omega)) a.cp r1 (by omega) hW2 (by simp only [List.length_append, List.length_nil, pwd_len, ids_len]; omega)) ?_
  rintro v y3 ⟨⟨A3, e3, rfl, hW3⟩, v3⟩
  have hJ3 := hJ2.belowB v3
  have kP3 := kP2.below v3 l2
  have bb3 := bb2.trans (v3.mono hb2)
  have lg4 := hW3.k.lt
  simp (disch := first | with_reducible assumption | omega) only [push_cast, x_blk, x_cd, ↓reduceIte, Nat.reduceEqDiff, List.map_cons, List.map_nil, Int.reduceEq, Int.lt_irrefl, kP3.jE, kP3.j2]
  refine call_of (text_write frB hJ3.E a.cE (Ints.of_arg hJ3.free (by omega)) a.cf r2 (by omega) hW3 (by simp only [List.length_append, List.length_nil, pwd_len, ids_len]; omega)) ?_
  rintro v y4 ⟨⟨A4, e4, rfl, hW4⟩, v4⟩
  have hJ4 := hJ3.belowB v4
  have kP4 := kP3.below v4 l2
  have bb4 := bb3.trans (v4.mono hb2)
  have lg5 := hW4.k.lt
  simp (disch := first | with_reducible assumption | omega) only [push_cast, x_blk, x_cd, ↓reduceIte, Nat.reduceEqDiff, List.map_cons, List.map_nil, Int.reduceEq, Int.lt_irrefl, kP4.jE, kP4.j3]
  refine call_of (text_write fuB hJ4.E a.cE (Ints.of_arg hJ4.faults (by omega)) a.cu r3 (by omega) hW4 (by simp only [List.length_append, List.length_nil, pwd_len, ids_len]; omega)) ?_
  rintro v y5 ⟨⟨A5, e5, rfl, hW5⟩, v5⟩
  have hJ5 := hJ4.belowB v5
  have kP5 := kP4.below v5 l2
  have bb5 := bb4.trans (v5.mono hb2)
  have lg6 := hW5.k.lt
  simp (disch := first | with_reducible assumption | omega) only [push_cast, x_blk, x_cd, ↓reduceIte, Nat.reduceEqDiff, List.map_cons, List.map_nil, Int.reduceEq, Int.lt_irrefl, kP5.jS, kP5.j4]
  refine call_of (text_write scB hJ5.S a.cS (Ints.of_arg hJ5.secret (by omega)) a.cq r4 (by omega) hW5 (by simp only [List.length_append, List.length_nil, pwd_len, ids_len]; omega)) ?_
  rintro v y6 ⟨⟨A6, e6, rfl, hW6⟩, v6⟩
  have hJ6 := hJ5.belowB v6
  have kP6 := kP5.below v6 l2
  have bb6 := bb5.trans (v6.mono hb2)
  have lg7 := hW6.k.lt
  simp (disch := first | with_reducible assumption | omega) only [push_cast, x_blk, x_cd, ↓reduceIte, Nat.reduceEqDiff, List.map_cons, List.map_nil, Int.reduceEq, Int.lt_irrefl, kP6.jS, kP6.jst]
  refine call_of (text_write saB hJ6.S a.cS (Ints.of_arg hJ6.m.starts (by omega)) a.m.cs r5 (by omega) hW6 (by simp only [List.length_append, List.length_nil, pwd_len, ids_len]; omega)) ?_
  rintro v y7 ⟨⟨A7, e7, rfl, hW7⟩, v7⟩
  have hJ7 := hJ6.belowB v7
  have kP7 := kP6.below v7 l2
  have bb7 := bb6.trans (v7.mono hb2)
  have lg8 := hW7.k.lt
  simp (disch := first | with_reducible assumption | omega) only [push_cast, x_blk, x_cd, ↓reduceIte, Nat.reduceEqDiff, List.map_cons, List.map_nil, Int.reduceEq, Int.lt_irrefl, kP7.jS, kP7.jen]
  refine call_of (text_write enB hJ7.S a.cS (Ints.of_arg hJ7.m.ends (by omega)) a.m.ce r6 (by omega) hW7 (by simp only [List.length_append, List.length_nil, pwd_len, ids_len]; omega)) ?_
  rintro v y8 ⟨⟨A8, e8, rfl, hW8⟩, v8⟩
  have hJ8 := hJ7.belowB v8
  have kP8 := kP7.below v8 l2
  have bb8 := bb7.trans (v8.mono hb2)
  have lg9 := hW8.k.lt
  have hl8 : ([] ++ pwd stB p.S (ids p.S.length) ++ pwd evB p.E (ids p.E.length) ++ pwd snB p.E p.seen ++ pwd frB p.E p.free ++ pwd fuB p.E p.faults ++ pwd scB p.S p.secret ++ pwd saB p.S p.m.starts ++ pwd enB p.S p.m.ends).length ≤ 10000 := by
    simp only [List.length_append, List.length_nil, pwd_len, ids_len]; omega
  have hHW : [] ++ pwd stB p.S (ids p.S.length) ++ pwd evB p.E (ids p.E.length) ++ pwd snB p.E p.seen ++ pwd frB p.E p.free ++ pwd fuB p.E p.faults ++ pwd scB p.S p.secret ++ pwd saB p.S p.m.starts ++ pwd enB p.S p.m.ends ++ [⟨arB.toArray⟩] = headW p := by
    unfold headW; rw [List.nil_append]
  generalize [] ++ pwd stB p.S (ids p.S.length) ++ pwd evB p.E (ids p.E.length) ++ pwd snB p.E p.seen ++ pwd frB p.E p.free ++ pwd fuB p.E p.faults ++ pwd scB p.S p.secret ++ pwd saB p.S p.m.starts ++ pwd enB p.S p.m.ends = W8 at *
  simp (disch := first | with_reducible assumption | omega) only [push_cast, x_blk, x_cd, ↓reduceIte, Nat.reduceEqDiff, List.map_cons, List.map_nil, Int.reduceEq, Int.lt_irrefl, hW8.ld, bs_22]
  refine app_rec strEnc slT_22 hW8.o ⟨arB.toArray⟩ (by omega) (by omega) (by omega) ?_
  intro A9 c9 w9 o9 g9 hA9 hs9 z9
  have hk9 := hW8.k.grown g9.by_ (hW8.o.ne_blk hW8.k (by decide)).symm
  simp (disch := first | with_reducible assumption | omega) only [push_cast, x_blk, x_cd, ↓reduceIte, Nat.reduceEqDiff, List.map_cons, List.map_nil, Int.reduceEq, Int.lt_irrefl]
  refine sto_blk hk9 (cs := [.slice A9 (W8.length + 1) c9]) (e1_sl _) rfl rfl ?_
  intro wA kA gA zA
  obtain ⟨hWA, bA8⟩ := hW8.putL (X := [⟨arB.toArray⟩]) o9 g9 kA gA
  have hHl : (headW p).length ≤ 10001 := by rw [← hHW, List.length_append, List.length_singleton]; omega
  rw [hHW] at hWA
  have hJA := hJ8.belowB bA8
  have kPA := kP8.below bA8 l2
  have bbA := bb8.trans (bA8.mono hb2)
  simp (disch := first | with_reducible assumption | omega) only [push_cast, x_blk, x_cd, ↓reduceIte, Nat.reduceEqDiff, List.map_cons, List.map_nil, Int.reduceEq, Int.lt_irrefl, kPA.jar]
  refine loop_rule (fun f w' => ∃ (k : Nat) (A : Option Addr) (c : Nat), k ≤ p.m.arrows.length ∧ (f 1 = .pointer (some ⟨w.heap.size, 0, none⟩) ∧ f 4 = .pointer (some ⟨g, 0, none⟩) ∧ f 75 = .slice a.m.Aa p.m.arrows.length a.m.ca ∧ f 76 = .int .i64 p.m.arrows.length ∧ f 77 = .int .i64 k) ∧ WMem g w' (headW p ++ arTo p k) A c ∧ Below g wA w')
    (fun f _ => p.m.arrows.length - (intOf (f 77)).toNat) ⟨0, A9, c9, Nat.zero_le _, ⟨rfl, rfl, rfl, rfl, rfl⟩, by show WMem g wA (headW p ++ []) A9 c9; rw [List.append_nil]; exact hWA, Below.refl _ _⟩ ?_
  rintro f wB ⟨k, Ak, ck, hk, fr, hWk, bA⟩ J hJ'
  have hmu : (intOf (f 77)).toNat = k := by rw [fr.2.2.2.2]; simp [intOf]
  have lgk := hWk.k.lt
  obtain ⟨al, asm⟩ := arTo_ok hM k hk
  have bbB := bbA.trans (bA.mono hb2)
  have hWl : (headW p ++ arTo p k).length ≤ 30000 := by rw [List.length_append]; omega
  by_cases hlt : k < p.m.arrows.length
  case neg =>
    obtain rfl : k = p.m.arrows.length := by omega
    simp (disch := first | with_reducible assumption | omega) only [push_cast, x_blk, x_cd, ↓reduceIte, Nat.reduceEqDiff, List.map_cons, List.map_nil, Int.reduceEq, Int.lt_irrefl, L_text_Print_0, fr, Nat.lt_irrefl, hWk.ld, bs_22]
    refine app_rec strEnc slT_22 hWk.o ⟨#[59]⟩ (by omega) (by omega) (by omega) ?_
    intro AC cC wC oC gC hAC hsC zC
    have bC := gC.below (Below.refl g wB) (by omega) hWk.o.geB
    have bbC := bbB.trans (bC.mono hb2)
    obtain ⟨W, hxW⟩ : ∃ W, headW p ++ arTo p p.m.arrows.length ++ [⟨#[59]⟩] = ⟨stB.toArray⟩ :: W := by
      unfold headW pwd
      simp only [List.cons_append]
      exact ⟨_, rfl⟩
    have hlW : (headW p ++ arTo p p.m.arrows.length).length + 1 = ((⟨stB.toArray⟩ : ByteArray) :: W).length := by rw [← hxW]; simp only [List.length_append, List.length_cons, List.length_nil]
    have htx : stB ++ sp W = txt p := by
      have h1 := words_txt p
      rw [hxW] at h1
      have h2 : sp ((⟨stB.toArray⟩ : ByteArray) :: W) = 32 :: (stB ++ sp W) := by simp [sp]
      rw [h2] at h1
      injection h1
    have tl := txt_len hM
    rw [hxW] at oC
    have hcap := oC.capS
    obtain ⟨q, rfl⟩ : ∃ q, AC = some ⟨q, 0, none⟩ := by
      rcases oC.form with ⟨h0, h1, _⟩ | ⟨q, h0, _⟩
      · rw [← hlW] at h1; omega
      · exact ⟨q, h0⟩
    simp (disch := first | with_reducible assumption | omega) only [push_cast, x_blk, x_cd, ↓reduceIte, Nat.reduceEqDiff, List.map_cons, List.map_nil, Int.reduceEq, Int.lt_irrefl]
    rw [hlW]
    refine call_of (strings_Join (OwnR.recs oC strEnc (by decide)) cC hcap (by omega) (by show (stB ++ sp W).length ≤ _; rw [htx]; omega)) ?_
    rintro v wD ⟨hv, bD⟩
    rw [show (⟨stB.toArray⟩ : ByteArray).data.toList ++ sp W = txt p from htx] at hv
    subst hv
    have bbD := bbC.trans (bD.mono bbC.size)
    by_cases hgt : (4000 : Int) < ((txt p).length : Int)
    · simp (disch := first | with_reducible assumption | omega) only [push_cast, x_blk, x_cd, ↓reduceIte, Nat.reduceEqDiff, List.map_cons, List.map_nil, Int.reduceEq, Int.lt_irrefl, ba_size, hgt]
      refine fin_2 (hQ _ _ ⟨?_, bbD⟩)
      unfold prOut
      rw [if_pos hM, if_pos (by omega)]
      simp only [push_cast, ↓reduceIte, Nat.reduceEqDiff]
    · simp (disch := first | with_reducible assumption | omega) only [push_cast, x_blk, x_cd, ↓reduceIte, Nat.reduceEqDiff, List.map_cons, List.map_nil, Int.reduceEq, Int.lt_irrefl, ba_size, hgt]
      refine fin_2 (hQ _ _ ⟨?_, bbD⟩)
      unfold prOut
      rw [if_pos hM, if_neg (by omega)]
      simp only [push_cast, ↓reduceIte, Nat.reduceEqDiff]
  obtain ⟨e1, e2, e3⟩ := hM.arr hlt
  have hsucc : arTo p (k + 1) = arTo p k ++ arW p k (p.m.arrows.getD k default) := rfl
  have hAr := (hJA.belowB bA).m.arrows
  have sAr := hAr.isSome (by omega)
  have hldA := fun {K : Fr → World → Prop} {f : Fr} {d : Option Nat} {w : World} => hAr.ldA (K := K) (f := f) (d := d) (w := w) ty_ag_66 ty_sz_66 k hlt
  simp (disch := first | with_reducible assumption | omega) only [push_cast, x_blk, x_cd, ↓reduceIte, Nat.reduceEqDiff, List.map_cons, List.map_nil, Int.reduceEq, Int.lt_irrefl, L_text_Print_0, fr, hlt, sAr, hldA]
  refine blk_of al_66 ?_
  intro w5 k5 b5 z5
  simp (disch := first | with_reducible assumption | omega) only [push_cast, x_blk, x_cd, ↓reduceIte, Nat.reduceEqDiff, List.map_cons, List.map_nil, Int.reduceEq, Int.lt_irrefl, fr]
  refine sto_blk k5 (cs := arrCells (p.m.arrows.getD k default)) ty_sz_66 rfl (by simp [arrCells, Value.oneCell']) ?_
  intro w6 k6 g6 z6
  generalize p.m.arrows.getD k default = y at *
  have bB6 := g6.below b5 b5.size (by intro a ha; injection ha with ha; subst ha; exact Nat.le_refl _)
  have hW6 := hWk.below bB6
  have b106 := bB6.mono (show g ≤ wB.heap.size by omega)
  have v1 := nm_at e1.1 e1.2
  have v2 := nm_at e2.1 e2.2
  have v3 := nm_at e3.1 e3.2
  have e10 := e1.1
  have e11 := e1.2
  have e20 := e2.1
  have e21 := e2.2
  have e30 := e3.1
  have e31 := e3.2
  replace hJA := hJA.belowB bA
  replace kPA := kPA.below bA l2
  by_cases hk0 : (0 : Int) < (k : Int)
  case neg =>
    obtain ⟨W7, hW7e⟩ : ∃ W7, W7 = headW p ++ arTo p k := ⟨_, rfl⟩
    have hfin : headW p ++ arTo p (k + 1) = W7 ++ [nm p.S y.frm, nm p.E y.evt, nm p.S y.to_] := by
      rw [hsucc, hW7e]; unfold arW; rw [if_neg (by omega)]; simp [List.append_assoc]
    rw [← hW7e] at hW6 hWl
    have hW7 := hW6
    have k7 := k6
    have b107 := b106
    generalize w6 = w7 at *
    simp (disch := first | with_reducible assumption | omega) only [push_cast, x_blk, x_cd, ↓reduceIte, Nat.reduceEqDiff, List.map_cons, List.map_nil, Int.reduceEq, Int.lt_irrefl, fr, hk0]
    have bd7 : Below w7.heap.size w7 w7.drew := (Same.refl w7).drew.below _
    have lg7 := hW7.k.lt
    have ku7 := k7.below bd7 k7.lt
    have hWu := hW7.below bd7
    have b10u := b107.trans (bd7.mono (show g ≤ w7.heap.size by omega))
    have hJu := hJA.belowB b10u
    have kPu := kPA.below b10u l2
    generalize hu7 : w7.drew = u7 at *
    have ld1 := fun {K : Fr → World → Prop} {f : Fr} {d : Option Nat} {w' : World} => hJu.S.ld (K := K) (f := f) (d := d) (w := w') v1
    have ld2 := fun {K : Fr → World → Prop} {f : Fr} {d : Option Nat} {w' : World} => hJu.E.ld (K := K) (f := f) (d := d) (w := w') v2
    have ld3 := fun {K : Fr → World → Prop} {f : Fr} {d : Option Nat} {w' : World} => hJu.S.ld (K := K) (f := f) (d := d) (w := w') v3
    have sAS := hJu.S.isSome (by omega)
    have sAE := hJu.E.isSome (by omega)
    have lgu := hWu.k.lt
    have bE : Below u7.heap.size u7 (u7.alloc (.cells [.string (nm p.S y.frm), .string (nm p.E y.evt), .string (nm p.S y.to_)].toArray 9)) := (Below.refl _ _).alloc (Nat.le_refl _) _
    simp (disch := first | with_reducible assumption | omega) only [push_cast, x_blk, x_cd, ↓reduceIte, Nat.reduceEqDiff, List.map_cons, List.map_nil, Int.reduceEq, Int.lt_irrefl, fr, hu7, hWu.ld, kPu.jS, kPu.jE, ku7.a0 ty_ag_3, ku7.a1 ty_ag_3, ku7.a2 ty_ag_3, e10, e11, e20, e21, e30, e31, sAS, sAE, ld1, ld2, ld3, bsl3_str slT_22]
    refine ⟨bE, ?_⟩
    refine app_3str slT_22 hWu.o (nm p.S y.frm) (nm p.E y.evt) (nm p.S y.to_) (by omega) (by omega) (by omega) ?_
    intro A8' c8' w8 o8 g8 z8
    have hk8 := hWu.k.grown g8.by_ (hWu.o.ne_blk hWu.k (by decide)).symm
    simp (disch := first | with_reducible assumption | omega) only [push_cast, x_blk, x_cd, ↓reduceIte, Nat.reduceEqDiff, List.map_cons, List.map_nil, Int.reduceEq, Int.lt_irrefl, fr]
    refine sto_blk hk8 (cs := [.slice A8' (W7.length + 3) c8']) (e1_sl _) rfl rfl ?_
    intro w9 k9 g9 z9
    obtain ⟨hW9, b9⟩ := hWu.putL (X := [nm p.S y.frm, nm p.E y.evt, nm p.S y.to_]) o8 g8 k9 g9
    simp (disch := first | with_reducible assumption | omega) only [push_cast, x_blk, x_cd, ↓reduceIte, Nat.reduceEqDiff, List.map_cons, List.map_nil, Int.reduceEq, Int.lt_irrefl, fr]
    exact hJ' _ _ ⟨k + 1, A8', c8', hlt, (by simp only [push_cast, ↓reduceIte, Nat.reduceEqDiff, true_and, and_true, and_self, eq_self, fr]), by rw [hfin]; exact hW9, bA.trans (b10u.trans b9)⟩ (by rw [hmu]; simp only [push_cast, ↓reduceIte, Nat.reduceEqDiff, intOf, fr]; omega)
  have hfin' : headW p ++ arTo p (k + 1) = headW p ++ arTo p k ++ [⟨#[44]⟩] ++ [nm p.S y.frm, nm p.E y.evt, nm p.S y.to_] := by
    rw [hsucc]; unfold arW; rw [if_pos (by omega)]; simp [List.append_assoc]
  simp (disch := first | with_reducible assumption | omega) only [push_cast, x_blk, x_cd, ↓reduceIte, Nat.reduceEqDiff, List.map_cons, List.map_nil, Int.reduceEq, Int.lt_irrefl, fr, hk0, hW6.ld, bs_22]
  have lg6 := hW6.k.lt
  refine app_rec strEnc slT_22 hW6.o ⟨#[44]⟩ (by omega) (by omega) (by omega) ?_
  intro AD cD wD oD gD hAD hsD zD
  have hkD := hW6.k.grown gD.by_ (hW6.o.ne_blk hW6.k (by decide)).symm
  simp (disch := first | with_reducible assumption | omega) only [push_cast, x_blk, x_cd, ↓reduceIte, Nat.reduceEqDiff, List.map_cons, List.map_nil, Int.reduceEq, Int.lt_irrefl, fr]
  refine sto_blk hkD (cs := [.slice AD ((headW p ++ arTo p k).length + 1) cD]) (e1_sl _) rfl rfl ?_
  intro w7 kS gS zS
  obtain ⟨hW7, b67⟩ := hW6.putL (X := [⟨#[44]⟩]) oD gD kS gS
  have k7 := (k6.grown gD.by_ (hW6.o.ne_blk k6 (by decide)).symm).grown gS.by_ (by simp; omega)
  have b107 := b106.trans b67
  obtain ⟨W7, hW7e⟩ : ∃ W7, W7 = headW p ++ arTo p k ++ [⟨#[44]⟩] := ⟨_, rfl⟩
  have hWl7 : W7.length ≤ 30001 := by rw [hW7e, List.length_append, List.length_singleton]; omega
  rw [← hW7e] at hW7 hfin'
  have hfin := hfin'
  simp (disch := first | with_reducible assumption | omega) only [push_cast, x_blk, x_cd, ↓reduceIte, Nat.reduceEqDiff, List.map_cons, List.map_nil, Int.reduceEq, Int.lt_irrefl, fr]
  have bd7 : Below w7.heap.size w7 w7.drew := (Same.refl w7).drew.below _
  have lg7 := hW7.k.lt
  have ku7 := k7.below bd7 k7.lt
  have hWu := hW7.below bd7
  have b10u := b107.trans (bd7.mono (show g ≤ w7.heap.size by omega))
  have hJu := hJA.belowB b10u
  have kPu := kPA.below b10u l2
  generalize hu7 : w7.drew = u7 at *
  have ld1 := fun {K : Fr → World → Prop} {f : Fr} {d : Option Nat} {w' : World} => hJu.S.ld (K := K) (f := f) (d := d) (w := w') v1
  have ld2 := fun {K : Fr → World → Prop} {f : Fr} {d : Option Nat} {w' : World} => hJu.E.ld (K := K) (f := f) (d := d) (w := w') v2
  have ld3 := fun {K : Fr → World → Prop} {f : Fr} {d : Option Nat} {w' : World} => hJu.S.ld (K := K) (f := f) (d := d) (w := w') v3
  have sAS := hJu.S.isSome (by omega)
  have sAE := hJu.E.isSome (by omega)
  have lgu := hWu.k.lt
  have bE : Below u7.heap.size u7 (u7.alloc (.cells [.string (nm p.S y.frm), .string (nm p.E y.evt), .string (nm p.S y.to_)].toArray 9)) := (Below.refl _ _).alloc (Nat.le_refl _) _
  simp (disch := first | with_reducible assumption | omega) only [push_cast, x_blk, x_cd, ↓reduceIte, Nat.reduceEqDiff, List.map_cons, List.map_nil, Int.reduceEq, Int.lt_irrefl, fr, hu7, hWu.ld, kPu.jS, kPu.jE, ku7.a0 ty_ag_3, ku7.a1 ty_ag_3, ku7.a2 ty_ag_3, e10, e11, e20, e21, e30, e31, sAS, sAE, ld1, ld2, ld3, bsl3_str slT_22]
  refine ⟨bE, ?_⟩
  refine app_3str slT_22 hWu.o (nm p.S y.frm) (nm p.E y.evt) (nm p.S y.to_) (by omega) (by omega) (by omega) ?_
  intro A8' c8' w8 o8 g8 z8
  have hk8 := hWu.k.grown g8.by_ (hWu.o.ne_blk hWu.k (by decide)).symm
  simp (disch := first | with_reducible assumption | omega) only [push_cast, x_blk, x_cd, ↓reduceIte, Nat.reduceEqDiff, List.map_cons, List.map_nil, Int.reduceEq, Int.lt_irrefl, fr]
  refine sto_blk hk8 (cs := [.slice A8' (W7.length + 3) c8']) (e1_sl _) rfl rfl ?_
  intro w9 k9 g9 z9
  obtain ⟨hW9, b9⟩ := hWu.putL (X := [nm p.S y.frm, nm p.E y.evt, nm p.S y.to_]) o8 g8 k9 g9
  simp (disch := first | with_reducible assumption | omega) only [push_cast, x_blk, x_cd, ↓reduceIte, Nat.reduceEqDiff, List.map_cons, List.map_nil, Int.reduceEq, Int.lt_irrefl, fr]
  exact hJ' _ _ ⟨k + 1, A8', c8', hlt, (by simp only [push_cast, ↓reduceIte, Nat.reduceEqDiff, true_and, and_true, and_self, eq_self, fr]), by rw [hfin]; exact hW9, bA.trans (b10u.trans b9)⟩ (by rw [hmu]; simp only [push_cast, ↓reduceIte, Nat.reduceEqDiff, intOf, fr]; omega)
end Go.Proofs.YtpinjiikiaakaaaDoor

/-
  The text of a project is read as that project. No program in sight.
-/
namespace Go.Proofs.YtpinjiikiaakaaaDoor
set_option linter.unusedSimpArgs false
set_option linter.unusedVariables false
set_option linter.unusedSectionVars false
open Go.RowKit

/-- A word: a name or a sign. -/
def Wd (s : ByteArray) : Prop := Named s ∨ s = semi ∨ s = comma
def kd (s : ByteArray) : Int := if s = semi ∨ s = comma then 3 else 1
theorem named_neq {s : ByteArray} (h : Named s) : s ≠ semi ∧ s ≠ comma := by
  have := h.2.2.2
  constructor <;> (rintro rfl; revert this; decide)
theorem kd_named {s : ByteArray} (h : Named s) : kd s = 1 := by
  unfold kd
  have := named_neq h
  rw [if_neg (by rintro (c | c); exact this.1 c; exact this.2 c)]
/-- Tokens that are these words. -/
def TW (ts : List Tok) (W : List ByteArray) : Prop := ts.map (·.s) = W ∧ ∀ t ∈ ts, t.k = kd t.s
theorem TW.nil : TW [] [] := ⟨rfl, fun _ h => by cases h⟩
theorem TW.cons {ts : List Tok} {W : List ByteArray} {t : Tok} (h : TW ts W) (hk : t.k = kd t.s) : TW (t :: ts) (t.s :: W) :=
  ⟨by rw [List.map_cons, h.1], fun u hu => by
    rcases List.mem_cons.1 hu with rfl | hu
    · exact hk
    · exact h.2 u hu⟩
theorem TW.split {ts : List Tok} {W X : List ByteArray} (h : TW ts (W ++ X)) : ∃ a b, ts = a ++ b ∧ TW a W ∧ TW b X := by
  refine ⟨ts.take W.length, ts.drop W.length, (List.take_append_drop _ _).symm, ⟨?_, fun t ht => h.2 t (List.mem_of_mem_take ht)⟩, ⟨?_, fun t ht => h.2 t (List.mem_of_mem_drop ht)⟩⟩
  · rw [List.map_take, h.1]; simp
  · rw [List.map_drop, h.1]; simp
theorem TW.uncons {ts : List Tok} {x : ByteArray} {X : List ByteArray} (h : TW ts (x :: X)) : ∃ t b, ts = t :: b ∧ t.s = x ∧ t.k = kd x ∧ TW b X := by
  cases ts with
  | nil => have := h.1; cases this
  | cons t b =>
    have h1 := h.1
    rw [List.map_cons] at h1
    injection h1 with h1 h2
    exact ⟨t, b, rfl, h1, by rw [← h1]; exact h.2 t (List.mem_cons_self ..), h2, fun u hu => h.2 u (List.mem_cons_of_mem _ hu)⟩
theorem toks_word {s : ByteArray} (h : Named s) (a : Nat) (r : List UInt8) (hr : wordN r = 0) : toks a (s.data.toList ++ r) = (⟨1, s, a⟩ :: (toks (a + s.data.toList.length) r).1, (toks (a + s.data.toList.length) r).2) := by
  obtain ⟨h1, h2, h3, h4⟩ := h
  rw [size_list] at h1 h2 h3
  have hs := ba_list s
  unfold byt at h1 h4
  generalize s.data.toList = l at *
  subst hs
  cases l with
  | nil => simp at h2
  | cons c l =>
    have hw : wordN (l ++ r) = l.length := by
      clear h2 h3 h4
      replace h1 : ∀ i, i < l.length → IsIn ((l.getD i 0).toNat : Int) := fun i hi => by simpa using h1 (i + 1) (by simpa using hi)
      induction l with
      | nil => exact hr
      | cons d l ih =>
        rw [List.cons_append, wordN, if_pos (by simpa using h1 0 (by simp)), ih (fun i hi => by have := h1 (i + 1) (by rw [List.length_cons]; omega); rwa [List.getD_cons_succ] at this), List.length_cons]
    have h4' : IsLet (c.toNat : Int) := by simpa using h4
    have hb : ¬ isBlank (c.toNat : Int) := by unfold isBlank; unfold IsLet at h4'; omega
    have hg : ¬ isSign (c.toNat : Int) := by unfold isSign; unfold IsLet at h4'; omega
    simp only [List.length_cons] at h3
    rw [List.cons_append, toks_cons, if_neg hb, if_neg hg, if_neg (fun c => c h4'), hw, if_neg (by omega)]
    rw [List.take_left, List.drop_left, List.length_cons, show a + 1 + l.length = a + (l.length + 1) by omega]
theorem sp_word0 (W : List ByteArray) : wordN (sp W) = 0 := by
  cases W with
  | nil => rfl
  | cons x W =>
    show wordN (32 :: (x.data.toList ++ sp W)) = 0
    rw [wordN, if_neg (by decide)]
theorem toks_sp : ∀ (W : List ByteArray) (a : Nat), (∀ s ∈ W, Wd s) → TW (toks a (sp W)).1 W ∧ (toks a (sp W)).2 = none
  | [], a, _ => by
    show TW (toks a []).1 [] ∧ _
    rw [toks_nil]; exact ⟨TW.nil, by show (toks a []).2 = none; rw [toks_nil]⟩
  | x :: W, a, h => by
    have e : sp (x :: W) = 32 :: (x.data.toList ++ sp W) := rfl
    have hW := fun b => toks_sp W b fun s hs => h s (List.mem_cons_of_mem _ hs)
    rw [e, toks_cons, if_pos (by decide)]
    rcases h x (List.mem_cons_self ..) with hx | rfl | rfl
    · rw [toks_word hx _ _ (sp_word0 W)]
      exact ⟨(hW _).1.cons (t := ⟨1, x, _⟩) (kd_named hx).symm, (hW _).2⟩
    · show TW (toks (a + 1) (59 :: sp W)).1 _ ∧ (toks (a + 1) (59 :: sp W)).2 = none
      rw [toks_cons, if_neg (by decide), if_pos (by decide)]
      exact ⟨(hW _).1.cons (t := ⟨3, semi, _⟩) (by unfold kd; simp), (hW _).2⟩
    · show TW (toks (a + 1) (44 :: sp W)).1 _ ∧ (toks (a + 1) (44 :: sp W)).2 = none
      rw [toks_cons, if_neg (by decide), if_pos (by decide)]
      exact ⟨(hW _).1.cons (t := ⟨3, comma, _⟩) (by unfold kd; simp), (hW _).2⟩
/-- What the fform tells of a piece of tokens, between two states. -/
def Fm (st : FSt) (ts : List Tok) (of : List Int) (st' : FSt) : Prop := ∀ rest, fform st (ts ++ rest) = (of ++ (fform st' rest).1, (fform st' rest).2)
theorem Fm.nil (st : FSt) : Fm st [] [] st := fun _ => rfl
theorem Fm.one {st st' : FSt} {t : Tok} {i : Int} (h : fstep st t = some (st', i)) : Fm st [t] [i] st' := fun rest => by
  rw [List.singleton_append, form_some h]; rfl
theorem Fm.app {s1 s2 s3 : FSt} {a b : List Tok} {u v : List Int} (h1 : Fm s1 a u s2) (h2 : Fm s2 b v s3) : Fm s1 (a ++ b) (u ++ v) s3 := fun rest => by
  rw [List.append_assoc, h1, h2, List.append_assoc]
theorem sel_app {a b : List Tok} {u v : List Int} (h : u.length = a.length) (j : Nat) : fsel (a ++ b) (u ++ v) j = fsel a u j ++ fsel b v j := by
  unfold fsel
  rw [List.zip_append h.symm, List.filter_append, List.map_append]
theorem sel_neg (t : Tok) (j : Nat) : fsel [t] [-1] j = [] := by
  unfold fsel
  simp
theorem sel_all (k j : Nat) : ∀ L : List Tok, fsel L (List.replicate L.length (k : Int)) j = if j = k then L else []
  | [] => by unfold fsel; simp
  | t :: L => by
    have ih := sel_all k j L
    unfold fsel at *
    rw [List.length_cons, List.replicate_succ, List.zip_cons_cons]
    by_cases c : j = k
    · rw [if_pos c] at ih ⊢
      rw [List.filter_cons_of_pos (by simp [c]), List.map_cons, ih]
    · rw [if_neg c] at ih ⊢
      rw [List.filter_cons_of_neg (by simp; omega), ih]
theorem fm_names (k : Nat) (hk : k < 8) : ∀ (L : List Tok) (n : Nat), (∀ t ∈ L, t.k = 1) → Fm ⟨k, n, .m⟩ L (List.replicate L.length (k : Int)) ⟨k, n + L.length, .m⟩
  | [], n, _ => Fm.nil _
  | t :: L, n, h => by
    have h1 : fstep ⟨k, n, .m⟩ t = some (⟨k, n + 1, .m⟩, (k : Int)) := by
      unfold fstep afterName
      simp only [h t (List.mem_cons_self ..), if_true]
      rw [if_neg (by omega)]
    have := (Fm.one h1).app (fm_names k hk L (n + 1) fun u hu => h u (List.mem_cons_of_mem _ hu))
    rw [List.length_cons, List.replicate_succ, show n + (L.length + 1) = n + 1 + L.length by omega]
    exact this
/-- One of the first eight parts. -/
theorem fm_part {k : Nat} (hk : k < 8) {pt : List UInt8} (hpt : partWs.getD k ⟨#[]⟩ = ⟨pt.toArray⟩) (hnp : Named ⟨pt.toArray⟩) {ts : List Tok} {W : List ByteArray} (hW : ∀ s ∈ W, Named s) (h0 : k = 0 → W ≠ []) (h : TW ts (⟨pt.toArray⟩ :: W ++ [semi])) (n : Nat) :
    ∃ L of n', of.length = ts.length ∧ Fm ⟨k, n, .p⟩ ts of ⟨k + 1, n', .p⟩ ∧ L.map (·.s) = W ∧ ∀ j, fsel ts of j = if j = k then L else [] := by
  obtain ⟨t, b, rfl, t1, t2, hb⟩ := TW.uncons (by simpa using h)
  obtain ⟨L, c, rfl, hL, hc⟩ := TW.split hb
  obtain ⟨s, d, rfl, s1, s2, hd⟩ := TW.uncons hc
  obtain rfl : d = [] := by have := hd.1; simpa using this
  have hL1 : ∀ t ∈ L, t.k = 1 := fun t ht => by
    rw [hL.2 t ht]
    exact kd_named (hW _ (by rw [← hL.1]; exact List.mem_map_of_mem ht))
  rw [kd_named hnp] at t2
  have hs3 : s.k ≠ 1 := by rw [s2]; decide
  have hsm : ∀ n, fstep ⟨k, n, .m⟩ s = some (⟨k + 1, n, .p⟩, -1) := fun n => by
    unfold fstep
    simp only [hs3, if_false, s1, if_true]
  have hsel : ∀ j, fsel (t :: (L ++ [s])) (-1 :: (List.replicate L.length (k : Int) ++ [-1])) j = if j = k then L else [] := fun j => by
    rw [show t :: (L ++ [s]) = [t] ++ (L ++ [s]) from rfl, show (-1 : Int) :: (List.replicate L.length (k : Int) ++ [-1]) = [-1] ++ (List.replicate L.length (k : Int) ++ [-1]) from rfl,
      sel_app rfl, sel_app (by simp), sel_neg, sel_neg, sel_all]
    simp
  by_cases c0 : k = 0
  · subst c0
    have hp : fstep ⟨0, n, .p⟩ t = some (⟨0, 0, .n⟩, -1) := by
      unfold fstep
      simp only [t2, t1, hpt]
      simp
    cases L with
    | nil => have := hL.1; exact absurd this.symm (h0 rfl)
    | cons a L =>
      have ha : fstep ⟨0, 0, .n⟩ a = some (⟨0, 1, .m⟩, ((0 : Nat) : Int)) := by
        unfold fstep afterName
        simp only [hL1 a (List.mem_cons_self ..), if_true]
        rfl
      refine ⟨a :: L, _, _, ?_, ((Fm.one hp).app ((Fm.one ha).app ((fm_names 0 hk L 1 fun t ht => hL1 t (List.mem_cons_of_mem _ ht)).app (Fm.one (hsm _))))), hL.1, hsel⟩
      simp
  · have hp : fstep ⟨k, n, .p⟩ t = some (⟨k, 0, .m⟩, -1) := by
      unfold fstep
      simp only [t2, t1, hpt, c0, if_false]
      rw [if_pos ⟨by omega, trivial, trivial⟩]
    refine ⟨L, _, _, ?_, (Fm.one hp).app ((fm_names k hk L 0 hL1).app (Fm.one (hsm _))), hL.1, hsel⟩
    simp
/-- The arrows, each by three names, a comma ahead of all but the first. -/
def arN (p : Pj) (l : List Arr) : List ByteArray := l.flatMap fun a => [nm p.S a.frm, nm p.E a.evt, nm p.S a.to_]
theorem fm_arrows (p : Pj) : ∀ (k : Nat) (ts : List Tok), k ≤ p.m.arrows.length → (∀ i, i < k → Named (nm p.S (p.m.arrows.getD i default).frm) ∧ Named (nm p.E (p.m.arrows.getD i default).evt) ∧ Named (nm p.S (p.m.arrows.getD i default).to_)) → TW ts (arTo p k) →
    ∃ (L : List Tok) (of : List Int) (n' : Nat), n' % 3 = 0 ∧ of.length = ts.length ∧ Fm ⟨8, 0, .m⟩ ts of ⟨8, n', if k = 0 then .m else .z⟩ ∧ L.map (·.s) = arN p (p.m.arrows.take k) ∧ ∀ j, fsel ts of j = if j = 8 then L else []
  | 0, ts, _, _, h => by
    obtain rfl : ts = [] := by have := h.1; simpa [arTo] using this
    exact ⟨[], [], 0, rfl, rfl, Fm.nil _, by simp [arN], fun j => by simp [fsel]⟩
  | k + 1, ts, hk, hn, h => by
    obtain ⟨a, b, rfl, ha, hb⟩ := TW.split (show TW ts (arTo p k ++ arW p k (p.m.arrows.getD k default)) from h)
    obtain ⟨L, of, n', hm, hl, hF, hLs, hsel⟩ := fm_arrows p k a (by omega) (fun i hi => hn i (by omega)) ha
    obtain ⟨n1, n2, n3⟩ := hn k (by omega)
    have htk : arN p (p.m.arrows.take (k + 1)) = arN p (p.m.arrows.take k) ++ [nm p.S (p.m.arrows.getD k default).frm, nm p.E (p.m.arrows.getD k default).evt, nm p.S (p.m.arrows.getD k default).to_] := by
      have : p.m.arrows.take (k + 1) = p.m.arrows.take k ++ [p.m.arrows.getD k default] := by
        rw [List.take_add_one, List.getD_eq_getElem?_getD, List.getElem?_eq_getElem (by omega)]; rfl
      rw [this]; simp [arN]
    rw [htk]
    generalize p.m.arrows.getD k default = y at *
    have three : ∀ (b : List Tok) (nx : Nx) (hb : TW b [nm p.S y.frm, nm p.E y.evt, nm p.S y.to_]), (nx = .m ∨ nx = .n) → b.length = 3 ∧ Fm ⟨8, n', nx⟩ b [8, 8, 8] ⟨8, n' + 3, .z⟩ := by
      intro b nx hb hnx
      obtain ⟨t1, b, rfl, e1, q1, hb⟩ := TW.uncons hb
      obtain ⟨t2, b, rfl, e2, q2, hb⟩ := TW.uncons hb
      obtain ⟨t3, b, rfl, e3, q3, hb⟩ := TW.uncons hb
      obtain rfl : b = [] := by have := hb.1; simpa using this
      rw [kd_named n1] at q1
      rw [kd_named n2] at q2
      rw [kd_named n3] at q3
      have s1 : fstep ⟨8, n', nx⟩ t1 = some (⟨8, n' + 1, .n⟩, 8) := by
        unfold fstep afterName
        rcases hnx with rfl | rfl <;> (simp only [q1, if_true]; rw [if_pos (by omega)]; rfl)
      have s2 : fstep ⟨8, n' + 1, .n⟩ t2 = some (⟨8, n' + 2, .n⟩, 8) := by
        unfold fstep afterName
        simp only [q2, if_true]; rw [if_pos (by omega)]; rfl
      have s3 : fstep ⟨8, n' + 2, .n⟩ t3 = some (⟨8, n' + 3, .z⟩, 8) := by
        unfold fstep afterName
        simp only [q3, if_true]; rw [if_neg (by omega)]; rfl
      exact ⟨rfl, (Fm.one s1).app ((Fm.one s2).app (Fm.one s3))⟩
    have hrep : ∀ b : List Tok, b.length = 3 → ∀ j, fsel b [8, 8, 8] j = if j = 8 then b else [] := fun b hb j => by
      have := sel_all 8 j b
      rw [hb] at this
      exact this
    by_cases hk0 : k = 0
    · subst hk0
      rw [if_pos rfl] at hF
      have hb' : TW b [nm p.S y.frm, nm p.E y.evt, nm p.S y.to_] := by simpa [arW] using hb
      obtain ⟨hl3, hF3⟩ := three b .m hb' (.inl rfl)
      refine ⟨L ++ b, of ++ [8, 8, 8], n' + 3, by omega, by simp [hl, hl3], by rw [if_neg (by omega)]; exact hF.app hF3, by rw [List.map_append, hLs, hb'.1], fun j => ?_⟩
      rw [sel_app hl, hsel, hrep b hl3]
      split <;> simp
    · rw [if_neg hk0] at hF
      have hb' : TW b (comma :: [nm p.S y.frm, nm p.E y.evt, nm p.S y.to_]) := by
        unfold arW at hb
        rw [if_pos (by omega)] at hb
        exact hb
      obtain ⟨t, b, rfl, e, q, hb''⟩ := TW.uncons hb'
      obtain ⟨hl3, hF3⟩ := three b .n hb'' (.inr rfl)
      have hc : fstep ⟨8, n', .z⟩ t = some (⟨8, n', .n⟩, -1) := by
        unfold fstep
        simp only [e]
        rw [if_neg (by decide), if_pos trivial]
      refine ⟨L ++ b, of ++ ([-1] ++ [8, 8, 8]), n' + 3, by omega, by simp [hl, hl3], by rw [if_neg (by omega)]; exact hF.app ((Fm.one hc).app hF3), by rw [List.map_append, hLs, hb''.1], fun j => ?_⟩
      rw [sel_app hl, hsel, show t :: b = [t] ++ b from rfl, sel_app rfl, sel_neg, hrep b hl3]
      split <;> simp
theorem decl_ok (most : Nat) : ∀ (ts : List Tok) (acc : List ByteArray), (acc ++ ts.map (·.s)).Nodup → (acc ++ ts.map (·.s)).length ≤ most → decl most acc ts = .ok (acc ++ ts.map (·.s))
  | [], acc, _, _ => by rw [decl]; simp
  | t :: ts, acc, hn, hl => by
    rw [List.map_cons] at hn hl ⊢
    have e : acc ++ t.s :: ts.map (·.s) = acc ++ [t.s] ++ ts.map (·.s) := by simp
    have hna : t.s ∉ acc := fun hm => (List.nodup_append.1 hn).2.2 _ hm _ (List.mem_cons_self ..) rfl
    rw [decl, if_neg hna, if_neg (by rw [List.length_append, List.length_cons] at hl; omega)]
    rw [e] at hn hl ⊢
    exact decl_ok most ts _ hn hl
theorem ix_nm {names : List ByteArray} (hn : NamesOk names) {x : Int} (h0 : 0 ≤ x) (h1 : x < names.length) : ixS (nm names x) names = x := by
  have h := nm_at h0 h1
  rw [ixS_found h (fun j hj hc => (hn _ _ h).2 (by
    have : (names.take x.toNat)[j]? = some (nm names x) := by rw [List.getElem?_take, if_pos hj]; exact hc
    exact List.mem_of_getElem? this))]
  omega
theorem rowF_ok {names : List ByteArray} (hn : NamesOk names) : ∀ (l : List Int) (ts : List Tok) (acc : List Int), ts.map (·.s) = nms names l → (∀ x ∈ l, 0 ≤ x ∧ x < names.length) → (acc ++ l).Nodup → rowF names acc ts = .ok (acc ++ l)
  | [], ts, acc, h, _, _ => by
    obtain rfl : ts = [] := by simpa [nms] using h
    rw [rowF]; simp
  | x :: l, ts, acc, h, hb, hd => by
    cases ts with
    | nil => cases h
    | cons t ts =>
      have h' : t.s :: ts.map (·.s) = nm names x :: nms names l := h
      injection h' with h1 h2
      have hx := hb x (List.mem_cons_self ..)
      have hna : x ∉ acc := fun hm => (List.nodup_append.1 hd).2.2 _ hm _ (List.mem_cons_self ..) rfl
      rw [rowF, h1, ix_nm hn hx.1 hx.2, if_neg (by omega), if_neg hna]
      rw [show acc ++ x :: l = acc ++ [x] ++ l by simp] at hd ⊢
      exact rowF_ok hn l ts _ h2 (fun y hy => hb y (List.mem_cons_of_mem _ hy)) hd
theorem arrF_ok {p : Pj} (hS : NamesOk p.S) (hE : NamesOk p.E) : ∀ (l : List Arr) (ts : List Tok) (acc : List Arr), ts.map (·.s) = arN p l → (∀ a ∈ l, (0 ≤ a.frm ∧ a.frm < p.S.length) ∧ (0 ≤ a.evt ∧ a.evt < p.E.length) ∧ (0 ≤ a.to_ ∧ a.to_ < p.S.length)) → (acc ++ l).Nodup → arrF p.S p.E acc ts = .ok (acc ++ l)
  | [], ts, acc, h, _, _ => by
    obtain rfl : ts = [] := by simpa [arN] using h
    rw [arrF]; simp
    intro _ _ _ _ h; cases h
  | y :: l, ts, acc, h, hb, hd => by
    have h' : ts.map (·.s) = nm p.S y.frm :: nm p.E y.evt :: nm p.S y.to_ :: arN p l := h
    match ts, h' with
    | [], h' => exact absurd (congrArg List.length h') (by simp)
    | [a], h' => exact absurd (congrArg List.length h') (by simp)
    | [a, b], h' => exact absurd (congrArg List.length h') (by simp)
    | a :: b :: c :: ts, h' =>
      simp only [List.map_cons] at h'
      injection h' with h1 h2
      injection h2 with h2 h3
      injection h3 with h3 h4
      obtain ⟨b1, b2, b3⟩ := hb y (List.mem_cons_self ..)
      have hna : y ∉ acc := fun hm => (List.nodup_append.1 hd).2.2 _ hm _ (List.mem_cons_self ..) rfl
      rw [arrF, h1, h2, h3, ix_nm hS b1.1 b1.2, ix_nm hE b2.1 b2.2, ix_nm hS b3.1 b3.2, if_neg (by omega), if_neg (by omega), if_neg (by omega)]
      rw [if_neg (show ¬ (⟨y.frm, y.evt, y.to_⟩ : Arr) ∈ acc from hna)]
      rw [show acc ++ y :: l = acc ++ [y] ++ l by simp] at hd ⊢
      exact arrF_ok hS hE l ts _ h4 (fun z hz => hb z (List.mem_cons_of_mem _ hz)) hd
theorem NamesOk.nodup {l : List ByteArray} (h : NamesOk l) : l.Nodup := by
  refine List.pairwise_iff_getElem.2 fun i j hi hj hij he => ?_
  have hjs : l[j]? = some l[j] := List.getElem?_eq_getElem hj
  refine (h j _ hjs).2 (List.mem_of_getElem? (i := i) ?_)
  rw [List.getElem?_take, if_pos hij, List.getElem?_eq_getElem hi, he]
theorem NamesOk.named {l : List ByteArray} (h : NamesOk l) {x : Int} (h0 : 0 ≤ x) (h1 : x < l.length) : Named (nm l x) := (h _ _ (nm_at h0 h1)).1
theorem NamesOk.nms {l : List ByteArray} (h : NamesOk l) {r : List Int} (hr : ∀ x ∈ r, 0 ≤ x ∧ x < l.length) : ∀ s ∈ nms l r, Named s := fun s hs => by
  obtain ⟨x, hx, rfl⟩ := List.mem_map.1 hs
  exact h.named (hr x hx).1 (hr x hx).2
theorem NamesOk.all {l : List ByteArray} (h : NamesOk l) : ∀ s ∈ l, Named s := fun s hs => by
  obtain ⟨i, hi⟩ := List.mem_iff_getElem?.1 hs
  exact (h i s hi).1
theorem strict_nodup {l : List Int} (h : Strict l) : l.Nodup := List.Pairwise.imp (fun {a b} hab e => by omega) h
theorem row_sorted {l : List Int} {b : Int} (h : IsRow l b) : sortedL l = l := Strict.ext (sortedL_spec l).1 h.strict fun x => (sortedL_spec l).2 x
theorem parse_txt {p : Pj} (hM : p.May) (hl : (txt p).length ≤ 4000) : parseS (txt p) = .ok p := by
  have r1 := row_in hM.r1
  have r2 := row_in hM.r2
  have r3 := row_in hM.r3
  have r4 := row_in hM.r4
  have r5 := row_in hM.m.2.2.2.2.2.1
  have r6 := row_in hM.m.2.2.2.2.2.2.1
  rw [hM.ev] at r1 r2 r3
  rw [hM.st] at r4 r5 r6
  have hNar : ∀ i, i < p.m.arrows.length → Named (nm p.S (p.m.arrows.getD i default).frm) ∧ Named (nm p.E (p.m.arrows.getD i default).evt) ∧ Named (nm p.S (p.m.arrows.getD i default).to_) := fun i hi => by
    obtain ⟨b1, b2, b3⟩ := hM.arr hi
    exact ⟨hM.nS.named b1.1 b1.2, hM.nE.named b2.1 b2.2, hM.nS.named b3.1 b3.2⟩
  -- the words
  obtain ⟨W, hW⟩ : ∃ W, W = headW p ++ arTo p p.m.arrows.length ++ [semi] := ⟨_, rfl⟩
  have hsp : sp W = 32 :: txt p := by rw [hW]; exact words_txt p
  have hWe : W = (⟨stB.toArray⟩ :: p.S ++ [semi]) ++ ((⟨evB.toArray⟩ :: p.E ++ [semi]) ++ ((⟨snB.toArray⟩ :: nms p.E p.seen ++ [semi]) ++ ((⟨frB.toArray⟩ :: nms p.E p.free ++ [semi]) ++ ((⟨fuB.toArray⟩ :: nms p.E p.faults ++ [semi]) ++
      ((⟨scB.toArray⟩ :: nms p.S p.secret ++ [semi]) ++ ((⟨saB.toArray⟩ :: nms p.S p.m.starts ++ [semi]) ++ ((⟨enB.toArray⟩ :: nms p.S p.m.ends ++ [semi]) ++ (⟨arB.toArray⟩ :: (arTo p p.m.arrows.length ++ [semi]))))))))) := by
    rw [hW]; unfold headW pwd; rw [nms_ids, nms_ids]; simp only [List.append_assoc, List.cons_append, List.nil_append, List.singleton_append]
  have hwd : ∀ s ∈ W, Wd s := by
    intro s hs
    have lit : ∀ {pt : List UInt8}, Named ⟨pt.toArray⟩ → s = ⟨pt.toArray⟩ → Wd s := fun h e => .inl (e ▸ h)
    have n0 : Named ⟨stB.toArray⟩ := by decide
    have n1 : Named ⟨evB.toArray⟩ := by decide
    have n2 : Named ⟨snB.toArray⟩ := by decide
    have n3 : Named ⟨frB.toArray⟩ := by decide
    have n4 : Named ⟨fuB.toArray⟩ := by decide
    have n5 : Named ⟨scB.toArray⟩ := by decide
    have n6 : Named ⟨saB.toArray⟩ := by decide
    have n7 : Named ⟨enB.toArray⟩ := by decide
    have n8 : Named ⟨arB.toArray⟩ := by decide
    have har : ∀ k, k ≤ p.m.arrows.length → ∀ s ∈ arTo p k, Wd s := by
      intro k
      induction k with
      | zero => intro _ s hs; cases hs
      | succ k ih =>
        intro hk s hs
        obtain ⟨a1, a2, a3⟩ := hNar k (by omega)
        rcases List.mem_append.1 (show s ∈ arTo p k ++ arW p k (p.m.arrows.getD k default) from hs) with h | h
        · exact ih (by omega) s h
        · unfold arW at h
          rcases List.mem_append.1 h with h | h
          · split at h
            · rw [List.mem_singleton.1 h]; exact .inr (.inr rfl)
            · cases h
          · simp only [List.mem_cons, List.not_mem_nil, or_false] at h
            rcases h with rfl | rfl | rfl
            · exact .inl a1
            · exact .inl a2
            · exact .inl a3
    have a0 := hM.nS.all s
    have a1 := hM.nE.all s
    have a2 := hM.nE.nms r1 s
    have a3 := hM.nE.nms r2 s
    have a4 := hM.nE.nms r3 s
    have a5 := hM.nS.nms r4 s
    have a6 := hM.nS.nms r5 s
    have a7 := hM.nS.nms r6 s
    have a8 := har _ (Nat.le_refl _) s
    rw [hWe] at hs
    simp only [List.mem_append, List.mem_cons, List.mem_singleton, List.not_mem_nil, or_false] at hs
    clear hWe hsp hW hNar r1 r2 r3 r4 r5 r6 har
    rcases hs with ((h | h) | h) | ((h | h) | h) | ((h | h) | h) | ((h | h) | h) | ((h | h) | h) | ((h | h) | h) | ((h | h) | h) | ((h | h) | h) | h | h | h
    all_goals first | exact .inl (a0 h) | exact .inl (a1 h) | exact .inl (a2 h) | exact .inl (a3 h) | exact .inl (a4 h) | exact .inl (a5 h) | exact .inl (a6 h) | exact .inl (a7 h) | exact a8 h | exact .inr (.inl h) | exact lit n0 h | exact lit n1 h | exact lit n2 h | exact lit n3 h | exact lit n4 h | exact lit n5 h | exact lit n6 h | exact lit n7 h | exact lit n8 h
  have htk : TW (toks 0 (txt p)).1 W ∧ (toks 0 (txt p)).2 = none := by
    obtain ⟨V, hV⟩ : ∃ V, W = ⟨stB.toArray⟩ :: V := ⟨_, hWe⟩
    have h1 : txt p = stB ++ sp V := by
      rw [hV] at hsp
      have h2 : sp ((⟨stB.toArray⟩ : ByteArray) :: V) = 32 :: (stB ++ sp V) := by simp [sp]
      rw [h2] at hsp
      injection hsp with _ h3
      exact h3.symm
    have hw := toks_word (s := ⟨stB.toArray⟩) (by decide) 0 (sp V) (sp_word0 V)
    have ht := toks_sp V (0 + stB.length) fun s hs => hwd s (by rw [hV]; exact List.mem_cons_of_mem _ hs)
    have he : (⟨stB.toArray⟩ : ByteArray).data.toList = stB := rfl
    rw [he] at hw
    rw [h1, hV, hw]
    exact ⟨ht.1.cons (t := ⟨1, ⟨stB.toArray⟩, _⟩) (by rw [kd_named (by decide)]), ht.2⟩
  obtain ⟨htw, hnone⟩ := htk
  unfold parseS
  rw [if_neg (by omega), hnone]
  simp only
  generalize (toks 0 (txt p)).1 = ts at *
  rw [hWe] at htw
  obtain ⟨p0, ts, rfl, t0, htw⟩ := htw.split
  obtain ⟨p1, ts, rfl, t1, htw⟩ := htw.split
  obtain ⟨p2, ts, rfl, t2, htw⟩ := htw.split
  obtain ⟨p3, ts, rfl, t3, htw⟩ := htw.split
  obtain ⟨p4, ts, rfl, t4, htw⟩ := htw.split
  obtain ⟨p5, ts, rfl, t5, htw⟩ := htw.split
  obtain ⟨p6, ts, rfl, t6, htw⟩ := htw.split
  obtain ⟨p7, p8, rfl, t7, htw⟩ := htw.split
  obtain ⟨ta, q8, rfl, e8, k8, htw⟩ := htw.uncons
  obtain ⟨xa, zs, rfl, tx, htw⟩ := htw.split
  obtain ⟨tz, zn, rfl, ez, kz, hzn⟩ := htw.uncons
  obtain rfl : zn = [] := by have := hzn.1; simpa using this
  have s1 := hM.s1
  obtain ⟨L0, o0, n0, l0, f0, m0, z0⟩ := fm_part (k := 0) (by decide) rfl (by decide) hM.nS.all (fun _ => by intro e; rw [e] at s1; simp at s1) t0 0
  obtain ⟨L1, o1, n1, l1, f1, m1, z1⟩ := fm_part (k := 1) (by decide) rfl (by decide) hM.nE.all (fun e => by cases e) t1 n0
  obtain ⟨L2, o2, n2, l2, f2, m2, z2⟩ := fm_part (k := 2) (by decide) rfl (by decide) (hM.nE.nms r1) (fun e => by cases e) t2 n1
  obtain ⟨L3, o3, n3, l3, f3, m3, z3⟩ := fm_part (k := 3) (by decide) rfl (by decide) (hM.nE.nms r2) (fun e => by cases e) t3 n2
  obtain ⟨L4, o4, n4, l4, f4, m4, z4⟩ := fm_part (k := 4) (by decide) rfl (by decide) (hM.nE.nms r3) (fun e => by cases e) t4 n3
  obtain ⟨L5, o5, n5, l5, f5, m5, z5⟩ := fm_part (k := 5) (by decide) rfl (by decide) (hM.nS.nms r4) (fun e => by cases e) t5 n4
  obtain ⟨L6, o6, n6, l6, f6, m6, z6⟩ := fm_part (k := 6) (by decide) rfl (by decide) (hM.nS.nms r5) (fun e => by cases e) t6 n5
  obtain ⟨L7, o7, n7, l7, f7, m7, z7⟩ := fm_part (k := 7) (by decide) rfl (by decide) (hM.nS.nms r6) (fun e => by cases e) t7 n6
  obtain ⟨L8, o8, n8, h8, l8, f8, m8, z8⟩ := fm_arrows p p.m.arrows.length xa (Nat.le_refl _) hNar tx
  rw [kd_named (by decide)] at k8
  have g8 : fstep ⟨8, n7, .p⟩ ta = some (⟨8, 0, .m⟩, -1) := by
    unfold fstep
    simp only [k8, e8]
    rw [if_pos ⟨by omega, trivial, rfl⟩]
    rfl
  have hz3 : tz.k ≠ 1 := by rw [kz]; decide
  have g9 : fstep ⟨8, n8, if p.m.arrows.length = 0 then .m else .z⟩ tz = some (⟨9, n8, .p⟩, -1) := by
    unfold fstep
    split
    · rename_i h; split at h <;> cases h
    · rename_i h; split at h <;> cases h
    · simp only [hz3, if_false, ez, if_true]
    · simp only [ez, if_true]
  have F := f0.app (f1.app (f2.app (f3.app (f4.app (f5.app (f6.app (f7.app ((Fm.one g8).app (f8.app (Fm.one g9))))))))))
  have hF := F []
  rw [List.append_nil] at hF
  have hF2 : fform ⟨9, n8, .p⟩ [] = ([], ⟨9, n8, .p⟩) := rfl
  rw [hF2, List.append_nil] at hF
  have hlen : (o0 ++ (o1 ++ (o2 ++ (o3 ++ (o4 ++ (o5 ++ (o6 ++ (o7 ++ ([-1] ++ (o8 ++ [-1])))))))))).length = (p0 ++ (p1 ++ (p2 ++ (p3 ++ (p4 ++ (p5 ++ (p6 ++ (p7 ++ ([ta] ++ (xa ++ [tz])))))))))).length := by
    simp only [List.length_append, List.length_cons, List.length_nil, l0, l1, l2, l3, l4, l5, l6, l7, l8]
  rw [show p0 ++ (p1 ++ (p2 ++ (p3 ++ (p4 ++ (p5 ++ (p6 ++ (p7 ++ ta :: (xa ++ [tz])))))))) = p0 ++ (p1 ++ (p2 ++ (p3 ++ (p4 ++ (p5 ++ (p6 ++ (p7 ++ ([ta] ++ (xa ++ [tz]))))))))) from rfl]
  rw [show fs0 = ⟨0, 0, .p⟩ from rfl, hF]
  simp only
  rw [if_pos ⟨hlen, trivial⟩]
  have hsel : ∀ j, fsel (p0 ++ (p1 ++ (p2 ++ (p3 ++ (p4 ++ (p5 ++ (p6 ++ (p7 ++ ([ta] ++ (xa ++ [tz])))))))))) (o0 ++ (o1 ++ (o2 ++ (o3 ++ (o4 ++ (o5 ++ (o6 ++ (o7 ++ ([-1] ++ (o8 ++ [-1])))))))))) j =
      (if j = 0 then L0 else []) ++ ((if j = 1 then L1 else []) ++ ((if j = 2 then L2 else []) ++ ((if j = 3 then L3 else []) ++ ((if j = 4 then L4 else []) ++ ((if j = 5 then L5 else []) ++ ((if j = 6 then L6 else []) ++ ((if j = 7 then L7 else []) ++ (if j = 8 then L8 else [])))))))) := fun j => by
    rw [sel_app l0, sel_app l1, sel_app l2, sel_app l3, sel_app l4, sel_app l5, sel_app l6, sel_app l7, sel_app rfl, sel_app l8, sel_neg, sel_neg, z0, z1, z2, z3, z4, z5, z6, z7, z8, List.nil_append, List.append_nil]
  unfold namesS
  simp only [hsel]
  simp only [Nat.reduceEqDiff, if_true, if_false, List.nil_append, List.append_nil]
  have hA := hM.m.2.2.2.2.2.2.2
  have hord : OrdA p.m.arrows := May.ord hM.m
  have q0 := decl_ok 6 L0 [] (by rw [m0]; exact hM.nS.nodup) (by rw [m0]; exact hM.s6)
  have q1 := decl_ok 8 L1 [] (by rw [m1]; exact hM.nE.nodup) (by rw [m1]; exact hM.e8)
  rw [m0, List.nil_append] at q0
  rw [m1, List.nil_append] at q1
  rw [q0]; simp only
  rw [q1]; simp only
  rw [rowF_ok hM.nE p.seen L2 [] m2 r1 (strict_nodup hM.r1.strict)]; simp only
  rw [rowF_ok hM.nE p.free L3 [] m3 r2 (strict_nodup hM.r2.strict)]; simp only
  rw [rowF_ok hM.nE p.faults L4 [] m4 r3 (strict_nodup hM.r3.strict)]; simp only
  rw [rowF_ok hM.nS p.secret L5 [] m5 r4 (strict_nodup hM.r4.strict)]; simp only
  rw [rowF_ok hM.nS p.m.starts L6 [] m6 r5 (strict_nodup hM.m.2.2.2.2.2.1.strict)]; simp only
  rw [rowF_ok hM.nS p.m.ends L7 [] m7 r6 (strict_nodup hM.m.2.2.2.2.2.2.1.strict)]; simp only
  rw [List.take_length] at m8
  rw [arrF_ok hM.nS hM.nE p.m.arrows L8 [] m8 (fun a ha => by
    obtain ⟨i, hi, rfl⟩ := List.mem_iff_getElem.1 ha
    have := hM.arr hi
    rwa [List.getD_eq_getElem?_getD, List.getElem?_eq_getElem hi] at this) (List.Pairwise.imp (fun {a b} hab e => by subst e; unfold Arr.lt at hab; omega) hord)]
  simp only [List.nil_append]
  rw [row_sorted hM.r1, row_sorted hM.r2, row_sorted hM.r3, row_sorted hM.r4, row_sorted hM.m.2.2.2.2.2.1, row_sorted hM.m.2.2.2.2.2.2.1, sortA_ord hord, ← hM.st, ← hM.ev]
end Go.Proofs.YtpinjiikiaakaaaDoor

/-
  must: a fault is thrown unless something is so: by its contract.
-/
namespace Go.Proofs.YtpinjiikiaakaaaDoor
set_option linter.unusedSimpArgs false
set_option linter.unusedVariables false
set_option linter.unusedSectionVars false
open Go.RowKit

/-- The fault that is thrown. -/
def badV (code at_ : Int) : Value := .iface 41 (.agg #[.int .i64 code, .int .i64 at_])
theorem mkif {P : Program} {K : Fr → World → Prop} {u w : World} {f : Fr} {d : Option Nat} {t : TypeId} {fs : Array Field} (ht : P.underlying t = some (.struct fs)) (v : Value) : Val1 P K (Instr.makeInterface t v) u f d w = K (updO f d (.iface t v)) w :=
  val1_of u f d w fun w' _ => by simp [Instr.makeInterface, run_underlying ht]
theorem bl_flt {K : Fr → World → Prop} {u : World} {f : Fr} {d : Option Nat} {w : World} (a b : Int) : Val1 Tryd.prog K (Instr.build 31 #[(0, .int .i64 a), (1, .int .i64 b)]) u f d w = K (updO f d (.agg #[.int .i64 a, .int .i64 b])) w := bld_of (by kernel_rfl)
theorem bl_bad {K : Fr → World → Prop} {u : World} {f : Fr} {d : Option Nat} {w : World} (a b : Int) : Val1 Tryd.prog K (Instr.build 41 #[(0, .agg #[.int .i64 a, .int .i64 b])]) u f d w = K (updO f d (.agg #[.int .i64 a, .int .i64 b])) w := bld_of (by kernel_rfl)
theorem text_must (is : Bool) (code at_ : Int) (w : World) :
    Cal2 Tryd.prog 11 [.bool is, .int .i64 code, .int .i64 at_] w (fun v w' => v = .tuple #[] ∧ is = true ∧ Same w w') (fun ch w' => ch = [{ v := badV code at_, recovered := false }] ∧ is = false ∧ Same w w') := by
  refine cal2_text_must (by simp) 1000 fun Q Qp hQ hP => ?_
  cases is with
  | true =>
    simp (disch := first | with_reducible assumption | omega) only [push_cast, x_blk, x_cd, ↓reduceIte, Nat.reduceEqDiff, List.map_cons, List.map_nil, Int.reduceEq, Int.lt_irrefl, F_text_must]
    exact fin_0 (hQ _ _ ⟨rfl, rfl, Same.refl _⟩)
  | false =>
    simp (disch := first | with_reducible assumption | omega) only [push_cast, x_blk, x_cd, ↓reduceIte, Nat.reduceEqDiff, List.map_cons, List.map_nil, Int.reduceEq, Int.lt_irrefl, F_text_must, bl_flt, bl_bad, mkif Tryd.underlying41]
    exact ⟨⟨_, _, rfl⟩, hP _ _ ⟨rfl, rfl, Same.refl _⟩⟩
end Go.Proofs.YtpinjiikiaakaaaDoor

/-
  The tokens of a text: the program's and the reference's: by their contracts.
-/
namespace Go.Proofs.YtpinjiikiaakaaaDoor
set_option linter.unusedSimpArgs false
set_option linter.unusedVariables false
set_option linter.unusedSectionVars false
open Go.RowKit

theorem slice_str {P : Program} {K : Fr → World → Prop} {u : World} {f : Fr} {d : Option Nat} {w : World} {t : TypeId} (ht : P.underlying t = some .string) (s : ByteArray) (a b : Nat) (hab : a ≤ b) (hb : b ≤ s.size) :
    Val1 P K (Instr.sliceAt t (.string s) (some (.int .i64 a)) (some (.int .i64 b)) none) u f d w = K (updO f d (.string (s.extract a b))) w :=
  val1_of u f d w fun w' _ => by
    have h1 : (0 : Int) ≤ (a : Int) ∧ (a : Int) ≤ (b : Int) := by omega
    have h2 : (0 : Int) ≤ (b : Int) ∧ (b : Int) ≤ (s.size : Int) := by omega
    simp [Instr.sliceAt, run_underlying ht, Instr.slice, Instr.sliceBounds, Instr.sliceBound, asIntOf, h1, h2, hab, hb]
theorem slice_str1 {P : Program} {K : Fr → World → Prop} {u : World} {f : Fr} {d : Option Nat} {w : World} {t : TypeId} (ht : P.underlying t = some .string) (s : ByteArray) (a : Nat) (hb : a < s.size) :
    Val1 P K (Instr.sliceAt t (.string s) (some (.int .i64 a)) (some (.int .i64 ((a : Int) + 1))) none) u f d w = K (updO f d (.string (s.extract a (a + 1)))) w :=
  slice_str ht s a (a + 1) (by omega) hb
theorem ext_list (s : ByteArray) (a b : Nat) : s.extract a b = ⟨((s.data.toList.drop a).take (b - a)).toArray⟩ := by
  refine ba_inj ?_
  rw [ByteArray.data_extract]
  simp [Array.toList_extract, List.extract_eq_take_drop]
theorem bl_tok {K : Fr → World → Prop} {u : World} {f : Fr} {d : Option Nat} {w : World} (k : Int) (s : ByteArray) (a : Int) : Val1 Tryd.prog K (Instr.build 53 #[(0, .int .i64 k), (1, .string s), (2, .int .i64 a)]) u f d w = K (updO f d (.agg (Tok.cells ⟨k, s, a⟩).toArray)) w :=
  bld_3 (z := [.int .i64 0, .string ⟨#[]⟩, .int .i64 0]) (o0 := 0) (s0 := 1) (o1 := 1) (s1 := 1) (o2 := 2) (s2 := 1) (by kernel_rfl) rfl rfl rfl rfl rfl rfl rfl
abbrev blv (s : ByteArray) (i : Nat) : UInt8 := s.data.toList.getD i 0
theorem drop_cons {s : ByteArray} {i : Nat} (h : i < s.size) : s.data.toList.drop i = blv s i :: s.data.toList.drop (i + 1) := by
  rw [size_list] at h
  rw [List.drop_eq_getElem_cons h]
  unfold blv
  rw [List.getD_eq_getElem?_getD, List.getElem?_eq_getElem h]; rfl
theorem toks_at {s : ByteArray} {i : Nat} (h : i < s.size) (a : Nat) : toks a (s.data.toList.drop i) =
    if isBlank (byt s i) then toks (a + 1) (s.data.toList.drop (i + 1))
    else if isSign (byt s i) then (⟨3, ⟨#[blv s i]⟩, a⟩ :: (toks (a + 1) (s.data.toList.drop (i + 1))).1, (toks (a + 1) (s.data.toList.drop (i + 1))).2)
    else if ¬ IsLet (byt s i) then ([], some (2, (a : Int)))
    else if 16 < wordN (s.data.toList.drop (i + 1)) + 1 then ([], some (1, (a : Int)))
    else (⟨1, ⟨(blv s i :: (s.data.toList.drop (i + 1)).take (wordN (s.data.toList.drop (i + 1)))).toArray⟩, a⟩ :: (toks (a + 1 + wordN (s.data.toList.drop (i + 1))) ((s.data.toList.drop (i + 1)).drop (wordN (s.data.toList.drop (i + 1))))).1, (toks (a + 1 + wordN (s.data.toList.drop (i + 1))) ((s.data.toList.drop (i + 1)).drop (wordN (s.data.toList.drop (i + 1))))).2) := by
  rw [drop_cons h, toks_cons]; rfl
theorem sub_one {s : ByteArray} {i : Nat} (h : i < s.size) : s.extract i (i + 1) = ⟨#[blv s i]⟩ := by
  rw [ext_list, drop_cons h, show i + 1 - i = 1 by omega]; rfl
theorem sub_word {s : ByteArray} {i n : Nat} (h : i < s.size) : s.extract i (i + 1 + n) = ⟨(blv s i :: (s.data.toList.drop (i + 1)).take n).toArray⟩ := by
  rw [ext_list, drop_cons h, show i + 1 + n - i = n + 1 by omega, List.take_succ_cons]
theorem word_at {s : ByteArray} {i t : Nat} (h0 : i + 1 ≤ t) (h : t ≤ s.size) (h1 : ∀ j, i + 1 ≤ j → j < t → IsIn (byt s j)) (h2 : t < s.size → ¬ IsIn (byt s t)) : wordN (s.data.toList.drop (i + 1)) = t - (i + 1) := by
  rw [size_list] at h h2
  have hg : ∀ j, (s.data.toList.drop (i + 1)).getD j 0 = s.data.toList.getD (i + 1 + j) 0 := fun j => by
    rw [List.getD_eq_getElem?_getD, List.getD_eq_getElem?_getD, List.getElem?_drop]
  refine wordN_at _ _ (by rw [List.length_drop]; omega) (fun j hj => ?_) fun hn => ?_
  · rw [hg]; exact h1 (i + 1 + j) (by omega) (by omega)
  · rw [hg, show i + 1 + (t - (i + 1)) = t by omega]; exact h2 (by rw [List.length_drop] at hn; omega)
/-- What is found of the tokens, a place on. -/
def TkInv (s : ByteArray) (i : Nat) (acc : List Tok) : Prop := toks 0 s.data.toList = (acc ++ (toks i (s.data.toList.drop i)).1, (toks i (s.data.toList.drop i)).2) ∧ acc.length ≤ i
theorem TkInv.zero (s : ByteArray) : TkInv s 0 [] := ⟨rfl, Nat.le_refl _⟩
theorem TkInv.blank {s : ByteArray} {i : Nat} {acc : List Tok} (h : TkInv s i acc) (hi : i < s.size) (hb : isBlank (byt s i)) : TkInv s (i + 1) acc := by
  refine ⟨?_, by have := h.2; omega⟩
  have h1 := h.1
  rw [toks_at hi, if_pos hb] at h1
  exact h1
theorem TkInv.sign {s : ByteArray} {i : Nat} {acc : List Tok} (h : TkInv s i acc) (hi : i < s.size) (hb : ¬ isBlank (byt s i)) (hg : isSign (byt s i)) : TkInv s (i + 1) (acc ++ [⟨3, s.extract i (i + 1), i⟩]) := by
  refine ⟨?_, by rw [List.length_append]; have := h.2; simp; omega⟩
  have h1 := h.1
  rw [toks_at hi, if_neg hb, if_pos hg] at h1
  rw [h1, sub_one hi]
  simp only [List.append_assoc, List.singleton_append]
theorem TkInv.bad {s : ByteArray} {i : Nat} {acc : List Tok} (h : TkInv s i acc) (hi : i < s.size) (hb : ¬ isBlank (byt s i)) (hg : ¬ isSign (byt s i)) (hl : ¬ IsLet (byt s i)) : (toks 0 s.data.toList).2 = some (2, (i : Int)) := by
  have h1 := h.1
  rw [toks_at hi, if_neg hb, if_neg hg, if_pos hl] at h1
  rw [h1]
theorem TkInv.long {s : ByteArray} {i t : Nat} {acc : List Tok} (h : TkInv s i acc) (hi : i < s.size) (hb : ¬ isBlank (byt s i)) (hg : ¬ isSign (byt s i)) (hl : IsLet (byt s i)) (h0 : i + 1 ≤ t) (hn : wordN (s.data.toList.drop (i + 1)) = t - (i + 1)) (h16 : i + 16 < t) : (toks 0 s.data.toList).2 = some (1, (i : Int)) := by
  have h1 := h.1
  rw [toks_at hi, if_neg hb, if_neg hg, if_neg (fun c => c hl), hn, if_pos (by omega)] at h1
  rw [h1]
theorem TkInv.word {s : ByteArray} {i t : Nat} {acc : List Tok} (h : TkInv s i acc) (hi : i < s.size) (hb : ¬ isBlank (byt s i)) (hg : ¬ isSign (byt s i)) (hl : IsLet (byt s i)) (h0 : i + 1 ≤ t) (hn : wordN (s.data.toList.drop (i + 1)) = t - (i + 1)) (h16 : ¬ i + 16 < t) : TkInv s t (acc ++ [⟨1, s.extract i t, i⟩]) := by
  refine ⟨?_, by rw [List.length_append]; have := h.2; simp; omega⟩
  have h1 := h.1
  rw [toks_at hi, if_neg hb, if_neg hg, if_neg (fun c => c hl), hn, if_neg (by omega), List.drop_drop, show i + 1 + (t - (i + 1)) = t by omega] at h1
  rw [h1]
  have := sub_word (n := t - (i + 1)) hi
  rw [show i + 1 + (t - (i + 1)) = t by omega] at this
  rw [this]
  simp only [List.append_assoc, List.singleton_append]
theorem TkInv.done {s : ByteArray} {acc : List Tok} (h : TkInv s s.size acc) : toks 0 s.data.toList = (acc, none) := by
  have h1 := h.1
  rw [List.drop_eq_nil_of_le (by rw [size_list]; exact Nat.le_refl _), toks_nil, List.append_nil] at h1
  exact h1
set_option maxHeartbeats 1000000 in
theorem text_scan (s : ByteArray) (hs : s.size ≤ 4000) (w : World) :
    Cal2 Tryd.prog 12 [.string s] w
      (fun v w' => (∃ A c, v = .slice A (toks 0 s.data.toList).1.length c ∧ OwnR Tok.cells w.heap.size 53 3 w' A c (toks 0 s.data.toList).1) ∧ (toks 0 s.data.toList).2 = none ∧ Below w.heap.size w w')
      (fun ch w' => ∃ c a, (toks 0 s.data.toList).2 = some (c, a) ∧ ch = [{ v := badV c a, recovered := false }] ∧ Below w.heap.size w w') := by
  refine cal2_text_scan (by simp) 100000 fun Q Qp hQ hP => ?_
  simp (disch := first | with_reducible assumption | omega) only [push_cast, x_blk, x_cd, ↓reduceIte, Nat.reduceEqDiff, List.map_cons, List.map_nil, Int.reduceEq, Int.lt_irrefl, F_text_scan]
  refine loop_rule (fun f w' => ∃ (i : Nat) (acc : List Tok) (A : Option Addr) (c : Nat), i ≤ s.size ∧ (f 0 = .string s ∧ f 3 = .slice A acc.length c ∧ f 4 = .int .i64 i) ∧ TkInv s i acc ∧ OwnR Tok.cells w.heap.size 53 3 w' A c acc ∧ Below w.heap.size w w')
    (fun f _ => s.size - (intOf (f 4)).toNat) ⟨0, [], none, 0, Nat.zero_le _, ⟨rfl, rfl, rfl⟩, TkInv.zero s, Own.nil _ _ _ _, Below.refl _ _⟩ ?_
  rintro f w1 ⟨i, acc, A, c, hi, fr, hT, o1, b1⟩ J hJ
  have hmu : (intOf (f 4)).toNat = i := by rw [fr.2.2]; simp [intOf]
  have hal := hT.2
  by_cases hlt : i < s.size
  case neg =>
    obtain rfl : i = s.size := by omega
    have hd := hT.done
    simp (disch := first | with_reducible assumption | omega) only [push_cast, x_blk, x_cd, ↓reduceIte, Nat.reduceEqDiff, List.map_cons, List.map_nil, Int.reduceEq, Int.lt_irrefl, L_text_scan_1, fr, Nat.lt_irrefl]
    refine fin_1 (hQ _ _ ⟨⟨A, c, by rw [hd]; simp only [push_cast, ↓reduceIte, Nat.reduceEqDiff], by rw [hd]; exact o1⟩, by rw [hd], b1⟩)
  have hT1 := fun hb => hT.blank hlt hb
  have hT2 := fun hb hg => hT.sign hlt hb hg
  have hT3 := fun hb hg hl => hT.bad hlt hb hg hl
  have hT4 := fun t hb hg hl h0 hn h16 => TkInv.long (t := t) hT hlt hb hg hl h0 hn h16
  have hT5 := fun t hb hg hl h0 hn h16 => TkInv.word (t := t) hT hlt hb hg hl h0 hn h16
  have hcx : ∃ x : Int, x = byt s i := ⟨_, rfl⟩
  obtain ⟨x, hx⟩ := hcx
  have sx := fun {K : Fr → World → Prop} {u : World} {f : Fr} {d : Option Nat} {w : World} => ix_str' (K := K) (u := u) (f := f) (d := d) (w := w) s .i64 i hlt
  rw [← hx] at hT1 hT2 hT3 hT4 hT5
  simp only [← hx] at sx
  have hsl := fun {K : Fr → World → Prop} {u : World} {f : Fr} {d : Option Nat} {w : World} => slice_str1 (K := K) (u := u) (f := f) (d := d) (w := w) t_str s i hlt
  have hmuJ : ∀ {f' : Fr} {j : Nat}, i < j → f' 4 = .int .i64 j → s.size - (intOf (f' 4)).toNat < s.size - (intOf (f 4)).toNat := fun hj he => by rw [hmu, he]; simp only [intOf]; omega
  by_cases c1 : x = 32
  · have e1 := eq_true c1
    simp (disch := first | with_reducible assumption | omega) only [push_cast, x_blk, x_cd, ↓reduceIte, Nat.reduceEqDiff, List.map_cons, List.map_nil, Int.reduceEq, Int.lt_irrefl, L_text_scan_1, fr, hlt, sx, e1]
    exact hJ _ _ ⟨i + 1, acc, A, c, hlt, (by simp only [push_cast, ↓reduceIte, Nat.reduceEqDiff, true_and, and_true, and_self, eq_self, fr]), hT1 (.inl c1), o1, b1⟩ (hmuJ (j := i + 1) (by omega) (by simp only [push_cast, ↓reduceIte, Nat.reduceEqDiff]))
  by_cases c2 : x = 10
  · have e2 := eq_true c2
    simp (disch := first | with_reducible assumption | omega) only [push_cast, x_blk, x_cd, ↓reduceIte, Nat.reduceEqDiff, List.map_cons, List.map_nil, Int.reduceEq, Int.lt_irrefl, L_text_scan_1, fr, hlt, sx, c1, e2]
    exact hJ _ _ ⟨i + 1, acc, A, c, hlt, (by simp only [push_cast, ↓reduceIte, Nat.reduceEqDiff, true_and, and_true, and_self, eq_self, fr]), hT1 (.inr c2), o1, b1⟩ (hmuJ (j := i + 1) (by omega) (by simp only [push_cast, ↓reduceIte, Nat.reduceEqDiff]))
  have nb : ¬ isBlank x := by unfold isBlank; omega
  by_cases c3 : x = 59
  · have e3 := eq_true c3
    simp (disch := first | with_reducible assumption | omega) only [push_cast, x_blk, x_cd, ↓reduceIte, Nat.reduceEqDiff, List.map_cons, List.map_nil, Int.reduceEq, Int.lt_irrefl, L_text_scan_1, fr, hlt, sx, c1, c2, e3, hsl, bl_tok, bs_rec tokEnc slT_45 ⟨3, s.extract i (i + 1), i⟩ (by decide)]
    refine app_rec tokEnc slT_45 o1 ⟨3, s.extract i (i + 1), i⟩ (by omega) (by omega) b1.size ?_
    intro A' c' w2 o2 g2 _ _ z2
    simp (disch := first | with_reducible assumption | omega) only [push_cast, x_blk, x_cd, ↓reduceIte, Nat.reduceEqDiff, List.map_cons, List.map_nil, Int.reduceEq, Int.lt_irrefl, fr]
    exact hJ _ _ ⟨i + 1, _, A', c', hlt, (by simp only [push_cast, ↓reduceIte, Nat.reduceEqDiff, true_and, and_true, and_self, eq_self, fr, List.length_append, List.length_singleton]), hT2 nb (.inl c3), o2, g2.below b1 b1.size o1.geB⟩ (hmuJ (j := i + 1) (by omega) (by simp only [push_cast, ↓reduceIte, Nat.reduceEqDiff]))
  by_cases c4 : x = 44
  · have e4 := eq_true c4
    simp (disch := first | with_reducible assumption | omega) only [push_cast, x_blk, x_cd, ↓reduceIte, Nat.reduceEqDiff, List.map_cons, List.map_nil, Int.reduceEq, Int.lt_irrefl, L_text_scan_1, fr, hlt, sx, c1, c2, c3, e4, hsl, bl_tok, bs_rec tokEnc slT_45 ⟨3, s.extract i (i + 1), i⟩ (by decide)]
    refine app_rec tokEnc slT_45 o1 ⟨3, s.extract i (i + 1), i⟩ (by omega) (by omega) b1.size ?_
    intro A' c' w2 o2 g2 _ _ z2
    simp (disch := first | with_reducible assumption | omega) only [push_cast, x_blk, x_cd, ↓reduceIte, Nat.reduceEqDiff, List.map_cons, List.map_nil, Int.reduceEq, Int.lt_irrefl, fr]
    exact hJ _ _ ⟨i + 1, _, A', c', hlt, (by simp only [push_cast, ↓reduceIte, Nat.reduceEqDiff, true_and, and_true, and_self, eq_self, fr, List.length_append, List.length_singleton]), hT2 nb (.inr c4), o2, g2.below b1 b1.size o1.geB⟩ (hmuJ (j := i + 1) (by omega) (by simp only [push_cast, ↓reduceIte, Nat.reduceEqDiff]))
  have ng : ¬ isSign x := by unfold isSign; omega
  simp (disch := first | with_reducible assumption | omega) only [push_cast, x_blk, x_cd, ↓reduceIte, Nat.reduceEqDiff, List.map_cons, List.map_nil, Int.reduceEq, Int.lt_irrefl, L_text_scan_1, fr, hlt, sx, c1, c2, c3, c4]
  refine call_of (text_letter x w1) ?_
  rintro v w2 ⟨rfl, s2⟩
  simp (disch := first | with_reducible assumption | omega) only [push_cast, x_blk, x_cd, ↓reduceIte, Nat.reduceEqDiff, List.map_cons, List.map_nil, Int.reduceEq, Int.lt_irrefl, fr]
  refine call2_of (text_must (decide (IsLet x)) 2 i w2) ?_ ?_
  · rintro ch w3 ⟨hch, hl, s3⟩
    exact hP _ _ ⟨2, i, hT3 nb ng (of_decide_eq_false hl), hch, b1.trans ((s2.trans s3).below _)⟩
  rintro v w3 ⟨rfl, hl, s3⟩
  replace hl := of_decide_eq_true hl
  have s13 := s2.trans s3
  simp (disch := first | with_reducible assumption | omega) only [push_cast, x_cd, ↓reduceIte, Nat.reduceEqDiff, fr]
  refine cut (fun f' w' => ∃ t : Nat, (i + 1 ≤ t ∧ t ≤ s.size) ∧ (f' 0 = .string s ∧ f' 3 = .slice A acc.length c ∧ f' 4 = .int .i64 i ∧ f' 6 = .int .i64 t) ∧ wordN (s.data.toList.drop (i + 1)) = t - (i + 1) ∧ Same w1 w') 40000 40000 (by decide) ?_ ?_
  · intro E hE
    simp (disch := first | with_reducible assumption | omega) only [push_cast, x_blk, x_cd, ↓reduceIte, Nat.reduceEqDiff, List.map_cons, List.map_nil, Int.reduceEq, Int.lt_irrefl]
    refine loop_rule (fun f' w' => ∃ t : Nat, (i + 1 ≤ t ∧ t ≤ s.size) ∧ (f' 0 = .string s ∧ f' 3 = .slice A acc.length c ∧ f' 4 = .int .i64 i ∧ f' 6 = .int .i64 t) ∧ (∀ j, i + 1 ≤ j → j < t → IsIn (byt s j)) ∧ Same w1 w')
      (fun f' _ => s.size - (intOf (f' 6)).toNat) ⟨i + 1, ⟨Nat.le_refl _, by omega⟩, (by simp only [push_cast, ↓reduceIte, Nat.reduceEqDiff, true_and, and_true, and_self, eq_self, fr, fr]), fun j h1 h2 => absurd h1 (by omega), s13⟩ ?_
    clear fr hmu hmuJ
    rintro f w4 ⟨t, ⟨ht, hts⟩, fr, hin, s4⟩ J2 hJ2
    have hmu : (intOf (f 6)).toNat = t := by rw [fr.2.2.2]; simp [intOf]
    by_cases htl : t < s.size
    case neg =>
      obtain rfl : t = s.size := by omega
      simp (disch := first | with_reducible assumption | omega) only [push_cast, x_blk, x_cd, ↓reduceIte, Nat.reduceEqDiff, List.map_cons, List.map_nil, Int.reduceEq, Int.lt_irrefl, L_text_scan_0, fr, Nat.lt_irrefl]
      exact hE _ _ ⟨s.size, ⟨ht, hts⟩, (by simp only [push_cast, ↓reduceIte, Nat.reduceEqDiff, true_and, and_true, and_self, eq_self, fr]), word_at ht hts hin (fun h => absurd h (Nat.lt_irrefl _)), s4⟩
    simp (disch := first | with_reducible assumption | omega) only [push_cast, x_blk, x_cd, ↓reduceIte, Nat.reduceEqDiff, List.map_cons, List.map_nil, Int.reduceEq, Int.lt_irrefl, L_text_scan_0, fr, htl, ix_str' s .i64 t htl]
    refine call_of (text_part (byt s t) w4) ?_
    rintro v w5 ⟨rfl, s5⟩
    by_cases q : IsIn (byt s t)
    · simp (disch := first | with_reducible assumption | omega) only [push_cast, x_blk, x_cd, ↓reduceIte, Nat.reduceEqDiff, List.map_cons, List.map_nil, Int.reduceEq, Int.lt_irrefl, fr, decide_eq_true q]
      exact hJ2 _ _ ⟨t + 1, ⟨by omega, htl⟩, (by simp only [push_cast, ↓reduceIte, Nat.reduceEqDiff, true_and, and_true, and_self, eq_self, fr]), fun j h1 h2 => by
        by_cases e : j = t
        · subst e; exact q
        · exact hin j h1 (by omega), s4.trans s5⟩ (by rw [hmu]; simp only [push_cast, ↓reduceIte, Nat.reduceEqDiff, intOf, fr]; omega)
    · simp (disch := first | with_reducible assumption | omega) only [push_cast, x_blk, x_cd, ↓reduceIte, Nat.reduceEqDiff, List.map_cons, List.map_nil, Int.reduceEq, Int.lt_irrefl, fr, decide_eq_false q]
      exact hE _ _ ⟨t, ⟨ht, hts⟩, (by simp only [push_cast, ↓reduceIte, Nat.reduceEqDiff, true_and, and_true, and_self, eq_self, fr]), word_at ht hts hin (fun _ => q), s4.trans s5⟩
  · clear fr hmu
    rintro f w4 ⟨t, ⟨ht, hts⟩, fr, hw, s4⟩
    have hc16 : ((t : Int) - (i : Int) ≤ 16) = ¬ (i + 16 < t) := propext (by omega)
    have hst := fun {K : Fr → World → Prop} {u : World} {f : Fr} {d : Option Nat} {w : World} => slice_str (K := K) (u := u) (f := f) (d := d) (w := w) t_str s i t (by omega) hts
    simp (disch := first | with_reducible assumption | omega) only [push_cast, x_blk, x_cd, ↓reduceIte, Nat.reduceEqDiff, List.map_cons, List.map_nil, Int.reduceEq, Int.lt_irrefl, fr, hc16]
    refine call2_of (text_must (decide (¬ i + 16 < t)) 1 i w4) ?_ ?_
    · rintro ch w5 ⟨hch, h16, s5⟩
      exact hP _ _ ⟨1, i, hT4 t nb ng hl ht hw (Classical.not_not.1 (of_decide_eq_false h16)), hch, b1.trans ((s4.trans s5).below _)⟩
    rintro v w5 ⟨rfl, h16, s5⟩
    replace h16 := of_decide_eq_true h16
    have o5 := o1.same (s4.trans s5)
    have b5 := b1.trans ((s4.trans s5).below w.heap.size)
    simp (disch := first | with_reducible assumption | omega) only [push_cast, x_blk, x_cd, ↓reduceIte, Nat.reduceEqDiff, List.map_cons, List.map_nil, Int.reduceEq, Int.lt_irrefl, fr, hst, bl_tok, bs_rec tokEnc slT_45 ⟨1, s.extract i t, i⟩ (by decide)]
    refine app_rec tokEnc slT_45 o5 ⟨1, s.extract i t, i⟩ (by omega) (by omega) b5.size ?_
    intro A' c' w6 o6 g6 _ _ z6
    simp (disch := first | with_reducible assumption | omega) only [push_cast, x_blk, x_cd, ↓reduceIte, Nat.reduceEqDiff, List.map_cons, List.map_nil, Int.reduceEq, Int.lt_irrefl, fr]
    exact hJ _ _ ⟨t, _, A', c', hts, (by simp only [push_cast, ↓reduceIte, Nat.reduceEqDiff, true_and, and_true, and_self, eq_self, fr, List.length_append, List.length_singleton]), hT5 t nb ng hl ht hw h16, o6, g6.below b5 b5.size o5.geB⟩ (hmuJ (j := t) (by omega) (by simp only [push_cast, ↓reduceIte, Nat.reduceEqDiff, fr]))
end Go.Proofs.YtpinjiikiaakaaaDoor
