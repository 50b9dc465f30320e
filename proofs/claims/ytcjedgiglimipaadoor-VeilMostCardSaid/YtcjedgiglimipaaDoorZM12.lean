/-
  Going through what steps lead to, the lesser words ahead: in plain Lean. No program in sight.
  Words in order, the shorter ahead: what is gone through comes in that order, and nothing is left out. In plain Lean. No program in sight.
-/
import Derived.Test.YtcjedgiglimipaaDoorZM11
import Derived.Test.YtcjedgiglimipaaDoorZOwn
import Derived.Maps.Keyed
import Derived.DeepKeys4
import Derived.Laws.StructEq
import Derived.Carry
import Derived.Test.YtcjedgiglimipaaDoorZTy
import Derived.Test.YtcjedgiglimipaaDoorZIr
import Derived.Shelf.Slices.Reverse
import Derived.Lib.OwnBridge
import Derived.ChangeKeysEq
import Derived.KernelRfl
import Derived.ProofKit
import Derived.OpenShut
import Derived.Deep.Slices
import Derived.Deep.Fields
import Derived.ChangeSame
import Derived.ChangeOld
import Derived.Lib.SmallJoins
import Derived.SizedLaws
import Derived.Lib.SliceRun
namespace Go.Proofs.YtcjedgiglimipaaDoor
set_option linter.unusedSimpArgs false
set_option linter.unusedVariables false
set_option linter.unusedSectionVars false
section
open Go.RowKit

theorem nodup_nat_len : ∀ (N : Nat) (l : List Nat), l.Nodup → (∀ x ∈ l, x < N) → l.length ≤ N
  | 0, l, _, h => by
    cases l with
    | nil => simp
    | cons a l => exact absurd (h a (by simp)) (by omega)
  | N + 1, l, hn, h => by
    have h1 := nodup_nat_len N (l.erase N) (hn.erase N) fun x hx => by
      have := h x (List.mem_of_mem_erase hx)
      have hne : x ≠ N := fun e => by
        rw [e] at hx
        exact absurd hx (by rw [List.Nodup.mem_erase_iff hn]; simp)
      omega
    have := List.length_erase (a := N) (l := l)
    split at this <;> omega

section
variable {S : Type} [DecidableEq S] (step : S → Int → S) (es : List Int)
/-- One step more, from the place k on. -/
def bAdd (k : Nat) (l : List (S × List Int)) (e : Int) : List (S × List Int) :=
  match l[k]? with
  | some p => if step p.1 e ∈ l.map (·.1) then l else l ++ [(step p.1 e, p.2 ++ [e])]
  | none => l
def bRound (k : Nat) (l : List (S × List Int)) : List (S × List Int) := es.foldl (bAdd step k) l
/-- All places, gone on from the first k of them. -/
def bIter (first : S) : Nat → List (S × List Int)
  | 0 => [(first, [])]
  | k + 1 => bRound step es k (bIter first k)
/-- .. and by the first j events from the next one. -/
def bPart (first : S) (k j : Nat) : List (S × List Int) := (es.take j).foldl (bAdd step k) (bIter step es first k)
theorem bPart_succ (first : S) (k j : Nat) (h : j < es.length) : bPart step es first k (j + 1) = bAdd step k (bPart step es first k j) (es.getD j 0) := by
  unfold bPart
  rw [take_snoc es 0 j h, List.foldl_append]
  rfl
theorem bPart_all (first : S) (k : Nat) : bPart step es first k es.length = bIter step es first (k + 1) := by
  unfold bPart
  rw [List.take_length]
  rfl
variable {step es}
theorem bAdd_cases (k : Nat) (l : List (S × List Int)) (e : Int) : bAdd step k l e = l ∨ ∃ p, l[k]? = some p ∧ step p.1 e ∉ l.map (·.1) ∧ bAdd step k l e = l ++ [(step p.1 e, p.2 ++ [e])] := by
  unfold bAdd
  cases hk : l[k]? with
  | none => exact .inl rfl
  | some p =>
    simp only
    by_cases h : step p.1 e ∈ l.map (·.1)
    · rw [if_pos h]; exact .inl rfl
    · rw [if_neg h]; exact .inr ⟨p, rfl, h, rfl⟩
theorem bAdd_old {k : Nat} {l : List (S × List Int)} {e : Int} {p : S × List Int} (hk : l[k]? = some p) (h : step p.1 e ∈ l.map (·.1)) : bAdd step k l e = l := by
  unfold bAdd
  rw [hk]
  simp only
  rw [if_pos h]
theorem bAdd_new {k : Nat} {l : List (S × List Int)} {e : Int} {p : S × List Int} (hk : l[k]? = some p) (h : step p.1 e ∉ l.map (·.1)) : bAdd step k l e = l ++ [(step p.1 e, p.2 ++ [e])] := by
  unfold bAdd
  rw [hk]
  simp only
  rw [if_neg h]
theorem bAdd_prefix (k : Nat) (l : List (S × List Int)) (e : Int) : l <+: bAdd step k l e := by
  rcases bAdd_cases (step := step) k l e with h | ⟨p, _, _, h⟩
  · rw [h]; exact List.prefix_refl _
  · rw [h]; exact List.prefix_append _ _
theorem foldl_prefix (k : Nat) : ∀ (es : List Int) (l : List (S × List Int)), l <+: es.foldl (bAdd step k) l
  | [], l => List.prefix_refl _
  | e :: es, l => (bAdd_prefix k l e).trans (foldl_prefix k es _)
theorem bIter_succ_prefix (first : S) (k : Nat) : bIter step es first k <+: bIter step es first (k + 1) := foldl_prefix k _ _
theorem bIter_prefix (first : S) {k : Nat} : ∀ {n : Nat}, k ≤ n → bIter step es first k <+: bIter step es first n
  | 0, h => by rw [Nat.le_zero.1 h]; exact List.prefix_refl _
  | n + 1, h => by
    rcases Nat.lt_or_ge n k with h1 | h1
    · rw [show k = n + 1 by omega]; exact List.prefix_refl _
    · exact (bIter_prefix first h1).trans (bIter_succ_prefix first n)
theorem prefix_getElem? {α : Type} {l m : List α} (h : l <+: m) {i : Nat} (hi : i < l.length) : m[i]? = l[i]? := by
  obtain ⟨t, rfl⟩ := h
  exact List.getElem?_append_left hi
theorem bIter_pos (first : S) (k : Nat) : 0 < (bIter step es first k).length := by
  have := (bIter_prefix (step := step) (es := es) first (Nat.zero_le k)).length_le
  simp [bIter] at this; omega
/-- What the places keep to. -/
structure BGood (step : S → Int → S) (es : List Int) (U : S → Prop) (l : List (S × List Int)) : Prop where
  nodup : (l.map (·.1)).Nodup
  univ : ∀ p ∈ l, U p.1
theorem BGood.add {U : S → Prop} (hU : ∀ s, U s → ∀ e ∈ es, U (step s e)) {k : Nat} {l : List (S × List Int)} (h : BGood step es U l) {e : Int} (he : e ∈ es) : BGood step es U (bAdd step k l e) := by
  rcases bAdd_cases (step := step) k l e with h1 | ⟨p, hp, hn, h1⟩
  · rw [h1]; exact h
  · rw [h1]
    refine ⟨?_, fun q hq => ?_⟩
    · rw [List.map_append, List.map_singleton, List.nodup_append]
      refine ⟨h.nodup, by simp, fun a ha b hb => ?_⟩
      rw [List.mem_singleton.1 hb]
      exact fun hab => hn (by rw [← show a = step p.1 e from hab]; exact ha)
    · rcases List.mem_append.1 hq with hq | hq
      · exact h.univ q hq
      · rw [List.mem_singleton.1 hq]
        exact hU _ (h.univ p (List.mem_of_getElem? hp)) e he
theorem BGood.fold {U : S → Prop} (hU : ∀ s, U s → ∀ e ∈ es, U (step s e)) {k : Nat} : ∀ (m : List Int) (l : List (S × List Int)), (∀ e ∈ m, e ∈ es) → BGood step es U l → BGood step es U (m.foldl (bAdd step k) l)
  | [], _, _, h => h
  | e :: m, _, hm, h => BGood.fold hU m _ (fun e' he' => hm e' (List.mem_cons_of_mem _ he')) (h.add hU (hm e (List.mem_cons_self ..)))
theorem bIter_good {U : S → Prop} (hU : ∀ s, U s → ∀ e ∈ es, U (step s e)) {first : S} (h0 : U first) : ∀ k, BGood step es U (bIter step es first k)
  | 0 => ⟨by simp [bIter], by simp [bIter, h0]⟩
  | k + 1 => BGood.fold hU es _ (fun _ h => h) (bIter_good hU h0 k)
theorem bPart_good {U : S → Prop} (hU : ∀ s, U s → ∀ e ∈ es, U (step s e)) {first : S} (h0 : U first) (k j : Nat) : BGood step es U (bPart step es first k j) :=
  BGood.fold hU _ _ (fun _ h => List.mem_of_mem_take h) (bIter_good hU h0 k)
/-- There are no more places than codes. -/
theorem BGood.len {U : S → Prop} {l : List (S × List Int)} (h : BGood step es U l) (code : S → Nat) (N : Nat) (hc : ∀ s, U s → code s < N) (hi : ∀ s t, U s → U t → code s = code t → s = t) : l.length ≤ N := by
  have h1 : ((l.map (·.1)).map code).Nodup := by
    have := h.nodup
    rw [List.nodup_iff_pairwise_ne] at this ⊢
    rw [List.pairwise_map]
    refine this.imp_of_mem fun {a b} ha hb hab hcode => hab ?_
    obtain ⟨p, hp, rfl⟩ := List.mem_map.1 ha
    obtain ⟨q, hq, rfl⟩ := List.mem_map.1 hb
    exact hi _ _ (h.univ p hp) (h.univ q hq) hcode
  have := nodup_nat_len N _ h1 fun x hx => by
    obtain ⟨s, hs, rfl⟩ := List.mem_map.1 hx
    obtain ⟨p, hp, rfl⟩ := List.mem_map.1 hs
    exact hc _ (h.univ p hp)
  simpa using this
end
end

section
open Go.RowKit

/-- Lesser: shorter, or as long and lesser where they differ first. -/
def Shl (u v : List Int) : Prop := u.length < v.length ∨ (u.length = v.length ∧ ∃ i, i < u.length ∧ (∀ j, j < i → u.getD j 0 = v.getD j 0) ∧ u.getD i 0 < v.getD i 0)
noncomputable instance (u v : List Int) : Decidable (Shl u v) := Classical.propDecidable _
theorem Shl.irrefl (u : List Int) : ¬ Shl u u := by
  rintro (h | ⟨_, i, _, _, h⟩) <;> omega
theorem Shl.trans {u v x : List Int} (h : Shl u v) (h' : Shl v x) : Shl u x := by
  rcases h with h | ⟨hl, i, hi, he, h⟩ <;> rcases h' with h' | ⟨hl', i', hi', he', h'⟩
  · exact .inl (by omega)
  · exact .inl (by omega)
  · exact .inl (by omega)
  · refine .inr ⟨by omega, ?_⟩
    rcases Nat.lt_trichotomy i i' with c | c | c
    · exact ⟨i, hi, fun j hj => (he j hj).trans (he' j (by omega)), by rw [← he' i c]; exact h⟩
    · subst c
      exact ⟨i, hi, fun j hj => (he j hj).trans (he' j hj), by omega⟩
    · exact ⟨i', by omega, fun j hj => (he j (by omega)).trans (he' j hj), by rw [he i' c]; exact h'⟩
theorem getD_snoc_lt (u : List Int) (e : Int) {j : Nat} (h : j < u.length) : (u ++ [e]).getD j 0 = u.getD j 0 := by
  rw [List.getD_eq_getElem?_getD, List.getD_eq_getElem?_getD, List.getElem?_append_left h]
theorem getD_snoc_len (u : List Int) (e : Int) : (u ++ [e]).getD u.length 0 = e := by simp
theorem Shl.snoc {u v : List Int} (h : Shl u v) (e e' : Int) : Shl (u ++ [e]) (v ++ [e']) := by
  rcases h with h | ⟨hl, i, hi, he, h⟩
  · exact .inl (by simp; omega)
  · refine .inr ⟨by simp; omega, i, by simp; omega, fun j hj => ?_, ?_⟩
    · rw [getD_snoc_lt _ _ (by omega), getD_snoc_lt _ _ (by omega)]; exact he j hj
    · rw [getD_snoc_lt _ _ (by omega), getD_snoc_lt _ _ (by omega)]; exact h
theorem Shl.snoc_lt (u : List Int) {e e' : Int} (h : e < e') : Shl (u ++ [e]) (u ++ [e']) := by
  refine .inr ⟨by simp, u.length, by simp, fun j hj => ?_, ?_⟩
  · rw [getD_snoc_lt _ _ hj, getD_snoc_lt _ _ hj]
  · rw [getD_snoc_len, getD_snoc_len]; exact h
theorem Shl.nil (v : List Int) (e : Int) : Shl [] (v ++ [e]) := .inl (by simp)
/-- No greater. -/
def Shle (u v : List Int) : Prop := u = v ∨ Shl u v
theorem Shle.trans {u v x : List Int} (h : Shle u v) (h' : Shle v x) : Shle u x := by
  rcases h with rfl | h
  · exact h'
  · rcases h' with rfl | h'
    · exact .inr h
    · exact .inr (h.trans h')
theorem Shle.not {u v : List Int} (h : Shle u v) : ¬ Shl v u := fun h' => by
  rcases h with rfl | h
  · exact Shl.irrefl _ h'
  · exact Shl.irrefl _ (h.trans h')
theorem Shle.snoc {u v : List Int} (h : Shle u v) (e : Int) : Shle (u ++ [e]) (v ++ [e]) := by
  rcases h with rfl | h
  · exact .inl rfl
  · exact .inr (h.snoc e e)

section
variable {S : Type} [DecidableEq S] {step : S → Int → S} {es : List Int}
/-- What the places are, in what order: the next one to be tried is p.2 ++ [e], from place k. -/
structure Ordered (step : S → Int → S) (first : S) (es : List Int) (k : Nat) (m : List Int) (l : List (S × List Int)) : Prop where
  run : ∀ p ∈ l, p.1 = p.2.foldl step first ∧ ∀ e ∈ p.2, e ∈ es
  sorted : l.Pairwise fun p q => Shl p.2 q.2
  made : ∀ p ∈ l, p.2 = [] ∨ ∃ i q e, l[i]? = some q ∧ p.2 = q.2 ++ [e] ∧ e ∈ es ∧ (i < k ∨ (i = k ∧ e ∈ m))
theorem Ordered.get {first : S} {k : Nat} {m : List Int} {l : List (S × List Int)} (h : Ordered step first es k m l) {i j : Nat} {p q : S × List Int} (hi : l[i]? = some p) (hj : l[j]? = some q) (hij : i < j) : Shl p.2 q.2 := by
  have li : i < l.length := by rcases Nat.lt_or_ge i l.length with c | c; exact c; rw [List.getElem?_eq_none c] at hi; cases hi
  have lj : j < l.length := by rcases Nat.lt_or_ge j l.length with c | c; exact c; rw [List.getElem?_eq_none c] at hj; cases hj
  have := List.pairwise_iff_getElem.1 h.sorted i j li lj hij
  rw [List.getElem?_eq_getElem li] at hi; rw [List.getElem?_eq_getElem lj] at hj
  rw [← Option.some.inj hi, ← Option.some.inj hj]; exact this
/-- All that there is comes ahead of the next one. -/
theorem Ordered.ahead {first : S} {k : Nat} {m : List Int} {l : List (S × List Int)} (h : Ordered step first es k m l) {q : S × List Int} {e : Int} (hq : l[k]? = some q) (hm : ∀ x ∈ m, x < e) {p : S × List Int} (hp : p ∈ l) : Shl p.2 (q.2 ++ [e]) := by
  rcases h.made p hp with c | ⟨i, r, x, hr, hx, _, hi | ⟨rfl, hxm⟩⟩
  · rw [c]; exact Shl.nil _ _
  · rw [hx]; exact (h.get hr hq hi).snoc _ _
  · rw [hr] at hq
    rw [hx, Option.some.inj hq]; exact Shl.snoc_lt _ (hm x hxm)
theorem Ordered.grow {first : S} {k : Nat} {m m' : List Int} {l : List (S × List Int)} (h : Ordered step first es k m l) (hm : ∀ x ∈ m, x ∈ m') : Ordered step first es k m' l :=
  ⟨h.run, h.sorted, fun p hp => (h.made p hp).imp id fun ⟨i, q, e, h1, h2, h3, h4⟩ => ⟨i, q, e, h1, h2, h3, h4.imp id fun ⟨a, b⟩ => ⟨a, hm _ b⟩⟩⟩
theorem Ordered.add {first : S} {k : Nat} {m : List Int} {l : List (S × List Int)} (h : Ordered step first es k m l) {e : Int} (he : e ∈ es) (hm : ∀ x ∈ m, x < e) : Ordered step first es k (m ++ [e]) (bAdd step k l e) := by
  rcases bAdd_cases (step := step) k l e with h1 | ⟨q, hq, _, h1⟩
  · rw [h1]; exact h.grow fun x hx => List.mem_append_left _ hx
  · rw [h1]
    have hqm : q ∈ l := List.mem_of_getElem? hq
    have up : ∀ {i : Nat} {r : S × List Int}, l[i]? = some r → (l ++ [(step q.1 e, q.2 ++ [e])])[i]? = some r := fun {i r} hr => by
      rw [List.getElem?_append_left (by rcases Nat.lt_or_ge i l.length with c | c; exact c; rw [List.getElem?_eq_none c] at hr; cases hr)]
      exact hr
    refine ⟨fun p hp => ?_, ?_, fun p hp => ?_⟩
    · rcases List.mem_append.1 hp with hp | hp
      · exact h.run p hp
      · rw [List.mem_singleton.1 hp]
        refine ⟨by rw [List.foldl_append, ← (h.run q hqm).1]; rfl, fun x hx => ?_⟩
        rcases List.mem_append.1 hx with hx | hx
        · exact (h.run q hqm).2 x hx
        · rw [List.mem_singleton.1 hx]; exact he
    · rw [List.pairwise_append]
      refine ⟨h.sorted, List.pairwise_singleton _ _, fun a ha b hb => ?_⟩
      rw [List.mem_singleton.1 hb]
      exact h.ahead hq hm ha
    · rcases List.mem_append.1 hp with hp | hp
      · rcases h.made p hp with c | ⟨i, r, x, hr, hx, hxe, hi⟩
        · exact .inl c
        · exact .inr ⟨i, r, x, up hr, hx, hxe, hi.imp id fun ⟨a, b⟩ => ⟨a, List.mem_append_left _ b⟩⟩
      · rw [List.mem_singleton.1 hp]
        exact .inr ⟨k, q, e, up hq, rfl, he, .inr ⟨rfl, by simp⟩⟩
theorem Ordered.fold {first : S} {k : Nat} : ∀ (r m : List Int) (l : List (S × List Int)), Ordered step first es k m l → (∀ e ∈ r, e ∈ es) → (∀ x ∈ m, ∀ e ∈ r, x < e) → r.Pairwise (· < ·) → Ordered step first es k (m ++ r) (r.foldl (bAdd step k) l)
  | [], m, l, h, _, _, _ => by rw [List.append_nil]; exact h
  | e :: r, m, l, h, h1, h2, h3 => by
    have := Ordered.fold r (m ++ [e]) (bAdd step k l e) (h.add (h1 e (List.mem_cons_self ..)) fun x hx => h2 x hx e (List.mem_cons_self ..)) (fun x hx => h1 x (List.mem_cons_of_mem _ hx))
      (fun x hx y hy => by
        rcases List.mem_append.1 hx with hx | hx
        · exact h2 x hx y (List.mem_cons_of_mem _ hy)
        · rw [List.mem_singleton.1 hx]; exact (List.pairwise_cons.1 h3).1 y hy) (List.pairwise_cons.1 h3).2
    rw [List.append_assoc] at this
    exact this
theorem Ordered.next {first : S} {k : Nat} {m : List Int} {l : List (S × List Int)} (h : Ordered step first es k m l) : Ordered step first es (k + 1) [] l :=
  ⟨h.run, h.sorted, fun p hp => (h.made p hp).imp id fun ⟨i, q, e, h1, h2, h3, h4⟩ => ⟨i, q, e, h1, h2, h3, .inl (by omega)⟩⟩
end
end
end Go.Proofs.YtcjedgiglimipaaDoor

/-
  Maps whose keys are compared cell by cell, and equality of such keys. No program in sight.
  Chapter 7: pairs of sets: how they lie, as keys of maps, as records.
  The library's slices.Reverse on a row of one's own, by the shelf's contract.
  Chapter 7: the program's Words goes over all pairs that words lead to, the least word ahead: by its contract.
-/
namespace Go.Proofs.YtcjedgiglimipaaDoor
set_option linter.unusedSimpArgs false
set_option linter.unusedVariables false
set_option linter.unusedSectionVars false
section
open Go.RowKit

def KeyIs (P : Program) (k : TypeId) (v : Value) : Prop := ∃ l, keyOf P k v = some l
/-- Block b is a map with these entries, in this order. -/
def MapIs (P : Program) (k : TypeId) (w : World) (b : Nat) (kv : List (Value × Value)) : Prop :=
  ∃ es clock, w.heap[b]? = some (.map es clock) ∧ es.toList.map (fun e => (e.key, e.val)) = kv ∧ (∀ p ∈ kv, KeyIs P k p.1) ∧ kv.Pairwise fun p q => p.1 ≠ q.1
theorem pair_inj {kv : List (Value × Value)} (hnd : kv.Pairwise fun p q => p.1 ≠ q.1) {a x y : Value} (hx : (a, x) ∈ kv) (hy : (a, y) ∈ kv) : x = y := by
  induction kv with
  | nil => simp at hx
  | cons p kv ih =>
    obtain ⟨h1, h2⟩ := List.pairwise_cons.1 hnd
    rcases List.mem_cons.1 hx with e | hx'
    · rcases List.mem_cons.1 hy with e' | hy'
      · rw [← e] at e'; injection e' with _ h; exact h.symm
      · exact absurd (by rw [← e]) (h1 _ hy')
    · rcases List.mem_cons.1 hy with e' | hy'
      · exact absurd (by rw [← e']) (h1 _ hx')
      · exact ih h2 hx' hy'
section
variable {P : Program} {K : Fr → World → Prop} {k e t ty b : Nat} {u w w' : World} {f : Fr} {d : Option Nat} {kv : List (Value × Value)}
theorem MapIs.lt (h : MapIs P k w b kv) : b < w.heap.size := by
  obtain ⟨es, c, h1, _⟩ := h
  rcases Nat.lt_or_ge b w.heap.size with hlt | hge
  · exact hlt
  · rw [Array.getElem?_eq_none hge] at h1; cases h1
theorem MapIs.keep (h : MapIs P k w b kv) (hk : w'.heap[b]? = w.heap[b]?) : MapIs P k w' b kv := by
  obtain ⟨es, c, h1, h2⟩ := h
  exact ⟨es, c, hk.trans h1, h2⟩
theorem MapIs.below {B : Nat} (h : MapIs P k w b kv) (hb : Below B w w') (hB : b < B) : MapIs P k w' b kv := h.keep (hb.block b hB)
theorem MapIs.same (h : MapIs P k w b kv) (hs : Same w w') : MapIs P k w' b kv := h.keep (by rw [hs.heap])
theorem MapIs.grown {row : Option Nat} (h : MapIs P k w b kv) (hb : w.grownBy w' row) (hg : some b ≠ row) : MapIs P k w' b kv := h.keep (hb.block b h.lt hg)
theorem MapIs.alloc (h : MapIs P k w b kv) (o : Obj) : MapIs P k (w.alloc o) b kv := h.keep (Below.heap_alloc w o b h.lt)
theorem MapIs.ne_own {B e' sz : Nat} {A : Option Addr} {c n : Nat} {xs : List Value} (h : MapIs P k w b kv) (ho : Own B e' sz w A c n xs) : some b ≠ A.map (·.block) := by
  obtain ⟨es, cl, h1, _⟩ := h
  obtain ⟨_, h2⟩ := ho.own
  rcases h2 with ⟨h2, _⟩ | ⟨g', cap, cur, hv, hb, hh, r⟩
  · injection h2 with h3; subst h3; simp
  · injection hv with h3
    subst h3
    simp only [Option.map_some, ne_eq, Option.some.injEq]
    rintro rfl
    rw [h1] at hh
    cases hh
theorem MapIs.ne_blk {g t' : Nat} {cs : List Value} (h : MapIs P k w b kv) (ho : Blk w g t' cs) : b ≠ g := by
  obtain ⟨es, cl, h1, _⟩ := h
  rintro rfl
  unfold Blk at ho
  rw [h1] at ho
  cases ho
section
variable (t : TypeId) (ty : TypeId)
theorem e_makeMap : EffX P K (.makeMap t none) ty f d w = Eff1 P K (Instr.makeMap t none) f d w := by simp [EffX, valOf]
theorem e_insert (m x v : Operand) : EffX P K (.insert t m x v) ty f d w = Eff1 P K (do Instr.mapUpdate t (ev f m) (ev f x) (ev f v); pure undef) f d w := propext Iff.rfl
theorem v_lookup (m x : Operand) (ok : Bool) : ValX P K (.lookup t m x ok) ty u f d w = Val1 P K (Instr.lookup t (ev f m) (ev f x) ok) u f d w := propext Iff.rfl
end
theorem map_made (t : TypeId) (h : ∀ w', MapIs P k w' w.heap.size [] → Below w.heap.size w w' → w'.heap.size = w.heap.size + 1 → K (updO f d (.map (some w.heap.size))) w') : Eff1 P K (Instr.makeMap t none) f d w := by
  refine ⟨.map (some w.heap.size), w.alloc (.map #[] 0), ?_, h _ ⟨#[], 0, heap_alloc_new w _, rfl, by simp, List.Pairwise.nil⟩ ((Below.refl _ _).alloc (Nat.le_refl _) _) (by simp)⟩
  simp [Instr.makeMap, newObj]
  rfl
/-- m[k], in both forms -/
theorem map_look (L : Maps.Keyed P k) (ht : P.underlying t = some (.map k e)) {z : Value} (hz : (P.info? e).map (·.zero) = some (some z)) (ok : Bool) (h : MapIs P k u b kv) {key : Value} (hk : KeyIs P k key)
    (h1 : ∀ v, (key, v) ∈ kv → K (updO f d (if ok then .tuple #[v, .bool true] else v)) w) (h0 : (∀ p ∈ kv, p.1 ≠ key) → K (updO f d (if ok then .tuple #[z, .bool false] else z)) w) :
    Val1 P K (Instr.lookup t (.map (some b)) key ok) u f d w := by
  have hlt := h.lt
  obtain ⟨es, cl, hb, he, hl, hnd⟩ := h
  obtain ⟨lk, hlk⟩ := hk
  have hes : ∀ x ∈ es.toList, ∃ l, keyOf P k x.key = some l := fun x hx => hl (x.key, x.val) (by rw [← he]; exact List.mem_map.2 ⟨x, hx, rfl⟩)
  have hin : ∀ x ∈ es.toList, (x.key, x.val) ∈ kv := fun x hx => by rw [← he]; exact List.mem_map.2 ⟨x, hx, rfl⟩
  have hzr : ∀ w', (zeroValue e).run P w' = .ok z w' := fun w' => by
    cases hi : P.info? e with
    | none => simp [hi] at hz
    | some i =>
      simp only [hi, Option.map_some, Option.some.injEq] at hz
      simp [zeroValue, typeInfo, hi, hz]
  by_cases hex : ∃ x ∈ es.toList, x.key = key
  · obtain ⟨e0, hm, hkk⟩ := hex
    have h0v := hin e0 hm
    rw [hkk] at h0v
    refine ⟨_, fun w' hw' => ?_, h1 e0.val h0v⟩
    have hb' : w'.heap[b]? = some (.map es cl) := (hw'.block b hlt).trans hb
    rcases L.find w' hlk es.toList hes with ⟨_, hn⟩ | ⟨j, e1, hr, hj, hkk'⟩
    · exact absurd hkk (hn e0 hm)
    · have h1v := hin e1 (List.mem_of_getElem? hj)
      rw [hkk'] at h1v
      have : e1.val = e0.val := pair_inj hnd h1v h0v
      simp [Instr.lookup, run_underlying ht, MapKept.run_getObj_map hb', L.check w' _ hlk, hr, this, Result.andThen]
  · refine ⟨_, fun w' hw' => ?_, h0 fun p hp => ?_⟩
    · have hb' : w'.heap[b]? = some (.map es cl) := (hw'.block b hlt).trans hb
      rcases L.find w' hlk es.toList hes with ⟨hr, _⟩ | ⟨j, e0, _, hj, hkk⟩
      · simp [Instr.lookup, run_underlying ht, MapKept.run_getObj_map hb', L.check w' _ hlk, hr, hzr w', Result.andThen]
      · exact absurd ⟨e0, List.mem_of_getElem? hj, hkk⟩ hex
    · rw [← he] at hp
      obtain ⟨x, hx, rfl⟩ := List.mem_map.1 hp
      exact fun hh => hex ⟨x, hx, hh⟩
/-- m[k] = v, where there is none -/
theorem map_new (L : Maps.Keyed P k) (ht : P.underlying t = some (.map k e)) (h : MapIs P k w b kv) {key : Value} (hk : KeyIs P k key) (hn : ∀ p ∈ kv, p.1 ≠ key) (val : Value)
    (h1 : ∀ w', MapIs P k w' b (kv ++ [(key, val)]) → Grew w w' (some ⟨b, 0, none⟩) → w'.heap.size = w.heap.size → K (updO f d undef) w') :
    Eff1 P K (do Instr.mapUpdate t (.map (some b)) key val; pure undef) f d w := by
  have hlt := h.lt
  obtain ⟨es, cl, hb, he, hl, hnd⟩ := h
  have hk0 := hk
  obtain ⟨lk, hlk⟩ := hk
  have hes : ∀ x ∈ es.toList, ∃ l, keyOf P k x.key = some l := fun x hx => hl (x.key, x.val) (by rw [← he]; exact List.mem_map.2 ⟨x, hx, rfl⟩)
  have hne : ∀ x ∈ es.toList, x.key ≠ key := fun x hx => hn (x.key, x.val) (by rw [← he]; exact List.mem_map.2 ⟨x, hx, rfl⟩)
  have hs : (ChangeMaps.setBlock w b (.map (es.push ⟨key, val, cl⟩) (cl + 1))).heap[b]? = some (.map (es.push ⟨key, val, cl⟩) (cl + 1)) := by simp [ChangeMaps.setBlock, hlt]
  refine ⟨undef, ChangeMaps.setBlock w b (.map (es.push ⟨key, val, cl⟩) (cl + 1)), ?_, h1 _ ⟨_, _, hs, ?_, ?_, ?_⟩ ⟨⟨rfl, rfl, rfl, by simp [ChangeMaps.setBlock], fun j _ hj => ?_⟩⟩ (by simp [ChangeMaps.setBlock])⟩
  · rcases L.find w hlk es.toList hes with ⟨hr, _⟩ | ⟨j, e0, _, hj, hkk⟩
    · simp [Instr.mapUpdate, run_underlying ht, MapKept.run_getObj_map hb, L.check w _ hlk, hr, MapKept.run_setObj_map _ hb, Result.andThen, ChangeMaps.setBlock]
    · exact absurd hkk (hne e0 (List.mem_of_getElem? hj))
  · simp [he]
  · intro p hp
    rcases List.mem_append.1 hp with h | h
    · exact hl p h
    · rw [List.mem_singleton.1 h]; exact hk0
  · exact List.pairwise_append.2 ⟨hnd, by simp, fun p hp q hq => by rw [List.mem_singleton.1 hq]; exact hn p hp⟩
  · simp only [ChangeMaps.setBlock, Array.getElem?_setIfInBounds]
    rw [if_neg]
    intro e
    exact hj (by rw [e]; rfl)
/-- m[k] = v, where there is one -/
theorem map_old (L : Maps.Keyed P k) (ht : P.underlying t = some (.map k e)) (h : MapIs P k w b kv) {key old : Value} (hk : KeyIs P k key) (hin : (key, old) ∈ kv) (val : Value)
    (h1 : ∀ j w', kv[j]? = some (key, old) → MapIs P k w' b (kv.set j (key, val)) → Grew w w' (some ⟨b, 0, none⟩) → w'.heap.size = w.heap.size → K (updO f d undef) w') :
    Eff1 P K (do Instr.mapUpdate t (.map (some b)) key val; pure undef) f d w := by
  have hlt := h.lt
  obtain ⟨es, cl, hb, he, hl, hnd⟩ := h
  have hk0 := hk
  obtain ⟨lk, hlk⟩ := hk
  have hes : ∀ x ∈ es.toList, ∃ l, keyOf P k x.key = some l := fun x hx => hl (x.key, x.val) (by rw [← he]; exact List.mem_map.2 ⟨x, hx, rfl⟩)
  rcases L.find w hlk es.toList hes with ⟨_, hno⟩ | ⟨j, e0, hr, hj, hkk⟩
  · rw [← he] at hin
    obtain ⟨x, hx, hxe⟩ := List.mem_map.1 hin
    injection hxe with h2 _
    exact absurd h2 (hno x hx)
  have hj' : es[j]? = some e0 := by simpa using hj
  generalize hes' : es.modify j (fun e' => { e' with key := key, val := val }) = es'
  have hs : (ChangeMaps.setBlock w b (.map es' cl)).heap[b]? = some (.map es' cl) := by simp [ChangeMaps.setBlock, hlt]
  have hj2 : kv[j]? = some (key, e0.val) := by rw [← he, List.getElem?_map, hj]; simp [hkk]
  have hold : e0.val = old := pair_inj hnd (List.mem_of_getElem? hj2) hin
  have hlist : es'.toList.map (fun e => (e.key, e.val)) = kv.set j (key, val) := by
    rw [← hes', ← he, Array.toList_modify, ChangeMaps.modify_eq_set _ _ _ _ hj, List.map_set]
  refine ⟨undef, ChangeMaps.setBlock w b (.map es' cl), ?_, h1 j _ (by rw [hj2, hold]) ⟨_, _, hs, hlist, ?_, ?_⟩ ⟨⟨rfl, rfl, rfl, by simp [ChangeMaps.setBlock], fun j _ hj => ?_⟩⟩ (by simp [ChangeMaps.setBlock])⟩
  · simp [Instr.mapUpdate, run_underlying ht, MapKept.run_getObj_map hb, L.check w _ hlk, hr, hj', hkk, L.stays w hlk, MapKept.run_setObj_map _ hb, Result.andThen, ChangeMaps.setBlock, ← hes']
  · intro p hp
    rcases List.mem_or_eq_of_mem_set hp with h | h
    · exact hl p h
    · rw [h]; exact hk0
  · have hnd' : (kv.map (·.1)).Pairwise (· ≠ ·) := List.pairwise_map.2 hnd
    have : (kv.set j (key, val)).map (·.1) = kv.map (·.1) := by
      rw [List.map_set]
      refine List.ext_getElem (by simp) fun i h1 h2 => ?_
      rw [List.getElem_set]
      split
      · rename_i e1
        subst e1
        have hjl : j < kv.length := by simpa using h2
        have := List.getElem?_eq_getElem hjl
        rw [hj2] at this
        simp [← Option.some.inj this]
      · rfl
    exact List.pairwise_map.1 (this ▸ hnd')
  · simp only [ChangeMaps.setBlock, Array.getElem?_setIfInBounds]
    rw [if_neg]
    intro e
    exact hj (by rw [e]; rfl)
end
end

section
open Go.RowKit

theorem laidOutK : laidOutB Tryd.prog = true := by kernel_rfl
theorem typesPos : 0 < Tryd.prog.types.size := of_decide_eq_true (by kernel_rfl)
theorem keyed_set : Maps.Keyed Tryd.prog 76 := Maps.Keyed.of_law (deep_law_laid laidOutK (m := 3) (by decide) (of_decide_eq_true (by kernel_rfl)) (by kernel_rfl) (by kernel_rfl))
theorem u64_wf {x : Nat} (h : x < 2 ^ 64) : (Lit.int .u64 (x : Int)).wf = true := by
  simp [Lit.wf, IntKind.min, IntKind.max, IntKind.signed, IntKind.bits]; omega
theorem lits_u64 (n : Nat) {x : Nat} (h : x < 2 ^ 64) : Tryd.prog.keyLits (n + 1) 74 [.int .u64 (x : Int)] = some [.int .u64 (x : Int)] := by
  have hu2 : Tryd.prog.underlying 74 = some (.int .u64) := Tryd.underlying74
  simp only [Program.keyLits, hu2, u64_wf h, and_self, if_true]
theorem lits_set (n : Nat) (l : List Int) : ∃ L, Tryd.prog.keyLits (n + 2) 76 (setCells (wordsOf l)) = some L := by
  have hW := wordsOf_words l
  generalize wordsOf l = ws at *
  match ws, hW.1 with
  | [a, b, c, d], _ =>
  have ha := lits_u64 n (hW.2 0)
  have hb := lits_u64 n (hW.2 1)
  have hc := lits_u64 n (hW.2 2)
  have hd := lits_u64 n (hW.2 3)
  simp only [List.getD_cons_zero, List.getD_cons_succ] at ha hb hc hd
  have hu : Tryd.prog.underlying 76 = some (.array 4 74) := Tryd.underlying76
  have hc4 : Tryd.prog.cellsOf 76 = 4 := by kernel_rfl
  have hc1 : Tryd.prog.cellsOf 74 = 1 := by kernel_rfl
  unfold Program.keyLits
  simp only [hu, hc4, hc1, setCells, List.map_cons, List.map_nil, List.length_cons, List.length_nil, Nat.zero_add, Nat.reduceAdd, if_true]
  simp [List.range_succ, ha, hb, hc, hd]
theorem key_set (l : List Int) : KeyIs Tryd.prog 76 (setV l) := by
  have hs : Tryd.prog.types.size + 1 = (Tryd.prog.types.size - 1) + 2 := by have := typesPos; omega
  obtain ⟨L, hL⟩ := lits_set (Tryd.prog.types.size - 1) l
  rw [← hs] at hL
  have hu : Tryd.prog.underlying 76 = some (.array 4 74) := Tryd.underlying76
  have hk : Tryd.prog.keyType 76 = true := by kernel_rfl
  have hc4 : Tryd.prog.cellsOf 76 = 4 := by kernel_rfl
  have hf : (setV l).formed Tryd.prog 76 = true := by
    simp only [setV, setVal, Value.formed, hu, hc4, beq_iff_eq, List.size_toArray]
    exact setCells_4 l
  unfold KeyIs keyOf
  simp only [hu, hk, hf, Bool.and_self, if_true]
  exact ⟨_, by rw [show (setV l).cells.toList = setCells (wordsOf l) from rfl, hL]; rfl⟩
theorem setV_eq {l m : List Int} : setV l = setV m ↔ wordsOf l = wordsOf m := by
  refine ⟨fun h => ?_, fun h => by unfold setV; rw [h]⟩
  injection h with h
  have h2 : setCells (wordsOf l) = setCells (wordsOf m) := by simpa using congrArg Array.toList h
  unfold setCells at h2
  exact (List.map_inj_right (fun a b hab => by injection hab with _ h; exact Int.ofNat.inj h)).1 h2

end

section
open Go.RowKit Go.Shelf Go.Lib Go.Sort

end

section
open Go.RowKit

abbrev St := List Int × List Int
abbrev PL := St × Int × Int
/-- Whence each place was come to. -/
def Par (pl : List PL) (L : List (St × List Int)) : Prop :=
  pl.map (·.1) = L.map (·.1) ∧ ∀ j p q, pl[j]? = some p → L[j]? = some q → (p.2.1 = -1 ∧ q.2 = []) ∨ ∃ i : Nat, p.2.1 = (i : Int) ∧ i < j ∧ ∃ q', L[i]? = some q' ∧ q.2 = q'.2 ++ [p.2.2]
theorem Par.len {pl : List PL} {L : List (St × List Int)} (h : Par pl L) : pl.length = L.length := by simpa using congrArg List.length h.1
theorem Par.at_ {pl : List PL} {L : List (St × List Int)} (h : Par pl L) {j : Nat} {p : PL} (hp : pl[j]? = some p) : ∃ q, L[j]? = some q ∧ q.1 = p.1 := by
  have h1 : (pl.map (·.1))[j]? = some p.1 := by rw [List.getElem?_map, hp]; rfl
  rw [h.1, List.getElem?_map] at h1
  cases hq : L[j]? with
  | none => rw [hq] at h1; cases h1
  | some q => rw [hq] at h1; exact ⟨q, rfl, by simpa using h1⟩
theorem Par.snoc {pl : List PL} {L : List (St × List Int)} (h : Par pl L) {k : Nat} {q' : St × List Int} (hk : L[k]? = some q') (s : St) (e : Int) : Par (pl ++ [(s, (k : Int), e)]) (L ++ [(s, q'.2 ++ [e])]) := by
  have hl := h.len
  have hkl : k < L.length := by
    rcases Nat.lt_or_ge k L.length with h1 | h1
    · exact h1
    · rw [List.getElem?_eq_none h1] at hk; cases hk
  refine ⟨by simp [h.1], fun j p q hp hq => ?_⟩
  by_cases hj : j < pl.length
  · rw [List.getElem?_append_left hj] at hp
    rw [List.getElem?_append_left (by omega)] at hq
    rcases h.2 j p q hp hq with h1 | ⟨i, h1, h2, q2, h3, h4⟩
    · exact .inl h1
    · exact .inr ⟨i, h1, h2, q2, by rw [List.getElem?_append_left (by omega)]; exact h3, h4⟩
  · have hjl : j = pl.length := by
      rcases Nat.lt_or_ge j (pl.length + 1) with h1 | h1
      · omega
      · rw [List.getElem?_eq_none (by simp; omega)] at hp; cases hp
    subst hjl
    rw [List.getElem?_append_right (Nat.le_refl _)] at hp
    rw [List.getElem?_append_right (by omega)] at hq
    simp at hp
    rw [hl] at hq
    simp at hq
    subst hp hq
    exact .inr ⟨k, rfl, by omega, q', by rw [List.getElem?_append_left (by omega)]; exact hk, rfl⟩

def evs (n : Nat) : List Int := (List.range n).map fun (i : Nat) => (i : Int)
theorem evs_len (n : Nat) : (evs n).length = n := by simp [evs]
theorem evs_at (n j : Nat) (h : j < n) : (evs n).getD j 0 = j := by simp [evs, List.getD_eq_getElem?_getD, h]
theorem Recs.lt {α : Type} {enc : α → List Value} {sz : Nat} (E : Enc enc sz) (hs : 0 < sz) {ok : Nat → Prop} {w : World} {A : Option Addr} {l : List α} (h : Recs enc sz ok w A l) : Recs enc sz (· < w.heap.size) w A l :=
  ⟨h.isSome, fun hl => by
    have h0 : l[0]? = some (l[0]'hl) := List.getElem?_eq_getElem hl
    have h1 : (enc (l[0]'hl))[0]? = some ((enc (l[0]'hl))[0]'(by rw [E.len]; exact hs)) := List.getElem?_eq_getElem _
    have := World.block_lt_of_cell? w _ (h.cell 0 _ h0 0 _ h1)
    rwa [eA_block] at this, h.cell⟩

end
section
open Go.RowKit
/-- A row that can be read, in a block that lay there at first or that holds elements of the type e. -/
structure RowT (B e : Nat) (w : World) (A : Option Addr) (l : List Int) : Prop where
  ints : Ints (fun b => b < w.heap.size ∧ (b < B ∨ ∃ cs r, w.heap[b]? = some (.cells cs e r))) w A l
section
variable {B e : Nat} {w w' : World} {A : Option Addr} {l : List Int}
theorem RowT.lt (h : RowT B e w A l) : Ints (· < w.heap.size) w A l := h.ints.mono fun _ hb => hb.1
theorem RowT.keep (h : RowT B e w A l) (hz : w.heap.size ≤ w'.heap.size) (hk : ∀ b, b < w.heap.size → (b < B ∨ ∃ cs r, w.heap[b]? = some (.cells cs e r)) → w'.heap[b]? = w.heap[b]?) : RowT B e w' A l := by
  refine ⟨⟨h.ints.isSome, fun hl => ?_, fun i hi => ?_⟩⟩
  · obtain ⟨h1, h2⟩ := h.ints.block hl
    refine ⟨by omega, ?_⟩
    rcases h2 with h2 | ⟨cs, r, h3⟩
    · exact .inl h2
    · exact .inr ⟨cs, r, by rw [hk _ h1 (.inr ⟨cs, r, h3⟩)]; exact h3⟩
  · obtain ⟨h1, h2⟩ := h.ints.block (by omega)
    rw [← h.ints.cell i hi]
    exact World.cell?_of_block (by rw [eA_block]; exact hk _ h1 h2)
theorem RowT.below (h : RowT B e w A l) (hb : Below w.heap.size w w') : RowT B e w' A l := h.keep hb.size fun b hlt _ => hb.block b hlt
theorem RowT.grew {e' sz c n : Nat} {A2 : Option Addr} {xs : List Value} (h : RowT B e w A l) (ho : Own B e' sz w A2 c n xs) (hne : e' ≠ e) (hg : Grew w w' A2) : RowT B e w' A l :=
  h.keep hg.by_.size fun b hlt hor => hg.by_.block b hlt (by
    rcases ho.own.2 with ⟨h0, _⟩ | ⟨g, cap, cur, hv, hB, hh, _⟩
    · injection h0 with h0; subst h0; simp
    · injection hv with hv
      subst hv
      simp only [Option.map_some, ne_eq, Option.some.injEq]
      rintro rfl
      rcases hor with h1 | ⟨cs, r, h1⟩
      · omega
      · rw [h1] at hh
        injection hh with hh
        injection hh with _ ht
        exact hne ht.symm)
theorem RowT.of_arg (h : Ints (· < B) w A l) (hB : B ≤ w.heap.size) : RowT B e w A l := ⟨h.mono fun b hb => ⟨by omega, .inl hb⟩⟩
end
end
end Go.Proofs.YtcjedgiglimipaaDoor

/-
  Chapter 6: the program's Sets goes over all sets that steps lead to, as they are found: by its contract.
  Chapter 6: the program's Make makes the machine of the sets: by its contract.
-/
namespace Go.Proofs.YtcjedgiglimipaaDoor
set_option linter.unusedSimpArgs false
set_option linter.unusedVariables false
set_option linter.unusedSectionVars false
section
open Go.RowKit

def U1 (s : List Int) : Prop := Strict s ∧ Small s
theorem setV_inj {s t : List Int} (hs : U1 s) (ht : U1 t) (h : setV s = setV t) : s = t := wordsOf_inj hs.1 ht.1 hs.2 ht.2 (setV_eq.1 h)
abbrev setC (s : List Int) : List Value := setCells (wordsOf s)
theorem setEnc : Enc setC 4 := ⟨fun s => setCells_4 s, fun s u hu => List.all_eq_true.1 (setCells_one _) u hu⟩
theorem Own.apart {B e e' sz sz' : Nat} {w : World} {A A' : Option Addr} {c c' n n' : Nat} {xs xs' : List Value} (h : Own B e sz w A c n xs) (h' : Own B e' sz' w A' c' n' xs') (hne : e ≠ e') : A = none ∨ A.map (·.block) ≠ A'.map (·.block) := by
  rcases h.own.2 with ⟨h0, _⟩ | ⟨g, cap, cur, hv, hB, hh, _⟩
  · injection h0 with h0; exact .inl h0
  · refine .inr ?_
    injection hv with hv
    subst hv
    rcases h'.own.2 with ⟨h0, _⟩ | ⟨g', cap', cur', hv', hB', hh', _⟩
    · injection h0 with h0; subst h0; simp
    · injection hv' with hv'
      subst hv'
      simp only [Option.map_some, ne_eq, Option.some.injEq]
      rintro rfl
      rw [hh] at hh'
      injection hh' with hh'
      injection hh' with _ ht
      exact hne ht

/-- From which place, by which event, in order: all of the first k places, and j events from the next one. -/
def prs (es : List Int) (k j : Nat) : List (Int × Int) := (List.range k).flatMap (fun (i : Nat) => es.map fun e => ((i : Int), e)) ++ (es.take j).map fun e => ((k : Int), e)
theorem prs_all (es : List Int) (k : Nat) : prs es k es.length = prs es (k + 1) 0 := by simp [prs, List.range_succ]
theorem prs_succ (es : List Int) (k j : Nat) (h : j < es.length) : prs es k (j + 1) = prs es k j ++ [((k : Int), es.getD j 0)] := by
  unfold prs
  rw [take_snoc es 0 j h, List.map_append, List.append_assoc]; rfl
theorem prs_len (es : List Int) (k j : Nat) (h : j ≤ es.length) : (prs es k j).length = k * es.length + j := by
  unfold prs
  rw [List.length_append, List.length_map, List.length_take, Nat.min_eq_left h]
  congr 1
  induction k with
  | zero => simp
  | succ k ih => rw [List.range_succ, List.flatMap_append, List.length_append, ih]; simp [Nat.succ_mul]
/-- An arrow from place to place, as the step leads. -/
def Led {S : Type} (step : S → Int → S) (L : List S) (a : Arr) : Prop := ∃ (i j : Nat) (s : S), a.frm = i ∧ a.to_ = j ∧ L[i]? = some s ∧ L[j]? = some (step s a.evt)
theorem Led.snoc {S : Type} {step : S → Int → S} {L : List S} {a : Arr} (h : Led step L a) (t : S) : Led step (L ++ [t]) a := by
  obtain ⟨i, j, s, h1, h2, h3, h4⟩ := h
  have up : ∀ {i : Nat} {r : S}, L[i]? = some r → (L ++ [t])[i]? = some r := fun {i r} hr => by
    rw [List.getElem?_append_left (by rcases Nat.lt_or_ge i L.length with c | c; exact c; rw [List.getElem?_eq_none c] at hr; cases hr)]
    exact hr
  exact ⟨i, j, s, h1, h2, up h3, up h4⟩
/-- All places, and all arrows between them. -/
def Arrows {S : Type} (step : S → Int → S) (es : List Int) (k j : Nat) (L : List S) (ar : List Arr) : Prop := ar.map (fun a => (a.frm, a.evt)) = prs es k j ∧ ∀ a ∈ ar, Led step L a
theorem Arrows.len {S : Type} {step : S → Int → S} {es : List Int} {k j : Nat} {L : List S} {ar : List Arr} (h : Arrows step es k j L ar) (hj : j ≤ es.length) : ar.length = k * es.length + j := by
  rw [← prs_len es k j hj, ← h.1, List.length_map]
theorem Arrows.add {S : Type} {step : S → Int → S} {es : List Int} {k j i : Nat} {L : List S} {ar : List Arr} (h : Arrows step es k j L ar) (hj : j < es.length) {s : S} (hk : L[k]? = some s) (hi : L[i]? = some (step s (es.getD j 0))) : Arrows step es k (j + 1) L (ar ++ [⟨k, es.getD j 0, i⟩]) := by
  refine ⟨by rw [List.map_append, h.1, prs_succ es k j hj]; rfl, fun a ha => ?_⟩
  rcases List.mem_append.1 ha with ha | ha
  · exact h.2 a ha
  · rw [List.mem_singleton.1 ha]; exact ⟨k, i, s, rfl, rfl, hk, hi⟩
theorem Arrows.more {S : Type} {step : S → Int → S} {es : List Int} {k j : Nat} {L : List S} {ar : List Arr} (h : Arrows step es k j L ar) (t : S) : Arrows step es k j (L ++ [t]) ar := ⟨h.1, fun a ha => (h.2 a ha).snoc t⟩
/-- What going over all sets makes. -/
def SetsRes (step : List Int → Int → List Int) (es : List Int) (first : List Int) (ok : Bool) (L : List (List Int)) (ar : List Arr) : Prop :=
  (ok = true ∧ ∃ k, k ≤ 256 ∧ (bIter step es first k).length = k ∧ L = (bIter step es first k).map (·.1) ∧ Arrows step es k 0 L ar) ∨
  (ok = false ∧ L = [] ∧ ar = [] ∧ ∃ k, 256 < (bIter step es first k).length)

end

section
open Go.RowKit

theorem fin_c3 {P : Program} {Rc : Value → World → Prop} {a t t' g s r : Nat} {cs : List Value} {f : Fr} {w : World} (hk : Blk w g t' cs) (ht : tyAgg P t = some true) (hs : tySize P t = some cs.length)
    (hf : f a = .pointer (some ⟨g, 0, none⟩)) (h : Rc (.tuple #[.agg cs.toArray, f s, f r]) w) : FinX P #[.cell a t, .tmp s, .tmp r] Rc f w := by
  refine ⟨_, fun fn tmps hr hf' => ?_, h⟩
  have e : tmps.getD a undef = .pointer (some ⟨g, 0, none⟩) := by rw [hf', hf]
  have e2 : tmps[a]?.getD undef = .pointer (some ⟨g, 0, none⟩) := by simpa using e
  have e3 : tmps[s]?.getD undef = f s := by simpa using hf' s
  have e4 : tmps[r]?.getD undef = f r := by simpa using hf' r
  unfold tyAgg at ht
  unfold tySize at hs
  cases hu : P.underlying t with
  | none => simp [hu] at ht
  | some de =>
    cases hi : P.info? t with
    | none => simp [hi] at hs
    | some ie =>
      simp only [hi, Option.map_some, Option.some.injEq] at hs
      simp only [hu, Option.map_some, Option.some.injEq] at ht
      have hr' := run_loadCells_list (P := P) w ⟨g, 0, none⟩ cs (fun j v hv => by rw [addr_add, Nat.zero_add, hk.cell, hv])
      cases de <;> simp at ht <;> simp [results, hr, e2, e3, e4, asAddr, loadVar, isAgg, run_underlying hu, sizeOf, typeInfo, hi, hs, hr']

theorem Own.cap {B e sz c n : Nat} {w : World} {A : Option Addr} {xs : List Value} (h : Own B e sz w A c n xs) : n ≤ c := by
  rcases h.own.2 with ⟨h0, _⟩ | ⟨g, cap, cur, hv, _, _, hnc, _⟩
  · injection h0 with _ h1 h2; omega
  · injection hv with _ _ h2; omega
theorem Own.ltB {B e sz c n : Nat} {w : World} {A : Option Addr} {xs : List Value} (h : Own B e sz w A c n xs) {b : Nat} (hb : some b = A.map (·.block)) : b < w.heap.size := by
  rcases h.form with ⟨h0, _⟩ | ⟨g, h0, _, hg⟩
  · subst h0; cases hb
  · subst h0; injection hb with hb; subst hb; exact hg
structure Hd where
  A : Option Addr
  c : Nat
  l : List Int
def Hd.cells (h : Hd) : List Value := [.slice h.A h.l.length h.c]
theorem hdEnc : Enc Hd.cells 1 := ⟨fun _ => rfl, fun h u hu => by
  unfold Hd.cells at hu
  rw [List.mem_singleton.1 hu]; rfl⟩
/-- Where a row may lie: not in what is written to. -/
structure Apt (lo : Nat) (w : World) (g : Nat) (X Y : Option Nat) (b : Nat) : Prop where
  lo : lo < b
  lt : b < w.heap.size
  g : b ≠ g
  x : some b ≠ X
  y : some b ≠ Y
def RowsAt (ok : Nat → Prop) (w : World) (hs : List Hd) : Prop := ∀ h ∈ hs, Ints ok w h.A h.l
theorem RowsAt.keep {ok ok' : Nat → Prop} {w w' : World} {hs : List Hd} (h : RowsAt ok w hs) (hk : ∀ b, ok b → w'.heap[b]? = w.heap[b]? ∧ ok' b) : RowsAt ok' w' hs := fun x hx => ((h x hx).keep fun b hb => (hk b hb).1).mono fun b hb => (hk b hb).2
theorem RowsAt.below {lo : Nat} {w w' : World} {g : Nat} {X Y : Option Nat} {hs : List Hd} (h : RowsAt (Apt lo w g X Y) w hs) (hb : Below w.heap.size w w') : RowsAt (Apt lo w' g X Y) w' hs :=
  h.keep fun b hb' => ⟨hb.block b hb'.lt, hb'.lo, Nat.lt_of_lt_of_le hb'.lt hb.size, hb'.g, hb'.x, hb'.y⟩
theorem RowsAt.lt {lo : Nat} {w : World} {g : Nat} {X Y : Option Nat} {hs : List Hd} (h : RowsAt (Apt lo w g X Y) w hs) : RowsAt (· < w.heap.size) w hs := fun x hx => (h x hx).mono fun _ hb => hb.lt

theorem Ints.both {ok ok' : Nat → Prop} {w : World} {A : Option Addr} {l : List Int} (h : Ints ok w A l) (h' : Ints ok' w A l) : Ints (fun b => ok b ∧ ok' b) w A l := ⟨h.isSome, fun hl => ⟨h.block hl, h'.block hl⟩, h.cell⟩
theorem Recs.both {α : Type} {enc : α → List Value} {sz : Nat} {ok ok' : Nat → Prop} {w : World} {A : Option Addr} {l : List α} (h : Recs enc sz ok w A l) (h' : Recs enc sz ok' w A l) : Recs enc sz (fun b => ok b ∧ ok' b) w A l := ⟨h.isSome, fun hl => ⟨h.block hl, h'.block hl⟩, h.cell⟩
theorem Arrs.keep' {ok ok' : Nat → Prop} {w w' : World} {A : Option Addr} {l : List Arr} (h : Arrs ok w A l) (hk : ∀ b, ok b → w'.heap[b]? = w.heap[b]? ∧ ok' b) : Arrs ok' w' A l := (h.keep fun b hb => (hk b hb).1).mono fun b hb => (hk b hb).2
theorem Ints.keep' {ok ok' : Nat → Prop} {w w' : World} {A : Option Addr} {l : List Int} (h : Ints ok w A l) (hk : ∀ b, ok b → w'.heap[b]? = w.heap[b]? ∧ ok' b) : Ints ok' w' A l := (h.keep fun b hb => (hk b hb).1).mono fun b hb => (hk b hb).2
theorem Recs.keep' {α : Type} {enc : α → List Value} {sz : Nat} {ok ok' : Nat → Prop} {w w' : World} {A : Option Addr} {l : List α} (h : Recs enc sz ok w A l) (hk : ∀ b, ok b → w'.heap[b]? = w.heap[b]? ∧ ok' b) : Recs enc sz ok' w' A l := (h.keep fun b hb => (hk b hb).1).mono fun b hb => (hk b hb).2
/-- one cell of a block: a slice -/
theorem sto_slice {P : Program} {K : Fr → World → Prop} {w : World} {f : Fr} {d : Option Nat} {g t ty : Nat} {cs : List Value} (hk : Blk w g t cs) (hty : tySize P ty = some 1) (j : Nat) (hj : j < cs.length) (A : Option Addr) (n c : Nat)
    (h : ∀ w', Blk w' g t (cs.set j (.slice A n c)) → Grew w w' (some ⟨g, 0, none⟩) → w'.heap.size = w.heap.size → K (updO f d undef) w') :
    Eff1 P K (do Instr.storeAt ty (.pointer (some ⟨g, j, none⟩)) (.slice A n c); pure undef) f d w := by
  have hc := hk.cell j
  have hf := hk.frozen j
  refine ⟨undef, w.setCell ⟨g, j, none⟩ (.slice A n c), ?_, h _ (hk.set j _) ⟨⟨rfl, rfl, rfl, by simp, fun _ hk' hne => Below.heap_setCell w _ _ _ (by simpa using hne)⟩⟩ (by simp)⟩
  unfold tySize at hty
  cases hi : P.info? ty with
  | none => simp [hi] at hty
  | some ie =>
    simp only [hi, Option.map_some, Option.some.injEq] at hty
    rw [List.getElem?_eq_getElem hj] at hc
    simp [Instr.storeAt, Instr.sureAddr, storeVar, sizeOf, typeInfo, hi, hty, Value.cells, storeCells, addr_add, run_store_slice, stored, hc, hf]

def mach0 : Mach := ⟨0, 0, [], [], []⟩
abbrev mv0 : MV := ⟨none, 0, none, 0, none, 0⟩
theorem sto_mach {K : Fr → World → Prop} {f : Fr} {d : Option Nat} {w : World} {g : Nat} {old : List Value} (hk : Blk w g 25 old) (ho : old.length = 5) (a : MV) (m : Mach)
    (h : ∀ w', Blk w' g 25 (a.cells m) → Grew w w' (some ⟨g, 0, none⟩) → w'.heap.size = w.heap.size → K (updO f d undef) w') :
    Eff1 Tryd.prog K (do Instr.storeAt 25 (.pointer (some ⟨g, 0, none⟩)) (a.val m); pure undef) f d w :=
  sto_blk hk ty_sz_25 ho rfl h

/-- The places of the sets that meet the ends. -/
def endsUpto (m : Mach) (L : List (List Int)) (k : Nat) : List Int := ((List.range k).filter fun i => decide (MeetL (L.getD i []) m.ends)).map fun (i : Nat) => (i : Int)
def detOf (m : Mach) (L : List (List Int)) (ar : List Arr) : Mach := ⟨L.length, m.events, [0], ar, endsUpto m L L.length⟩
end
end Go.Proofs.YtcjedgiglimipaaDoor

/-
  Are two machines the same, two rows of rows: by their contracts.
-/
namespace Go.Proofs.YtcjedgiglimipaaDoor
set_option linter.unusedSimpArgs false
set_option linter.unusedVariables false
set_option linter.unusedSectionVars false
open Go.RowKit

end Go.Proofs.YtcjedgiglimipaaDoor

/-
  Chapter 3: what can be come to: the program's spread, back, Reach, Live: by their contracts.
  Chapter 3: the program's Only, Reach, Live, Trim: by their contracts.
  Chapter 3: the reference's place, places, Reach, Live; chapter 2: its Sort: by their contracts.
-/
namespace Go.Proofs.YtcjedgiglimipaaDoor
set_option linter.unusedSimpArgs false
set_option linter.unusedVariables false
set_option linter.unusedSectionVars false
section
open Go.RowKit

theorem e4_set (l : List Int) : tySize Tryd.prog 76 = some (setCells (wordsOf l)).length := by rw [setCells_4]; exact ty_sz_76
theorem bl_set0 {K : Fr → World → Prop} {u : World} {f : Fr} {d : Option Nat} {w : World} : Val1 Tryd.prog K (Instr.build 76 #[]) u f d w = K (updO f d (setV [])) w := bld_of (by kernel_rfl)
/-- Arrows between states. -/
def ArSmall (ar : List Arr) : Prop := ∀ a ∈ ar, (0 ≤ a.frm ∧ a.frm < 256) ∧ (0 ≤ a.to_ ∧ a.to_ < 256)
theorem ArSmall.eds {ar : List Arr} (h : ArSmall ar) (p : Arr → Bool) (rev : Bool) : ∀ e ∈ eds p rev ar, 0 ≤ e.2 ∧ e.2 < 256 := fun e he => by
  obtain ⟨a, ha, _, rfl⟩ := mem_eds.1 he
  cases rev
  · exact (h a ha).2
  · exact (h a ha).1
theorem May.arSmall {m : Mach} (hm : m.May) : ArSmall m.arrows := fun a ha => by
  have h := May.arr hm ha
  have : m.states ≤ 256 := hm.2.1
  have h1 := h.1
  have h2 := h.2.1
  exact ⟨⟨h1.1, by omega⟩, h2.1, by omega⟩
/-- An arrow the other way round. -/
def Arr.back (a : Arr) : Arr := ⟨a.to_, a.evt, a.frm⟩
end

section
open Go.RowKit

structure Mid (lo hi : Nat) (w w' : World) : Prop where
  size : hi ≤ w'.heap.size
  block : ∀ b, lo < b → b < hi → w'.heap[b]? = w.heap[b]?
theorem Mid.start {lo : Nat} {w : World} : Mid lo w.heap.size w w := ⟨Nat.le_refl _, fun _ _ _ => rfl⟩
theorem Mid.below {lo hi : Nat} {w w' w'' : World} (h : Mid lo hi w w') (hb : Below w'.heap.size w' w'') : Mid lo hi w w'' :=
  ⟨Nat.le_trans h.size hb.size, fun b h1 h2 => (hb.block b (Nat.lt_of_lt_of_le h2 h.size)).trans (h.block b h1 h2)⟩
theorem Mid.same {lo hi : Nat} {w w' w'' : World} (h : Mid lo hi w w') (hs : Same w' w'') : Mid lo hi w w'' := h.below (hs.below _)
theorem Mid.grew {lo hi : Nat} {w w' w'' : World} {A : Option Addr} (h : Mid lo hi w w') (hg : Grew w' w'' A) (hA : ∀ a, A = some a → a.block ≤ lo ∨ hi ≤ a.block) : Mid lo hi w w'' :=
  ⟨Nat.le_trans h.size hg.by_.size, fun b h1 h2 => (hg.by_.block b (Nat.lt_of_lt_of_le h2 h.size) (fun e => by
    cases A with
    | none => cases e
    | some a => have e : b = a.block := by simpa using e
                rcases hA a rfl with h3 | h3 <;> omega)).trans (h.block b h1 h2)⟩
/-- What one owns, newer than a mark. -/
theorem OwnI.between {B e c : Nat} {w : World} {A : Option Addr} {l : List Int} (h : OwnI B e w A c l) {lo : Nat} (hlo : lo < B) : Ints (fun b => lo < b ∧ b < w.heap.size) w A l :=
  ((OwnI.ints h).both (OwnI.ints h).lt).mono fun b hb => ⟨Nat.lt_of_lt_of_le hlo hb.1.1, hb.2⟩

section
variable {P : Program} {K : Fr → World → Prop} {f : Fr} {d : Option Nat} {w : World} {t e bytes : Nat}
end
end

section
open Go.RowKit

section
variable {P : Program} {K : Fr → World → Prop} {u w : World} {f : Fr} {d : Option Nat} {A : Option Addr} {n c B e bytes t : Nat} {xs : List Value}
theorem Own.take {sz : Nat} (h : Own B e sz w A c n xs) {k : Nat} (hk : k ≤ n) (h0 : n = 0 → k = 0) : Own B e sz w A c k (xs.take (k * sz)) := by
  obtain ⟨hl, hh⟩ := h.own
  have hkn : k * sz ≤ n * sz := Nat.mul_le_mul_right _ hk
  refine ⟨⟨by rw [List.length_take]; omega, ?_⟩⟩
  rcases hh with ⟨h1, h2⟩ | ⟨g, cap, cur, hv, hB, hg, hnc, h3, h4, h5⟩
  · injection h1 with h1 h6 h7
    subst h1 h6 h7
    obtain rfl := h0 rfl
    exact .inl ⟨rfl, rfl⟩
  · injection hv with e1 e2 e3
    subst e1 e3
    refine .inr ⟨g, c, cur, rfl, hB, hg, by omega, h3, h4, ?_⟩
    rw [← h5, List.take_take, Nat.min_eq_left hkn]
end
theorem Arrs.lt {ok : Nat → Prop} {w : World} {A : Option Addr} {l : List Arr} (h : Arrs ok w A l) : Arrs (· < w.heap.size) w A l :=
  ⟨h.isSome, fun hl => by
    have := World.block_lt_of_cell? w _ (h.cell 0 hl 0 (by decide))
    rwa [eA_block] at this, h.cell⟩
theorem Rd.below {w w' : World} {A : Option Addr} {xs : List Value} (h : Rd w A xs) (hb : Below w.heap.size w w') : Rd w' A xs := ⟨h.isSome, fun j v hv => below_cell hb (h.cell j v hv)⟩
end
end Go.Proofs.YtcjedgiglimipaaDoor

/-
  The laws on machines: MachineTells, MachineSplits: they return true.
-/
namespace Go.Proofs.YtcjedgiglimipaaDoor
set_option linter.unusedSimpArgs false
set_option linter.unusedVariables false
set_option linter.unusedSectionVars false
open Go.RowKit

end Go.Proofs.YtcjedgiglimipaaDoor

/-
  Chapter 6: what the machine of the sets is: in plain Lean. No program in sight but by the names of machines.
  Chapter 6: the program's Is, by its contract; the law DetermineSame.
  Chapter 6: what is determined, by counting: in plain Lean; the reference's Is, by its contract.
-/
namespace Go.Proofs.YtcjedgiglimipaaDoor
set_option linter.unusedSimpArgs false
set_option linter.unusedVariables false
set_option linter.unusedSectionVars false
section
open Go.RowKit

theorem prs_evs (n : Nat) : ∀ k : Nat, prs (evs n) k 0 = (List.range (k * n)).map fun (i : Nat) => (((i / n : Nat) : Int), ((i % n : Nat) : Int))
  | 0 => by simp [prs]
  | k + 1 => by
    rw [← prs_all]
    have h1 : prs (evs n) k (evs n).length = prs (evs n) k 0 ++ (evs n).map fun e => ((k : Int), e) := by simp [prs]
    rw [h1, prs_evs n k, Nat.succ_mul, List.range_add, List.map_append]
    congr 1
    unfold evs
    rw [List.map_map, List.map_map]
    refine List.map_congr_left fun j hj => ?_
    have hj := List.mem_range.1 hj
    have hn : 0 < n := by omega
    have e1 : (k * n + j) / n = k := by rw [Nat.mul_comm, Nat.mul_add_div hn, Nat.div_eq_of_lt hj]; rfl
    have e2 : (k * n + j) % n = j := by rw [Nat.mul_comm, Nat.mul_add_mod, Nat.mod_eq_of_lt hj]
    simp only [Function.comp, e1, e2]
theorem arr_at {step : List Int → Int → List Int} {n K : Nat} {L : List (List Int)} {ar : List Arr} (h : Arrows step (evs n) K 0 L ar) {i : Nat} (hi : i < K * n) :
    ∃ (j : Nat) (s : List Int), ar.getD i default = ⟨((i / n : Nat) : Int), ((i % n : Nat) : Int), j⟩ ∧ L[i / n]? = some s ∧ L[j]? = some (step s ((i % n : Nat) : Int)) := by
  have hl : ar.length = K * n := by rw [h.len (Nat.zero_le _), evs_len]; rfl
  have h1 : (ar.map fun a => (a.frm, a.evt))[i]? = some (((i / n : Nat) : Int), ((i % n : Nat) : Int)) := by
    rw [h.1, prs_evs, List.getElem?_map, List.getElem?_range hi]; rfl
  have hg : ar[i]? = some (ar.getD i default) := by simp [List.getD_eq_getElem?_getD, hl, hi]
  rw [List.getElem?_map, hg] at h1
  have hm := h.2 _ (List.mem_of_getElem? hg)
  generalize ar.getD i default = a at *
  simp only [Option.map_some, Option.some.injEq, Prod.mk.injEq] at h1
  obtain ⟨i', j, s, e1, e2, e3, e4⟩ := hm
  obtain ⟨f1, f2⟩ := h1
  have : i' = i / n := by rw [f1] at e1; exact (Int.ofNat.inj e1).symm
  subst this
  refine ⟨j, s, ?_, e3, by rw [← f2]; exact e4⟩
  cases a; simp_all

section
variable {m : Mach} {L : List (List Int)} {ar : List Arr}
/-- What is kept of the sets. -/
structure Det (m : Mach) (L : List (List Int)) (ar : List Arr) : Prop where
  n8 : m.events.toNat ≤ 8
  ev : ((m.events.toNat : Nat) : Int) = m.events
  l256 : L.length ≤ 256
  first : L[0]? = some m.starts
  nodup : L.Nodup
  row : ∀ s ∈ L, IsRow s m.states
  arrows : Arrows (stepL m) (evs m.events.toNat) L.length 0 L ar
theorem Det.of (hm : m.May) (h : SetsRes (stepL m) (evs m.events.toNat) m.starts true L ar) : Det m L ar := by
  rcases h with ⟨_, k, hk, hl, hL, har⟩ | ⟨h, _⟩
  · have hLl : L.length = k := by rw [hL, List.length_map, hl]
    have hgood := bIter_good (step := stepL m) (es := evs m.events.toNat) (U := fun s => IsRow s m.states) (fun s _ e _ => stepL_row hm s e) (may_starts hm) k
    refine ⟨by have := hm.2.2.2.1; omega, by have := hm.2.2.1; omega, by omega, ?_, by rw [hL]; exact hgood.nodup, fun s hs => ?_, by rw [hLl]; exact har⟩
    · rw [hL, List.getElem?_map, prefix_getElem? (bIter_prefix (step := stepL m) (es := evs m.events.toNat) m.starts (Nat.zero_le k)) (bIter_pos _ _)]; rfl
    · rw [hL] at hs
      obtain ⟨r, hr, rfl⟩ := List.mem_map.1 hs
      exact hgood.univ r hr
  · cases h
theorem Det.pos (h : Det m L ar) : 0 < L.length := by
  rcases Nat.lt_or_ge 0 L.length with c | c
  · exact c
  · have := h.first; rw [List.getElem?_eq_none c] at this; cases this
theorem getElem?_lt {α : Type} {l : List α} {i : Nat} {a : α} (h : l[i]? = some a) : i < l.length := by
  rcases Nat.lt_or_ge i l.length with c | c
  · exact c
  · rw [List.getElem?_eq_none c] at h; cases h
theorem Det.len (h : Det m L ar) : ar.length = L.length * m.events.toNat := by rw [h.arrows.len (Nat.zero_le _), evs_len]; rfl
theorem Det.at_ (h : Det m L ar) {i : Nat} (hi : i < ar.length) :
    ∃ (j : Nat) (s : List Int), ar.getD i default = ⟨((i / m.events.toNat : Nat) : Int), ((i % m.events.toNat : Nat) : Int), j⟩ ∧ L[i / m.events.toNat]? = some s ∧ L[j]? = some (stepL m s ((i % m.events.toNat : Nat) : Int)) := arr_at h.arrows (by rw [← h.len]; exact hi)
theorem Det.inj (h : Det m L ar) {i j : Nat} {s : List Int} (hi : L[i]? = some s) (hj : L[j]? = some s) : i = j :=
  (List.getElem?_inj (getElem?_lt hi) h.nodup).1 (hi.trans hj.symm)
theorem endsUpto_mem {k : Nat} {x : Int} : x ∈ endsUpto m L k ↔ ∃ i : Nat, x = i ∧ i < k ∧ MeetL (L.getD i []) m.ends := by
  unfold endsUpto
  simp only [List.mem_map, List.mem_filter, List.mem_range, decide_eq_true_eq]
  exact ⟨fun ⟨i, ⟨h1, h2⟩, h3⟩ => ⟨i, h3.symm, h1, h2⟩, fun ⟨i, h1, h2, h3⟩ => ⟨i, ⟨h2, h3⟩, h1.symm⟩⟩
theorem endsUpto_strict (k : Nat) : Strict (endsUpto m L k) := by
  unfold endsUpto Strict
  rw [List.pairwise_map]
  exact (List.pairwise_lt_range.filter _).imp fun h => by omega
theorem Det.may (h : Det m L ar) : (detOf m L ar).May := by
  have h0 := h.pos
  have h1 := h.l256
  have h8 := h.n8
  have he := h.ev
  refine ⟨?_, ?_, ?_, ?_, ?_, ?_, ?_, fun i hi => ?_⟩
  · show (1 : Int) ≤ (L.length : Int); omega
  · show (L.length : Int) ≤ 256; omega
  · show 0 ≤ m.events; omega
  · show m.events ≤ 8; omega
  · show ar.length ≤ 4096
    rw [h.len]
    have : L.length * m.events.toNat ≤ 256 * 8 := Nat.mul_le_mul h1 h8
    omega
  · intro i hi
    have hi : i < 1 := hi
    obtain rfl : i = 0 := by omega
    exact ⟨by show (0 : Int) ≤ 0; omega, by show (0 : Int) < (L.length : Int); omega, by show (0 : Int) < 2147483648; omega, fun hh => absurd hh (by decide)⟩
  · refine IsRow.of_strict (endsUpto_strict _) fun x hx => ?_
    obtain ⟨i, rfl, hi, _⟩ := endsUpto_mem.1 hx
    show 0 ≤ (i : Int) ∧ (i : Int) < (L.length : Int) ∧ (i : Int) < 2147483648
    omega
  · have hi : i < ar.length := hi
    obtain ⟨j, s, ha, hs, hj⟩ := h.at_ hi
    have q1 := getElem?_lt hs
    have q2 := getElem?_lt hj
    have hnp : 0 < m.events.toNat := by
      rw [h.len] at hi
      rcases Nat.eq_zero_or_pos m.events.toNat with c | c
      · rw [c] at hi; omega
      · exact c
    have q3 := Nat.mod_lt i hnp
    show Mach.ArrOk _ (ar.getD i default) ∧ (0 < i → (ar.getD (i - 1) default).lt (ar.getD i default))
    rw [ha]
    refine ⟨⟨⟨Int.natCast_nonneg _, Int.ofNat_lt.2 q1⟩, ⟨by show (0 : Int) ≤ (j : Int); omega, by show (j : Int) < (L.length : Int); omega⟩, Int.natCast_nonneg _, by show ((i % m.events.toNat : Nat) : Int) < m.events; rw [← he]; exact Int.ofNat_lt.2 q3⟩, fun hp => ?_⟩
    obtain ⟨j', s', ha', _, _⟩ := h.at_ (i := i - 1) (by omega)
    rw [ha']
    have d1 := Nat.div_add_mod i m.events.toNat
    have d2 := Nat.div_add_mod (i - 1) m.events.toNat
    have d3 : (i - 1) / m.events.toNat ≤ i / m.events.toNat := Nat.div_le_div_right (by omega)
    generalize i / m.events.toNat = a at *
    generalize (i - 1) / m.events.toNat = b at *
    generalize i % m.events.toNat = c at *
    generalize (i - 1) % m.events.toNat = e at *
    rcases Nat.lt_or_ge b a with hb | hb
    · exact .inl (by show (b : Int) < (a : Int); omega)
    · obtain rfl : b = a := by omega
      exact .inr ⟨rfl, .inl (by show (e : Int) < (c : Int); omega)⟩
/-- One step: from one place to one. -/
theorem Det.step (h : Det m L ar) {p : Nat} {s : List Int} (hp : L[p]? = some s) {e : Int} (h0 : 0 ≤ e) (h1 : e < m.events) : ∃ j : Nat, L[j]? = some (stepL m s e) ∧ stepL (detOf m L ar) [(p : Int)] e = [(j : Int)] := by
  have he := h.ev
  have hpl := getElem?_lt hp
  obtain ⟨e', rfl⟩ : ∃ e' : Nat, e = (e' : Int) := ⟨e.toNat, by omega⟩
  have he' : e' < m.events.toNat := by omega
  have hi : p * m.events.toNat + e' < ar.length := by
    rw [h.len]
    have : (p + 1) * m.events.toNat ≤ L.length * m.events.toNat := Nat.mul_le_mul_right _ hpl
    rw [Nat.succ_mul] at this
    omega
  have hnp : 0 < m.events.toNat := by omega
  have e1 : (p * m.events.toNat + e') / m.events.toNat = p := by rw [Nat.mul_comm, Nat.mul_add_div hnp, Nat.div_eq_of_lt he']; rfl
  have e2 : (p * m.events.toNat + e') % m.events.toNat = e' := by rw [Nat.mul_comm, Nat.mul_add_mod, Nat.mod_eq_of_lt he']
  obtain ⟨j, s', ha, hs, hj⟩ := h.at_ hi
  rw [e1, e2] at ha
  rw [e1, hp] at hs
  obtain rfl := Option.some.inj hs
  rw [e2] at hj
  refine ⟨j, hj, ?_⟩
  refine Strict.ext (sortedL_spec _).1 (List.pairwise_singleton _ _) fun x => ?_
  unfold stepL
  rw [(sortedL_spec _).2, List.mem_singleton]
  unfold stepT
  constructor
  · intro hx
    obtain ⟨a, hm, rfl⟩ := List.mem_map.1 hx
    obtain ⟨hm, hc⟩ := List.mem_filter.1 hm
    rw [Bool.and_eq_true, decide_eq_true_eq, decide_eq_true_eq, List.mem_singleton] at hc
    obtain ⟨i', j', s', f1, f2, f3, f4⟩ := h.arrows.2 a hm
    obtain rfl : i' = p := by have := hc.2; rw [f1] at this; exact Int.ofNat.inj this
    rw [hp] at f3
    obtain rfl := Option.some.inj f3
    rw [hc.1] at f4
    rw [f2, h.inj f4 hj]
  · rintro rfl
    refine List.mem_map.2 ⟨ar.getD (p * m.events.toNat + e') default, List.mem_filter.2 ⟨getD_mem ar default _ hi, ?_⟩, by rw [ha]⟩
    rw [ha]
    simp
theorem Det.after (h : Det m L ar) : ∀ (word : List Int) {p : Nat} {s : List Int}, L[p]? = some s → (∀ x ∈ word, 0 ≤ x ∧ x < m.events) → ∃ j : Nat, L[j]? = some (afterL m s word) ∧ afterL (detOf m L ar) [(p : Int)] word = [(j : Int)]
  | [], p, s, hp, _ => ⟨p, hp, rfl⟩
  | e :: word, p, s, hp, hw => by
    obtain ⟨j, hj, hs⟩ := h.step hp (hw e (List.mem_cons_self ..)).1 (hw e (List.mem_cons_self ..)).2
    obtain ⟨j', hj', hs'⟩ := Det.after h word hj fun x hx => hw x (List.mem_cons_of_mem _ hx)
    refine ⟨j', hj', ?_⟩
    show afterL (detOf m L ar) (stepL (detOf m L ar) [(p : Int)] e) word = _
    rw [hs, hs']
theorem isWord_iff (m : Mach) (l : List Int) : IsWord m l ↔ ∀ x ∈ l, 0 ≤ x ∧ x < m.events := ⟨fun h x hx => by
    obtain ⟨i, hi, rfl⟩ := (mem_iff_getD l 0 x).1 hx
    exact h i hi, fun h i hi => h _ (getD_mem l 0 i hi)⟩
theorem Det.accepts (h : Det m L ar) {word : List Int} (hw : IsWord m word) : ∃ j : Nat, L[j]? = some (afterL m m.starts word) ∧ afterL (detOf m L ar) [0] word = [(j : Int)] ∧ (AcceptsL (detOf m L ar) word ↔ AcceptsL m word) := by
  obtain ⟨j, hj, hs⟩ := h.after word h.first ((isWord_iff m word).1 hw)
  refine ⟨j, hj, hs, ?_⟩
  have hjl := getElem?_lt hj
  have hgd : L.getD j [] = afterL m m.starts word := by rw [List.getD_eq_getElem?_getD, hj]; rfl
  unfold AcceptsL
  rw [show afterL (detOf m L ar) (detOf m L ar).starts word = [(j : Int)] from hs]
  show MeetL [(j : Int)] (endsUpto m L L.length) ↔ _
  constructor
  · rintro ⟨x, hx, hx2⟩
    rw [List.mem_singleton.1 hx] at hx2
    obtain ⟨i, hi, _, hM⟩ := endsUpto_mem.1 hx2
    obtain rfl : j = i := Int.ofNat.inj hi
    rwa [hgd] at hM
  · intro hM
    exact ⟨j, by simp, endsUpto_mem.2 ⟨j, rfl, hjl, by rwa [hgd]⟩⟩
end
/-- A machine that is determined, as the program asks for it. -/
def IsDet (m : Mach) : Prop := m.May ∧ m.starts.length = 1 ∧ (m.arrows.length : Int) = m.states * m.events ∧ ∀ i, i < m.arrows.length → (m.arrows.getD i default).frm = ((i / m.events.toNat : Nat) : Int) ∧ (m.arrows.getD i default).evt = ((i % m.events.toNat : Nat) : Int)
noncomputable instance (m : Mach) : Decidable (IsDet m) := Classical.propDecidable _
end

section
open Go.RowKit

section
variable {P : Program} {K : Fr → World → Prop} {u w : World} {f : Fr} {d : Option Nat} {t : TypeId} {xo yo : Operand}
end
end

section
open Go.RowKit

def cod (m : Mach) (a : Arr) : Int := a.frm * m.events + a.evt
def codes (m : Mach) : List Int := m.arrows.map (cod m)
def manyAt (l : List Arr) (s e : Int) : Nat := l.countP fun a => decide (a.frm = s) && decide (a.evt = e)
def IsDet2 (m : Mach) : Prop := m.May ∧ m.starts.length = 1 ∧ ∀ s e : Nat, (s : Int) < m.states → (e : Int) < m.events → manyAt m.arrows s e = 1
noncomputable instance (m : Mach) : Decidable (IsDet2 m) := Classical.propDecidable _
theorem Strict.nodup {l : List Int} (h : Strict l) : l.Nodup := List.Pairwise.imp (fun h => by omega) h
section
variable {m : Mach}
end
end
end Go.Proofs.YtcjedgiglimipaaDoor

/-
  Chapter 14: which rows are safe; which machines a law leaves out: by their contracts.
-/
namespace Go.Proofs.YtcjedgiglimipaaDoor
set_option linter.unusedSimpArgs false
set_option linter.unusedVariables false
set_option linter.unusedSectionVars false
open Go.RowKit

def Mach.Great (m : Mach) : Prop := (40 < m.states ∧ m.states ≤ 256) ∨ (300 < (m.arrows.length : Int) ∧ (m.arrows.length : Int) ≤ 4096)
instance (m : Mach) : Decidable m.Great := inferInstanceAs (Decidable (_ ∨ _))
def SafeL (m : Mach) (free bad l : List Int) : Prop := (∀ x ∈ l, x ∉ bad) ∧ ∀ a ∈ m.arrows, a.frm ∈ l → a.evt ∉ free → a.to_ ∈ l
instance (m : Mach) (free bad l : List Int) : Decidable (SafeL m free bad l) := inferInstanceAs (Decidable (_ ∧ _))

end Go.Proofs.YtcjedgiglimipaaDoor

/-
  Chapter 3: the reference's Reach, Live: by their contracts.
  Chapter 3: the reference's Trim: by its contract; the laws ReachTells, ReachTrims.
  Chapter 3: the laws ReachTells, ReachTrims.
-/
namespace Go.Proofs.YtcjedgiglimipaaDoor
set_option linter.unusedSimpArgs false
set_option linter.unusedVariables false
set_option linter.unusedSectionVars false
section
open Go.RowKit

/-- What the reference's rounds keep to. -/
structure RG (es : List (Int × Int)) (l0 : List Int) (N : Int) (l : List Int) : Prop where
  nodup : l.Nodup
  range : ∀ x ∈ l, 0 ≤ x ∧ x < N
  sub : ∀ x ∈ l0, x ∈ l
  clos : ∀ x ∈ l, Clos es l0 x
theorem RG.snoc {es : List (Int × Int)} {l0 : List Int} {N : Int} {l : List Int} (h : RG es l0 N l) {p : Int × Int} (hp : p ∈ es) (h1 : p.1 ∈ l) (h2 : p.2 ∉ l) (hr : 0 ≤ p.2 ∧ p.2 < N) : RG es l0 N (l ++ [p.2]) := by
  refine ⟨?_, fun x hx => ?_, fun x hx => List.mem_append_left _ (h.sub x hx), fun x hx => ?_⟩
  · exact List.nodup_append.2 ⟨h.nodup, by simp, fun a ha b hb e => by
      have e2 : b = p.2 := by simpa using hb
      exact h2 (e2 ▸ e ▸ ha)⟩
  · rcases List.mem_append.1 hx with hx | hx
    · exact h.range x hx
    · rw [List.mem_singleton.1 hx]; exact hr
  · rcases List.mem_append.1 hx with hx | hx
    · exact h.clos x hx
    · rw [List.mem_singleton.1 hx]; exact .step p hp (h.clos _ h1)
theorem RG.len {es : List (Int × Int)} {l0 : List Int} {N : Int} {l : List Int} (h : RG es l0 N l) : l.length ≤ N.toNat := by
  have h1 : (l.map Int.toNat).Nodup := by
    rw [List.nodup_iff_pairwise_ne, List.pairwise_map]
    exact (List.nodup_iff_pairwise_ne.1 h.nodup).imp_of_mem fun {a b} ha hb hab e => hab (by have := h.range a ha; have := h.range b hb; omega)
  have := nodup_nat_len N.toNat _ h1 fun x hx => by
    obtain ⟨y, hy, rfl⟩ := List.mem_map.1 hx
    have := h.range y hy; omega
  simpa using this
theorem RG.all {es : List (Int × Int)} {l0 : List Int} {N : Int} {l : List Int} (h : RG es l0 N l) (hl : N.toNat ≤ l.length) {x : Int} (h0 : 0 ≤ x) (h1 : x < N) : x ∈ l := by
  refine Classical.byContradiction fun hn => ?_
  have h2 : ((x :: l).map Int.toNat).Nodup := by
    rw [List.nodup_iff_pairwise_ne, List.pairwise_map]
    refine (List.nodup_iff_pairwise_ne.1 (List.nodup_cons.2 ⟨hn, h.nodup⟩)).imp_of_mem fun {a b} ha hb hab e => hab ?_
    have ra : 0 ≤ a := by rcases List.mem_cons.1 ha with rfl | ha; exact h0; exact (h.range a ha).1
    have rb : 0 ≤ b := by rcases List.mem_cons.1 hb with rfl | hb; exact h0; exact (h.range b hb).1
    omega
  have := nodup_nat_len N.toNat _ h2 fun z hz => by
    obtain ⟨y, hy, rfl⟩ := List.mem_map.1 hz
    rcases List.mem_cons.1 hy with rfl | hy
    · omega
    · have := h.range y hy; omega
  simp at this; omega
theorem RG.done {es : List (Int × Int)} {l0 : List Int} {N : Int} {l : List Int} (h : RG es l0 N l) (hN : N ≤ 256) (hc : ∀ p ∈ es, p.1 ∈ l → p.2 ∈ l) : sortedL l = pick (Clos es l0) := by
  have hs := sortedL_spec l
  refine pick_eq hs.1 (fun x hx => ?_) fun x => ?_
  · have := h.range x ((hs.2 x).1 hx); omega
  · rw [hs.2]
    exact ⟨h.clos x, fun hx => Clos.within h.sub hc hx⟩

end

section
open Go.RowKit

theorem fin_c2 {P : Program} {Rc : Value → World → Prop} {a t t' g s : Nat} {cs : List Value} {f : Fr} {w : World} (hk : Blk w g t' cs) (ht : tyAgg P t = some true) (hs : tySize P t = some cs.length)
    (hf : f a = .pointer (some ⟨g, 0, none⟩)) (h : Rc (.tuple #[.agg cs.toArray, f s]) w) : FinX P #[.cell a t, .tmp s] Rc f w := by
  refine ⟨_, fun fn tmps hr hf' => ?_, h⟩
  have e : tmps.getD a undef = .pointer (some ⟨g, 0, none⟩) := by rw [hf', hf]
  have e2 : tmps[a]?.getD undef = .pointer (some ⟨g, 0, none⟩) := by simpa using e
  have e3 : tmps[s]?.getD undef = f s := by simpa using hf' s
  unfold tyAgg at ht
  unfold tySize at hs
  cases hu : P.underlying t with
  | none => simp [hu] at ht
  | some de =>
    cases hi : P.info? t with
    | none => simp [hi] at hs
    | some ie =>
      simp only [hi, Option.map_some, Option.some.injEq] at hs
      simp only [hu, Option.map_some, Option.some.injEq] at ht
      have hr' := run_loadCells_list (P := P) w ⟨g, 0, none⟩ cs (fun j v hv => by rw [addr_add, Nat.zero_add, hk.cell, hv])
      cases de <;> simp at ht <;> simp [results, hr, e2, e3, asAddr, loadVar, isAgg, run_underlying hu, sizeOf, typeInfo, hi, hs, hr']
end

section
open Go.RowKit

theorem Ints.up {w w' : World} {A : Option Addr} {l : List Int} (h : Ints (· < w.heap.size) w A l) (b : Below w.heap.size w w') : Ints (· < w'.heap.size) w' A l := (h.below b).mono fun _ hl => Nat.lt_of_lt_of_le hl b.size
theorem IsM.up {w w' : World} {a : MV} {m : Mach} (h : IsM (· < w.heap.size) w a m) (b : Below w.heap.size w w') : IsM (· < w'.heap.size) w' a m := (h.below b).mono fun _ hl => Nat.lt_of_lt_of_le hl b.size
end
end Go.Proofs.YtcjedgiglimipaaDoor

/-
  What comes in: the arguments of a law, opened to integers, rows of integers, machines. No program in sight. (Two blocks after the guide's page on structs.)
  What comes in: plants. No program in sight.
-/
namespace Go.Proofs.YtcjedgiglimipaaDoor
set_option linter.unusedSimpArgs false
set_option linter.unusedVariables false
set_option linter.unusedSectionVars false
section
open Go.RowKit Go.ChangeShapes Go.WideShapes Go.Deep Go.Joins

section
variable {H : Type} {enc : TypeId × Value → H} {P : Program} {w : World} {base : Nat} {spare : Nat → Bool} {held : Bool}
theorem open_slice_fields {t e : TypeId} {fs : Array Field} {fuel : Nat} {cs : List Value} {x : DataW H × List MemPlace} (ht : P.underlying t = some (.slice e)) (he : P.underlying e = some (.struct fs))
    (hone : oneCellFields P fs = true) (hC : P.cellsOf e = fs.size) (h : DataW.trod enc P w base spare held fuel t cs = some x) :
    (cs = [.slice none 0 0] ∧ x = (.nil, [])) ∨
    ∃ (a : Addr) (len cap m : Nat) (D : Nat → DataW H) (Pl : Nat → List MemPlace), cs = [.slice (some a) len cap] ∧ base ≤ a.block ∧ len ≤ cap ∧ cap ≤ maxLen ∧ m = (if spare a.block then cap else len) ∧
      x = (.slice ((List.range len).map D) ((List.range (m - len)).map fun j => D (len + j)), MemPlace.row a (m * fs.size) ++ (List.range m).flatMap Pl) ∧
      ∀ i, i < m → ∃ (ys : List (DataW H × List MemPlace)) (n : Nat), D i = .agg (ys.map (·.1)) ∧ Pl i = ys.flatMap (·.2) ∧ ys.length = fs.size ∧
        ∀ (j : Nat) (f : Field), fs[j]? = some f → ∃ (v : Value) (y : DataW H × List MemPlace), w.cell? (a.add (i * fs.size + j)) = some v ∧ ys[j]? = some y ∧ DataW.trod enc P w base spare held n f.type [v] = some y := by
  rcases open_slice ht h with h0 | ⟨a, len, cap, m, n, D, Pl, hcs, hb, hl, hm, hmm, hx, hi⟩
  · exact .inl h0
  · refine .inr ⟨a, len, cap, m, D, Pl, hcs, hb, hl, hm, hmm, by rw [hC] at hx; exact hx, fun i him => ?_⟩
    obtain ⟨cs', hc, ht'⟩ := hi i him
    rw [hC] at hc
    obtain ⟨ys, n', hn', hy, hlen, hyl, hf⟩ := DataW.trod_struct he ht'
    obtain ⟨_, hcl, hat⟩ := World.cells?_some hc
    simp only [Prod.mk.injEq] at hy
    refine ⟨ys, n', hy.1, hy.2, hyl, fun j f hj => ?_⟩
    obtain ⟨ho, hk⟩ := hone_of hone j f hj
    have hjl : j < fs.size := (Array.getElem?_eq_some_iff.1 hj).1
    have hcell := hat j hjl
    have hv : cs'[j]? = some (cs'[j]'(by omega)) := List.getElem?_eq_getElem (by omega)
    have h1 := hf j f hj
    rw [ho, hk] at h1
    have hone' : (cs'.drop j).take 1 = [cs'[j]'(by omega)] := by
      rw [List.drop_eq_getElem_cons (by omega)]
      rfl
    rw [hone'] at h1
    have hys : ys[j]? = some (ys[j]'(by omega)) := List.getElem?_eq_getElem (by omega)
    refine ⟨_, _, ?_, hys, h1.trans hys⟩
    rw [← Go.Deep.add_add, hcell, hv]
end

section
variable {H : Type} {enc : TypeId × Value → H} {P : Program} {w : World} {base : Nat} {spare : Nat → Bool} {held : Bool}
theorem open_agg5 {r : Reach} {b0 : Nat} {t : TypeId} {f0 f1 f2 f3 f4 : Field} {v : Value} {d : DataW H} {p : List MemPlace} (hs : P.underlying t = some (.struct #[f0, f1, f2, f3, f4])) (hone : oneCellFields P #[f0, f1, f2, f3, f4] = true) (hC : P.cellsOf t = 5)
    (hv : Value.okWide P w r b0 t v) (h : DataW.Trod enc P w base spare held t v d p) :
    ∃ (v0 v1 v2 v3 v4 : Value) (y0 y1 y2 y3 y4 : DataW H × List MemPlace) (n : Nat), v = .agg #[v0, v1, v2, v3, v4] ∧ d = .agg [y0.1, y1.1, y2.1, y3.1, y4.1] ∧ p = y0.2 ++ (y1.2 ++ (y2.2 ++ (y3.2 ++ y4.2))) ∧
      DataW.trod enc P w base spare held n f0.type [v0] = some y0 ∧ DataW.trod enc P w base spare held n f1.type [v1] = some y1 ∧ DataW.trod enc P w base spare held n f2.type [v2] = some y2 ∧ DataW.trod enc P w base spare held n f3.type [v3] = some y3 ∧ DataW.trod enc P w base spare held n f4.type [v4] = some y4 := by
  obtain ⟨cs, rfl, hsz⟩ := okWide_struct hs hv
  obtain ⟨l⟩ := cs
  match l, hsz.trans hC with
  | [c0, c1, c2, c3, c4], _ =>
    obtain ⟨fuel, hf⟩ := h
    obtain ⟨xs, n, _, hx, _, hlen, hg⟩ := DataW.trod_struct hs hf
    obtain ⟨o0, k0⟩ := hone_of hone 0 f0 rfl
    obtain ⟨o1, k1⟩ := hone_of hone 1 f1 rfl
    obtain ⟨o2, k2⟩ := hone_of hone 2 f2 rfl
    obtain ⟨o3, k3⟩ := hone_of hone 3 f3 rfl
    obtain ⟨o4, k4⟩ := hone_of hone 4 f4 rfl
    match xs, hlen with
    | [y0, y1, y2, y3, y4], _ =>
      simp only [Prod.mk.injEq] at hx
      exact ⟨c0, c1, c2, c3, c4, y0, y1, y2, y3, y4, n, rfl, by simpa using hx.1, by simpa using hx.2, by simpa [Value.cells, o0, k0] using hg 0 f0 rfl, by simpa [Value.cells, o1, k1] using hg 1 f1 rfl, by simpa [Value.cells, o2, k2] using hg 2 f2 rfl, by simpa [Value.cells, o3, k3] using hg 3 f3 rfl, by simpa [Value.cells, o4, k4] using hg 4 f4 rfl⟩

end

def Sized {H : Type} (P : Program) (t : TypeId) (d : DataW H) : Prop := ∀ n ∈ d.weights P t, n ≤ reachBytes
theorem sized_of {H : Type} {P : Program} {ts : List TypeId} {ds : List (DataW H)} (h : (DataW.weightsEach P ts ds).all (· ≤ reachBytes) = true) (j : Nat) {t : TypeId} {d : DataW H} (ht : ts[j]? = some t) (hd : ds[j]? = some d) : Sized P t d :=
  fun n hn => by simpa using List.all_eq_true.1 h n (DataW.weights_mem_each ht hd n hn)
theorem i64_of_wf {x : Int} (h : (Lit.int .i64 x).wf = true) : I64 x := by
  simp [Lit.wf, IntKind.min, IntKind.max, IntKind.signed, IntKind.bits] at h
  exact ⟨by omega, by omega⟩
section
variable {H : Type} {enc : TypeId × Value → H} {P : Program} {w : World} {base : Nat} {spare : Nat → Bool} {held : Bool}
theorem cell_int {t : TypeId} {n : Nat} {v : Value} {y : DataW H × List MemPlace} (ht : P.underlying t = some (.int .i64)) (h : DataW.trod enc P w base spare held n t [v] = some y) : ∃ x, v = .int .i64 x ∧ I64 x := by
  obtain ⟨x, hx, _, hw⟩ := DataW.trod_int ht h
  simp at hx
  exact ⟨x, hx, i64_of_wf hw⟩
theorem cell_ints {t e : TypeId} {n : Nat} {v : Value} {y : DataW H × List MemPlace} (ht : P.underlying t = some (.slice e)) (he : P.underlying e = some (.int .i64)) (hc : P.cellsOf e = 1) (hb : P.bytesOf e = 8)
    (h : DataW.trod enc P w base spare held n t [v] = some y) (hs : Sized P t y.1) :
    ∃ A c l, v = .slice A l.length c ∧ l.length ≤ c ∧ Ints (· < w.heap.size) w A l ∧ (∀ x ∈ l, I64 x) ∧ l.length ≤ 17592186043904 ∧ ((y.1 = .nil ∧ l = []) ∨ ∃ elems spare, y.1 = .slice elems spare ∧ elems.length = l.length) := by
  rcases open_ints ht he hc h with ⟨hcs, hx0⟩ | ⟨a, len, cap, zs, hcs, _, hl, hm, hz, hx, hcell, hwz⟩
  · simp at hcs
    exact ⟨none, 0, [], by simpa using hcs, by simp, Ints.nil _ _ _, by simp, by simp, .inl ⟨by rw [hx0], rfl⟩⟩
  · simp at hcs
    have hzl : len ≤ zs.length := by rw [hz]; split <;> omega
    have hlen : (zs.take len).length = len := by simp; omega
    refine ⟨some a, cap, zs.take len, by rw [hlen]; exact hcs, by rw [hlen]; exact hl, ⟨fun _ => rfl, fun h0 => ?_, fun i hi => ?_⟩, fun x hx' => i64_of_wf (hwz x (List.mem_of_mem_take hx')), ?_, .inr ⟨_, _, congrArg Prod.fst hx, by simp [lits]⟩⟩
    · have := World.block_lt_of_cell? w _ (hcell 0 (by omega))
      rwa [show (a.add 0).block = a.block from by unfold Addr.add; rfl] at this
    · have hi' : i < len := by omega
      rw [eA_some, hcell i (by omega)]
      simp [List.getD_eq_getElem?_getD, hi']
    · rw [hlen]
      have := hs ((zs.take len).length * 8 + (zs.drop len).length * 8) (by
        rw [show y.1 = _ from congrArg Prod.fst hx]
        simp [DataW.weights, ht, hb, lits, Nat.add_mul])
      rw [hlen] at this
      simp only [reachBytes] at this
      omega
theorem cell_arrs {t e : TypeId} {f0 f1 f2 : Field} {n : Nat} {v : Value} {y : DataW H × List MemPlace} (ht : P.underlying t = some (.slice e)) (he : P.underlying e = some (.struct #[f0, f1, f2])) (hone : oneCellFields P #[f0, f1, f2] = true) (hC : P.cellsOf e = 3)
    (hb : P.bytesOf e = 24) (h0 : P.underlying f0.type = some (.int .i64)) (h1 : P.underlying f1.type = some (.int .i64)) (h2 : P.underlying f2.type = some (.int .i64))
    (h : DataW.trod enc P w base spare held n t [v] = some y) (hs : Sized P t y.1) :
    ∃ A c l, v = .slice A l.length c ∧ l.length ≤ c ∧ Arrs (· < w.heap.size) w A l ∧ (∀ a ∈ l, I64 a.frm ∧ I64 a.evt ∧ I64 a.to_) ∧ l.length ≤ 17592186043904 := by
  rcases open_slice_fields ht he hone hC h with ⟨hcs, _⟩ | ⟨a, len, cap, m, D, Pl, hcs, _, hl, hm, hmm, hx, hi⟩
  · simp at hcs
    exact ⟨none, 0, [], by simpa using hcs, by simp, Arrs.nil _ _ _, by simp, by simp⟩
  · simp at hcs
    have hlm : len ≤ m := by rw [hmm]; split <;> omega
    have key : ∀ i, i < len → ∃ r : Arr, (I64 r.frm ∧ I64 r.evt ∧ I64 r.to_) ∧ ∀ j, j < 3 → w.cell? (eA (some a) (i * 3 + j)) = some (.int .i64 (r.cell j)) := by
      intro i hi'
      obtain ⟨ys, k, _, _, _, hf⟩ := hi i (by omega)
      obtain ⟨v0, y0, c0, _, t0⟩ := hf 0 f0 rfl
      obtain ⟨v1, y1, c1, _, t1⟩ := hf 1 f1 rfl
      obtain ⟨v2, y2, c2, _, t2⟩ := hf 2 f2 rfl
      obtain ⟨x0, rfl, w0⟩ := cell_int h0 t0
      obtain ⟨x1, rfl, w1⟩ := cell_int h1 t1
      obtain ⟨x2, rfl, w2⟩ := cell_int h2 t2
      refine ⟨⟨x0, x1, x2⟩, ⟨w0, w1, w2⟩, fun j hj => ?_⟩
      match j, hj with
      | 0, _ => exact c0
      | 1, _ => exact c1
      | 2, _ => exact c2
    have hch : ∃ g : Nat → Arr, ∀ i, i < len → (I64 (g i).frm ∧ I64 (g i).evt ∧ I64 (g i).to_) ∧ ∀ j, j < 3 → w.cell? (eA (some a) (i * 3 + j)) = some (.int .i64 ((g i).cell j)) :=
      ⟨fun i => if h : i < len then Classical.choose (key i h) else default, fun i h => by simp only [h, dite_true]; exact Classical.choose_spec (key i h)⟩
    obtain ⟨g, hg⟩ := hch
    have hlen : ((List.range len).map g).length = len := by simp
    have hget : ∀ i, i < len → ((List.range len).map g).getD i default = g i := fun i h => by simp [List.getD_eq_getElem?_getD, h]
    refine ⟨some a, cap, (List.range len).map g, by rw [hlen]; exact hcs, by rw [hlen]; exact hl, ⟨fun _ => rfl, fun h0 => ?_, fun i hi' j hj => ?_⟩, ?_, ?_⟩
    · have := World.block_lt_of_cell? w _ ((hg 0 (by omega)).2 0 (by decide))
      rwa [eA_block] at this
    · rw [hlen] at hi'
      rw [hget i hi']
      exact (hg i hi').2 j hj
    · intro r hr
      obtain ⟨i, hi', rfl⟩ := List.mem_map.1 hr
      exact (hg i (by simpa using hi')).1
    · rw [hlen]
      have := hs (len * 24 + (m - len) * 24) (by
        rw [show y.1 = _ from congrArg Prod.fst hx]
        simp [DataW.weights, ht, hb, Nat.add_mul])
      simp only [reachBytes] at this
      omega
end
section
variable {H : Type} {enc : TypeId × Value → H} {P : Program} {w : World} {base : Nat} {spare : Nat → Bool} {held : Bool} {r : Reach} {b0 : Nat} {v : Value} {d : DataW H} {p : List MemPlace}
theorem arg_ints {t e : TypeId} (ht : P.underlying t = some (.slice e)) (he : P.underlying e = some (.int .i64)) (hc : P.cellsOf e = 1) (hb : P.bytesOf e = 8)
    (hval : Value.okWide P w r b0 t v) (h : DataW.Trod enc P w base spare held t v d p) (hs : Sized P t d) :
    ∃ A c l, v = .slice A l.length c ∧ l.length ≤ c ∧ Ints (· < w.heap.size) w A l ∧ (∀ x ∈ l, I64 x) ∧ l.length ≤ 17592186043904 ∧ ((d = .nil ∧ l = []) ∨ ∃ elems spare, d = .slice elems spare ∧ elems.length = l.length) := by
  obtain ⟨a, n, c, rfl⟩ := okWide_slice ht hval
  obtain ⟨fuel, hf⟩ := h
  exact cell_ints ht he hc hb hf hs
/-- The closed facts on the type of machines. -/
structure TM (P : Program) (f0 f1 f2 f3 f4 : Field) (i e : TypeId) (g0 g1 g2 : Field) : Prop where
  one : oneCellFields P #[f0, f1, f2, f3, f4] = true
  u0 : P.underlying f0.type = some (.int .i64)
  u1 : P.underlying f1.type = some (.int .i64)
  u2 : P.underlying f2.type = some (.slice i)
  u4 : P.underlying f4.type = some (.slice i)
  ui : P.underlying i = some (.int .i64)
  ci : P.cellsOf i = 1
  bi : P.bytesOf i = 8
  u3 : P.underlying f3.type = some (.slice e)
  ue : P.underlying e = some (.struct #[g0, g1, g2])
  onee : oneCellFields P #[g0, g1, g2] = true
  ce : P.cellsOf e = 3
  be : P.bytesOf e = 24
  v0 : P.underlying g0.type = some (.int .i64)
  v1 : P.underlying g1.type = some (.int .i64)
  v2 : P.underlying g2.type = some (.int .i64)
/-- Its capacities. -/
structure MV.Caps (a : MV) (m : Mach) : Prop where
  s : m.starts.length ≤ a.cs
  a_ : m.arrows.length ≤ a.ca
  e : m.ends.length ≤ a.ce
theorem arg_mach {t : TypeId} {f0 f1 f2 f3 f4 : Field} {i e : TypeId} {g0 g1 g2 : Field} (hu : P.underlying t = some (.struct #[f0, f1, f2, f3, f4])) (hC : P.cellsOf t = 5) (T : TM P f0 f1 f2 f3 f4 i e g0 g1 g2)
    (hval : Value.okWide P w r b0 t v) (h : DataW.Trod enc P w base spare held t v d p) (hs : Sized P t d) :
    ∃ (a : MV) (m : Mach), v = a.val m ∧ IsM (· < w.heap.size) w a m ∧ m.Fits ∧ a.Caps m := by
  obtain ⟨v0, v1, v2, v3, v4, y0, y1, y2, y3, y4, n, rfl, rfl, _, t0, t1, t2, t3, t4⟩ := open_agg5 hu T.one hC hval h
  have hw : ∀ (j : Nat) (tj : TypeId) (dj : DataW H), [f0.type, f1.type, f2.type, f3.type, f4.type][j]? = some tj → [y0.1, y1.1, y2.1, y3.1, y4.1][j]? = some dj → Sized P tj dj := fun j tj dj ht hd x hx =>
    hs x (by simp only [DataW.weights, hu]; exact DataW.weights_mem_each ht hd x hx)
  obtain ⟨x0, rfl, w0⟩ := cell_int T.u0 t0
  obtain ⟨x1, rfl, w1⟩ := cell_int T.u1 t1
  obtain ⟨A2, c2, l2, rfl, k2, i2, b2, n2, _⟩ := cell_ints T.u2 T.ui T.ci T.bi t2 (hw 2 _ _ rfl rfl)
  obtain ⟨A3, c3, l3, rfl, k3, i3, b3, n3⟩ := cell_arrs T.u3 T.ue T.onee T.ce T.be T.v0 T.v1 T.v2 t3 (hw 3 _ _ rfl rfl)
  obtain ⟨A4, c4, l4, rfl, k4, i4, b4, n4, _⟩ := cell_ints T.u4 T.ui T.ci T.bi t4 (hw 4 _ _ rfl rfl)
  exact ⟨⟨A2, c2, A3, c3, A4, c4⟩, ⟨x0, x1, l2, l3, l4⟩, rfl, ⟨i2, i3, i4⟩, ⟨w0, w1, b2, b4, b3, n2, n4, n3⟩, ⟨k2, k3, k4⟩⟩
end
end

section
open Go.RowKit Go.ChangeShapes Go.WideShapes Go.Deep Go.Joins

/-- A plant: a machine, the events that are seen, the secret states. -/
structure Plt where
  m : Mach
  seen : List Int
  secret : List Int
structure PV where
  m : MV
  Ap : Option Addr
  cp : Nat
  Aq : Option Addr
  cq : Nat
abbrev PV.cells (a : PV) (p : Plt) : List Value := [.int .i64 p.m.states, .int .i64 p.m.events, .slice a.m.As p.m.starts.length a.m.cs, .slice a.m.Aa p.m.arrows.length a.m.ca, .slice a.m.Ae p.m.ends.length a.m.ce, .slice a.Ap p.seen.length a.cp, .slice a.Aq p.secret.length a.cq]
abbrev PV.val (a : PV) (p : Plt) : Value := .agg (a.cells p).toArray
structure IsP (ok : Nat → Prop) (w : World) (a : PV) (p : Plt) : Prop where
  m : IsM ok w a.m p.m
  seen : Ints ok w a.Ap p.seen
  secret : Ints ok w a.Aq p.secret
section
variable {u w : World} {ok ok' : Nat → Prop} {a : PV} {p : Plt}
theorem IsP.mono (h : IsP ok u a p) (hk : ∀ b, ok b → ok' b) : IsP ok' u a p := ⟨h.m.mono hk, h.seen.mono hk, h.secret.mono hk⟩
theorem IsP.keep (h : IsP ok u a p) (hk : ∀ b, ok b → w.heap[b]? = u.heap[b]?) : IsP ok w a p := ⟨h.m.keep hk, h.seen.keep hk, h.secret.keep hk⟩
theorem IsP.below {B : Nat} (h : IsP (· < B) u a p) (hb : Below B u w) : IsP (· < B) w a p := h.keep fun b hlt => hb.block b hlt
theorem IsP.same (h : IsP ok u a p) (k : Same u w) : IsP ok w a p := h.keep fun b _ => by rw [k.heap]
end
/-- What every plant that comes in keeps to. -/
structure Plt.Fits (p : Plt) : Prop where
  m : p.m.Fits
  seen : ∀ x ∈ p.seen, I64 x
  secret : ∀ x ∈ p.secret, I64 x
  lenP : p.seen.length ≤ 17592186043904
  lenQ : p.secret.length ≤ 17592186043904
structure PV.Caps (a : PV) (p : Plt) : Prop where
  m : a.m.Caps p.m
  kp : p.seen.length ≤ a.cp
  kq : p.secret.length ≤ a.cq
section
variable {H : Type} {enc : TypeId × Value → H} {P : Program} {w : World} {base : Nat} {spare : Nat → Bool} {held : Bool} {r : Reach} {b0 : Nat} {v : Value} {d : DataW H} {pl : List MemPlace}
theorem cells_mach {t : TypeId} {f0 f1 f2 f3 f4 : Field} {i e : TypeId} {g0 g1 g2 : Field} {n : Nat} {cs : List Value} {y : DataW H × List MemPlace} (hu : P.underlying t = some (.struct #[f0, f1, f2, f3, f4])) (hC : P.cellsOf t = 5) (T : TM P f0 f1 f2 f3 f4 i e g0 g1 g2)
    (h : DataW.trod enc P w base spare held n t cs = some y) (hs : Sized P t y.1) :
    ∃ (a : MV) (m : Mach), cs = a.cells m ∧ IsM (· < w.heap.size) w a m ∧ m.Fits ∧ a.Caps m := by
  obtain ⟨xs, n', _, hx, hl, hlen, hg⟩ := DataW.trod_struct hu h
  obtain ⟨o0, k0⟩ := hone_of T.one 0 f0 rfl
  obtain ⟨o1, k1⟩ := hone_of T.one 1 f1 rfl
  obtain ⟨o2, k2⟩ := hone_of T.one 2 f2 rfl
  obtain ⟨o3, k3⟩ := hone_of T.one 3 f3 rfl
  obtain ⟨o4, k4⟩ := hone_of T.one 4 f4 rfl
  match cs, hl.trans hC with
  | [v0, v1, v2, v3, v4], _ =>
  match xs, hlen with
  | [y0, y1, y2, y3, y4], _ =>
    subst hx
    have t0 : DataW.trod enc P w base spare held n' f0.type [v0] = some y0 := by simpa [o0, k0] using hg 0 f0 rfl
    have t1 : DataW.trod enc P w base spare held n' f1.type [v1] = some y1 := by simpa [o1, k1] using hg 1 f1 rfl
    have t2 : DataW.trod enc P w base spare held n' f2.type [v2] = some y2 := by simpa [o2, k2] using hg 2 f2 rfl
    have t3 : DataW.trod enc P w base spare held n' f3.type [v3] = some y3 := by simpa [o3, k3] using hg 3 f3 rfl
    have t4 : DataW.trod enc P w base spare held n' f4.type [v4] = some y4 := by simpa [o4, k4] using hg 4 f4 rfl
    have hw : ∀ (j : Nat) (tj : TypeId) (dj : DataW H), [f0.type, f1.type, f2.type, f3.type, f4.type][j]? = some tj → [y0.1, y1.1, y2.1, y3.1, y4.1][j]? = some dj → Sized P tj dj := fun j tj dj ht hd x hx =>
      hs x (by simp only [DataW.weights, hu]; exact DataW.weights_mem_each ht hd x hx)
    obtain ⟨x0, rfl, w0⟩ := cell_int T.u0 t0
    obtain ⟨x1, rfl, w1⟩ := cell_int T.u1 t1
    obtain ⟨A2, c2, l2, rfl, k2, i2, b2, n2, _⟩ := cell_ints T.u2 T.ui T.ci T.bi t2 (hw 2 _ _ rfl rfl)
    obtain ⟨A3, c3, l3, rfl, k3, i3, b3, n3⟩ := cell_arrs T.u3 T.ue T.onee T.ce T.be T.v0 T.v1 T.v2 t3 (hw 3 _ _ rfl rfl)
    obtain ⟨A4, c4, l4, rfl, k4, i4, b4, n4, _⟩ := cell_ints T.u4 T.ui T.ci T.bi t4 (hw 4 _ _ rfl rfl)
    exact ⟨⟨A2, c2, A3, c3, A4, c4⟩, ⟨x0, x1, l2, l3, l4⟩, rfl, ⟨i2, i3, i4⟩, ⟨w0, w1, b2, b4, b3, n2, n4, n3⟩, ⟨k2, k3, k4⟩⟩
/-- The closed facts on the type of plants. -/
structure TPl (P : Program) (p0 p1 p2 : Field) (i : TypeId) : Prop where
  o0 : p0.offset = 0
  o1 : p1.offset = 5
  o2 : p2.offset = 6
  c0 : P.cellsOf p0.type = 5
  c1 : P.cellsOf p1.type = 1
  c2 : P.cellsOf p2.type = 1
  u1 : P.underlying p1.type = some (.slice i)
  u2 : P.underlying p2.type = some (.slice i)
theorem arg_plant {t : TypeId} {p0 p1 p2 f0 f1 f2 f3 f4 : Field} {i e : TypeId} {g0 g1 g2 : Field} (hu : P.underlying t = some (.struct #[p0, p1, p2])) (hC : P.cellsOf t = 7) (hm : P.underlying p0.type = some (.struct #[f0, f1, f2, f3, f4]))
    (Q : TPl P p0 p1 p2 i) (T : TM P f0 f1 f2 f3 f4 i e g0 g1 g2)
    (hval : Value.okWide P w r b0 t v) (h : DataW.Trod enc P w base spare held t v d pl) (hs : Sized P t d) :
    ∃ (a : PV) (p : Plt), v = a.val p ∧ IsP (· < w.heap.size) w a p ∧ p.Fits ∧ a.Caps p := by
  obtain ⟨cs, rfl, hsz⟩ := okWide_struct hu hval
  obtain ⟨l⟩ := cs
  obtain ⟨fuel, hf⟩ := h
  obtain ⟨xs, n, _, hx, _, hlen, hg⟩ := DataW.trod_struct hu hf
  match l, hsz.trans hC with
  | [v0, v1, v2, v3, v4, v5, v6], _ =>
  match xs, hlen with
  | [y0, y1, y2], _ =>
    have hd : d = .agg [y0.1, y1.1, y2.1] := by simpa using congrArg Prod.fst hx
    subst hd
    have t0 : DataW.trod enc P w base spare held n p0.type [v0, v1, v2, v3, v4] = some y0 := by simpa [Value.cells, Q.o0, Q.c0] using hg 0 p0 rfl
    have t1 : DataW.trod enc P w base spare held n p1.type [v5] = some y1 := by simpa [Value.cells, Q.o1, Q.c1] using hg 1 p1 rfl
    have t2 : DataW.trod enc P w base spare held n p2.type [v6] = some y2 := by simpa [Value.cells, Q.o2, Q.c2] using hg 2 p2 rfl
    have hw : ∀ (j : Nat) (tj : TypeId) (dj : DataW H), [p0.type, p1.type, p2.type][j]? = some tj → [y0.1, y1.1, y2.1][j]? = some dj → Sized P tj dj := fun j tj dj ht hd x hx =>
      hs x (by simp only [DataW.weights, hu]; exact DataW.weights_mem_each ht hd x hx)
    obtain ⟨a, m, hcs, hM, hF, hK⟩ := cells_mach hm Q.c0 T t0 (hw 0 _ _ rfl rfl)
    obtain ⟨A5, c5, l5, rfl, k5, i5, b5, n5, _⟩ := cell_ints Q.u1 T.ui T.ci T.bi t1 (hw 1 _ _ rfl rfl)
    obtain ⟨A6, c6, l6, rfl, k6, i6, b6, n6, _⟩ := cell_ints Q.u2 T.ui T.ci T.bi t2 (hw 2 _ _ rfl rfl)
    simp only [MV.cells, List.cons.injEq, and_true] at hcs
    obtain ⟨rfl, rfl, rfl, rfl, rfl⟩ := hcs
    exact ⟨⟨a, A5, c5, A6, c6⟩, ⟨m, l5, l6⟩, rfl, ⟨hM, i5, i6⟩, ⟨hF, b5, b6, n5, n6⟩, ⟨hK, k5, k6⟩⟩
end
end
end Go.Proofs.YtcjedgiglimipaaDoor

/-
  Chapters 2 and 9: what unseen events lead to, where a plant may be: the program's Wide, Within, May, First, Next, Seen, Estimate, Tells: by their contracts.
-/
namespace Go.Proofs.YtcjedgiglimipaaDoor
set_option linter.unusedSimpArgs false
set_option linter.unusedVariables false
set_option linter.unusedSectionVars false
open Go.RowKit

theorem machine_Wide {w : World} {a : MV} {m : Mach} (ha : IsM (· < w.heap.size) w a m) (hm : m.May) {l : List Int} (hs : Small l) {A2 : Option Addr} {c2 : Nat} {seen : List Int} (h2 : Ints (· < w.heap.size) w A2 seen) (n2 : seen.length ≤ 17592186043904) :
    Cal Tryd.prog 104 [a.val m, setV l, .slice A2 seen.length c2] w fun v w' => v = setV (wideL m seen l) ∧ Below w.heap.size w w' := by
  have hr := May.arSmall hm
  have nA := hm.2.2.2.2.1
  have hE : ∀ e ∈ unE m seen, 0 ≤ e.2 ∧ e.2 < 256 := hr.eds (unA seen) false
  have hEE : eds (unA seen) false m.arrows = unE m seen := rfl
  refine cal_machine_Wide (by simp) 100000 fun Q hQ => ?_
  simp (disch := first | with_reducible assumption | omega) only [push_cast, x_blk, x_cd, ↓reduceIte, Nat.reduceEqDiff, List.map_cons, List.map_nil, Int.reduceEq, Int.lt_irrefl, F_machine_Wide]
  refine blk_of (box_agg _ (a.cells m)) ?_
  intro w1 kM b1 z1
  simp (disch := first | with_reducible assumption | omega) only [push_cast, x_blk, x_cd, ↓reduceIte, Nat.reduceEqDiff, List.map_cons, List.map_nil, Int.reduceEq, Int.lt_irrefl]
  refine blk_of (box_agg _ (setCells (wordsOf l))) ?_
  intro w2 k1 b2 z2
  replace kM := kM.below b2 kM.lt
  have bb := b1.trans (b2.mono b1.size)
  simp (disch := first | with_reducible assumption | omega) only [push_cast, x_blk, x_cd, ↓reduceIte, Nat.reduceEqDiff, List.map_cons, List.map_nil, Int.reduceEq, Int.lt_irrefl]
  refine blk_of (cs := setCells (wordsOf [])) al_76 ?_
  intro w3 k2 b3 z3
  replace kM := kM.below b3 kM.lt
  replace k1 := k1.below b3 k1.lt
  replace bb := bb.trans (b3.mono bb.size)
  simp (disch := first | with_reducible assumption | omega) only [push_cast, x_blk, x_cd, ↓reduceIte, Nat.reduceEqDiff, List.map_cons, List.map_nil, Int.reduceEq, Int.lt_irrefl, bl_set0]
  refine blk_of (cs := setCells (wordsOf [])) al_76 ?_
  intro w4 k3 b4 z4
  replace kM := kM.below b4 kM.lt
  replace k1 := k1.below b4 k1.lt
  replace k2 := k2.below b4 k2.lt
  replace bb := bb.trans (b4.mono bb.size)
  simp (disch := first | with_reducible assumption | omega) only [push_cast, x_blk, x_cd, ↓reduceIte, Nat.reduceEqDiff, List.map_cons, List.map_nil, Int.reduceEq, Int.lt_irrefl]
  refine sto_blk k3 (cs := setCells (wordsOf [])) (e4_set []) (by rw [setCells_4]) (setCells_one _) ?_
  intro w5 k4 g4 z5
  replace kM := kM.grown g4.by_ (by simp; omega)
  replace k1 := k1.grown g4.by_ (by simp; omega)
  replace k2 := k2.grown g4.by_ (by simp; omega)
  replace bb := g4.below bb bb.size (by intro a ha; injection ha with ha; subst ha; show w.heap.size ≤ w3.heap.size; omega)
  simp (disch := first | with_reducible assumption | omega) only [push_cast, x_blk, x_cd, ↓reduceIte, Nat.reduceEqDiff, List.map_cons, List.map_nil, Int.reduceEq, Int.lt_irrefl]
  refine loop_ix (fun n f' w' => ∃ (g : Nat) (was l' : List Int), n = left was l' ∧ (f' 2 = .slice A2 seen.length c2 ∧ f' 3 = .pointer (some ⟨w.heap.size, 0, none⟩) ∧ f' 4 = .pointer (some ⟨w1.heap.size, 0, none⟩) ∧ f' 6 = .pointer (some ⟨w2.heap.size, 0, none⟩) ∧ f' 7 = .pointer (some ⟨g, 0, none⟩)) ∧
      Spread (unE m seen) l was l' ∧ w2.heap.size < g ∧ Blk w' w.heap.size 25 (a.cells m) ∧ Blk w' w1.heap.size 76 (setCells (wordsOf l')) ∧ Blk w' w2.heap.size 76 (setCells (wordsOf [])) ∧ Blk w' g 76 (setCells (wordsOf was)) ∧ Below w.heap.size w w')
    (n0 := left [] l) ⟨w3.heap.size, [], l, rfl, ⟨rfl, rfl, rfl, rfl, rfl⟩, Spread.start _ hs, by omega, kM, k1, k2, k4, bb⟩ ?_
  clear kM k1 k2 k4 bb g4
  rintro _ f w5 ⟨g, was, l', rfl, fr, hS, hg, kM, k1, k2, k3, bb⟩ J hJ
  have zb := bb.size
  by_cases hw : wordsOf was = wordsOf l'
  · simp (disch := first | with_reducible assumption | omega) only [push_cast, x_blk, x_cd, ↓reduceIte, Nat.reduceEqDiff, List.map_cons, List.map_nil, Int.reduceEq, Int.lt_irrefl, L_machine_Wide_1, fr, neq_set, decide_eq_true hw, k1.setA (wordsOf_words _) ty_ag_76 ty_sz_76, k3.setA (wordsOf_words _) ty_ag_76 ty_sz_76]
    refine sto_blk k2 (cs := setCells (wordsOf l')) (e4_set l') (by rw [setCells_4, setCells_4]) (setCells_one _) ?_
    intro w6 k6 g6 z6
    simp (disch := first | with_reducible assumption | omega) only [push_cast, x_blk, x_cd, ↓reduceIte, Nat.reduceEqDiff, List.map_cons, List.map_nil, Int.reduceEq, Int.lt_irrefl]
    exact fin_cell k6 ty_ag_76 (e4_set l') (by simp only [push_cast, ↓reduceIte, Nat.reduceEqDiff, true_and, and_true, and_self, eq_self, fr]) (hQ _ _ ⟨hS.done hw, g6.below bb bb.size (by intro a ha; injection ha with ha; subst ha; show w.heap.size ≤ w2.heap.size; omega)⟩)
  have hlt := left_lt hS.small hE hw
  have hnx := hS.next hE
  simp (disch := first | with_reducible assumption | omega) only [push_cast, x_blk, x_cd, ↓reduceIte, Nat.reduceEqDiff, List.map_cons, List.map_nil, Int.reduceEq, Int.lt_irrefl, L_machine_Wide_1, fr, neq_set, decide_eq_false hw, k1.setA (wordsOf_words _) ty_ag_76 ty_sz_76, k3.setA (wordsOf_words _) ty_ag_76 ty_sz_76]
  refine sto_blk k3 (cs := setCells (wordsOf l')) (e4_set l') (by rw [setCells_4, setCells_4]) (setCells_one _) ?_
  intro w6 k6 g6 z6
  replace kM := kM.grown g6.by_ (by simp; omega)
  replace k1 := k1.grown g6.by_ (by simp; omega)
  replace k2 := k2.grown g6.by_ (by simp; omega)
  replace bb := g6.below bb bb.size (by intro a ha; injection ha with ha; subst ha; show w.heap.size ≤ g; omega)
  simp (disch := first | with_reducible assumption | omega) only [push_cast, x_blk, x_cd, ↓reduceIte, Nat.reduceEqDiff, List.map_cons, List.map_nil, Int.reduceEq, Int.lt_irrefl, fr, kM.m3 ty_ag_23]
  refine loop_rule (fun f' w' => ∃ k : Nat, k ≤ m.arrows.length ∧ (f' 2 = .slice A2 seen.length c2 ∧ f' 3 = .pointer (some ⟨w.heap.size, 0, none⟩) ∧ f' 4 = .pointer (some ⟨w1.heap.size, 0, none⟩) ∧ f' 6 = .pointer (some ⟨w2.heap.size, 0, none⟩) ∧ f' 7 = .pointer (some ⟨g, 0, none⟩) ∧ f' 16 = .slice a.Aa m.arrows.length a.ca ∧ f' 17 = .int .i64 m.arrows.length ∧ f' 18 = .int .i64 k) ∧
      Blk w' w.heap.size 25 (a.cells m) ∧ Blk w' w1.heap.size 76 (setCells (wordsOf (passK (unA seen) false m.arrows l' k))) ∧ Blk w' w2.heap.size 76 (setCells (wordsOf [])) ∧ Blk w' g 76 (setCells (wordsOf l')) ∧ Below w.heap.size w w')
    (fun f' _ => m.arrows.length - (intOf (f' 18)).toNat) ⟨0, Nat.zero_le _, (by simp only [push_cast, ↓reduceIte, Nat.reduceEqDiff, true_and, and_true, and_self, eq_self, fr]), kM, k1, k2, k6, bb⟩ ?_
  clear kM k1 k2 k6 bb fr
  rintro f w7 ⟨k, hk, fr, kM, k1, k2, k3, bb⟩ J2 hJ2
  have zb := bb.size
  by_cases hlt2 : k < m.arrows.length
  case neg =>
    obtain rfl : k = m.arrows.length := by omega
    rw [passK_all, hEE] at k1
    simp (disch := first | with_reducible assumption | omega) only [push_cast, x_blk, x_cd, ↓reduceIte, Nat.reduceEqDiff, List.map_cons, List.map_nil, Int.reduceEq, Int.lt_irrefl, L_machine_Wide_0, fr, Nat.lt_irrefl, k3.setA (wordsOf_words _) ty_ag_76 ty_sz_76]
    refine blk_of (cs := setCells (wordsOf [])) al_76 ?_
    intro w8 k8 b8 z8
    have lM := kM.lt
    have l1 := k1.lt
    have l2 := k2.lt
    replace kM := kM.below b8 kM.lt
    replace k1 := k1.below b8 k1.lt
    replace k2 := k2.below b8 k2.lt
    replace bb := bb.trans (b8.mono bb.size)
    simp (disch := first | with_reducible assumption | omega) only [push_cast, x_blk, x_cd, ↓reduceIte, Nat.reduceEqDiff, List.map_cons, List.map_nil, Int.reduceEq, Int.lt_irrefl, fr]
    refine sto_blk k8 (cs := setCells (wordsOf l')) (e4_set l') (by rw [setCells_4, setCells_4]) (setCells_one _) ?_
    intro w9 k9 g9 z9
    replace kM := kM.grown g9.by_ (by simp; omega)
    replace k1 := k1.grown g9.by_ (by simp; omega)
    replace k2 := k2.grown g9.by_ (by simp; omega)
    replace bb := g9.below bb bb.size (by intro a ha; injection ha with ha; subst ha; exact zb)
    simp (disch := first | with_reducible assumption | omega) only [push_cast, x_blk, x_cd, ↓reduceIte, Nat.reduceEqDiff, List.map_cons, List.map_nil, Int.reduceEq, Int.lt_irrefl, fr]
    exact hJ _ _ _ ⟨w7.heap.size, l', passL (unE m seen) l', rfl, (by simp only [push_cast, ↓reduceIte, Nat.reduceEqDiff, true_and, and_true, and_self, eq_self, fr]), hnx, by omega, kM, k1, k2, k9, bb⟩ hlt
  have hI := (ha.below bb).arrows
  have hA := hI.isSome (by omega)
  have hsn := passK_succ (unA seen) false m.arrows l' k hlt2
  have hym := getD_mem m.arrows default k hlt2
  simp (disch := first | with_reducible assumption | omega) only [push_cast, x_blk, x_cd, ↓reduceIte, Nat.reduceEqDiff, List.map_cons, List.map_nil, Int.reduceEq, Int.lt_irrefl, L_machine_Wide_0, fr, hlt2, hI.ldA ty_ag_85 ty_sz_85]
  refine blk_of al_85 ?_
  intro w8 k8 b8 z8
  simp (disch := first | with_reducible assumption | omega) only [push_cast, x_blk, x_cd, ↓reduceIte, Nat.reduceEqDiff, List.map_cons, List.map_nil, Int.reduceEq, Int.lt_irrefl]
  refine sto_blk k8 (cs := arrCells (m.arrows.getD k default)) ty_sz_85 rfl (by simp [arrCells, Value.oneCell']) ?_
  intro w9 k9 g9 z9
  generalize hy : m.arrows.getD k default = y at *
  obtain ⟨hyf, hyt⟩ := hr y hym
  have b9 : Below w7.heap.size w7 w9 := g9.below b8 (by omega) (by intro a ha; injection ha with ha; subst ha; exact Nat.le_refl _)
  have l1 := k1.lt
  replace kM := kM.below b9 kM.lt
  replace k1 := k1.below b9 k1.lt
  replace k2 := k2.below b9 k2.lt
  replace k3 := k3.below b9 k3.lt
  replace bb := bb.trans (b9.mono bb.size)
  simp (disch := first | with_reducible assumption | omega) only [push_cast, x_blk, x_cd, ↓reduceIte, Nat.reduceEqDiff, List.map_cons, List.map_nil, Int.reduceEq, Int.lt_irrefl, fr, k9.a0 ty_ag_3, k1.setA (wordsOf_words _) ty_ag_76 ty_sz_76]
  refine call_of (set_Has' _ y.frm hyf.1 hyf.2 _) ?_
  rintro v w10 ⟨rfl, b10⟩
  replace kM := kM.below b10 kM.lt
  replace k1 := k1.below b10 k1.lt
  replace k2 := k2.below b10 k2.lt
  replace k3 := k3.below b10 k3.lt
  replace k9 := k9.below b10 k9.lt
  replace bb := bb.trans (b10.mono bb.size)
  by_cases q2 : y.frm ∈ passK (unA seen) false m.arrows l' k
  case neg =>
    rw [if_neg (fun hh => q2 hh.2)] at hsn
    simp (disch := first | with_reducible assumption | omega) only [push_cast, x_blk, x_cd, ↓reduceIte, Nat.reduceEqDiff, List.map_cons, List.map_nil, Int.reduceEq, Int.lt_irrefl, fr, decide_eq_false q2]
    exact hJ2 _ _ ⟨k + 1, hlt2, (by simp only [push_cast, ↓reduceIte, Nat.reduceEqDiff, true_and, and_true, and_self, eq_self, fr]), kM, by rw [hsn]; exact k1, k2, k3, bb⟩ (by simp only [push_cast, ↓reduceIte, Nat.reduceEqDiff, intOf, fr]; omega)
  simp (disch := first | with_reducible assumption | omega) only [push_cast, x_blk, x_cd, ↓reduceIte, Nat.reduceEqDiff, List.map_cons, List.map_nil, Int.reduceEq, Int.lt_irrefl, fr, decide_eq_true q2, k9.a1 ty_ag_3]
  refine call_of (row_Has (h2.below bb) c2 y.evt (by omega)) ?_
  rintro v w11 ⟨rfl, s11⟩
  replace kM := kM.same s11
  replace k1 := k1.same s11
  replace k2 := k2.same s11
  replace k3 := k3.same s11
  replace k9 := k9.same s11
  replace bb := bb.trans (s11.below _)
  by_cases q3 : y.evt ∈ seen
  · rw [if_neg (fun hh => by have := hh.1; simp [unA, q3] at this)] at hsn
    simp (disch := first | with_reducible assumption | omega) only [push_cast, x_blk, x_cd, ↓reduceIte, Nat.reduceEqDiff, List.map_cons, List.map_nil, Int.reduceEq, Int.lt_irrefl, fr, decide_eq_true q3]
    exact hJ2 _ _ ⟨k + 1, hlt2, (by simp only [push_cast, ↓reduceIte, Nat.reduceEqDiff, true_and, and_true, and_self, eq_self, fr]), kM, by rw [hsn]; exact k1, k2, k3, bb⟩ (by simp only [push_cast, ↓reduceIte, Nat.reduceEqDiff, intOf, fr]; omega)
  rw [if_pos ⟨by simp [unA, q3], q2⟩] at hsn
  simp (disch := first | with_reducible assumption | omega) only [push_cast, x_blk, x_cd, ↓reduceIte, Nat.reduceEqDiff, List.map_cons, List.map_nil, Int.reduceEq, Int.lt_irrefl, fr, decide_eq_false q3, k9.a2 ty_ag_3]
  refine call_of (set_Add' y.to_ hyt.1 hyt.2 k1) ?_
  rintro v w12 ⟨rfl, k12, g12, z12⟩
  simp (disch := first | with_reducible assumption | omega) only [push_cast, x_blk, x_cd, ↓reduceIte, Nat.reduceEqDiff, List.map_cons, List.map_nil, Int.reduceEq, Int.lt_irrefl, fr]
  exact hJ2 _ _ ⟨k + 1, hlt2, (by simp only [push_cast, ↓reduceIte, Nat.reduceEqDiff, true_and, and_true, and_self, eq_self, fr]), kM.grown g12.by_ (by simp; omega), by rw [hsn]; exact k12, k2.grown g12.by_ (by simp; omega), k3.grown g12.by_ (by simp; omega), g12.below bb bb.size (by intro a ha; injection ha with ha; subst ha; show w.heap.size ≤ w1.heap.size; omega)⟩ (by simp only [push_cast, ↓reduceIte, Nat.reduceEqDiff, intOf, fr]; omega)

section
variable {K : Fr → World → Prop} {u w : World} {f : Fr} {d : Option Nat} {g t : Nat} {a : PV} {p : Plt}
theorem Blk.pM (h : Blk u g t (a.cells p)) : Val1 Tryd.prog K (Instr.loadAt 25 (.pointer (some ⟨g, 0, none⟩))) u f d w = K (updO f d (a.m.val p.m)) w :=
  h.ldSub ty_ag_25 0 (vs := a.m.cells p.m) ty_sz_25 fun k v hv => by
    match k, hv with
    | 0, hv => exact hv
    | 1, hv => exact hv
    | 2, hv => exact hv
    | 3, hv => exact hv
    | 4, hv => exact hv
    | k + 5, hv => simp at hv
theorem Blk.pA' (h : Blk u g t (a.cells p)) : Val1 Tryd.prog K (Instr.loadAt 43 (.pointer (some ⟨g, 0, none⟩))) u f d w = K (updO f d (a.val p)) w := h.ldAll ty_ag_43 ty_sz_43
theorem Blk.p0 (h : Blk u g t (a.cells p)) : Val1 Tryd.prog K (Instr.loadAt 3 (.pointer (some ⟨g, 0, none⟩))) u f d w = K (updO f d (.int .i64 p.m.states)) w := h.ld ty_ag_3 0 (by simp)
theorem Blk.p1 (h : Blk u g t (a.cells p)) : Val1 Tryd.prog K (Instr.loadAt 3 (.pointer (some ⟨g, 1, none⟩))) u f d w = K (updO f d (.int .i64 p.m.events)) w := h.ld ty_ag_3 1 (by simp)
theorem Blk.p2 (h : Blk u g t (a.cells p)) : Val1 Tryd.prog K (Instr.loadAt 22 (.pointer (some ⟨g, 2, none⟩))) u f d w = K (updO f d (.slice a.m.As p.m.starts.length a.m.cs)) w := h.ld ty_ag_22 2 (by simp)
theorem Blk.p3 (h : Blk u g t (a.cells p)) : Val1 Tryd.prog K (Instr.loadAt 23 (.pointer (some ⟨g, 3, none⟩))) u f d w = K (updO f d (.slice a.m.Aa p.m.arrows.length a.m.ca)) w := h.ld ty_ag_23 3 (by simp)
theorem Blk.p5 (h : Blk u g t (a.cells p)) : Val1 Tryd.prog K (Instr.loadAt 22 (.pointer (some ⟨g, 5, none⟩))) u f d w = K (updO f d (.slice a.Ap p.seen.length a.cp)) w := h.ld ty_ag_22 5 (by simp)
theorem Blk.p6 (h : Blk u g t (a.cells p)) : Val1 Tryd.prog K (Instr.loadAt 22 (.pointer (some ⟨g, 6, none⟩))) u f d w = K (updO f d (.slice a.Aq p.secret.length a.cq)) w := h.ld ty_ag_22 6 (by simp)
end
theorem IsP.up {w w' : World} {a : PV} {p : Plt} (h : IsP (· < w.heap.size) w a p) (b : Below w.heap.size w w') : IsP (· < w'.heap.size) w' a p := (h.below b).mono fun _ hl => Nat.lt_of_lt_of_le hl b.size
def Plt.May (p : Plt) : Prop := p.m.May ∧ p.m.states ≤ 6 ∧ IsRow p.seen p.m.events ∧ IsRow p.secret p.m.states
instance (p : Plt) : Decidable p.May := inferInstanceAs (Decidable (_ ∧ _))
theorem current_May {w : World} {a : PV} {p : Plt} (ha : IsP (· < w.heap.size) w a p) (hf : p.Fits) :
    Cal Tryd.prog 68 [a.val p] w fun v w' => v = .bool (decide p.May) ∧ Below w.heap.size w w' := by
  have nP := hf.lenP
  have nQ := hf.lenQ
  refine cal_current_May (by simp) 100000 fun Q hQ => ?_
  simp (disch := first | with_reducible assumption | omega) only [push_cast, x_blk, x_cd, ↓reduceIte, Nat.reduceEqDiff, List.map_cons, List.map_nil, Int.reduceEq, Int.lt_irrefl, F_current_May]
  refine blk_of (box_agg _ (a.cells p)) ?_
  intro w1 k1 b1 z1
  simp (disch := first | with_reducible assumption | omega) only [push_cast, x_blk, x_cd, ↓reduceIte, Nat.reduceEqDiff, List.map_cons, List.map_nil, Int.reduceEq, Int.lt_irrefl, k1.pM]
  refine call_of (machine_May (ha.up b1).m hf.m) ?_
  rintro v w2 ⟨rfl, b2⟩
  have k2 := k1.below b2 k1.lt
  have bb := b1.trans (b2.mono b1.size)
  by_cases p1 : p.m.May
  case neg =>
    simp (disch := first | with_reducible assumption | omega) only [push_cast, x_blk, x_cd, ↓reduceIte, Nat.reduceEqDiff, List.map_cons, List.map_nil, Int.reduceEq, Int.lt_irrefl, decide_eq_false p1]
    have r : decide p.May = false := decide_eq_false fun hh => p1 hh.1
    exact fin_1 (hQ _ _ ⟨(by simp only [push_cast, ↓reduceIte, Nat.reduceEqDiff, Int.reduceEq, r]), bb⟩)
  by_cases p2 : p.m.states ≤ 6
  case neg =>
    simp (disch := first | with_reducible assumption | omega) only [push_cast, x_blk, x_cd, ↓reduceIte, Nat.reduceEqDiff, List.map_cons, List.map_nil, Int.reduceEq, Int.lt_irrefl, decide_eq_true p1, p2, k2.p0]
    have r : decide p.May = false := decide_eq_false fun hh => p2 hh.2.1
    exact fin_1 (hQ _ _ ⟨(by simp only [push_cast, ↓reduceIte, Nat.reduceEqDiff, Int.reduceEq, r]), bb⟩)
  simp (disch := first | with_reducible assumption | omega) only [push_cast, x_blk, x_cd, ↓reduceIte, Nat.reduceEqDiff, List.map_cons, List.map_nil, Int.reduceEq, Int.lt_irrefl, decide_eq_true p1, p2, k2.p0, k2.p1, k2.p5]
  refine call_of (row_Is (ha.up bb).seen a.cp p.m.events (by omega)) ?_
  rintro v w3 ⟨rfl, s3⟩
  replace k2 := k2.same s3
  replace bb := bb.trans (s3.below _)
  by_cases p3 : IsRow p.seen p.m.events
  case neg =>
    simp (disch := first | with_reducible assumption | omega) only [push_cast, x_blk, x_cd, ↓reduceIte, Nat.reduceEqDiff, List.map_cons, List.map_nil, Int.reduceEq, Int.lt_irrefl, decide_eq_false p3]
    have r : decide p.May = false := decide_eq_false fun hh => p3 hh.2.2.1
    exact fin_1 (hQ _ _ ⟨(by simp only [push_cast, ↓reduceIte, Nat.reduceEqDiff, Int.reduceEq, r]), bb⟩)
  simp (disch := first | with_reducible assumption | omega) only [push_cast, x_blk, x_cd, ↓reduceIte, Nat.reduceEqDiff, List.map_cons, List.map_nil, Int.reduceEq, Int.lt_irrefl, decide_eq_true p3, k2.p0, k2.p6]
  refine call_of (row_Is (ha.up bb).secret a.cq p.m.states (by omega)) ?_
  rintro v w4 ⟨rfl, s4⟩
  replace bb := bb.trans (s4.below _)
  have r : decide p.May = decide (IsRow p.secret p.m.states) := decide_eq_decide.2 ⟨fun h => h.2.2.2, fun h => ⟨p1, p2, p3, h⟩⟩
  simp (disch := first | with_reducible assumption | omega) only [push_cast, x_blk, x_cd, ↓reduceIte, Nat.reduceEqDiff, List.map_cons, List.map_nil, Int.reduceEq, Int.lt_irrefl]
  exact fin_1 (hQ _ _ ⟨(by simp only [push_cast, ↓reduceIte, Nat.reduceEqDiff, Int.reduceEq, r]), bb⟩)
theorem ref9_May {w : World} {a : PV} {p : Plt} (ha : IsP (· < w.heap.size) w a p) (hf : p.Fits) :
    Cal Tryd.prog 31 [a.val p] w fun v w' => v = .bool (decide p.May) ∧ Below w.heap.size w w' := by
  have nP := hf.lenP
  have nQ := hf.lenQ
  refine cal_ref9_May (by simp) 100000 fun Q hQ => ?_
  simp (disch := first | with_reducible assumption | omega) only [push_cast, x_blk, x_cd, ↓reduceIte, Nat.reduceEqDiff, List.map_cons, List.map_nil, Int.reduceEq, Int.lt_irrefl, F_ref9_May]
  refine blk_of (box_agg _ (a.cells p)) ?_
  intro w1 k1 b1 z1
  simp (disch := first | with_reducible assumption | omega) only [push_cast, x_blk, x_cd, ↓reduceIte, Nat.reduceEqDiff, List.map_cons, List.map_nil, Int.reduceEq, Int.lt_irrefl, k1.pM]
  refine blk_of (cs := mv0.cells mach0) al_25 ?_
  intro w2 km b2 z2
  have k2 := k1.below b2 k1.lt
  have bb := b1.trans (b2.mono b1.size)
  simp (disch := first | with_reducible assumption | omega) only [push_cast, x_blk, x_cd, ↓reduceIte, Nat.reduceEqDiff, List.map_cons, List.map_nil, Int.reduceEq, Int.lt_irrefl]
  refine sto_mach km rfl a.m p.m ?_
  intro w3 km g3 z3
  have b3 := g3.below bb bb.size (by intro a ha; injection ha with ha; subst ha; show w.heap.size ≤ w1.heap.size; omega)
  replace k2 := k2.grown g3.by_ (by simp; omega)
  replace bb := b3
  simp (disch := first | with_reducible assumption | omega) only [push_cast, x_blk, x_cd, ↓reduceIte, Nat.reduceEqDiff, List.map_cons, List.map_nil, Int.reduceEq, Int.lt_irrefl, km.mA ty_ag_25 ty_sz_25]
  refine call_of (ref2_May (ha.up bb).m hf.m) ?_
  rintro v w4 ⟨rfl, b4⟩
  replace k2 := k2.below b4 k2.lt
  replace km := km.below b4 km.lt
  replace bb := bb.trans (b4.mono bb.size)
  by_cases p1 : p.m.May
  case neg =>
    simp (disch := first | with_reducible assumption | omega) only [push_cast, x_blk, x_cd, ↓reduceIte, Nat.reduceEqDiff, List.map_cons, List.map_nil, Int.reduceEq, Int.lt_irrefl, decide_eq_false p1]
    have r : decide p.May = false := decide_eq_false fun hh => p1 hh.1
    exact fin_1 (hQ _ _ ⟨(by simp only [push_cast, ↓reduceIte, Nat.reduceEqDiff, Int.reduceEq, r]), bb⟩)
  by_cases p2 : p.m.states ≤ 6
  case neg =>
    simp (disch := first | with_reducible assumption | omega) only [push_cast, x_blk, x_cd, ↓reduceIte, Nat.reduceEqDiff, List.map_cons, List.map_nil, Int.reduceEq, Int.lt_irrefl, decide_eq_true p1, p2, km.m0 ty_ag_3]
    have r : decide p.May = false := decide_eq_false fun hh => p2 hh.2.1
    exact fin_1 (hQ _ _ ⟨(by simp only [push_cast, ↓reduceIte, Nat.reduceEqDiff, Int.reduceEq, r]), bb⟩)
  simp (disch := first | with_reducible assumption | omega) only [push_cast, x_blk, x_cd, ↓reduceIte, Nat.reduceEqDiff, List.map_cons, List.map_nil, Int.reduceEq, Int.lt_irrefl, decide_eq_true p1, p2, km.m0 ty_ag_3, km.m1 ty_ag_3, k2.p5]
  refine call_of (ref1_Is (ha.up bb).seen a.cp p.m.events (by omega)) ?_
  rintro v w5 ⟨rfl, s3⟩
  replace k2 := k2.same s3
  replace km := km.same s3
  replace bb := bb.trans (s3.below _)
  by_cases p3 : IsRow p.seen p.m.events
  case neg =>
    simp (disch := first | with_reducible assumption | omega) only [push_cast, x_blk, x_cd, ↓reduceIte, Nat.reduceEqDiff, List.map_cons, List.map_nil, Int.reduceEq, Int.lt_irrefl, decide_eq_false p3]
    have r : decide p.May = false := decide_eq_false fun hh => p3 hh.2.2.1
    exact fin_1 (hQ _ _ ⟨(by simp only [push_cast, ↓reduceIte, Nat.reduceEqDiff, Int.reduceEq, r]), bb⟩)
  simp (disch := first | with_reducible assumption | omega) only [push_cast, x_blk, x_cd, ↓reduceIte, Nat.reduceEqDiff, List.map_cons, List.map_nil, Int.reduceEq, Int.lt_irrefl, decide_eq_true p3, km.m0 ty_ag_3, k2.p6]
  refine call_of (ref1_Is (ha.up bb).secret a.cq p.m.states (by omega)) ?_
  rintro v w6 ⟨rfl, s4⟩
  replace bb := bb.trans (s4.below _)
  have r : decide p.May = decide (IsRow p.secret p.m.states) := decide_eq_decide.2 ⟨fun h => h.2.2.2, fun h => ⟨p1, p2, p3, h⟩⟩
  simp (disch := first | with_reducible assumption | omega) only [push_cast, x_blk, x_cd, ↓reduceIte, Nat.reduceEqDiff, List.map_cons, List.map_nil, Int.reduceEq, Int.lt_irrefl]
  exact fin_1 (hQ _ _ ⟨(by simp only [push_cast, ↓reduceIte, Nat.reduceEqDiff, Int.reduceEq, r]), bb⟩)

noncomputable def firstP (p : Plt) : List Int := wideL p.m p.seen p.m.starts
noncomputable abbrev nextP (p : Plt) : List Int → Int → List Int := seeL p.m p.seen
theorem firstP_row {p : Plt} (h : p.m.May) : IsRow (firstP p) p.m.states := wideL_row h (row_range (may_starts h))
theorem current_First {w : World} {a : PV} {p : Plt} (ha : IsP (· < w.heap.size) w a p) (hf : p.Fits) (hm : p.m.May) :
    Cal Tryd.prog 71 [a.val p] w fun v w' => v = setV (firstP p) ∧ Below w.heap.size w w' := by
  have hst : p.m.states ≤ 256 := hm.2.1
  refine cal_current_First (by simp) 100000 fun Q hQ => ?_
  simp (disch := first | with_reducible assumption | omega) only [push_cast, x_blk, x_cd, ↓reduceIte, Nat.reduceEqDiff, List.map_cons, List.map_nil, Int.reduceEq, Int.lt_irrefl, F_current_First]
  refine blk_of (box_agg _ (a.cells p)) ?_
  intro w1 k1 b1 z1
  simp (disch := first | with_reducible assumption | omega) only [push_cast, x_blk, x_cd, ↓reduceIte, Nat.reduceEqDiff, List.map_cons, List.map_nil, Int.reduceEq, Int.lt_irrefl]
  refine blk_of (cs := setCells (wordsOf [])) al_76 ?_
  intro w2 k2 b2 z2
  replace k1 := k1.below b2 k1.lt
  have bb := b1.trans (b2.mono b1.size)
  have sd : Same w2 w2.drew := (Same.refl w2).drew
  replace k1 := k1.same sd
  replace k2 := k2.same sd
  replace bb := bb.trans (sd.below _)
  generalize hu : w2.drew = u at *
  simp (disch := first | with_reducible assumption | omega) only [push_cast, x_blk, x_cd, ↓reduceIte, Nat.reduceEqDiff, List.map_cons, List.map_nil, Int.reduceEq, Int.lt_irrefl, hu, k1.pM, k1.p2, k1.p5]
  refine call_of (machine_Of' (ha.up bb).m.starts _ hf.m.lenS ((may_starts hm).small hst)) ?_
  rintro v w3 ⟨rfl, b3⟩
  have bb3 := bb.trans (b3.mono bb.size)
  simp (disch := first | with_reducible assumption | omega) only [push_cast, x_blk, x_cd, ↓reduceIte, Nat.reduceEqDiff, List.map_cons, List.map_nil, Int.reduceEq, Int.lt_irrefl]
  refine ⟨b3, ?_⟩
  refine call_of (machine_Wide (ha.up bb3).m hm ((may_starts hm).small hst) (ha.up bb3).seen hf.lenP) ?_
  rintro v w4 ⟨rfl, b4⟩
  replace b3 := b3.trans (b4.mono b3.size)
  have bb4 := bb.trans (b3.mono bb.size)
  simp (disch := first | with_reducible assumption | omega) only [push_cast, x_blk, x_cd, ↓reduceIte, Nat.reduceEqDiff, List.map_cons, List.map_nil, Int.reduceEq, Int.lt_irrefl]
  refine ⟨b3, ?_⟩
  refine sto_blk (k2.below b3 k2.lt) (cs := setCells (wordsOf (firstP p))) (e4_set _) (by rw [setCells_4, setCells_4]) (setCells_one _) ?_
  intro w5 k5 g5 z5
  simp (disch := first | with_reducible assumption | omega) only [push_cast, x_blk, x_cd, ↓reduceIte, Nat.reduceEqDiff, List.map_cons, List.map_nil, Int.reduceEq, Int.lt_irrefl]
  exact fin_cell k5 ty_ag_76 (e4_set _) (by simp only [push_cast, ↓reduceIte, Nat.reduceEqDiff, Int.reduceEq]) (hQ _ _ ⟨rfl, g5.below bb4 bb4.size (by intro a ha; injection ha with ha; subst ha; show w.heap.size ≤ w1.heap.size; omega)⟩)
theorem current_Next {w : World} {a : PV} {p : Plt} (ha : IsP (· < w.heap.size) w a p) (hf : p.Fits) (hm : p.m.May) (s : List Int) (e : Int) :
    Cal Tryd.prog 106 [a.val p, setV s, .int .i64 e] w fun v w' => v = setV (nextP p s e) ∧ Below w.heap.size w w' := by
  have hst : p.m.states ≤ 256 := hm.2.1
  refine cal_current_Next (by simp) 100000 fun Q hQ => ?_
  simp (disch := first | with_reducible assumption | omega) only [push_cast, x_blk, x_cd, ↓reduceIte, Nat.reduceEqDiff, List.map_cons, List.map_nil, Int.reduceEq, Int.lt_irrefl, F_current_Next]
  refine blk_of (box_agg _ (a.cells p)) ?_
  intro w1 k1 b1 z1
  simp (disch := first | with_reducible assumption | omega) only [push_cast, x_blk, x_cd, ↓reduceIte, Nat.reduceEqDiff, List.map_cons, List.map_nil, Int.reduceEq, Int.lt_irrefl]
  refine blk_of (box_agg _ (setCells (wordsOf s))) ?_
  intro w2 ks b2 z2
  replace k1 := k1.below b2 k1.lt
  have bb := b1.trans (b2.mono b1.size)
  simp (disch := first | with_reducible assumption | omega) only [push_cast, x_blk, x_cd, ↓reduceIte, Nat.reduceEqDiff, List.map_cons, List.map_nil, Int.reduceEq, Int.lt_irrefl]
  refine blk_of (cs := setCells (wordsOf [])) al_76 ?_
  intro w3 k2 b3 z3
  replace k1 := k1.below b3 k1.lt
  replace ks := ks.below b3 ks.lt
  replace bb := bb.trans (b3.mono bb.size)
  have sd : Same w3 w3.drew := (Same.refl w3).drew
  replace k1 := k1.same sd
  replace ks := ks.same sd
  replace k2 := k2.same sd
  replace bb := bb.trans (sd.below _)
  generalize hu : w3.drew = u at *
  simp (disch := first | with_reducible assumption | omega) only [push_cast, x_blk, x_cd, ↓reduceIte, Nat.reduceEqDiff, List.map_cons, List.map_nil, Int.reduceEq, Int.lt_irrefl, hu, k1.pM, k1.p5, ks.setA (wordsOf_words _) ty_ag_76 ty_sz_76]
  refine call_of (machine_Step (ha.up bb).m hm s e) ?_
  rintro v w4 ⟨rfl, b4⟩
  have bb4 := bb.trans (b4.mono bb.size)
  simp (disch := first | with_reducible assumption | omega) only [push_cast, x_blk, x_cd, ↓reduceIte, Nat.reduceEqDiff, List.map_cons, List.map_nil, Int.reduceEq, Int.lt_irrefl]
  refine ⟨b4, ?_⟩
  refine call_of (machine_Wide (ha.up bb4).m hm ((stepL_row hm s e).small hst) (ha.up bb4).seen hf.lenP) ?_
  rintro v w5 ⟨rfl, b5⟩
  replace b4 := b4.trans (b5.mono b4.size)
  replace bb4 := bb.trans (b4.mono bb.size)
  simp (disch := first | with_reducible assumption | omega) only [push_cast, x_blk, x_cd, ↓reduceIte, Nat.reduceEqDiff, List.map_cons, List.map_nil, Int.reduceEq, Int.lt_irrefl]
  refine ⟨b4, ?_⟩
  refine sto_blk (k2.below b4 k2.lt) (cs := setCells (wordsOf (nextP p s e))) (e4_set _) (by rw [setCells_4, setCells_4]) (setCells_one _) ?_
  intro w6 k6 g6 z6
  simp (disch := first | with_reducible assumption | omega) only [push_cast, x_blk, x_cd, ↓reduceIte, Nat.reduceEqDiff, List.map_cons, List.map_nil, Int.reduceEq, Int.lt_irrefl]
  exact fin_cell k6 ty_ag_76 (e4_set _) (by simp only [push_cast, ↓reduceIte, Nat.reduceEqDiff, Int.reduceEq]) (hQ _ _ ⟨rfl, g6.below bb4 bb4.size (by intro a ha; injection ha with ha; subst ha; show w.heap.size ≤ w2.heap.size; omega)⟩)
/-- A list of seen events. -/
def AllIn (l seen : List Int) : Prop := ∀ x ∈ l, x ∈ seen
instance (l seen : List Int) : Decidable (AllIn l seen) := inferInstanceAs (Decidable (∀ x ∈ l, x ∈ seen))
end Go.Proofs.YtcjedgiglimipaaDoor

/-
  Going through what steps lead to by layers, from behind: each place with its least word; and the least of those that are found. In plain Lean. No program in sight.
-/
namespace Go.Proofs.YtcjedgiglimipaaDoor
set_option linter.unusedSimpArgs false
set_option linter.unusedVariables false
set_option linter.unusedSectionVars false
open Go.RowKit

theorem Shl.total (u v : List Int) : Shl u v ∨ u = v ∨ Shl v u := by
  rcases Nat.lt_trichotomy u.length v.length with h | h | h
  · exact .inl (.inl h)
  · by_cases e : u = v
    · exact .inr (.inl e)
    have : ∃ i, i < u.length ∧ u.getD i 0 ≠ v.getD i 0 := by
      refine Classical.byContradiction fun hn => e (ext_getD 0 h fun k hk => ?_)
      exact Classical.byContradiction fun hne => hn ⟨k, hk, hne⟩
    obtain ⟨n, hn, hne⟩ := this
    have key : ∀ n, n < u.length → u.getD n 0 ≠ v.getD n 0 → ∃ i, i < u.length ∧ (∀ j, j < i → u.getD j 0 = v.getD j 0) ∧ u.getD i 0 ≠ v.getD i 0 := by
      intro n
      induction n using Nat.strongRecOn with
      | _ n ih =>
        intro hn hne
        by_cases hj : ∃ j, j < n ∧ u.getD j 0 ≠ v.getD j 0
        · obtain ⟨j, hj, hne'⟩ := hj
          exact ih j hj (by omega) hne'
        · exact ⟨n, hn, fun j hj' => Classical.byContradiction fun hne' => hj ⟨j, hj', hne'⟩, hne⟩
    obtain ⟨i, hi, he, hne⟩ := key n hn hne
    rcases Int.lt_or_gt_of_ne hne with h1 | h1
    · exact .inl (.inr ⟨h, i, hi, he, h1⟩)
    · exact .inr (.inr (.inr ⟨h.symm, i, by omega, fun j hj => (he j hj).symm, h1⟩))
  · exact .inr (.inr (.inl h))
theorem Shle.of_not {u v : List Int} (h : ¬ Shl v u) : Shle u v := by
  rcases Shl.total u v with c | c | c
  · exact .inr c
  · exact .inl c
  · exact absurd c h
theorem Shle.total (u v : List Int) : Shle u v ∨ Shle v u := by
  rcases Shl.total u v with c | c | c
  · exact .inl (.inr c)
  · exact .inl (.inl c)
  · exact .inr (.inr c)
theorem Shl.cons {u v : List Int} (h : Shl u v) (e : Int) : Shl (e :: u) (e :: v) := by
  rcases h with h | ⟨hl, i, hi, he, h⟩
  · exact .inl (by simp; omega)
  · refine .inr ⟨by simp; omega, i + 1, by simp; omega, fun j hj => ?_, by simpa using h⟩
    match j with
    | 0 => rfl
    | j + 1 => simpa using he j (by omega)
theorem Shle.cons {u v : List Int} (h : Shle u v) (e : Int) : Shle (e :: u) (e :: v) := by
  rcases h with rfl | h
  · exact .inl rfl
  · exact .inr (h.cons e)
theorem Shle.len {u v : List Int} (h : Shle u v) : u.length ≤ v.length := by
  rcases h with rfl | h | ⟨h, _⟩ <;> omega
section
variable {S : Type} [DecidableEq S] (step : S → Int → S) (es : List Int)
/-- a place's number among some; as many as there are: it is new -/
def atS (s : S) : List (S × List Int) → Nat
  | [] => 0
  | p :: l => if p.1 = s then 0 else atS s l + 1
/-- One step more, ahead of a place's word. -/
noncomputable def lAdd (old : List (S × List Int)) (x : S × List Int) (next : List (S × List Int)) (e : Int) : List (S × List Int) :=
  if step x.1 e ∈ old.map (·.1) then next
  else if step x.1 e ∈ next.map (·.1) then
    if Shl (e :: x.2) (next.getD (atS (step x.1 e) next) x).2 then next.set (atS (step x.1 e) next) (step x.1 e, e :: x.2) else next
  else next ++ [(step x.1 e, e :: x.2)]
variable {step es}
theorem atS_lt {s : S} : ∀ {l : List (S × List Int)}, s ∈ l.map (·.1) → atS s l < l.length
  | [], h => absurd h (by simp)
  | p :: l, h => by
    unfold atS
    by_cases e : p.1 = s
    · rw [if_pos e]; simp
    · rw [if_neg e]
      have : s ∈ l.map (·.1) := by
        rw [List.map_cons, List.mem_cons] at h
        exact h.resolve_left fun hh => e hh.symm
      have := atS_lt this
      simp; omega
theorem atS_at {s : S} : ∀ {l : List (S × List Int)}, s ∈ l.map (·.1) → ∃ w, l[atS s l]? = some (s, w)
  | [], h => absurd h (by simp)
  | p :: l, h => by
    unfold atS
    by_cases e : p.1 = s
    · rw [if_pos e]; exact ⟨p.2, by rw [← e]; rfl⟩
    · rw [if_neg e]
      have : s ∈ l.map (·.1) := by
        rw [List.map_cons, List.mem_cons] at h
        exact h.resolve_left fun hh => e hh.symm
      obtain ⟨w, hw⟩ := atS_at this
      exact ⟨w, by simpa using hw⟩
theorem atS_of {s : S} {w : List Int} : ∀ {l : List (S × List Int)} {i : Nat}, (l.map (·.1)).Nodup → l[i]? = some (s, w) → atS s l = i
  | [], i, _, h => by simp at h
  | p :: l, 0, _, h => by
    simp only [List.getElem?_cons_zero, Option.some.injEq] at h
    unfold atS
    rw [if_pos (by rw [h])]
  | p :: l, i + 1, hn, h => by
    simp only [List.getElem?_cons_succ] at h
    rw [List.map_cons, List.nodup_cons] at hn
    unfold atS
    rw [if_neg fun e => hn.1 (by rw [e]; exact List.mem_map.2 ⟨_, List.mem_of_getElem? h, rfl⟩), atS_of hn.2 h]
theorem lAdd_old {old next : List (S × List Int)} {x : S × List Int} {e : Int} (h : step x.1 e ∈ old.map (·.1)) : lAdd step old x next e = next := if_pos h
theorem lAdd_new {old next : List (S × List Int)} {x : S × List Int} {e : Int} (h : step x.1 e ∉ old.map (·.1)) (h' : step x.1 e ∉ next.map (·.1)) : lAdd step old x next e = next ++ [(step x.1 e, e :: x.2)] := by
  unfold lAdd
  rw [if_neg h, if_neg h']
theorem lAdd_set {old next : List (S × List Int)} {x : S × List Int} {e : Int} {w : List Int} (h : step x.1 e ∉ old.map (·.1)) {i : Nat} (hn : (next.map (·.1)).Nodup) (hi : next[i]? = some (step x.1 e, w)) (hs : Shl (e :: x.2) w) : lAdd step old x next e = next.set i (step x.1 e, e :: x.2) := by
  unfold lAdd
  have hm : step x.1 e ∈ next.map (·.1) := List.mem_map.2 ⟨_, List.mem_of_getElem? hi, rfl⟩
  rw [if_neg h, if_pos hm, atS_of hn hi, List.getD_eq_getElem?_getD, hi, Option.getD_some, if_pos hs]
theorem lAdd_keep {old next : List (S × List Int)} {x : S × List Int} {e : Int} {w : List Int} (h : step x.1 e ∉ old.map (·.1)) {i : Nat} (hn : (next.map (·.1)).Nodup) (hi : next[i]? = some (step x.1 e, w)) (hs : ¬ Shl (e :: x.2) w) : lAdd step old x next e = next := by
  unfold lAdd
  have hm : step x.1 e ∈ next.map (·.1) := List.mem_map.2 ⟨_, List.mem_of_getElem? hi, rfl⟩
  rw [if_neg h, if_pos hm, atS_of hn hi, List.getD_eq_getElem?_getD, hi, Option.getD_some, if_neg hs]
/-- What the next layer keeps to. -/
structure LGood (step : S → Int → S) (es : List Int) (first : S) (U : S → Prop) (old : List (S × List Int)) (n : Nat) (next : List (S × List Int)) : Prop where
  nodup : (next.map (·.1)).Nodup
  apart : ∀ p ∈ next, p.1 ∉ old.map (·.1)
  univ : ∀ p ∈ next, U p.1
  run : ∀ p ∈ next, p.1 = p.2.foldr (fun e s => step s e) first ∧ (∀ e ∈ p.2, e ∈ es) ∧ p.2.length = n
theorem map_fst_set (l : List (S × List Int)) (i : Nat) (s : S) (w w' : List Int) (h : l[i]? = some (s, w)) : (l.set i (s, w')).map (·.1) = l.map (·.1) := by
  rw [List.map_set]
  apply List.ext_getElem?
  intro k
  rw [List.getElem?_set]
  by_cases e : i = k
  · subst e
    have hi : i < l.length := by rcases Nat.lt_or_ge i l.length with c | c; exact c; rw [List.getElem?_eq_none c] at h; cases h
    rw [if_pos rfl, if_pos (by rw [List.length_map]; exact hi), List.getElem?_map, h]; rfl
  · rw [if_neg e]
theorem LGood.add {first : S} {U : S → Prop} (hU : ∀ s, U s → ∀ e ∈ es, U (step s e)) {old next : List (S × List Int)} {n : Nat} (h : LGood step es first U old (n + 1) next) {x : S × List Int} (hx : U x.1) (hr : x.1 = x.2.foldr (fun e s => step s e) first ∧ (∀ e ∈ x.2, e ∈ es) ∧ x.2.length = n) {e : Int} (he : e ∈ es) :
    LGood step es first U old (n + 1) (lAdd step old x next e) := by
  have hnew : (step x.1 e, e :: x.2).1 = (step x.1 e, e :: x.2).2.foldr (fun e s => step s e) first ∧ (∀ e' ∈ (step x.1 e, e :: x.2).2, e' ∈ es) ∧ (step x.1 e, e :: x.2).2.length = n + 1 := by
    refine ⟨by simp only [List.foldr_cons]; rw [← hr.1], fun e' he' => ?_, by simp [hr.2.2]⟩
    rcases List.mem_cons.1 he' with rfl | he'
    · exact he
    · exact hr.2.1 _ he'
  by_cases h1 : step x.1 e ∈ old.map (·.1)
  · rw [lAdd_old h1]; exact h
  by_cases h2 : step x.1 e ∈ next.map (·.1)
  · obtain ⟨w, hw⟩ := atS_at h2
    by_cases h3 : Shl (e :: x.2) w
    · rw [lAdd_set h1 h.nodup hw h3]
      refine ⟨by rw [map_fst_set _ _ _ _ _ hw]; exact h.nodup, fun p hp => ?_, fun p hp => ?_, fun p hp => ?_⟩ <;> rcases List.mem_or_eq_of_mem_set hp with hp | rfl
      · exact h.apart p hp
      · exact h1
      · exact h.univ p hp
      · exact hU _ hx _ he
      · exact h.run p hp
      · exact hnew
    · rw [lAdd_keep h1 h.nodup hw h3]; exact h
  · rw [lAdd_new h1 h2]
    refine ⟨?_, fun p hp => ?_, fun p hp => ?_, fun p hp => ?_⟩
    · rw [List.map_append, List.map_singleton, List.nodup_append]
      refine ⟨h.nodup, by simp, fun a ha b hb => ?_⟩
      rw [List.mem_singleton.1 hb]
      exact fun hab => h2 (by rw [← show a = step x.1 e from hab]; exact ha)
    all_goals rcases List.mem_append.1 hp with hp | hp
    · exact h.apart p hp
    · rw [List.mem_singleton.1 hp]; exact h1
    · exact h.univ p hp
    · rw [List.mem_singleton.1 hp]; exact hU _ hx _ he
    · exact h.run p hp
    · rw [List.mem_singleton.1 hp]; exact hnew
/-- a place that was there is there, by no greater word -/
theorem lAdd_more {first : S} {U : S → Prop} {old next : List (S × List Int)} {n : Nat} (h : LGood step es first U old n next) {x : S × List Int} {e : Int} {p : S × List Int} (hp : p ∈ next) : ∃ q ∈ lAdd step old x next e, q.1 = p.1 ∧ Shle q.2 p.2 := by
  by_cases h1 : step x.1 e ∈ old.map (·.1)
  · rw [lAdd_old h1]; exact ⟨p, hp, rfl, .inl rfl⟩
  by_cases h2 : step x.1 e ∈ next.map (·.1)
  · obtain ⟨w, hw⟩ := atS_at h2
    by_cases h3 : Shl (e :: x.2) w
    · rw [lAdd_set h1 h.nodup hw h3]
      obtain ⟨i, hi⟩ := List.mem_iff_getElem?.1 hp
      by_cases hie : atS (step x.1 e) next = i
      · rw [hie] at hw ⊢
        rw [hi] at hw
        have hpw := Option.some.inj hw
        subst hpw
        have hl : i < next.length := by rcases Nat.lt_or_ge i next.length with c | c; exact c; rw [List.getElem?_eq_none c] at hi; cases hi
        exact ⟨(step x.1 e, e :: x.2), List.mem_iff_getElem?.2 ⟨i, by rw [List.getElem?_set, if_pos rfl, if_pos hl]⟩, rfl, .inr h3⟩
      · exact ⟨p, List.mem_iff_getElem?.2 ⟨i, by rw [List.getElem?_set, if_neg hie]; exact hi⟩, rfl, .inl rfl⟩
    · rw [lAdd_keep h1 h.nodup hw h3]; exact ⟨p, hp, rfl, .inl rfl⟩
  · rw [lAdd_new h1 h2]; exact ⟨p, List.mem_append_left _ hp, rfl, .inl rfl⟩
/-- what was gone to is there, or was of old -/
theorem lAdd_has {first : S} {U : S → Prop} {old next : List (S × List Int)} {n : Nat} (h : LGood step es first U old n next) (x : S × List Int) (e : Int) (h1 : step x.1 e ∉ old.map (·.1)) : ∃ q ∈ lAdd step old x next e, q.1 = step x.1 e ∧ Shle q.2 (e :: x.2) := by
  by_cases h2 : step x.1 e ∈ next.map (·.1)
  · obtain ⟨w, hw⟩ := atS_at h2
    by_cases h3 : Shl (e :: x.2) w
    · rw [lAdd_set h1 h.nodup hw h3]
      have hl := atS_lt h2
      exact ⟨_, List.mem_iff_getElem?.2 ⟨atS (step x.1 e) next, by rw [List.getElem?_set, if_pos rfl, if_pos hl]⟩, rfl, .inl rfl⟩
    · rw [lAdd_keep h1 h.nodup hw h3]
      exact ⟨_, List.mem_of_getElem? hw, rfl, .of_not h3⟩
  · rw [lAdd_new h1 h2]
    exact ⟨_, List.mem_append_right _ (List.mem_singleton.2 rfl), rfl, .inl rfl⟩
section
variable {first : S} {U : S → Prop} (hU : ∀ s, U s → ∀ e ∈ es, U (step s e))
include hU
theorem LGood.fold {old : List (S × List Int)} {n : Nat} {x : S × List Int} (hx : U x.1) (hr : x.1 = x.2.foldr (fun e s => step s e) first ∧ (∀ e ∈ x.2, e ∈ es) ∧ x.2.length = n) :
    ∀ (m : List Int) (next : List (S × List Int)), (∀ e ∈ m, e ∈ es) → LGood step es first U old (n + 1) next → LGood step es first U old (n + 1) (m.foldl (lAdd step old x) next) ∧
      (∀ p ∈ next, ∃ q ∈ m.foldl (lAdd step old x) next, q.1 = p.1 ∧ Shle q.2 p.2) ∧ ∀ e ∈ m, step x.1 e ∉ old.map (·.1) → ∃ q ∈ m.foldl (lAdd step old x) next, q.1 = step x.1 e ∧ Shle q.2 (e :: x.2)
  | [], next, _, h => ⟨h, fun p hp => ⟨p, hp, rfl, .inl rfl⟩, fun e he => absurd he (by simp)⟩
  | e :: m, next, hm, h => by
    have h1 := h.add hU hx hr (hm e (List.mem_cons_self ..))
    obtain ⟨g, g1, g2⟩ := LGood.fold hx hr m _ (fun e' he' => hm e' (List.mem_cons_of_mem _ he')) h1
    refine ⟨g, fun p hp => ?_, fun e' he' hno => ?_⟩
    · obtain ⟨q, hq, hq1, hq2⟩ := lAdd_more h (x := x) (e := e) hp
      obtain ⟨r, hr', hr1, hr2⟩ := g1 q hq
      exact ⟨r, hr', hr1.trans hq1, hr2.trans hq2⟩
    · rcases List.mem_cons.1 he' with rfl | he'
      · obtain ⟨q, hq, hq1, hq2⟩ := lAdd_has h x e' hno
        obtain ⟨r, hr', hr1, hr2⟩ := g1 q hq
        exact ⟨r, hr', hr1.trans hq1, hr2.trans hq2⟩
      · exact g2 e' he' hno
/-- What all layers keep to. -/
structure AGood (step : S → Int → S) (es : List Int) (first : S) (U : S → Prop) (n : Nat) (A : List (S × List Int) × List (S × List Int)) : Prop where
  nodup : (A.1.map (·.1)).Nodup
  univ : ∀ p ∈ A.1, U p.1
  run : ∀ p ∈ A.1, p.1 = p.2.foldr (fun e s => step s e) first ∧ (∀ e ∈ p.2, e ∈ es) ∧ p.2.length ≤ n
  sub : ∀ p ∈ A.2, p ∈ A.1
  lay : ∀ p ∈ A.1, p.2.length = n ↔ p ∈ A.2
omit hU in
theorem AGood.layer {n : Nat} {A : List (S × List Int) × List (S × List Int)} (h : AGood step es first U n A) : ∀ x ∈ A.2, U x.1 ∧ x.1 = x.2.foldr (fun e s => step s e) first ∧ (∀ e ∈ x.2, e ∈ es) ∧ x.2.length = n :=
  fun x hx => ⟨h.univ x (h.sub x hx), (h.run x (h.sub x hx)).1, (h.run x (h.sub x hx)).2.1, (h.lay x (h.sub x hx)).2 hx⟩
omit hU in
theorem LGood.nil (old : List (S × List Int)) (n : Nat) : LGood step es first U old n [] := ⟨by simp, by simp, by simp, by simp⟩
end
end
end Go.Proofs.YtcjedgiglimipaaDoor

/-
  Chapter 9: the program's Within of sets, Tells, Clone, Places, Leak: by their contracts.
-/
namespace Go.Proofs.YtcjedgiglimipaaDoor
set_option linter.unusedSimpArgs false
set_option linter.unusedVariables false
set_option linter.unusedSectionVars false
open Go.RowKit

def andn (x y : Nat) : Nat := (BitVec.ofNat 64 x &&& ~~~ BitVec.ofNat 64 y).toNat
theorem andn_bit (x y k : Nat) (hk : k < 64) : (andn x y).testBit k = (x.testBit k && !y.testBit k) := by
  unfold andn
  rw [BitVec.testBit_toNat, BitVec.getLsbD_and, BitVec.getLsbD_not, BitVec.getLsbD_ofNat, BitVec.getLsbD_ofNat]
  simp [hk]
theorem andn_lt (x y : Nat) : andn x y < 2 ^ 64 := (BitVec.ofNat 64 x &&& ~~~ BitVec.ofNat 64 y).isLt
theorem bin_andn' {P : Program} {K : Fr → World → Prop} {u w : World} {f : Fr} {d : Option Nat} {t : TypeId} {xo yo : Operand} {x y z : Nat} (h : andn x y = z) : Val1 P K (binS .andNot t xo yo (.int .u64 x) (.int .u64 y)) u f d w = K (updO f d (.int .u64 z)) w :=
  val1_of u f d w fun w' _ => by
    have hb : IntKind.u64.bits = 64 := rfl
    have h1 : (BitVec.ofInt 64 (x : Int) &&& ~~~ BitVec.ofInt 64 (y : Int)).toNat = z := by rw [← h]; simp only [BitVec.ofInt_natCast]; rfl
    have h3 := wrap_u64 z (h ▸ andn_lt x y)
    show Result.ok (Value.int .u64 (IntKind.u64.wrap ((BitVec.ofInt 64 (x : Int) &&& ~~~ BitVec.ofInt 64 (y : Int)).toNat : Int))) w' = _
    rw [h1, h3]
theorem within_iff {a b : List Int} (ha : Small a) : AllIn a b ↔ ∀ i, i < 4 → andn ((wordsOf a).getD i 0) ((wordsOf b).getD i 0) = 0 := by
  constructor
  · intro h i hi
    refine Nat.eq_of_testBit_eq fun k => ?_
    rw [Nat.zero_testBit]
    rcases Nat.lt_or_ge k 64 with hk | hk
    · rw [andn_bit _ _ _ hk]
      have h1 := wordsOf_has a (64 * i + k) (by omega)
      have h2 := wordsOf_has b (64 * i + k) (by omega)
      unfold setHas at h1 h2
      rw [show (64 * i + k) / 64 = i by omega, show (64 * i + k) % 64 = k by omega] at h1 h2
      rw [h1, h2]
      by_cases c : ((64 * i + k : Nat) : Int) ∈ a
      · rw [decide_eq_true c, decide_eq_true (h _ c)]; rfl
      · rw [decide_eq_false c]; rfl
    · exact Nat.testBit_lt_two_pow (Nat.lt_of_lt_of_le (andn_lt _ _) (Nat.pow_le_pow_right (by decide) hk))
  · intro h x hx
    have hs := ha x hx
    have h1 := wordsOf_has a x.toNat (by omega)
    have h2 := wordsOf_has b x.toNat (by omega)
    rw [show ((x.toNat : Nat) : Int) = x by omega] at h1 h2
    unfold setHas at h1 h2
    have h3 := andn_bit ((wordsOf a).getD (x.toNat / 64) 0) ((wordsOf b).getD (x.toNat / 64) 0) (x.toNat % 64) (Nat.mod_lt _ (by decide))
    rw [h _ (by omega), Nat.zero_testBit, h1, h2] at h3
    simpa [hx] using h3
theorem set_Within {a b : List Int} (ha : Small a) (w : World) :
    Cal Tryd.prog 69 [setV a, setV b] w fun v w' => v = .bool (decide (AllIn a b)) ∧ Below w.heap.size w w' := by
  refine cal_machine_Set_Within (by simp) 100000 fun Q hQ => ?_
  simp (disch := first | with_reducible assumption | omega) only [push_cast, x_blk, x_cd, ↓reduceIte, Nat.reduceEqDiff, List.map_cons, List.map_nil, Int.reduceEq, Int.lt_irrefl, F_machine_Set_Within]
  refine blk_of (box_agg _ (setCells (wordsOf a))) ?_
  intro w1 k1 b1 z1
  simp (disch := first | with_reducible assumption | omega) only [push_cast, x_blk, x_cd, ↓reduceIte, Nat.reduceEqDiff, List.map_cons, List.map_nil, Int.reduceEq, Int.lt_irrefl]
  refine blk_of (box_agg _ (setCells (wordsOf b))) ?_
  intro w2 k2 b2 z2
  have k1 := k1.below b2 (by omega)
  have b2 := b1.trans (b2.mono b1.size)
  simp (disch := first | with_reducible assumption | omega) only [push_cast, x_blk, x_cd, ↓reduceIte, Nat.reduceEqDiff, List.map_cons, List.map_nil, Int.reduceEq, Int.lt_irrefl]
  refine loop_rule (fun f w' => ∃ i : Nat, i ≤ 4 ∧ (f 2 = .pointer (some ⟨w.heap.size, 0, none⟩) ∧ f 3 = .pointer (some ⟨w1.heap.size, 0, none⟩) ∧ f 6 = .int .i64 i) ∧
      (∀ j, j < i → andn ((wordsOf a).getD j 0) ((wordsOf b).getD j 0) = 0) ∧ Blk w' w.heap.size 76 (setCells (wordsOf a)) ∧ Blk w' w1.heap.size 76 (setCells (wordsOf b)) ∧ Below w.heap.size w w')
    (fun f _ => 4 - (intOf (f 6)).toNat) ⟨0, by omega, ⟨rfl, rfl, rfl⟩, fun j hj => absurd hj (by omega), k1, k2, b2⟩ ?_
  clear k1 k2 b2
  rintro f w3 ⟨i, hi, fr, hp, k1, k2, b3⟩ J hJ
  by_cases hlt : (i : Int) < 4
  case neg =>
    have r : decide (AllIn a b) = true := decide_eq_true ((within_iff ha).2 fun j hj => hp j (by omega))
    simp (disch := first | with_reducible assumption | omega) only [push_cast, x_blk, x_cd, ↓reduceIte, Nat.reduceEqDiff, List.map_cons, List.map_nil, Int.reduceEq, Int.lt_irrefl, L_machine_Set_Within_0, fr, hlt]
    exact fin_1 (hQ _ _ ⟨(by simp only [push_cast, ↓reduceIte, Nat.reduceEqDiff, Int.reduceEq, r]), b3⟩)
  have hi4 : i < 4 := by omega
  have hx := (wordsOf_words a).2 i
  have hy := (wordsOf_words b).2 i
  have k1' := k1.drew
  have k2' := k2.drew
  have hwd : ∀ (z : Nat), andn ((wordsOf a).getD i 0) ((wordsOf b).getD i 0) = z → z ≠ 0 → decide (AllIn a b) = false := fun z h1 h2 => decide_eq_false fun h => h2 (h1 ▸ (within_iff ha).1 h i hi4)
  generalize hv : (wordsOf a).getD i 0 = x at *
  generalize hu : (wordsOf b).getD i 0 = y at *
  generalize hz : andn x y = z at *
  by_cases c : z = 0
  · subst c
    simp (disch := first | with_reducible assumption | omega) only [push_cast, x_blk, x_cd, ↓reduceIte, Nat.reduceEqDiff, List.map_cons, List.map_nil, Int.reduceEq, Int.lt_irrefl, L_machine_Set_Within_0, fr, hlt, Int.natCast_nonneg, bin_andn' hz, k1'.word' (wordsOf_words a) ty_ag_74 i hi4 hv, k2'.word' (wordsOf_words b) ty_ag_74 i hi4 hu]
    exact hJ _ _ ⟨i + 1, by omega, (by simp only [push_cast, ↓reduceIte, Nat.reduceEqDiff, true_and, and_true, and_self, eq_self, fr]), fun j hj => if e : j = i then by rw [e, hv, hu, hz] else hp j (by omega), k1', k2', drawn b3⟩ (by simp only [push_cast, ↓reduceIte, Nat.reduceEqDiff, intOf, fr]; omega)
  · have r := hwd z rfl c
    have c' : ¬ ((z : Int) = 0) := by omega
    simp (disch := first | with_reducible assumption | omega) only [push_cast, x_blk, x_cd, ↓reduceIte, Nat.reduceEqDiff, List.map_cons, List.map_nil, Int.reduceEq, Int.lt_irrefl, L_machine_Set_Within_0, fr, hlt, Int.natCast_nonneg, bin_andn' hz, c', k1'.word' (wordsOf_words a) ty_ag_74 i hi4 hv, k2'.word' (wordsOf_words b) ty_ag_74 i hi4 hu]
    exact fin_1 (hQ _ _ ⟨(by simp only [push_cast, ↓reduceIte, Nat.reduceEqDiff, Int.reduceEq, r]), drawn b3⟩)

def TellsL (s l : List Int) : Prop := s ≠ [] ∧ AllIn s l
instance (s l : List Int) : Decidable (TellsL s l) := inferInstanceAs (Decidable (_ ∧ _))
theorem words_nil {s : List Int} (hs : Small s) : wordsOf s = wordsOf [] ↔ s = [] := by
  constructor
  · intro h
    cases s with
    | nil => rfl
    | cons x s =>
      have := (wordsOf_mem h (hs x (by simp)).1 (hs x (by simp)).2).1 (by simp)
      simp at this
  · rintro rfl; rfl
theorem current_Tells {w : World} {s : List Int} (hs : Small s) {A : Option Addr} {c : Nat} {l : List Int} (h : Ints (· < w.heap.size) w A l) (n1 : l.length ≤ 17592186043904) (hl : Small l) :
    Cal Tryd.prog 105 [setV s, .slice A l.length c] w fun v w' => v = .bool (decide (TellsL s l)) ∧ Below w.heap.size w w' := by
  refine cal_current_Tells (by simp) 100000 fun Q hQ => ?_
  simp (disch := first | with_reducible assumption | omega) only [push_cast, x_blk, x_cd, ↓reduceIte, Nat.reduceEqDiff, List.map_cons, List.map_nil, Int.reduceEq, Int.lt_irrefl, F_current_Tells]
  refine blk_of (box_agg _ (setCells (wordsOf s))) ?_
  intro w1 k1 b1 z1
  have sd : Same w1 w1.drew := (Same.refl w1).drew
  replace k1 := k1.same sd
  have bb := b1.trans (sd.below _)
  generalize hu : w1.drew = u at *
  have hld := fun {K : Fr → World → Prop} {f : Fr} {d : Option Nat} {w : World} => k1.setA (K := K) (f := f) (d := d) (w := w) (wordsOf_words _) ty_ag_76 ty_sz_76
  by_cases e : wordsOf s = wordsOf []
  case pos =>
    have r : decide (TellsL s l) = false := decide_eq_false fun hh => hh.1 ((words_nil hs).1 e)
    simp (disch := first | with_reducible assumption | omega) only [push_cast, x_blk, x_cd, ↓reduceIte, Nat.reduceEqDiff, List.map_cons, List.map_nil, Int.reduceEq, Int.lt_irrefl, hu, bl_set0, neq_set, decide_eq_true e, hld]
    refine ⟨Below.refl _ _, Below.refl _ _, ?_⟩
    exact fin_1 (hQ _ _ ⟨(by simp only [push_cast, ↓reduceIte, Nat.reduceEqDiff, Int.reduceEq, r]), bb⟩)
  simp (disch := first | with_reducible assumption | omega) only [push_cast, x_blk, x_cd, ↓reduceIte, Nat.reduceEqDiff, List.map_cons, List.map_nil, Int.reduceEq, Int.lt_irrefl, hu, bl_set0, neq_set, decide_eq_false e, hld]
  refine call_of (machine_Of' (h.up bb) c n1 hl) ?_
  rintro v w2 ⟨rfl, b2⟩
  simp (disch := first | with_reducible assumption | omega) only [push_cast, x_blk, x_cd, ↓reduceIte, Nat.reduceEqDiff, List.map_cons, List.map_nil, Int.reduceEq, Int.lt_irrefl]
  refine ⟨b2, ?_⟩
  refine call_of (set_Within hs _) ?_
  rintro v w3 ⟨rfl, b3⟩
  replace b2 := b2.trans (b3.mono b2.size)
  simp (disch := first | with_reducible assumption | omega) only [push_cast, x_blk, x_cd, ↓reduceIte, Nat.reduceEqDiff, List.map_cons, List.map_nil, Int.reduceEq, Int.lt_irrefl]
  refine ⟨b2, ?_⟩
  have r : decide (TellsL s l) = decide (AllIn s l) := decide_eq_decide.2 ⟨fun hh => hh.2, fun hh => ⟨fun e' => e ((words_nil hs).2 e'), hh⟩⟩
  exact fin_1 (hQ _ _ ⟨(by simp only [push_cast, ↓reduceIte, Nat.reduceEqDiff, Int.reduceEq, r]), bb.trans (b2.mono bb.size)⟩)

/-- A row in a block of one's own that holds elements of the type e. -/
structure RowF (B e : Nat) (w : World) (A : Option Addr) (l : List Int) : Prop where
  ints : Ints (fun b => B ≤ b ∧ b < w.heap.size ∧ ∃ cs r, w.heap[b]? = some (.cells cs e r)) w A l
section
variable {B e : Nat} {w w' : World} {A : Option Addr} {l : List Int}
theorem RowF.nil (B e : Nat) (w : World) (A : Option Addr) : RowF B e w A [] := ⟨Ints.nil _ _ _⟩
theorem RowF.lt (h : RowF B e w A l) : Ints (· < w.heap.size) w A l := h.ints.mono fun _ hb => hb.2.1
theorem RowF.keep (h : RowF B e w A l) (hz : w.heap.size ≤ w'.heap.size) (hk : ∀ b, B ≤ b → b < w.heap.size → (∃ cs r, w.heap[b]? = some (.cells cs e r)) → w'.heap[b]? = w.heap[b]?) : RowF B e w' A l := by
  refine ⟨⟨h.ints.isSome, fun hl => ?_, fun i hi => ?_⟩⟩
  · obtain ⟨h0, h1, cs, r, h3⟩ := h.ints.block hl
    exact ⟨h0, by omega, cs, r, by rw [hk _ h0 h1 ⟨cs, r, h3⟩]; exact h3⟩
  · obtain ⟨h0, h1, h2⟩ := h.ints.block (by omega)
    rw [← h.ints.cell i hi]
    exact World.cell?_of_block (by rw [eA_block]; exact hk _ h0 h1 h2)
theorem RowF.below (h : RowF B e w A l) (hb : Below w.heap.size w w') : RowF B e w' A l := h.keep hb.size fun b _ hlt _ => hb.block b hlt
theorem RowF.same (h : RowF B e w A l) (hs : Same w w') : RowF B e w' A l := h.below (hs.below _)
theorem RowF.grew {e' sz c n B' : Nat} {A2 : Option Addr} {xs : List Value} (h : RowF B e w A l) (ho : Own B' e' sz w A2 c n xs) (hne : e' ≠ e) (hg : Grew w w' A2) : RowF B e w' A l :=
  h.keep hg.by_.size fun b _ hlt hor => hg.by_.block b hlt (by
    rcases ho.own.2 with ⟨h0, _⟩ | ⟨g, cap, cur, hv, hB, hh, _⟩
    · injection h0 with h0; subst h0; simp
    · injection hv with hv
      subst hv
      simp only [Option.map_some, ne_eq, Option.some.injEq]
      rintro rfl
      obtain ⟨cs, r, h1⟩ := hor
      rw [h1] at hh
      injection hh with hh
      injection hh with _ ht
      exact hne ht.symm)
theorem RowF.grewB {g t : Nat} {cs : List Value} (h : RowF B e w A l) (hb : Blk w g t cs) (hne : t ≠ e) {i : Nat} (hg : Grew w w' (some ⟨g, i, none⟩)) : RowF B e w' A l :=
  h.keep hg.by_.size fun b _ hlt hor => hg.by_.block b hlt (by
    simp only [Option.map_some, ne_eq, Option.some.injEq]
    rintro rfl
    obtain ⟨cs', r, h1⟩ := hor
    unfold Blk at hb
    rw [hb] at h1
    injection h1 with h1
    injection h1 with _ ht
    exact hne ht)
theorem RowF.grewM {P : Program} {k b0 : Nat} {kv : List (Value × Value)} (h : RowF B e w A l) (hm : MapIs P k w b0 kv) {i : Nat} (hg : Grew w w' (some ⟨b0, i, none⟩)) : RowF B e w' A l :=
  h.keep hg.by_.size fun b _ hlt hor => hg.by_.block b hlt (by
    simp only [Option.map_some, ne_eq, Option.some.injEq]
    rintro rfl
    obtain ⟨cs', r, h1⟩ := hor
    obtain ⟨es, _, hm', _⟩ := hm
    rw [hm'] at h1
    injection h1 with h1
    cases h1)
end

structure Pc where
  s : List Int
  W : Option Addr
  cw : Nat
  w : List Int
def Pc.cells (p : Pc) : List Value := setCells (wordsOf p.s) ++ [.slice p.W p.w.length p.cw]
def Pc.abs (p : Pc) : List Int × List Int := (p.s, p.w)
end Go.Proofs.YtcjedgiglimipaaDoor

/-
  Chapter 15, in plain Lean: rows by their numbers; what can be kept. No program in sight.
-/
namespace Go.Proofs.YtcjedgiglimipaaDoor
set_option linter.unusedSimpArgs false
set_option linter.unusedVariables false
set_option linter.unusedSectionVars false
open Go.RowKit

theorem snoc_indV {α : Type} {P : List α → Prop} (h0 : P []) (h1 : ∀ v e, P v → P (v ++ [e])) : ∀ v, P v := by
  have key : ∀ (n : Nat) (v : List α), v.length = n → P v := by
    intro n
    induction n with
    | zero => intro v hv; rw [List.eq_nil_of_length_eq_zero hv]; exact h0
    | succ n ih =>
      intro v hv
      have hne : v ≠ [] := by rintro rfl; simp at hv
      rw [← List.dropLast_concat_getLast hne]
      exact h1 _ _ (ih _ (by simp [hv]))
  exact fun v => key _ v rfl
def vnum (l : List Int) : Nat := l.foldl (fun n x => n + 2 ^ x.toNat) 0
theorem vnum_snoc (l : List Int) (x : Int) : vnum (l ++ [x]) = vnum l + 2 ^ x.toNat := by unfold vnum; rw [List.foldl_append]; rfl
def rowN (n k : Nat) : List Int := ((List.range k).filter fun i => n.testBit i).map fun (i : Nat) => (i : Int)
theorem rowN_mem {n k : Nat} {x : Int} : x ∈ rowN n k ↔ ∃ i : Nat, x = i ∧ i < k ∧ n.testBit i = true := by
  unfold rowN
  simp only [List.mem_map, List.mem_filter, List.mem_range]
  exact ⟨fun ⟨i, ⟨h1, h2⟩, h3⟩ => ⟨i, h3.symm, h1, h2⟩, fun ⟨i, h3, h1, h2⟩ => ⟨i, ⟨h1, h2⟩, h3.symm⟩⟩
theorem rowN_strict (n k : Nat) : Strict (rowN n k) := by
  unfold rowN Strict
  rw [List.pairwise_map]
  exact List.Pairwise.imp (fun h => Int.ofNat_lt.2 h) (List.Pairwise.filter _ List.pairwise_lt_range)
/-- Of a row: its number has the bits of its places. -/
theorem num_bits {l : List Int} : ∀ (k : Nat), Strict l → (∀ x ∈ l, 0 ≤ x ∧ x < k) → vnum l < 2 ^ k ∧ ∀ i : Nat, (vnum l).testBit i = decide ((i : Int) ∈ l) := by
  refine snoc_indV (P := fun l => ∀ k : Nat, Strict l → (∀ x ∈ l, 0 ≤ x ∧ x < k) → vnum l < 2 ^ k ∧ ∀ i : Nat, (vnum l).testBit i = decide ((i : Int) ∈ l)) ?_ ?_ l
  · intro k _ _
    exact ⟨Nat.two_pow_pos k, fun i => by simp [vnum]⟩
  · intro l x ih k hs hr
    have hx := hr x (by simp)
    obtain ⟨t, rfl⟩ : ∃ t : Nat, x = t := ⟨x.toNat, by omega⟩
    have hs2 : Strict l := (List.pairwise_append.1 hs).1
    have hlt : ∀ y ∈ l, y < (t : Int) := fun y hy => (List.pairwise_append.1 hs).2.2 y hy _ (by simp)
    obtain ⟨h1, h2⟩ := ih t hs2 fun y hy => ⟨(hr y (by simp [hy])).1, hlt y hy⟩
    rw [vnum_snoc, Int.toNat_natCast]
    have e : vnum l + 2 ^ t = 2 ^ t ||| vnum l := by
      have := Nat.two_pow_add_eq_or_of_lt h1 1
      rw [Nat.mul_one] at this
      omega
    have ht : t + 1 ≤ k := by omega
    refine ⟨?_, fun i => ?_⟩
    · have : 2 ^ (t + 1) ≤ 2 ^ k := Nat.pow_le_pow_right (by decide) ht
      rw [Nat.pow_succ] at this
      omega
    · rw [e, Nat.testBit_or, Nat.testBit_two_pow, h2]
      by_cases c : t = i
      · subst c; simp
      · rw [decide_eq_false c, Bool.false_or]
        exact decide_eq_decide.2 ⟨fun h => List.mem_append_left _ h, fun h => by
          rcases List.mem_append.1 h with h | h
          · exact h
          · have := List.mem_singleton.1 h; omega⟩
theorem num_lt {l : List Int} {k : Nat} (h : IsRow l k) : vnum l < 2 ^ k := (num_bits k h.strict fun x hx => by have := h.mem hx; omega).1
theorem num_bit {l : List Int} {k : Nat} (h : IsRow l k) (i : Nat) : (vnum l).testBit i = decide ((i : Int) ∈ l) := (num_bits k h.strict fun x hx => by have := h.mem hx; omega).2 i
theorem row_num {l : List Int} {k : Nat} (h : IsRow l k) : rowN (vnum l) k = l := by
  refine (rowN_strict _ _).ext h.strict fun x => ?_
  rw [rowN_mem]
  constructor
  · rintro ⟨i, rfl, _, h2⟩
    rw [num_bit h] at h2
    exact of_decide_eq_true h2
  · intro hx
    have := h.mem hx
    exact ⟨x.toNat, by omega, by omega, by rw [num_bit h]; exact decide_eq_true (by rw [show ((x.toNat : Nat) : Int) = x by omega]; exact hx)⟩
/-- The events that are seen and can't be forbidden. -/
def ufE (p : Plt) (free : List Int) : List Int := p.seen.filter fun e => decide (e ∉ free)
theorem ufE_mem {p : Plt} {free : List Int} {e : Int} : e ∈ ufE p free ↔ e ∈ p.seen ∧ e ∉ free := by unfold ufE; rw [List.mem_filter, decide_eq_true_eq]
/-- Nothing that can't be forbidden leads to what tells. -/
def Kp (p : Plt) (free s : List Int) : Prop := ∀ u : List Int, (∀ e ∈ u, e ∈ ufE p free) → ¬ TellsL (u.foldl (nextP p) s) p.secret
theorem Kp.next {p : Plt} {free s : List Int} (h : Kp p free s) {e : Int} (he : e ∈ ufE p free) : Kp p free (nextP p s e) := fun u hu =>
  h (e :: u) fun x hx => by
    rcases List.mem_cons.1 hx with rfl | hx
    · exact he
    · exact hu x hx
theorem Kp.self {p : Plt} {free s : List Int} (h : Kp p free s) : ¬ TellsL s p.secret := h [] (by simp)
/-- What is closed, and does not tell, can be kept. -/
theorem Kp.of {p : Plt} {free : List Int} {G : List Int → Prop} (h1 : ∀ s, G s → ¬ TellsL s p.secret) (h2 : ∀ s, G s → ∀ e ∈ ufE p free, G (nextP p s e)) {s : List Int} (hs : G s) : Kp p free s := by
  intro u
  induction u generalizing s with
  | nil => intro _; exact h1 s hs
  | cons e u ih => intro hu; exact ih (h2 s hs e (hu e (by simp))) fun x hx => hu x (by simp [hx])
theorem Kp.not_next {p : Plt} {free s : List Int} {e : Int} (he : e ∈ ufE p free) (h : ¬ Kp p free (nextP p s e)) : ¬ Kp p free s := fun hk => h (hk.next he)
theorem Kp.not_tells {p : Plt} {free s : List Int} (h : TellsL s p.secret) : ¬ Kp p free s := fun hk => hk.self h
end Go.Proofs.YtcjedgiglimipaaDoor

/-
  Chapter 15's reference: rows and their numbers: by their contracts.
-/
namespace Go.Proofs.YtcjedgiglimipaaDoor
set_option linter.unusedSimpArgs false
set_option linter.unusedVariables false
set_option linter.unusedSectionVars false
open Go.RowKit

theorem rowN_end {n s k : Nat} (hs : s ≤ k) (h : n / 2 ^ s = 0) : rowN n s = rowN n k := by
  have hlt : n < 2 ^ s := by
    rcases Nat.lt_or_ge n (2 ^ s) with c | c
    · exact c
    · have := Nat.div_pos c (Nat.two_pow_pos s); omega
  refine (rowN_strict _ _).ext (rowN_strict _ _) fun x => ?_
  rw [rowN_mem, rowN_mem]
  constructor
  · rintro ⟨i, h1, h2, h3⟩; exact ⟨i, h1, by omega, h3⟩
  · rintro ⟨i, h1, h2, h3⟩
    refine ⟨i, h1, ?_, h3⟩
    rcases Nat.lt_or_ge i s with c | c
    · exact c
    · rw [Nat.testBit_lt_two_pow (Nat.lt_of_lt_of_le hlt (Nat.pow_le_pow_right (by decide) c))] at h3; cases h3
/-- Are the bits of one number among those of another one? -/
def PartN (a b : Nat) : Prop := ∀ i, a.testBit i = true → b.testBit i = true
end Go.Proofs.YtcjedgiglimipaaDoor

/-
  What words up to a length do not tell apart; when that is all that words do not tell apart. In plain Lean. No program in sight.
-/
namespace Go.Proofs.YtcjedgiglimipaaDoor
set_option linter.unusedSimpArgs false
set_option linter.unusedVariables false
set_option linter.unusedSectionVars false
open Go.RowKit

section
variable (n E : Nat) (δ : Nat → Nat → Nat) (fin : Nat → Prop)
def runM (s : Nat) (u : List Nat) : Nat := u.foldl δ s
def eqk (k : Nat) (s t : Nat) : Prop := ∀ u : List Nat, u.length ≤ k → (∀ e ∈ u, e < E) → (fin (runM δ s u) ↔ fin (runM δ t u))
/-- What no word tells apart. -/
def eqA (s t : Nat) : Prop := ∀ u : List Nat, (∀ e ∈ u, e < E) → (fin (runM δ s u) ↔ fin (runM δ t u))
variable {n E δ fin}
theorem eqk_succ {k s t : Nat} : eqk E δ fin (k + 1) s t ↔ eqk E δ fin k s t ∧ ∀ e, e < E → eqk E δ fin k (δ s e) (δ t e) := by
  constructor
  · intro h
    refine ⟨fun u hu he => h u (by omega) he, fun e he u hu hue => h (e :: u) (by simp; omega) fun x hx => ?_⟩
    rcases List.mem_cons.1 hx with rfl | hx
    · exact he
    · exact hue x hx
  · rintro ⟨h1, h2⟩ u hu he
    cases u with
    | nil => exact h1 [] (Nat.zero_le _) (by simp)
    | cons e u => exact h2 e (he e (List.mem_cons_self ..)) u (by simp at hu; omega) fun x hx => he x (List.mem_cons_of_mem _ hx)
theorem eqA_iff {s t : Nat} : eqA E δ fin s t ↔ ∀ k, eqk E δ fin k s t := ⟨fun h _ u _ he => h u he, fun h u he => h u.length u (Nat.le_refl _) he⟩
theorem eqA_step {s t e : Nat} (h : eqA E δ fin s t) (he : e < E) : eqA E δ fin (δ s e) (δ t e) := fun u hu => h (e :: u) fun x hx => by
  rcases List.mem_cons.1 hx with rfl | hx
  · exact he
  · exact hu x hx
/-- Where one round more tells nothing more apart, none does. -/
theorem eqk_stable (hδ : ∀ s, s < n → ∀ e, e < E → δ s e < n) {k : Nat} (h : ∀ s t, s < n → t < n → eqk E δ fin k s t → eqk E δ fin (k + 1) s t) {s t : Nat} (hs : s < n) (ht : t < n) (hk : eqk E δ fin k s t) : eqA E δ fin s t := by
  intro u
  induction u generalizing s t with
  | nil => intro _; exact hk [] (Nat.zero_le _) (by simp)
  | cons e u ih =>
    intro hu
    have he := hu e (List.mem_cons_self ..)
    exact ih (hδ s hs e he) (hδ t ht e he) ((eqk_succ.1 (h s t hs ht hk)).2 e he) fun x hx => hu x (List.mem_cons_of_mem _ hx)
/-- A relation that steps keep tells nothing more apart than words do. -/
theorem eqA_of_bisim (hδ : ∀ s, s < n → ∀ e, e < E → δ s e < n) {R : Nat → Nat → Prop} (h0 : ∀ s t, s < n → t < n → R s t → (fin s ↔ fin t)) (h1 : ∀ s t, s < n → t < n → R s t → ∀ e, e < E → R (δ s e) (δ t e)) {s t : Nat} (hs : s < n) (ht : t < n) (h : R s t) : eqA E δ fin s t := by
  intro u
  induction u generalizing s t with
  | nil => intro _; exact h0 s t hs ht h
  | cons e u ih =>
    intro hu
    have he := hu e (List.mem_cons_self ..)
    exact ih (hδ s hs e he) (hδ t ht e he) (h1 s t hs ht h e he) fun x hx => hu x (List.mem_cons_of_mem _ hx)
end
section
variable {α β : Type}
/-- Is it the first one of its kind? -/
def NewIn (p : Nat → α) (s : Nat) : Prop := ∀ s', s' < s → p s' ≠ p s
noncomputable instance (p : Nat → α) (s : Nat) : Decidable (NewIn p s) := Classical.propDecidable _
noncomputable def cnt (p : Nat → α) (n : Nat) : Nat := (List.range n).countP fun s => decide (NewIn p s)
theorem cnt_succ (p : Nat → α) (n : Nat) : cnt p (n + 1) = cnt p n + if NewIn p n then 1 else 0 := by
  unfold cnt
  rw [List.range_succ, List.countP_append, List.countP_cons, List.countP_nil, Nat.zero_add]
  simp
theorem cnt_le (p : Nat → α) (n : Nat) : cnt p n ≤ n := by
  unfold cnt
  have := List.countP_le_length (p := fun s => decide (NewIn p s)) (l := List.range n)
  simpa using this
theorem NewIn.up {p : Nat → α} {q : Nat → β} {n : Nat} (h : ∀ s t, s < n → t < n → q s = q t → p s = p t) {s : Nat} (hs : s < n) (hn : NewIn p s) : NewIn q s := fun s' hs' e => hn s' hs' (h s' s (by omega) hs e)
theorem countP_lt' {p q : Nat → Bool} : ∀ {l : List Nat}, (∀ x ∈ l, q x = true → p x = true) → (∃ x ∈ l, p x = true ∧ q x = false) → l.countP q < l.countP p
  | [], _, ⟨x, hx, _⟩ => absurd hx (by simp)
  | a :: l, h, ⟨x, hx, h1, h2⟩ => by
    have hle : l.countP q ≤ l.countP p := List.countP_mono_left fun y hy => h y (List.mem_cons_of_mem _ hy)
    rw [List.countP_cons, List.countP_cons]
    rcases List.mem_cons.1 hx with rfl | hx
    · rw [h1, h2]; simp; omega
    · have ih := countP_lt' (l := l) (fun y hy => h y (List.mem_cons_of_mem _ hy)) ⟨x, hx, h1, h2⟩
      have ha := h a (List.mem_cons_self ..)
      cases hq : q a <;> cases hp : p a <;> simp_all <;> omega
theorem NewIn.down {p : Nat → α} {q : Nat → β} {n : Nat} (h : ∀ s t, s < n → t < n → q s = q t → p s = p t) (hc : cnt p n = cnt q n) {s : Nat} (hs : s < n) (hn : NewIn q s) : NewIn p s := by
  refine Classical.byContradiction fun hno => ?_
  have : cnt p n < cnt q n := by
    unfold cnt
    exact countP_lt' (fun s hs hn => decide_eq_true (NewIn.up h (List.mem_range.1 hs) (of_decide_eq_true hn))) ⟨s, List.mem_range.2 hs, decide_eq_true hn, decide_eq_false hno⟩
  omega
theorem first_of (p : Nat → α) (s : Nat) : ∃ s', s' ≤ s ∧ p s' = p s ∧ NewIn p s' := by
  induction s using Nat.strongRecOn with
  | _ s ih =>
    by_cases h : NewIn p s
    · exact ⟨s, Nat.le_refl _, rfl, h⟩
    · obtain ⟨s', hs', he⟩ : ∃ s', s' < s ∧ p s' = p s := Classical.byContradiction fun hno => h fun s' hs' he => hno ⟨s', hs', he⟩
      obtain ⟨r, hr, hre, hrn⟩ := ih s' hs'
      exact ⟨r, by omega, hre.trans he, hrn⟩
theorem NewIn.eq {p : Nat → α} {s t : Nat} (hs : NewIn p s) (ht : NewIn p t) (h : p s = p t) : s = t := by
  rcases Nat.lt_trichotomy s t with c | c | c
  · exact absurd h (ht s c)
  · exact c
  · exact absurd h.symm (hs t c)
/-- The finer one, as many of a kind: it is no finer. -/
theorem kinds_same {p : Nat → α} {q : Nat → β} {n : Nat} (h : ∀ s t, s < n → t < n → q s = q t → p s = p t) (hc : cnt p n = cnt q n) {s t : Nat} (hs : s < n) (ht : t < n) (he : p s = p t) : q s = q t := by
  obtain ⟨s', hs', e1, n1⟩ := first_of q s
  obtain ⟨t', ht', e2, n2⟩ := first_of q t
  have m1 := NewIn.down h hc (by omega) n1
  have m2 := NewIn.down h hc (by omega) n2
  have : p s' = p t' := by rw [h s' s (by omega) hs e1, h t' t (by omega) ht e2, he]
  rw [← e1, ← e2, NewIn.eq m1 m2 this]
end
end Go.Proofs.YtcjedgiglimipaaDoor

/-
  Machines made of what is gone through, of whatever kind: determined; and the least machine of a language. In plain Lean. No program in sight.
-/
namespace Go.Proofs.YtcjedgiglimipaaDoor
set_option linter.unusedSimpArgs false
set_option linter.unusedVariables false
set_option linter.unusedSectionVars false
open Go.RowKit

theorem arr_atG {S : Type} {step : S → Int → S} {n K : Nat} {L : List S} {ar : List Arr} (h : Arrows step (evs n) K 0 L ar) {i : Nat} (hi : i < K * n) :
    ∃ (j : Nat) (s : S), ar.getD i default = ⟨((i / n : Nat) : Int), ((i % n : Nat) : Int), j⟩ ∧ L[i / n]? = some s ∧ L[j]? = some (step s ((i % n : Nat) : Int)) := by
  have hl : ar.length = K * n := by rw [h.len (Nat.zero_le _), evs_len]; rfl
  have h1 : (ar.map fun a => (a.frm, a.evt))[i]? = some (((i / n : Nat) : Int), ((i % n : Nat) : Int)) := by
    rw [h.1, prs_evs, List.getElem?_map, List.getElem?_range hi]; rfl
  have hg : ar[i]? = some (ar.getD i default) := by simp [List.getD_eq_getElem?_getD, hl, hi]
  rw [List.getElem?_map, hg] at h1
  have hm := h.2 _ (List.mem_of_getElem? hg)
  generalize ar.getD i default = a at *
  simp only [Option.map_some, Option.some.injEq, Prod.mk.injEq] at h1
  obtain ⟨i', j, s, e1, e2, e3, e4⟩ := hm
  obtain ⟨f1, f2⟩ := h1
  have : i' = i / n := by rw [f1] at e1; exact (Int.ofNat.inj e1).symm
  subst this
  refine ⟨j, s, ?_, e3, by rw [← f2]; exact e4⟩
  cases a; simp_all
section
variable {S : Type}
noncomputable def finAt (fin : S → Prop) (L : List S) (i : Nat) : Bool := @decide (∃ s, L[i]? = some s ∧ fin s) (Classical.propDecidable _)
theorem finAt_iff {fin : S → Prop} {L : List S} {i : Nat} : finAt fin L i = true ↔ ∃ s, L[i]? = some s ∧ fin s := @decide_eq_true_iff _ (Classical.propDecidable _)
noncomputable def endsG (fin : S → Prop) (L : List S) (k : Nat) : List Int := ((List.range k).filter (finAt fin L)).map fun (i : Nat) => (i : Int)
theorem endsG_mem {fin : S → Prop} {L : List S} {k : Nat} {x : Int} : x ∈ endsG fin L k ↔ ∃ i : Nat, x = i ∧ i < k ∧ ∃ s, L[i]? = some s ∧ fin s := by
  unfold endsG
  simp only [List.mem_map, List.mem_filter, List.mem_range, finAt_iff]
  exact ⟨fun ⟨i, ⟨h1, h2⟩, h3⟩ => ⟨i, h3.symm, h1, h2⟩, fun ⟨i, h1, h2, h3⟩ => ⟨i, ⟨h2, h3⟩, h1.symm⟩⟩
theorem endsG_strict (fin : S → Prop) (L : List S) (k : Nat) : Strict (endsG fin L k) := by
  unfold endsG Strict
  rw [List.pairwise_map]
  exact (List.pairwise_lt_range.filter _).imp fun h => by omega
noncomputable def detG (E : Int) (fin : S → Prop) (L : List S) (ar : List Arr) : Mach := ⟨L.length, E, [0], ar, endsG fin L L.length⟩
structure GDet (E : Int) (step : S → Int → S) (first : S) (L : List S) (ar : List Arr) : Prop where
  n8 : E.toNat ≤ 8
  ev : ((E.toNat : Nat) : Int) = E
  l256 : L.length ≤ 256
  first : L[0]? = some first
  nodup : L.Nodup
  arrows : Arrows step (evs E.toNat) L.length 0 L ar
variable {E : Int} {step : S → Int → S} {first : S} {L : List S} {ar : List Arr} {fin : S → Prop}
theorem GDet.pos (h : GDet E step first L ar) : 0 < L.length := getElem?_lt h.first
theorem GDet.len (h : GDet E step first L ar) : ar.length = L.length * E.toNat := by rw [h.arrows.len (Nat.zero_le _), evs_len]; rfl
theorem GDet.at_ (h : GDet E step first L ar) {i : Nat} (hi : i < ar.length) :
    ∃ (j : Nat) (s : S), ar.getD i default = ⟨((i / E.toNat : Nat) : Int), ((i % E.toNat : Nat) : Int), j⟩ ∧ L[i / E.toNat]? = some s ∧ L[j]? = some (step s ((i % E.toNat : Nat) : Int)) := arr_atG h.arrows (by rw [← h.len]; exact hi)
theorem GDet.inj (h : GDet E step first L ar) {i j : Nat} {s : S} (hi : L[i]? = some s) (hj : L[j]? = some s) : i = j :=
  (List.getElem?_inj (getElem?_lt hi) h.nodup).1 (hi.trans hj.symm)
theorem GDet.may (h : GDet E step first L ar) (fin : S → Prop) : (detG E fin L ar).May := by
  have h0 := h.pos
  have h1 := h.l256
  have h8 := h.n8
  have he := h.ev
  refine ⟨?_, ?_, ?_, ?_, ?_, ?_, ?_, fun i hi => ?_⟩
  · show (1 : Int) ≤ (L.length : Int); omega
  · show (L.length : Int) ≤ 256; omega
  · show 0 ≤ E; omega
  · show E ≤ 8; omega
  · show ar.length ≤ 4096
    rw [h.len]
    have : L.length * E.toNat ≤ 256 * 8 := Nat.mul_le_mul h1 h8
    omega
  · intro i hi
    have hi : i < 1 := hi
    obtain rfl : i = 0 := by omega
    exact ⟨by show (0 : Int) ≤ 0; omega, by show (0 : Int) < (L.length : Int); omega, by show (0 : Int) < 2147483648; omega, fun hh => absurd hh (by decide)⟩
  · refine IsRow.of_strict (endsG_strict _ _ _) fun x hx => ?_
    obtain ⟨i, rfl, hi, _⟩ := endsG_mem.1 hx
    show 0 ≤ (i : Int) ∧ (i : Int) < (L.length : Int) ∧ (i : Int) < 2147483648
    omega
  · have hi : i < ar.length := hi
    obtain ⟨j, s, ha, hs, hj⟩ := h.at_ hi
    have q1 := getElem?_lt hs
    have q2 := getElem?_lt hj
    have hnp : 0 < E.toNat := by
      rw [h.len] at hi
      rcases Nat.eq_zero_or_pos E.toNat with c | c
      · rw [c] at hi; omega
      · exact c
    have q3 := Nat.mod_lt i hnp
    show Mach.ArrOk _ (ar.getD i default) ∧ (0 < i → (ar.getD (i - 1) default).lt (ar.getD i default))
    rw [ha]
    refine ⟨⟨⟨Int.natCast_nonneg _, Int.ofNat_lt.2 q1⟩, ⟨by show (0 : Int) ≤ (j : Int); omega, by show (j : Int) < (L.length : Int); omega⟩, Int.natCast_nonneg _, by show ((i % E.toNat : Nat) : Int) < E; rw [← he]; exact Int.ofNat_lt.2 q3⟩, fun hp => ?_⟩
    obtain ⟨j', s', ha', _, _⟩ := h.at_ (i := i - 1) (by omega)
    rw [ha']
    have d1 := Nat.div_add_mod i E.toNat
    have d2 := Nat.div_add_mod (i - 1) E.toNat
    have d3 : (i - 1) / E.toNat ≤ i / E.toNat := Nat.div_le_div_right (by omega)
    generalize i / E.toNat = a at *
    generalize (i - 1) / E.toNat = b at *
    generalize i % E.toNat = c at *
    generalize (i - 1) % E.toNat = e at *
    rcases Nat.lt_or_ge b a with hb | hb
    · exact .inl (by show (b : Int) < (a : Int); omega)
    · obtain rfl : b = a := by omega
      exact .inr ⟨rfl, .inl (by show (e : Int) < (c : Int); omega)⟩
theorem GDet.next (h : GDet E step first L ar) {p : Nat} {s : S} (hp : L[p]? = some s) {e : Int} (h0 : 0 ≤ e) (h1 : e < E) : ∃ j : Nat, L[j]? = some (step s e) ∧ stepL (detG E fin L ar) [(p : Int)] e = [(j : Int)] := by
  have he := h.ev
  have hpl := getElem?_lt hp
  obtain ⟨e', rfl⟩ : ∃ e' : Nat, e = (e' : Int) := ⟨e.toNat, by omega⟩
  have he' : e' < E.toNat := by omega
  have hi : p * E.toNat + e' < ar.length := by
    rw [h.len]
    have : (p + 1) * E.toNat ≤ L.length * E.toNat := Nat.mul_le_mul_right _ hpl
    rw [Nat.succ_mul] at this
    omega
  have hnp : 0 < E.toNat := by omega
  have e1 : (p * E.toNat + e') / E.toNat = p := by rw [Nat.mul_comm, Nat.mul_add_div hnp, Nat.div_eq_of_lt he']; rfl
  have e2 : (p * E.toNat + e') % E.toNat = e' := by rw [Nat.mul_comm, Nat.mul_add_mod, Nat.mod_eq_of_lt he']
  obtain ⟨j, s', ha, hs, hj⟩ := h.at_ hi
  rw [e1, e2] at ha
  rw [e1, hp] at hs
  obtain rfl := Option.some.inj hs
  rw [e2] at hj
  refine ⟨j, hj, ?_⟩
  refine Strict.ext (sortedL_spec _).1 (List.pairwise_singleton _ _) fun x => ?_
  unfold stepL
  rw [(sortedL_spec _).2, List.mem_singleton]
  unfold stepT
  constructor
  · intro hx
    obtain ⟨a, hm, rfl⟩ := List.mem_map.1 hx
    obtain ⟨hm, hc⟩ := List.mem_filter.1 hm
    rw [Bool.and_eq_true, decide_eq_true_eq, decide_eq_true_eq, List.mem_singleton] at hc
    obtain ⟨i', j', s', f1, f2, f3, f4⟩ := h.arrows.2 a hm
    obtain rfl : i' = p := by have := hc.2; rw [f1] at this; exact Int.ofNat.inj this
    rw [hp] at f3
    obtain rfl := Option.some.inj f3
    rw [hc.1] at f4
    rw [f2, h.inj f4 hj]
  · rintro rfl
    refine List.mem_map.2 ⟨ar.getD (p * E.toNat + e') default, List.mem_filter.2 ⟨getD_mem ar default _ hi, ?_⟩, by rw [ha]⟩
    rw [ha]
    simp
theorem GDet.after (h : GDet E step first L ar) : ∀ (word : List Int) {p : Nat} {s : S}, L[p]? = some s → (∀ x ∈ word, 0 ≤ x ∧ x < E) → ∃ j : Nat, L[j]? = some (word.foldl step s) ∧ afterL (detG E fin L ar) [(p : Int)] word = [(j : Int)]
  | [], p, s, hp, _ => ⟨p, hp, rfl⟩
  | e :: word, p, s, hp, hw => by
    obtain ⟨j, hj, hs⟩ := h.next (fin := fin) hp (hw e (List.mem_cons_self ..)).1 (hw e (List.mem_cons_self ..)).2
    obtain ⟨j', hj', hs'⟩ := GDet.after h word hj fun x hx => hw x (List.mem_cons_of_mem _ hx)
    refine ⟨j', hj', ?_⟩
    show afterL (detG E fin L ar) (stepL (detG E fin L ar) [(p : Int)] e) word = _
    rw [hs, hs']
theorem GDet.accepts (h : GDet E step first L ar) {word : List Int} (hw : ∀ x ∈ word, 0 ≤ x ∧ x < E) : AcceptsL (detG E fin L ar) word ↔ fin (word.foldl step first) := by
  obtain ⟨j, hj, hs⟩ := h.after (fin := fin) word h.first hw
  have hjl := getElem?_lt hj
  unfold AcceptsL
  rw [show afterL (detG E fin L ar) (detG E fin L ar).starts word = [(j : Int)] from hs]
  show MeetL [(j : Int)] (endsG fin L L.length) ↔ _
  constructor
  · rintro ⟨x, hx, hx2⟩
    rw [List.mem_singleton.1 hx] at hx2
    obtain ⟨i, hi, _, t, ht, hM⟩ := endsG_mem.1 hx2
    obtain rfl : j = i := Int.ofNat.inj hi
    rw [hj] at ht
    rwa [Option.some.inj ht]
  · intro hM
    exact ⟨j, by simp, endsG_mem.2 ⟨j, rfl, hjl, _, hj, hM⟩⟩
end

abbrev Lg := List Int → Prop
noncomputable instance : DecidableEq Lg := fun _ _ => Classical.propDecidable _
def dv (X : Lg) (e : Int) : Lg := fun u => X (e :: u)
theorem dv_fold : ∀ (w : List Int) (X : Lg), w.foldl dv X = fun u => X (w ++ u)
  | [], _ => rfl
  | e :: w, X => by rw [List.foldl_cons, dv_fold w]; rfl
/-- What is accepted from some states on. -/
def langS (m : Mach) (s : List Int) : Lg := fun u => (∀ x ∈ u, 0 ≤ x ∧ x < m.events) ∧ MeetL (afterL m s u) m.ends
theorem dv_lang (m : Mach) (s : List Int) {e : Int} (h0 : 0 ≤ e) (h1 : e < m.events) : dv (langS m s) e = langS m (stepL m s e) := by
  funext u
  show ((∀ x ∈ e :: u, 0 ≤ x ∧ x < m.events) ∧ MeetL (afterL m s (e :: u)) m.ends) = _
  refine propext ⟨fun ⟨h, k⟩ => ⟨fun x hx => h x (List.mem_cons_of_mem _ hx), k⟩, fun ⟨h, k⟩ => ⟨fun x hx => ?_, k⟩⟩
  rcases List.mem_cons.1 hx with rfl | hx
  · exact ⟨h0, h1⟩
  · exact h x hx
/-- The least machine of a language. -/
def LeastOf (E : Int) (X : Lg) (o : Mach) : Prop :=
  ∃ (K : Nat) (L : List Lg) (ar : List Arr), L = (bIter dv (evs E.toNat) X K).map (·.1) ∧ L.length = K ∧ K ≤ 256 ∧ Arrows dv (evs E.toNat) K 0 L ar ∧ o = detG E (fun Y : Lg => Y []) L ar
theorem LeastOf.gdet {E : Int} {X : Lg} {K : Nat} {L : List Lg} {ar : List Arr} (h0 : 0 ≤ E) (h8 : E ≤ 8) (hL : L = (bIter dv (evs E.toNat) X K).map (·.1)) (hl : L.length = K) (hk : K ≤ 256) (ha : Arrows dv (evs E.toNat) K 0 L ar) : GDet E dv X L ar := by
  refine ⟨by omega, by omega, by omega, ?_, ?_, by rw [hl]; exact ha⟩
  · rw [hL, List.getElem?_map, prefix_getElem? (bIter_prefix (step := dv) (es := evs E.toNat) X (Nat.zero_le K)) (bIter_pos _ _)]; rfl
  · rw [hL]
    exact (bIter_good (step := dv) (es := evs E.toNat) (U := fun _ => True) (fun _ _ _ _ => trivial) trivial K).nodup
theorem LeastOf.accepts {E : Int} {X : Lg} {o : Mach} (h0 : 0 ≤ E) (h8 : E ≤ 8) (h : LeastOf E X o) {w : List Int} (hw : ∀ x ∈ w, 0 ≤ x ∧ x < E) : AcceptsL o w ↔ X w := by
  obtain ⟨K, L, ar, hL, hl, hk, ha, rfl⟩ := h
  rw [(LeastOf.gdet h0 h8 hL hl hk ha).accepts hw, dv_fold]
  show X (w ++ []) ↔ X w
  rw [List.append_nil]
theorem LeastOf.events {E : Int} {X : Lg} {o : Mach} (h : LeastOf E X o) : o.events = E := by
  obtain ⟨K, L, ar, hL, hl, hk, ha, rfl⟩ := h
  rfl
end Go.Proofs.YtcjedgiglimipaaDoor

/-
  Chapter 5's reference: what unseen events lead to; where a machine may be when an event was seen: by their contracts.
-/
namespace Go.Proofs.YtcjedgiglimipaaDoor
set_option linter.unusedSimpArgs false
set_option linter.unusedVariables false
set_option linter.unusedSectionVars false
open Go.RowKit

end Go.Proofs.YtcjedgiglimipaaDoor

/-
  Chapter 5's reference: the machine of what is seen: by its contract.
-/
namespace Go.Proofs.YtcjedgiglimipaaDoor
set_option linter.unusedSimpArgs false
set_option linter.unusedVariables false
set_option linter.unusedSectionVars false
open Go.RowKit

end Go.Proofs.YtcjedgiglimipaaDoor

/-
  Chapter 2: the program's Join of two sets: by its contract.
-/
namespace Go.Proofs.YtcjedgiglimipaaDoor
set_option linter.unusedSimpArgs false
set_option linter.unusedVariables false
set_option linter.unusedSectionVars false
open Go.RowKit

theorem Grew.of_below {w w' : World} (b : Below w.heap.size w w') (A : Option Addr) : Grew w w' A := ⟨⟨b.os, b.tape, b.output, b.size, fun k hk _ => b.block k hk⟩⟩
theorem Grew.trans' {w w1 w2 : World} {A : Option Addr} (h : Grew w w1 A) (k : Grew w1 w2 A) : Grew w w2 A :=
  ⟨⟨k.by_.os.trans h.by_.os, k.by_.tape.trans h.by_.tape, k.by_.output.trans h.by_.output, Nat.le_trans h.by_.size k.by_.size, fun i hi hne => (k.by_.block i (Nat.lt_of_lt_of_le hi h.by_.size) hne).trans (h.by_.block i hi hne)⟩⟩
/-- The first i words of either. -/
structure OrAt (a b : List Nat) (i : Nat) (ws : List Nat) : Prop where
  len : ws.length = 4
  at_ : ∀ k, ws.getD k 0 = if k < i then a.getD k 0 ||| b.getD k 0 else a.getD k 0
theorem OrAt.start {a : List Nat} (ha : a.length = 4) (b : List Nat) : OrAt a b 0 a := ⟨ha, fun k => by rw [if_neg (by omega)]⟩
theorem OrAt.step {a b ws : List Nat} {i : Nat} (h : OrAt a b i ws) (hi : i < 4) : OrAt a b (i + 1) (ws.set i (ws.getD i 0 ||| b.getD i 0)) := by
  refine ⟨by rw [List.length_set]; exact h.len, fun k => ?_⟩
  rw [getD_set _ _ _ _ _ (by rw [h.len]; exact hi)]
  by_cases e : k = i
  · subst e
    rw [if_pos rfl, if_pos (by omega), h.at_, if_neg (by omega)]
  · rw [if_neg e, h.at_]
    by_cases c : k < i
    · rw [if_pos c, if_pos (by omega)]
    · rw [if_neg c, if_neg (by omega)]
theorem OrAt.words {s t : List Int} {i : Nat} {ws : List Nat} (h : OrAt (wordsOf s) (wordsOf t) i ws) : Words ws := ⟨h.len, fun k => by
  rw [h.at_]
  split
  · exact Nat.or_lt_two_pow ((wordsOf_words s).2 k) ((wordsOf_words t).2 k)
  · exact (wordsOf_words s).2 k⟩
theorem OrAt.done {s t : List Int} {ws : List Nat} (h : OrAt (wordsOf s) (wordsOf t) 4 ws) : ws = wordsOf (s ++ t) := by
  refine words_eq h.words fun n hn => ?_
  unfold setHas
  rw [h.at_, if_pos (by omega), Nat.testBit_or]
  have h1 := wordsOf_has s n hn
  have h2 := wordsOf_has t n hn
  unfold setHas at h1 h2
  rw [h1, h2, ← Bool.decide_or]
  exact decide_eq_decide.2 (by rw [List.mem_append])
theorem cells_set (ws : List Nat) (i z : Nat) : (setCells ws).set i (.int .u64 (z : Int)) = setCells (ws.set i z) := by
  unfold setCells
  rw [List.map_set]
theorem set_Join {l l2 : List Int} {w : World} {g : Nat} (hk : Blk w g 76 (setCells (wordsOf l))) :
    Cal Tryd.prog 96 [.pointer (some ⟨g, 0, none⟩), setV l2] w fun v w' => v = .tuple #[] ∧ Blk w' g 76 (setCells (wordsOf (l ++ l2))) ∧ Grew w w' (some ⟨g, 0, none⟩) := by
  refine cal_machine_Set_Join (by simp) 100000 fun Q hQ => ?_
  have hgl := hk.lt
  simp (disch := first | with_reducible assumption | omega) only [push_cast, x_blk, x_cd, ↓reduceIte, Nat.reduceEqDiff, List.map_cons, List.map_nil, Int.reduceEq, Int.lt_irrefl, F_machine_Set_Join]
  refine blk_of (box_agg _ (setCells (wordsOf l2))) ?_
  intro w1 k1 b1 z1
  have k0 := hk.below b1 hk.lt
  simp (disch := first | with_reducible assumption | omega) only [push_cast, x_blk, x_cd, ↓reduceIte, Nat.reduceEqDiff, List.map_cons, List.map_nil, Int.reduceEq, Int.lt_irrefl]
  refine loop_rule (fun f w' => ∃ (i : Nat) (ws : List Nat), i ≤ 4 ∧ (f 0 = .pointer (some ⟨g, 0, none⟩) ∧ f 3 = .pointer (some ⟨w.heap.size, 0, none⟩) ∧ f 5 = .int .i64 i) ∧ OrAt (wordsOf l) (wordsOf l2) i ws ∧
      Blk w' g 76 (setCells ws) ∧ Blk w' w.heap.size 76 (setCells (wordsOf l2)) ∧ Grew w w' (some ⟨g, 0, none⟩))
    (fun f _ => 4 - (intOf (f 5)).toNat) ⟨0, wordsOf l, by omega, ⟨rfl, rfl, rfl⟩, OrAt.start (wordsOf_words l).1 _, k0, k1, Grew.of_below b1 _⟩ ?_
  rintro f w2 ⟨i, ws, hi, fr, hw, kg, kb, gr⟩ J hJ
  by_cases hlt : (i : Int) < 4
  case neg =>
    have hie : i = 4 := by omega
    have hd := (hie ▸ hw : OrAt _ _ 4 ws).done
    subst hd
    simp (disch := first | with_reducible assumption | omega) only [push_cast, x_blk, x_cd, ↓reduceIte, Nat.reduceEqDiff, List.map_cons, List.map_nil, Int.reduceEq, Int.lt_irrefl, L_machine_Set_Join_0, fr, hlt]
    exact fin_0 (hQ _ _ ⟨rfl, kg, gr⟩)
  have hi4 : i < 4 := by omega
  have kgd := kg.drew
  have kbd := kb.drew
  have hx : ws.getD i 0 < 2 ^ 64 := hw.words.2 i
  have hy := (wordsOf_words l2).2 i
  have hstp := hw.step hi4
  have hww := hw.words
  generalize hu : ws.getD i 0 = x at *
  generalize hv : (wordsOf l2).getD i 0 = y at *
  generalize hz : x ||| y = z at *
  simp (disch := first | with_reducible assumption | omega) only [push_cast, x_blk, x_cd, ↓reduceIte, Nat.reduceEqDiff, List.map_cons, List.map_nil, Int.reduceEq, Int.lt_irrefl, L_machine_Set_Join_0, fr, hlt, Int.natCast_nonneg, bin_or' hz hx hy, kgd.word' hww ty_ag_74 i hi4 hu, kbd.word' (wordsOf_words l2) ty_ag_74 i hi4 hv]
  refine sto_cell kgd (by kernel_rfl) i (by rw [setCells_len, hw.len]; exact hi4) .u64 (z : Int) ?_
  intro w5 k5 g5 z5
  rw [cells_set] at k5
  simp (disch := first | with_reducible assumption | omega) only [push_cast, x_blk, x_cd, ↓reduceIte, Nat.reduceEqDiff, List.map_cons, List.map_nil, Int.reduceEq, Int.lt_irrefl, fr]
  exact hJ _ _ ⟨i + 1, _, by omega, (by simp only [push_cast, ↓reduceIte, Nat.reduceEqDiff, true_and, and_true, and_self, eq_self, fr]), hstp, k5, kbd.grown g5.by_ (by simp; omega), (gr.trans' (Grew.of_below ((Same.refl w2).drew.below _) _)).trans' g5⟩ (by simp only [push_cast, ↓reduceIte, Nat.reduceEqDiff, intOf, fr]; omega)
end Go.Proofs.YtcjedgiglimipaaDoor

/-
  Where states lead to, row by row, in place: one row joined to all that have its number, number by number. In plain Lean. No program in sight.
-/
namespace Go.Proofs.YtcjedgiglimipaaDoor
set_option linter.unusedSimpArgs false
set_option linter.unusedVariables false
set_option linter.unusedSectionVars false
open Go.RowKit

/-- t is in the s-th row. -/
def Mw (L : List (List Int)) (s : Nat) (t : Int) : Prop := t ∈ L.getD s []
noncomputable instance (L : List (List Int)) (s : Nat) (t : Int) : Decidable (Mw L s t) := Classical.propDecidable _
end Go.Proofs.YtcjedgiglimipaaDoor
