/-
  Maps whose keys are compared cell by cell, and equality of such keys. No program in sight.
  Chapter 7: pairs of sets: how they lie, as keys of maps, as records.
  The library's slices.Reverse on a row of one's own, by the shelf's contract.
  Chapter 7: the program's Words goes over all pairs that words lead to, the least word ahead: by its contract.
-/
import Derived.Test.YtpinjiikiaakaaaZOwn
import Derived.Maps.Keyed
import Derived.DeepKeys4
import Derived.Laws.StructEq
import Derived.Carry
import Derived.Test.YtpinjiikiaakaaaZSet
import Derived.Test.YtpinjiikiaakaaaZTy
import Derived.Test.YtpinjiikiaakaaaZIr
import Derived.Shelf.Slices.Reverse
import Derived.Lib.OwnBridge
import Derived.Test.YtpinjiikiaakaaaZBfs
namespace Go.Proofs.Ytpinjiikiaakaaa
set_option linter.unusedSimpArgs false
set_option linter.unusedVariables false
set_option linter.unusedSectionVars false
section
open Go.RowKit

def KeyIs (P : Program) (k : TypeId) (v : Value) : Prop := ∃ l, keyOf P k v = some l
/-- Block b is a map with these entries, in this order. -/
def MapIs (P : Program) (k : TypeId) (w : World) (b : Nat) (kv : List (Value × Value)) : Prop :=
  ∃ es clock, w.heap[b]? = some (.map es clock) ∧ es.toList.map (fun e => (e.key, e.val)) = kv ∧ (∀ p ∈ kv, KeyIs P k p.1) ∧ kv.Pairwise fun p q => p.1 ≠ q.1
section
variable {P : Program} {K : Fr → World → Prop} {k e t ty b : Nat} {u w w' : World} {f : Fr} {d : Option Nat} {kv : List (Value × Value)}
theorem MapIs.lt (h : MapIs P k w b kv) : b < w.heap.size := by
  obtain ⟨es, c, h1, _⟩ := h
  rcases Nat.lt_or_ge b w.heap.size with hlt | hge
  · exact hlt
  · rw [Array.getElem?_eq_none hge] at h1; cases h1
theorem MapIs.keep (h : MapIs P k w b kv) (hk : w'.heap[b]? = w.heap[b]?) : MapIs P k w' b kv := by
  obtain ⟨es, c, h1, h2⟩ := h
  exact ⟨es, c, hk.trans h1, h2⟩
theorem MapIs.below {B : Nat} (h : MapIs P k w b kv) (hb : Below B w w') (hB : b < B) : MapIs P k w' b kv := h.keep (hb.block b hB)
theorem MapIs.same (h : MapIs P k w b kv) (hs : Same w w') : MapIs P k w' b kv := h.keep (by rw [hs.heap])
theorem MapIs.grown {row : Option Nat} (h : MapIs P k w b kv) (hb : w.grownBy w' row) (hg : some b ≠ row) : MapIs P k w' b kv := h.keep (hb.block b h.lt hg)
theorem MapIs.alloc (h : MapIs P k w b kv) (o : Obj) : MapIs P k (w.alloc o) b kv := h.keep (Below.heap_alloc w o b h.lt)
theorem MapIs.ne_blk {g t' : Nat} {cs : List Value} (h : MapIs P k w b kv) (ho : Blk w g t' cs) : b ≠ g := by
  obtain ⟨es, cl, h1, _⟩ := h
  rintro rfl
  unfold Blk at ho
  rw [h1] at ho
  cases ho
section
variable (t : TypeId) (ty : TypeId)
end
end
end

section
open Go.RowKit

end

section
open Go.RowKit Go.Shelf Go.Lib Go.Sort

end

section
open Go.RowKit

abbrev St := List Int × List Int
abbrev PL := St × Int × Int
/-- Whence each place was come to. -/
def Par (pl : List PL) (L : List (St × List Int)) : Prop :=
  pl.map (·.1) = L.map (·.1) ∧ ∀ j p q, pl[j]? = some p → L[j]? = some q → (p.2.1 = -1 ∧ q.2 = []) ∨ ∃ i : Nat, p.2.1 = (i : Int) ∧ i < j ∧ ∃ q', L[i]? = some q' ∧ q.2 = q'.2 ++ [p.2.2]
theorem Par.len {pl : List PL} {L : List (St × List Int)} (h : Par pl L) : pl.length = L.length := by simpa using congrArg List.length h.1
theorem Par.at_ {pl : List PL} {L : List (St × List Int)} (h : Par pl L) {j : Nat} {p : PL} (hp : pl[j]? = some p) : ∃ q, L[j]? = some q ∧ q.1 = p.1 := by
  have h1 : (pl.map (·.1))[j]? = some p.1 := by rw [List.getElem?_map, hp]; rfl
  rw [h.1, List.getElem?_map] at h1
  cases hq : L[j]? with
  | none => rw [hq] at h1; cases h1
  | some q => rw [hq] at h1; exact ⟨q, rfl, by simpa using h1⟩
theorem Par.snoc {pl : List PL} {L : List (St × List Int)} (h : Par pl L) {k : Nat} {q' : St × List Int} (hk : L[k]? = some q') (s : St) (e : Int) : Par (pl ++ [(s, (k : Int), e)]) (L ++ [(s, q'.2 ++ [e])]) := by
  have hl := h.len
  have hkl : k < L.length := by
    rcases Nat.lt_or_ge k L.length with h1 | h1
    · exact h1
    · rw [List.getElem?_eq_none h1] at hk; cases hk
  refine ⟨by simp [h.1], fun j p q hp hq => ?_⟩
  by_cases hj : j < pl.length
  · rw [List.getElem?_append_left hj] at hp
    rw [List.getElem?_append_left (by omega)] at hq
    rcases h.2 j p q hp hq with h1 | ⟨i, h1, h2, q2, h3, h4⟩
    · exact .inl h1
    · exact .inr ⟨i, h1, h2, q2, by rw [List.getElem?_append_left (by omega)]; exact h3, h4⟩
  · have hjl : j = pl.length := by
      rcases Nat.lt_or_ge j (pl.length + 1) with h1 | h1
      · omega
      · rw [List.getElem?_eq_none (by simp; omega)] at hp; cases hp
    subst hjl
    rw [List.getElem?_append_right (Nat.le_refl _)] at hp
    rw [List.getElem?_append_right (by omega)] at hq
    simp at hp
    rw [hl] at hq
    simp at hq
    subst hp hq
    exact .inr ⟨k, rfl, by omega, q', by rw [List.getElem?_append_left (by omega)]; exact hk, rfl⟩

theorem Recs.lt {α : Type} {enc : α → List Value} {sz : Nat} (E : Enc enc sz) (hs : 0 < sz) {ok : Nat → Prop} {w : World} {A : Option Addr} {l : List α} (h : Recs enc sz ok w A l) : Recs enc sz (· < w.heap.size) w A l :=
  ⟨h.isSome, fun hl => by
    have h0 : l[0]? = some (l[0]'hl) := List.getElem?_eq_getElem hl
    have h1 : (enc (l[0]'hl))[0]? = some ((enc (l[0]'hl))[0]'(by rw [E.len]; exact hs)) := List.getElem?_eq_getElem _
    have := World.block_lt_of_cell? w _ (h.cell 0 _ h0 0 _ h1)
    rwa [eA_block] at this, h.cell⟩

end
section
open Go.RowKit
/-- A row that can be read, in a block that lay there at first or that holds elements of the type e. -/
structure RowT (B e : Nat) (w : World) (A : Option Addr) (l : List Int) : Prop where
  ints : Ints (fun b => b < w.heap.size ∧ (b < B ∨ ∃ cs r, w.heap[b]? = some (.cells cs e r))) w A l
section
variable {B e : Nat} {w w' : World} {A : Option Addr} {l : List Int}
theorem RowT.lt (h : RowT B e w A l) : Ints (· < w.heap.size) w A l := h.ints.mono fun _ hb => hb.1
theorem RowT.keep (h : RowT B e w A l) (hz : w.heap.size ≤ w'.heap.size) (hk : ∀ b, b < w.heap.size → (b < B ∨ ∃ cs r, w.heap[b]? = some (.cells cs e r)) → w'.heap[b]? = w.heap[b]?) : RowT B e w' A l := by
  refine ⟨⟨h.ints.isSome, fun hl => ?_, fun i hi => ?_⟩⟩
  · obtain ⟨h1, h2⟩ := h.ints.block hl
    refine ⟨by omega, ?_⟩
    rcases h2 with h2 | ⟨cs, r, h3⟩
    · exact .inl h2
    · exact .inr ⟨cs, r, by rw [hk _ h1 (.inr ⟨cs, r, h3⟩)]; exact h3⟩
  · obtain ⟨h1, h2⟩ := h.ints.block (by omega)
    rw [← h.ints.cell i hi]
    exact World.cell?_of_block (by rw [eA_block]; exact hk _ h1 h2)
theorem RowT.below (h : RowT B e w A l) (hb : Below w.heap.size w w') : RowT B e w' A l := h.keep hb.size fun b hlt _ => hb.block b hlt
theorem RowT.grew {e' sz c n : Nat} {A2 : Option Addr} {xs : List Value} (h : RowT B e w A l) (ho : Own B e' sz w A2 c n xs) (hne : e' ≠ e) (hg : Grew w w' A2) : RowT B e w' A l :=
  h.keep hg.by_.size fun b hlt hor => hg.by_.block b hlt (by
    rcases ho.own.2 with ⟨h0, _⟩ | ⟨g, cap, cur, hv, hB, hh, _⟩
    · injection h0 with h0; subst h0; simp
    · injection hv with hv
      subst hv
      simp only [Option.map_some, ne_eq, Option.some.injEq]
      rintro rfl
      rcases hor with h1 | ⟨cs, r, h1⟩
      · omega
      · rw [h1] at hh
        injection hh with hh
        injection hh with _ ht
        exact hne ht.symm)
theorem RowT.of_arg (h : Ints (· < B) w A l) (hB : B ≤ w.heap.size) : RowT B e w A l := ⟨h.mono fun b hb => ⟨by omega, .inl hb⟩⟩
end
end
end Go.Proofs.Ytpinjiikiaakaaa
