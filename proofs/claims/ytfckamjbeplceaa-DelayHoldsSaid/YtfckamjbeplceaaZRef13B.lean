/-
  Chapter 13's reference: Twins, Delay: by their contracts.
-/
import Derived.Test.YtfckamjbeplceaaZRef13
namespace Go.Proofs.Ytfckamjbeplceaa
set_option linter.unusedSimpArgs false
set_option linter.unusedVariables false
set_option linter.unusedSectionVars false
open Go.RowKit

structure TwI (m : Mach) (seen faults : List Int) (l : List Tw) (k i : Nat) (es : List Eg) : Prop where
  nodup : l.Nodup
  wk : ∀ x ∈ l, ∃ n, Wk (StW m) (EdW m seen faults) x n
  st : ∀ x, StW m x → x ∈ l
  is : ∀ q ∈ es, ∃ x y, l[q.1]? = some x ∧ l[q.2.1]? = some y ∧ EdW m seen faults x y (cnt q.2.2)
  all : ∀ (j : Nat) (x y : Tw) (c : Nat), j < k → l[j]? = some x → EdW m seen faults x y c → ∃ q ∈ es, q.1 = j ∧ l[q.2.1]? = some y ∧ cnt q.2.2 = c
  done : ∀ (j : Nat) (x : Tw) (p : Tw × Bool), j < i → l[k]? = some x → (leadsL m seen faults x m.events.toNat)[j]? = some p → ∃ q ∈ es, q.1 = k ∧ l[q.2.1]? = some p.1 ∧ q.2.2 = p.2
  len : es.length ≤ 288 * k + i
section
variable {m : Mach} {seen faults : List Int} {l : List Tw} {k i : Nat} {es : List Eg}
theorem get_snoc {α : Type} {l : List α} {j : Nat} {x : α} (h : l[j]? = some x) (y : α) : (l ++ [y])[j]? = some x := by
  rw [List.getElem?_append_left (lt_of_some h)]; exact h
theorem TwI.add (h : TwI m seen faults l k i es) {x : Tw} (hx : l[k]? = some x) {y : Tw} {b : Bool} (hy : (leadsL m seen faults x m.events.toNat)[i]? = some (y, b)) {n : Nat} (hn : l[n]? = some y) : TwI m seen faults l k (i + 1) (es ++ [(k, n, b)]) := by
  have he : EdW m seen faults x y (cnt b) := ⟨b, List.mem_of_getElem? hy, rfl⟩
  refine ⟨h.nodup, h.wk, h.st, fun q hq => ?_, fun j x' y' c hj hx' hc => ?_, fun j x' p hj hx' hp => ?_, by rw [List.length_append, List.length_singleton]; have := h.len; omega⟩
  · rcases List.mem_append.1 hq with hq | hq
    · exact h.is q hq
    · rw [List.mem_singleton.1 hq]; exact ⟨x, y, hx, hn, he⟩
  · obtain ⟨q, hq, h1⟩ := h.all j x' y' c hj hx' hc
    exact ⟨q, List.mem_append_left _ hq, h1⟩
  · by_cases e : j = i
    · subst e
      rw [hx] at hx'
      obtain rfl := Option.some.inj hx'
      rw [hy] at hp
      obtain rfl := Option.some.inj hp
      exact ⟨_, List.mem_append_right _ (List.mem_singleton.2 rfl), rfl, hn, rfl⟩
    · obtain ⟨q, hq, h1⟩ := h.done j x' p (by omega) hx' hp
      exact ⟨q, List.mem_append_left _ hq, h1⟩
theorem TwI.more (h : TwI m seen faults l k i es) (hk : k < l.length) {y : Tw} (hy : y ∉ l) {n : Nat} (hw : Wk (StW m) (EdW m seen faults) y n) : TwI m seen faults (l ++ [y]) k i es := by
  refine ⟨?_, fun z hz => ?_, fun z hz => List.mem_append_left _ (h.st z hz), fun q hq => ?_, fun j x' y' c hj hx' hc => ?_, fun j x' p hj hx' hp => ?_, h.len⟩
  · rw [List.nodup_append]
    refine ⟨h.nodup, by simp, fun a ha b hb => ?_⟩
    rw [List.mem_singleton.1 hb]
    exact fun e => hy (e ▸ ha)
  · rcases List.mem_append.1 hz with hz | hz
    · exact h.wk z hz
    · rw [List.mem_singleton.1 hz]; exact ⟨n, hw⟩
  · obtain ⟨x, z, h1, h2, h3⟩ := h.is q hq
    exact ⟨x, z, get_snoc h1 y, get_snoc h2 y, h3⟩
  · rw [List.getElem?_append_left (by omega)] at hx'
    obtain ⟨q, hq, h1, h2, h3⟩ := h.all j x' y' c hj hx' hc
    exact ⟨q, hq, h1, get_snoc h2 y, h3⟩
  · rw [List.getElem?_append_left hk] at hx'
    obtain ⟨q, hq, h1, h2, h3⟩ := h.done j x' p hj hx' hp
    exact ⟨q, hq, h1, get_snoc h2 y, h3⟩
theorem TwI.next (h : TwI m seen faults l k i es) {x : Tw} (hx : l[k]? = some x) (hi : i = (leadsL m seen faults x m.events.toNat).length) (h288 : i ≤ 288) : TwI m seen faults l (k + 1) 0 es := by
  refine ⟨h.nodup, h.wk, h.st, h.is, fun j x' y' c hj hx' hc => ?_, fun j x' p hj => absurd hj (by omega), by have := h.len; omega⟩
  by_cases e : j = k
  · subst e
    rw [hx] at hx'
    obtain rfl := Option.some.inj hx'
    obtain ⟨b, hb, rfl⟩ := hc
    obtain ⟨i', hi', hix⟩ := List.getElem_of_mem hb
    obtain ⟨q, hq, h1, h2, h3⟩ := h.done i' x (y', b) (by omega) hx (by rw [List.getElem?_eq_getElem hi', hix])
    exact ⟨q, hq, h1, h2, by rw [h3]⟩
  · exact h.all j x' y' c (by omega) hx' hc
end
/-- The twins at first. -/
def stRow (m : Mach) (s : Int) : List Tw := m.starts.map fun t => (s, t, false)
def stUp (m : Mach) (i k : Nat) : List Tw := (m.starts.take i).flatMap (stRow m) ++ (m.starts.take k).map fun t => (m.starts.getD i 0, t, false)
theorem stUp_succ {m : Mach} {i k : Nat} (h : k < m.starts.length) : stUp m i (k + 1) = stUp m i k ++ [(m.starts.getD i 0, m.starts.getD k 0, false)] := by
  unfold stUp
  rw [take_snoc m.starts 0 k h, List.map_append, List.append_assoc]; rfl
theorem stUp_next {m : Mach} {i : Nat} (h : i < m.starts.length) : stUp m i m.starts.length = stUp m (i + 1) 0 := by
  unfold stUp
  rw [take_snoc m.starts 0 i h, List.flatMap_append, List.take_length]
  simp [stRow]
theorem stUp_len (m : Mach) (i k : Nat) : (stUp m i k).length ≤ i * m.starts.length + k := by
  unfold stUp
  have : ∀ l : List Int, (l.flatMap (stRow m)).length = l.length * m.starts.length := fun l => by
    induction l with
    | nil => simp
    | cons a l ih => rw [List.flatMap_cons, List.length_append, ih, List.length_cons, Nat.succ_mul]; simp [stRow]; omega
  rw [List.length_append, this, List.length_map, List.length_take, List.length_take]
  have : min i m.starts.length * m.starts.length ≤ i * m.starts.length := Nat.mul_le_mul_right _ (Nat.min_le_left _ _)
  omega
theorem mem_stUp {m : Mach} {x : Tw} : x ∈ stUp m m.starts.length 0 ↔ StW m x := by
  unfold stUp
  rw [List.take_length]
  simp only [List.take_zero, List.map_nil, List.append_nil, List.mem_flatMap, stRow, List.mem_map]
  constructor
  · rintro ⟨s, hs, t, ht, rfl⟩; exact ⟨hs, ht, rfl⟩
  · rintro ⟨h1, h2, h3⟩; exact ⟨x.1, h1, x.2.1, h2, by obtain ⟨a, b, c⟩ := x; simp only at h3; rw [h3]⟩
end Go.Proofs.Ytfckamjbeplceaa
