/-
  Chapter 3: the reference's Reach, Live: by their contracts.
  Chapter 3: the reference's Trim: by its contract; the laws ReachTells, ReachTrims.
  Chapter 3: the laws ReachTells, ReachTrims.
-/
import Derived.Test.YtcjinmgieiebbaaDoorZReach
import Derived.Test.YtcjinmgieiebbaaDoorZTrim
import Derived.Test.YtcjinmgieiebbaaDoorZDetP
import Derived.Test.YtcjinmgieiebbaaDoorZCtlA
import Derived.Test.YtcjinmgieiebbaaDoorZLawMach
namespace Go.Proofs.YtcjinmgieiebbaaDoor
set_option linter.unusedSimpArgs false
set_option linter.unusedVariables false
set_option linter.unusedSectionVars false
section
open Go.RowKit

/-- What the reference's rounds keep to. -/
structure RG (es : List (Int × Int)) (l0 : List Int) (N : Int) (l : List Int) : Prop where
  nodup : l.Nodup
  range : ∀ x ∈ l, 0 ≤ x ∧ x < N
  sub : ∀ x ∈ l0, x ∈ l
  clos : ∀ x ∈ l, Clos es l0 x
theorem RG.snoc {es : List (Int × Int)} {l0 : List Int} {N : Int} {l : List Int} (h : RG es l0 N l) {p : Int × Int} (hp : p ∈ es) (h1 : p.1 ∈ l) (h2 : p.2 ∉ l) (hr : 0 ≤ p.2 ∧ p.2 < N) : RG es l0 N (l ++ [p.2]) := by
  refine ⟨?_, fun x hx => ?_, fun x hx => List.mem_append_left _ (h.sub x hx), fun x hx => ?_⟩
  · exact List.nodup_append.2 ⟨h.nodup, by simp, fun a ha b hb e => by
      have e2 : b = p.2 := by simpa using hb
      exact h2 (e2 ▸ e ▸ ha)⟩
  · rcases List.mem_append.1 hx with hx | hx
    · exact h.range x hx
    · rw [List.mem_singleton.1 hx]; exact hr
  · rcases List.mem_append.1 hx with hx | hx
    · exact h.clos x hx
    · rw [List.mem_singleton.1 hx]; exact .step p hp (h.clos _ h1)
theorem RG.len {es : List (Int × Int)} {l0 : List Int} {N : Int} {l : List Int} (h : RG es l0 N l) : l.length ≤ N.toNat := by
  have h1 : (l.map Int.toNat).Nodup := by
    rw [List.nodup_iff_pairwise_ne, List.pairwise_map]
    exact (List.nodup_iff_pairwise_ne.1 h.nodup).imp_of_mem fun {a b} ha hb hab e => hab (by have := h.range a ha; have := h.range b hb; omega)
  have := nodup_nat_len N.toNat _ h1 fun x hx => by
    obtain ⟨y, hy, rfl⟩ := List.mem_map.1 hx
    have := h.range y hy; omega
  simpa using this
theorem RG.all {es : List (Int × Int)} {l0 : List Int} {N : Int} {l : List Int} (h : RG es l0 N l) (hl : N.toNat ≤ l.length) {x : Int} (h0 : 0 ≤ x) (h1 : x < N) : x ∈ l := by
  refine Classical.byContradiction fun hn => ?_
  have h2 : ((x :: l).map Int.toNat).Nodup := by
    rw [List.nodup_iff_pairwise_ne, List.pairwise_map]
    refine (List.nodup_iff_pairwise_ne.1 (List.nodup_cons.2 ⟨hn, h.nodup⟩)).imp_of_mem fun {a b} ha hb hab e => hab ?_
    have ra : 0 ≤ a := by rcases List.mem_cons.1 ha with rfl | ha; exact h0; exact (h.range a ha).1
    have rb : 0 ≤ b := by rcases List.mem_cons.1 hb with rfl | hb; exact h0; exact (h.range b hb).1
    omega
  have := nodup_nat_len N.toNat _ h2 fun z hz => by
    obtain ⟨y, hy, rfl⟩ := List.mem_map.1 hz
    rcases List.mem_cons.1 hy with rfl | hy
    · omega
    · have := h.range y hy; omega
  simp at this; omega
theorem RG.done {es : List (Int × Int)} {l0 : List Int} {N : Int} {l : List Int} (h : RG es l0 N l) (hN : N ≤ 256) (hc : ∀ p ∈ es, p.1 ∈ l → p.2 ∈ l) : sortedL l = pick (Clos es l0) := by
  have hs := sortedL_spec l
  refine pick_eq hs.1 (fun x hx => ?_) fun x => ?_
  · have := h.range x ((hs.2 x).1 hx); omega
  · rw [hs.2]
    exact ⟨h.clos x, fun hx => Clos.within h.sub hc hx⟩

end

section
open Go.RowKit

end

section
open Go.RowKit

theorem Ints.up {w w' : World} {A : Option Addr} {l : List Int} (h : Ints (· < w.heap.size) w A l) (b : Below w.heap.size w w') : Ints (· < w'.heap.size) w' A l := (h.below b).mono fun _ hl => Nat.lt_of_lt_of_le hl b.size
theorem IsM.up {w w' : World} {a : MV} {m : Mach} (h : IsM (· < w.heap.size) w a m) (b : Below w.heap.size w w') : IsM (· < w'.heap.size) w' a m := (h.below b).mono fun _ hl => Nat.lt_of_lt_of_le hl b.size
theorem May.fits {m : Mach} (hm : m.May) : m.Fits := by
  have a1 := hm.1
  have a2 := hm.2.1
  have a3 := hm.2.2.1
  have a4 := hm.2.2.2.1
  have a5 := hm.2.2.2.2.1
  have r6 := hm.2.2.2.2.2.1
  have r7 := hm.2.2.2.2.2.2.1
  refine ⟨⟨by omega, by omega⟩, ⟨by omega, by omega⟩, fun x hx => ?_, fun x hx => ?_, fun a ha => ?_, by have := r6.len; omega, by have := r7.len; omega, by omega⟩
  · have := r6.mem hx; exact ⟨by omega, by omega⟩
  · have := r7.mem hx; exact ⟨by omega, by omega⟩
  · have := May.arr hm ha
    unfold Mach.ArrOk at this
    exact ⟨⟨by omega, by omega⟩, ⟨by omega, by omega⟩, ⟨by omega, by omega⟩⟩
end
end Go.Proofs.YtcjinmgieiebbaaDoor
