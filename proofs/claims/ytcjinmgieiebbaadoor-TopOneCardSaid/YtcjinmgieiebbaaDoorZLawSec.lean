/-
  The laws SecretTells, SecretKeeps: they return true.
-/
import Derived.Test.YtcjinmgieiebbaaDoorZSecE
import Derived.Test.YtcjinmgieiebbaaDoorZCurD
namespace Go.Proofs.YtcjinmgieiebbaaDoor
set_option linter.unusedSimpArgs false
set_option linter.unusedVariables false
set_option linter.unusedSectionVars false
open Go.RowKit

section
variable {m s : Mach} {L : List (List Int)} {ar : List Arr} {seen : List Int}
theorem found_none (hr : seen.Pairwise (· < ·)) {o : List Int} (h : SecFound m s L ar seen false o 0) : o = [] ∧ ∀ u, (∀ e ∈ u, e ∈ seen) → sLeak m s L (sEst m s L ar seen u) = false := by
  rcases h with ⟨_, _, _, h⟩ | ⟨_, k, _, hk, ho⟩
  · cases h
  · rcases bestF_spec (sLeak m s L) (bIter (sNext m s L ar seen) seen (sFirst m s L ar seen) k) with ⟨hb, hno⟩ | ⟨x, hx, ht, hb, _⟩
    · rw [hb] at ho
      exact ⟨ho.2, fun u hu => first_none (step := sNext m s L ar seen) hr (found := sLeak m s L) hk (fun j q hq => hno q (List.mem_of_getElem? hq)) u hu⟩
    · rw [hb] at ho
      exact absurd ho.1 (by decide)
theorem found_some (hr : seen.Pairwise (· < ·)) {o : List Int} (h : SecFound m s L ar seen true o 0) : o.length ≤ 256 ∧ (∀ e ∈ o, e ∈ seen) ∧ sLeak m s L (sEst m s L ar seen o) = true ∧ ∀ u, (∀ e ∈ u, e ∈ seen) → sLeak m s L (sEst m s L ar seen u) = true → ¬ Shl u o := by
  rcases h with ⟨_, _, _, h⟩ | ⟨_, k, hk6, hk, ho⟩
  · cases h
  · rcases bestF_spec (sLeak m s L) (bIter (sNext m s L ar seen) seen (sFirst m s L ar seen) k) with ⟨hb, hno⟩ | ⟨x, hx, ht, hb, hmin⟩
    · rw [hb] at ho
      exact absurd ho.1 (by decide)
    · rw [hb] at ho
      obtain rfl : o = x.2 := ho.2
      obtain ⟨i, hi⟩ := List.mem_iff_getElem?.1 hx
      obtain ⟨r1, r2⟩ := bIter_run (step := sNext m s L ar seen) hr hi
      refine ⟨?_, r2, ?_, fun u hu htu => ?_⟩
      · have h1 := bIter_word _ _ _ _ hi
        have h2 := getElem?_lt hi
        omega
      · show sLeak m s L (x.2.foldl (sNext m s L ar seen) (sFirst m s L ar seen)) = true
        rw [← r1]; exact ht
      · obtain ⟨n, i', q, hq, hqs, hle⟩ := bIter_all (step := sNext m s L ar seen) hr (sFirst m s L ar seen) u hu
        have hqk : q ∈ bIter (sNext m s L ar seen) seen (sFirst m s L ar seen) k := by
          rcases Nat.le_total k n with c | c
          · rw [bIter_stop (Nat.le_of_eq hk) n c] at hq; exact List.mem_of_getElem? hq
          · exact (bIter_prefix (step := sNext m s L ar seen) (es := seen) (sFirst m s L ar seen) c).subset (List.mem_of_getElem? hq)
        have := hmin q hqk (by rw [hqs]; exact htu)
        exact (this.trans hle).not
end
/-- What is wrong, if the program's answer is not of the places. -/
theorem sec_cases {m s : Mach} {seen : List Int} {b : Bool} {o : List Int} {e : Int} (h : SecIs m s seen b o e) :
    (¬ (m.May ∧ s.May) → b = false ∧ o = [] ∧ e = 2) ∧ (m.May ∧ s.May → m.events ≠ s.events → b = false ∧ o = [] ∧ e = 3) ∧ (m.May ∧ s.May → m.events = s.events → ¬ IsRow seen m.events → b = false ∧ o = [] ∧ e = 2) ∧
    (m.May ∧ s.May → m.events = s.events → IsRow seen m.events → ¬ (m.states ≤ 6 ∧ s.states ≤ 4) → b = false ∧ o = [] ∧ e = 1) ∧
    (m.May ∧ s.May → m.events = s.events → IsRow seen m.events → m.states ≤ 6 ∧ s.states ≤ 4 → ∃ L ar, SecD m s L ar ∧ SecFound m s L ar seen b o e) := by
  rcases h with ⟨q, r⟩ | ⟨q, q2, r⟩ | ⟨q, q2, q3, r⟩ | ⟨q, q2, q3, q4, r⟩ | ⟨q3, L, ar, d, f⟩
  · exact ⟨fun _ => r, fun p => absurd p q, fun p => absurd p q, fun p => absurd p q, fun p => absurd p q⟩
  · exact ⟨fun p => absurd q p, fun _ _ => r, fun _ p => absurd p q2, fun _ p => absurd p q2, fun _ p => absurd p q2⟩
  · exact ⟨fun p => absurd q p, fun _ p => absurd q2 p, fun _ _ _ => r, fun _ _ p => absurd p q3, fun _ _ p => absurd p q3⟩
  · exact ⟨fun p => absurd q p, fun _ p => absurd q2 p, fun _ _ p => absurd q3 p, fun _ _ _ _ => r, fun _ _ _ p => absurd p q4⟩
  · exact ⟨fun p => absurd ⟨d.pm, d.ps⟩ p, fun _ p => absurd d.ev p, fun _ _ p => absurd q3 p, fun _ _ _ p => absurd ⟨d.h6, d.h4⟩ p, fun _ _ _ _ => ⟨L, ar, d, f⟩⟩
end Go.Proofs.YtcjinmgieiebbaaDoor
