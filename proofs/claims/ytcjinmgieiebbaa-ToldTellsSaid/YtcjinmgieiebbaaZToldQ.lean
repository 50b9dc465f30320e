/-
  Going through what steps lead to, where events are told by their places in a row; in plain Lean. No program in sight.
-/
import Derived.Test.YtcjinmgieiebbaaZToldP
import Derived.Test.YtcjinmgieiebbaaZWords
namespace Go.Proofs.Ytcjinmgieiebbaa
set_option linter.unusedSimpArgs false
set_option linter.unusedVariables false
set_option linter.unusedSectionVars false
open Go.RowKit

theorem bAdd_map {S : Type} [DecidableEq S] {step step' : S → Int → S} {φ : Int → Int} {e : Int} (h : ∀ s, step' s e = step s (φ e)) (k : Nat) (L : List (S × List Int)) :
    bAdd step k (L.map fun p => (p.1, p.2.map φ)) (φ e) = (bAdd step' k L e).map fun p => (p.1, p.2.map φ) := by
  have hm : (L.map fun p => (p.1, p.2.map φ)).map (·.1) = L.map (·.1) := by rw [List.map_map]; rfl
  unfold bAdd
  rw [List.getElem?_map]
  cases L[k]? with
  | none => rfl
  | some p =>
    simp only [Option.map_some]
    rw [hm, h]
    split
    · rfl
    · simp
theorem bRound_map {S : Type} [DecidableEq S] {step step' : S → Int → S} {φ : Int → Int} (k : Nat) : ∀ (es : List Int) (L : List (S × List Int)), (∀ s, ∀ e ∈ es, step' s e = step s (φ e)) →
    (es.map φ).foldl (bAdd step k) (L.map fun p => (p.1, p.2.map φ)) = (es.foldl (bAdd step' k) L).map fun p => (p.1, p.2.map φ)
  | [], L, _ => rfl
  | e :: es, L, h => by
      rw [List.map_cons, List.foldl_cons, List.foldl_cons, bAdd_map fun s => h s e List.mem_cons_self]
      exact bRound_map k es _ fun s e' he => h s e' (List.mem_cons_of_mem _ he)
theorem bIter_map {S : Type} [DecidableEq S] {step step' : S → Int → S} {φ : Int → Int} {es : List Int} (h : ∀ s, ∀ e ∈ es, step' s e = step s (φ e)) (first : S) : ∀ k, bIter step (es.map φ) first k = (bIter step' es first k).map fun p => (p.1, p.2.map φ)
  | 0 => rfl
  | k + 1 => by
      show (es.map φ).foldl (bAdd step k) (bIter step (es.map φ) first k) = _
      rw [bIter_map h first k]
      exact bRound_map k es _ h
theorem FirstIs.map {step step' : St → Int → St} {found : St → Bool} {φ : Int → Int} {es : List Int} {first : St} {b : Bool} {o : List Int} (hs : ∀ s, ∀ e ∈ es, step' s e = step s (φ e)) (h : FirstIs step' found es first b o) : FirstIs step found (es.map φ) first b (o.map φ) := by
  have hm := bIter_map hs first
  rcases h with ⟨rfl, k, q, hq, hf, rfl, hno⟩ | ⟨rfl, rfl, k, hk, hno⟩
  · refine .inl ⟨rfl, k, (q.1, q.2.map φ), by rw [hm, List.getElem?_map, hq]; rfl, hf, rfl, fun j hj p hp => ?_⟩
    rw [hm, List.getElem?_map] at hp
    cases hx : (bIter step' es first k)[j]? with
    | none => rw [hx] at hp; cases hp
    | some x => rw [hx] at hp; rw [← Option.some.inj hp]; exact hno j hj x hx
  · refine .inr ⟨rfl, rfl, k, by rw [hm, List.length_map]; exact hk, fun j p hp => ?_⟩
    rw [hm, List.getElem?_map] at hp
    cases hx : (bIter step' es first k)[j]? with
    | none => rw [hx] at hp; cases hp
    | some x => rw [hx] at hp; rw [← Option.some.inj hp]; exact hno j x hx
theorem evs_map (l : List Int) : (evs l.length).map (fun i => l.getD i.toNat 0) = l := by
  refine List.ext_getElem? fun i => ?_
  unfold evs
  rw [List.getElem?_map, List.getElem?_map]
  rcases Nat.lt_or_ge i l.length with h | h
  · rw [List.getElem?_range h, List.getElem?_eq_getElem h]
    simp [List.getD_eq_getElem?_getD, List.getElem?_eq_getElem h]
  · rw [List.getElem?_eq_none (by simpa using h), List.getElem?_eq_none h]; rfl
theorem FirstIs.congr {step step' : St → Int → St} {found : St → Bool} {es : List Int} {first : St} {b : Bool} {o : List Int} (hs : ∀ s, ∀ e ∈ es, step' s e = step s e) (h : FirstIs step' found es first b o) : FirstIs step found es first b o := by
  have := h.map (φ := id) hs
  simpa using this
theorem FirstIs.bounds {step : St → Int → St} {found : St → Bool} {es : List Int} (hes : es.Pairwise (· < ·)) {first : St} {b : Bool} {o : List Int} (h : FirstIs step found es first b o) {N : Nat} (hN : ∀ k, (bIter step es first k).length ≤ N) : (∀ e ∈ o, e ∈ es) ∧ o.length ≤ N := by
  rcases h with ⟨rfl, k, q, hq, hf, rfl, hno⟩ | ⟨rfl, rfl, k, hk, hno⟩
  · have h1 := bIter_word (step := step) (es := es) first k k q hq
    have h2 := hN k
    have h3 : k < (bIter step es first k).length := by
      rcases Nat.lt_or_ge k (bIter step es first k).length with h4 | h4
      · exact h4
      · rw [List.getElem?_eq_none h4] at hq; cases hq
    exact ⟨(bIter_run hes hq).2, by omega⟩
  · exact ⟨fun e he => absurd he (by simp), Nat.zero_le _⟩
theorem evs_pair (n : Nat) : (evs n).Pairwise (· < ·) := by
  unfold evs
  rw [List.pairwise_map]
  exact List.pairwise_lt_range.imp fun h => by omega
/-- The events that are not high. -/
def lowE (high : List Int) (k : Nat) : List Int := (evs k).filter fun e => decide (e ∉ high)
theorem lowE_succ (high : List Int) (k : Nat) : lowE high (k + 1) = if (k : Int) ∈ high then lowE high k else lowE high k ++ [(k : Int)] := by
  have h : evs (k + 1) = evs k ++ [(k : Int)] := by unfold evs; rw [List.range_succ, List.map_append]; rfl
  unfold lowE
  rw [h, List.filter_append]
  by_cases c : (k : Int) ∈ high
  · rw [if_pos c, List.filter_cons_of_neg (by simpa using c)]; simp
  · rw [if_neg c, List.filter_cons_of_pos (by simpa using c)]; rfl
theorem lowE_len (high : List Int) (k : Nat) : (lowE high k).length ≤ k := by
  have := List.length_filter_le (fun e => decide (e ∉ high)) (evs k)
  rw [evs_len] at this
  exact this
theorem mem_lowE {high : List Int} {k : Nat} {e : Int} : e ∈ lowE high k ↔ (0 ≤ e ∧ e < k) ∧ e ∉ high := by
  unfold lowE
  rw [List.mem_filter, evs_mem]
  simp
/-- Where a machine may be by what was seen, and where it may be if nothing high was done. -/
noncomputable def stepTo (m : Mach) (low : List Int) (s : St) (e : Int) : St := (seeL m low s.1 e, stepL m s.2 e)
noncomputable def firstTo (m : Mach) (low : List Int) : St := (wideL m low m.starts, m.starts)
noncomputable def foundTo (m : Mach) (s : St) : Bool := decide (MeetL s.1 m.ends) && !decide (MeetL s.2 m.ends)
end Go.Proofs.Ytcjinmgieiebbaa
