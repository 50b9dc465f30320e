/-
  The laws CurrentTells, CurrentKeeps: they return true.
-/
import Derived.Test.YtcjinmgieiebbaaCurC
import Derived.Test.YtcjinmgieiebbaaLawMach
namespace Go.Proofs.Ytcjinmgieiebbaa
set_option linter.unusedSimpArgs false
set_option linter.unusedVariables false
set_option linter.unusedSectionVars false
open Go.RowKit

theorem bestF_congr {S : Type} [DecidableEq S] {t t' : S → Bool} : ∀ {l : List (S × List Int)}, (∀ x ∈ l, t x.1 = t' x.1) → bestF t l = bestF t' l := by
  intro l h
  unfold bestF
  generalize (none : Option (List Int)) = b
  induction l generalizing b with
  | nil => rfl
  | cons x l ih =>
    rw [List.foldl_cons, List.foldl_cons, h x (List.mem_cons_self ..)]
    exact ih (fun y hy => h y (List.mem_cons_of_mem _ hy)) _
theorem bIter_same {S : Type} [DecidableEq S] {step : S → Int → S} {es : List Int} {first : S} {k k' : Nat} (h : (bIter step es first k).length = k) (h' : (bIter step es first k').length = k') : bIter step es first k = bIter step es first k' := by
  rw [← bIter_stop (Nat.le_of_eq h) (max k k') (Nat.le_max_left _ _), bIter_stop (Nat.le_of_eq h') (max k k') (Nat.le_max_right _ _)]
theorem only_all {s : List Int} {n : Int} (h : IsRow s n) : onlyL s (evs n.toNat) true = s := by
  unfold onlyL
  rw [List.filter_eq_self]
  intro x hx
  have := h.mem hx
  simp only [beq_iff_eq, decide_eq_true_eq]
  exact evs_mem.2 ⟨this.1, by omega⟩
theorem places_row {p : Plt} (h : p.May) (k : Nat) : ∀ x ∈ bIter (nextP p) p.seen (firstP p) k, IsRow x.1 p.m.states :=
  (bIter_good (step := nextP p) (es := p.seen) (U := fun s => IsRow s p.m.states) (fun s _ e _ => seeL_row h.1 _ _ _) (firstP_row h.1) k).univ
theorem lk_best {p : Plt} (h : p.May) {b : Bool} {o : List Int} {e : Int} (hl : LkIs p b o e) {k : Nat} (hk : (bIter (nextP p) p.seen (firstP p) k).length = k) : OptIs (bestF (tellsB p.secret (evs p.m.states.toNat)) (bIter (nextP p) p.seen (firstP p) k)) b o := by
  rcases hl with ⟨hn, _⟩ | ⟨_, _, k', hk', ho⟩
  · exact absurd h hn
  · rw [bIter_same hk hk', bestF_congr (t' := tellB p.secret) fun x hx => ?_]
    · exact ho
    · unfold tellsB tellB
      rw [only_all (places_row h k' x hx)]
/-! ## CurrentKeeps -/
theorem lk_none {p : Plt} {o : List Int} {e : Int} (p1 : p.May) (h : LkIs p false o e) : o = [] ∧ ∀ u, AllIn u p.seen → ¬ TellsL (estL p u) p.secret := by
  rcases h with ⟨hn, _⟩ | ⟨_, _, k, hk, ho⟩
  · exact absurd p1 hn
  · rcases bestF_spec (tellB p.secret) (bIter (nextP p) p.seen (firstP p) k) with ⟨hb, hno⟩ | ⟨x, hx, ht, hb, _⟩
    · rw [hb] at ho
      refine ⟨ho.2, fun u hu ht => ?_⟩
      have := first_none (step := nextP p) p1.2.2.1.strict (found := tellB p.secret) hk (fun j q hq => hno q (List.mem_of_getElem? hq)) u hu
      exact absurd ht (of_decide_eq_false this)
    · rw [hb] at ho
      exact absurd ho.1 (by decide)
theorem lk_some {p : Plt} {o : List Int} {e : Int} (p1 : p.May) (h : LkIs p true o e) : AllIn o p.seen ∧ TellsL (estL p o) p.secret ∧ ∀ u, AllIn u p.seen → TellsL (estL p u) p.secret → ¬ Shl u o := by
  rcases h with ⟨hn, _⟩ | ⟨_, _, k, hk, ho⟩
  · exact absurd p1 hn
  · rcases bestF_spec (tellB p.secret) (bIter (nextP p) p.seen (firstP p) k) with ⟨hb, hno⟩ | ⟨x, hx, ht, hb, hmin⟩
    · rw [hb] at ho
      exact absurd ho.1 (by decide)
    · rw [hb] at ho
      obtain rfl : o = x.2 := ho.2
      obtain ⟨i, hi⟩ := List.mem_iff_getElem?.1 hx
      obtain ⟨r1, r2⟩ := bIter_run (step := nextP p) p1.2.2.1.strict hi
      refine ⟨r2, ?_, fun u hu htu => ?_⟩
      · show TellsL (x.2.foldl (nextP p) (firstP p)) p.secret
        rw [← r1]; exact of_decide_eq_true ht
      · obtain ⟨n, i', q, hq, hqs, hle⟩ := bIter_all (step := nextP p) p1.2.2.1.strict (firstP p) u hu
        have hqk : q ∈ bIter (nextP p) p.seen (firstP p) k := by
          rcases Nat.le_total k n with c | c
          · rw [bIter_stop (Nat.le_of_eq hk) n c] at hq; exact List.mem_of_getElem? hq
          · exact (bIter_prefix (step := nextP p) (es := p.seen) (firstP p) c).subset (List.mem_of_getElem? hq)
        have := hmin q hqk (by rw [hqs]; exact decide_eq_true htu)
        exact (this.trans hle).not
end Go.Proofs.Ytcjinmgieiebbaa
