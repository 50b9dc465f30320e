/-
  Chapter 6: the program's Sets goes over all sets that steps lead to, as they are found: by its contract.
  Chapter 6: the program's Make makes the machine of the sets: by its contract.
-/
import Derived.Test.YtpinjiikiaakaaaZWords
import Derived.Test.YtpinjiikiaakaaaZSetAll
import Derived.Test.YtpinjiikiaakaaaZSet
namespace Go.Proofs.Ytpinjiikiaakaaa
set_option linter.unusedSimpArgs false
set_option linter.unusedVariables false
set_option linter.unusedSectionVars false
section
open Go.RowKit

theorem Own.apart {B e e' sz sz' : Nat} {w : World} {A A' : Option Addr} {c c' n n' : Nat} {xs xs' : List Value} (h : Own B e sz w A c n xs) (h' : Own B e' sz' w A' c' n' xs') (hne : e ≠ e') : A = none ∨ A.map (·.block) ≠ A'.map (·.block) := by
  rcases h.own.2 with ⟨h0, _⟩ | ⟨g, cap, cur, hv, hB, hh, _⟩
  · injection h0 with h0; exact .inl h0
  · refine .inr ?_
    injection hv with hv
    subst hv
    rcases h'.own.2 with ⟨h0, _⟩ | ⟨g', cap', cur', hv', hB', hh', _⟩
    · injection h0 with h0; subst h0; simp
    · injection hv' with hv'
      subst hv'
      simp only [Option.map_some, ne_eq, Option.some.injEq]
      rintro rfl
      rw [hh] at hh'
      injection hh' with hh'
      injection hh' with _ ht
      exact hne ht

/-- From which place, by which event, in order: all of the first k places, and j events from the next one. -/
def prs (es : List Int) (k j : Nat) : List (Int × Int) := (List.range k).flatMap (fun (i : Nat) => es.map fun e => ((i : Int), e)) ++ (es.take j).map fun e => ((k : Int), e)
theorem prs_succ (es : List Int) (k j : Nat) (h : j < es.length) : prs es k (j + 1) = prs es k j ++ [((k : Int), es.getD j 0)] := by
  unfold prs
  rw [take_snoc es 0 j h, List.map_append, List.append_assoc]; rfl
theorem prs_len (es : List Int) (k j : Nat) (h : j ≤ es.length) : (prs es k j).length = k * es.length + j := by
  unfold prs
  rw [List.length_append, List.length_map, List.length_take, Nat.min_eq_left h]
  congr 1
  induction k with
  | zero => simp
  | succ k ih => rw [List.range_succ, List.flatMap_append, List.length_append, ih]; simp [Nat.succ_mul]
/-- An arrow from place to place, as the step leads. -/
def Led {S : Type} (step : S → Int → S) (L : List S) (a : Arr) : Prop := ∃ (i j : Nat) (s : S), a.frm = i ∧ a.to_ = j ∧ L[i]? = some s ∧ L[j]? = some (step s a.evt)
theorem Led.snoc {S : Type} {step : S → Int → S} {L : List S} {a : Arr} (h : Led step L a) (t : S) : Led step (L ++ [t]) a := by
  obtain ⟨i, j, s, h1, h2, h3, h4⟩ := h
  have up : ∀ {i : Nat} {r : S}, L[i]? = some r → (L ++ [t])[i]? = some r := fun {i r} hr => by
    rw [List.getElem?_append_left (by rcases Nat.lt_or_ge i L.length with c | c; exact c; rw [List.getElem?_eq_none c] at hr; cases hr)]
    exact hr
  exact ⟨i, j, s, h1, h2, up h3, up h4⟩
/-- All places, and all arrows between them. -/
def Arrows {S : Type} (step : S → Int → S) (es : List Int) (k j : Nat) (L : List S) (ar : List Arr) : Prop := ar.map (fun a => (a.frm, a.evt)) = prs es k j ∧ ∀ a ∈ ar, Led step L a
theorem Arrows.len {S : Type} {step : S → Int → S} {es : List Int} {k j : Nat} {L : List S} {ar : List Arr} (h : Arrows step es k j L ar) (hj : j ≤ es.length) : ar.length = k * es.length + j := by
  rw [← prs_len es k j hj, ← h.1, List.length_map]
theorem Arrows.add {S : Type} {step : S → Int → S} {es : List Int} {k j i : Nat} {L : List S} {ar : List Arr} (h : Arrows step es k j L ar) (hj : j < es.length) {s : S} (hk : L[k]? = some s) (hi : L[i]? = some (step s (es.getD j 0))) : Arrows step es k (j + 1) L (ar ++ [⟨k, es.getD j 0, i⟩]) := by
  refine ⟨by rw [List.map_append, h.1, prs_succ es k j hj]; rfl, fun a ha => ?_⟩
  rcases List.mem_append.1 ha with ha | ha
  · exact h.2 a ha
  · rw [List.mem_singleton.1 ha]; exact ⟨k, i, s, rfl, rfl, hk, hi⟩
theorem Arrows.more {S : Type} {step : S → Int → S} {es : List Int} {k j : Nat} {L : List S} {ar : List Arr} (h : Arrows step es k j L ar) (t : S) : Arrows step es k j (L ++ [t]) ar := ⟨h.1, fun a ha => (h.2 a ha).snoc t⟩
end

section
open Go.RowKit

theorem Own.cap {B e sz c n : Nat} {w : World} {A : Option Addr} {xs : List Value} (h : Own B e sz w A c n xs) : n ≤ c := by
  rcases h.own.2 with ⟨h0, _⟩ | ⟨g, cap, cur, hv, _, _, hnc, _⟩
  · injection h0 with _ h1 h2; omega
  · injection hv with _ _ h2; omega
theorem Own.ltB {B e sz c n : Nat} {w : World} {A : Option Addr} {xs : List Value} (h : Own B e sz w A c n xs) {b : Nat} (hb : some b = A.map (·.block)) : b < w.heap.size := by
  rcases h.form with ⟨h0, _⟩ | ⟨g, h0, _, hg⟩
  · subst h0; cases hb
  · subst h0; injection hb with hb; subst hb; exact hg
structure Hd where
  A : Option Addr
  c : Nat
  l : List Int
def Hd.cells (h : Hd) : List Value := [.slice h.A h.l.length h.c]
/-- Where a row may lie: not in what is written to. -/
structure Apt (lo : Nat) (w : World) (g : Nat) (X Y : Option Nat) (b : Nat) : Prop where
  lo : lo < b
  lt : b < w.heap.size
  g : b ≠ g
  x : some b ≠ X
  y : some b ≠ Y
def RowsAt (ok : Nat → Prop) (w : World) (hs : List Hd) : Prop := ∀ h ∈ hs, Ints ok w h.A h.l
theorem RowsAt.keep {ok ok' : Nat → Prop} {w w' : World} {hs : List Hd} (h : RowsAt ok w hs) (hk : ∀ b, ok b → w'.heap[b]? = w.heap[b]? ∧ ok' b) : RowsAt ok' w' hs := fun x hx => ((h x hx).keep fun b hb => (hk b hb).1).mono fun b hb => (hk b hb).2
theorem RowsAt.below {lo : Nat} {w w' : World} {g : Nat} {X Y : Option Nat} {hs : List Hd} (h : RowsAt (Apt lo w g X Y) w hs) (hb : Below w.heap.size w w') : RowsAt (Apt lo w' g X Y) w' hs :=
  h.keep fun b hb' => ⟨hb.block b hb'.lt, hb'.lo, Nat.lt_of_lt_of_le hb'.lt hb.size, hb'.g, hb'.x, hb'.y⟩
theorem RowsAt.lt {lo : Nat} {w : World} {g : Nat} {X Y : Option Nat} {hs : List Hd} (h : RowsAt (Apt lo w g X Y) w hs) : RowsAt (· < w.heap.size) w hs := fun x hx => (h x hx).mono fun _ hb => hb.lt

theorem Ints.both {ok ok' : Nat → Prop} {w : World} {A : Option Addr} {l : List Int} (h : Ints ok w A l) (h' : Ints ok' w A l) : Ints (fun b => ok b ∧ ok' b) w A l := ⟨h.isSome, fun hl => ⟨h.block hl, h'.block hl⟩, h.cell⟩
theorem Recs.both {α : Type} {enc : α → List Value} {sz : Nat} {ok ok' : Nat → Prop} {w : World} {A : Option Addr} {l : List α} (h : Recs enc sz ok w A l) (h' : Recs enc sz ok' w A l) : Recs enc sz (fun b => ok b ∧ ok' b) w A l := ⟨h.isSome, fun hl => ⟨h.block hl, h'.block hl⟩, h.cell⟩
theorem Arrs.keep' {ok ok' : Nat → Prop} {w w' : World} {A : Option Addr} {l : List Arr} (h : Arrs ok w A l) (hk : ∀ b, ok b → w'.heap[b]? = w.heap[b]? ∧ ok' b) : Arrs ok' w' A l := (h.keep fun b hb => (hk b hb).1).mono fun b hb => (hk b hb).2
theorem Ints.keep' {ok ok' : Nat → Prop} {w w' : World} {A : Option Addr} {l : List Int} (h : Ints ok w A l) (hk : ∀ b, ok b → w'.heap[b]? = w.heap[b]? ∧ ok' b) : Ints ok' w' A l := (h.keep fun b hb => (hk b hb).1).mono fun b hb => (hk b hb).2
theorem Recs.keep' {α : Type} {enc : α → List Value} {sz : Nat} {ok ok' : Nat → Prop} {w w' : World} {A : Option Addr} {l : List α} (h : Recs enc sz ok w A l) (hk : ∀ b, ok b → w'.heap[b]? = w.heap[b]? ∧ ok' b) : Recs enc sz ok' w' A l := (h.keep fun b hb => (hk b hb).1).mono fun b hb => (hk b hb).2
end
end Go.Proofs.Ytpinjiikiaakaaa
