/-
  Where two runs of a machine may be of which the same is seen, the second one without a fault; in plain Lean. No program in sight.
-/
import Derived.Test.YtfckamjbeplceaaZDelQ
import Derived.Test.YtfckamjbeplceaaZTrim
namespace Go.Proofs.Ytfckamjbeplceaa
set_option linter.unusedSimpArgs false
set_option linter.unusedVariables false
set_option linter.unusedSectionVars false
open Go.RowKit

abbrev Tw := Int × Int × Bool
/-- Where a machine leads from one state, by the first k arrows. -/
def toUpto (m : Mach) (s e : Int) (k : Nat) : List Int := ((m.arrows.take k).filter fun a => decide (a.frm = s ∧ a.evt = e)).map (·.to_)
theorem toUpto_succ {m : Mach} {s e : Int} {k : Nat} (h : k < m.arrows.length) : toUpto m s e (k + 1) = if (m.arrows.getD k default).frm = s ∧ (m.arrows.getD k default).evt = e then toUpto m s e k ++ [(m.arrows.getD k default).to_] else toUpto m s e k := by
  unfold toUpto
  rw [take_snoc m.arrows default k h, List.filter_append, List.map_append]
  by_cases c : (m.arrows.getD k default).frm = s ∧ (m.arrows.getD k default).evt = e
  · rw [if_pos c, List.filter_cons_of_pos (by simpa using c)]; rfl
  · rw [if_neg c, List.filter_cons_of_neg (by simpa using c)]; simp
theorem toUpto_all {m : Mach} (hm : m.May) (s e : Int) : toUpto m s e m.arrows.length = stepL m [s] e := by
  refine Strict.ext ?_ (sortedL_spec _).1 fun x => ?_
  · unfold toUpto
    rw [List.take_length, Strict, List.pairwise_map]
    refine List.Pairwise.imp_of_mem (fun {a b} ha hb hab => ?_) (List.Pairwise.filter _ (May.ord hm))
    have h1 := of_decide_eq_true (List.mem_filter.1 ha).2
    have h2 := of_decide_eq_true (List.mem_filter.1 hb).2
    rcases hab with h | ⟨_, h | ⟨_, h⟩⟩
    · omega
    · omega
    · exact h
  · show _ ↔ x ∈ stepL m [s] e
    rw [mem_stepL]
    unfold toUpto
    rw [List.take_length, List.mem_map]
    constructor
    · rintro ⟨a, ha, rfl⟩
      obtain ⟨h1, h2⟩ := List.mem_filter.1 ha
      have := of_decide_eq_true h2
      exact ⟨a, h1, this.2, by simp [this.1], rfl⟩
    · rintro ⟨a, ha, h1, h2, h3⟩
      exact ⟨a, List.mem_filter.2 ⟨ha, decide_eq_true ⟨by simpa using h2, h1⟩⟩, h3⟩
/-- What twins lead to at an event, and whether it counts. -/
def secs (m : Mach) (faults : List Int) (x : Tw) (e : Int) : List Int := if e ∈ faults then [] else stepL m [x.2.1] e
def leadsE (m : Mach) (seen faults : List Int) (x : Tw) (e : Int) : List (Tw × Bool) :=
  if e ∈ seen then (stepL m [x.1] e).flatMap fun a => (secs m faults x e).map fun b => ((a, b, x.2.2), x.2.2)
  else (stepL m [x.1] e).map (fun a => ((a, x.2.1, x.2.2 || decide (e ∈ faults)), x.2.2)) ++ (secs m faults x e).map fun b => ((x.1, b, x.2.2), false)
def leadsL (m : Mach) (seen faults : List Int) (x : Tw) (k : Nat) : List (Tw × Bool) := (List.range k).flatMap fun (i : Nat) => leadsE m seen faults x (i : Int)
theorem leadsL_succ (m : Mach) (seen faults : List Int) (x : Tw) (k : Nat) : leadsL m seen faults x (k + 1) = leadsL m seen faults x k ++ leadsE m seen faults x (k : Int) := by
  unfold leadsL
  rw [List.range_succ, List.flatMap_append]
  simp
def EdW (m : Mach) (seen faults : List Int) (x y : Tw) (c : Nat) : Prop := ∃ b, (y, b) ∈ leadsL m seen faults x m.events.toNat ∧ c = cnt b
def StW (m : Mach) (x : Tw) : Prop := x.1 ∈ m.starts ∧ x.2.1 ∈ m.starts ∧ x.2.2 = false
abbrev FW (x : Tw) : Prop := x.2.2 = true
theorem mem_leadsE {m : Mach} {seen faults : List Int} {x y : Tw} {e : Int} {b : Bool} : (y, b) ∈ leadsE m seen faults x e ↔
    (e ∈ seen ∧ e ∉ faults ∧ y.1 ∈ stepL m [x.1] e ∧ y.2.1 ∈ stepL m [x.2.1] e ∧ y.2.2 = x.2.2 ∧ b = x.2.2) ∨
    (e ∉ seen ∧ y.1 ∈ stepL m [x.1] e ∧ y.2.1 = x.2.1 ∧ y.2.2 = (x.2.2 || decide (e ∈ faults)) ∧ b = x.2.2) ∨
    (e ∉ seen ∧ e ∉ faults ∧ y.1 = x.1 ∧ y.2.1 ∈ stepL m [x.2.1] e ∧ y.2.2 = x.2.2 ∧ b = false) := by
  obtain ⟨y1, y2, y3⟩ := y
  unfold leadsE secs
  by_cases h1 : e ∈ seen <;> by_cases h2 : e ∈ faults
  · simp [h1, h2]
  · simp only [h1, h2, if_true, if_false, List.mem_flatMap, List.mem_map, Prod.mk.injEq, not_true_eq_false, false_and, or_false, true_and, not_false_eq_true]
    constructor
    · rintro ⟨a, ha, c, hc, ⟨rfl, rfl, rfl⟩, rfl⟩; exact ⟨ha, hc, rfl, rfl⟩
    · rintro ⟨ha, hc, h3, h4⟩; exact ⟨y1, ha, y2, hc, ⟨rfl, rfl, h3.symm⟩, h4.symm⟩
  · simp only [h1, h2, if_true, if_false, List.map_nil, List.append_nil, List.mem_map, Prod.mk.injEq, not_true_eq_false, false_and, and_false, or_false, false_or, true_and, not_false_eq_true, decide_true, Bool.or_true]
    constructor
    · rintro ⟨a, ha, ⟨rfl, rfl, rfl⟩, rfl⟩; exact ⟨ha, rfl, rfl, rfl⟩
    · rintro ⟨ha, h3, h4, h5⟩; exact ⟨y1, ha, ⟨rfl, h3.symm, h4.symm⟩, h5.symm⟩
  · simp only [h1, h2, if_false, List.mem_append, List.mem_map, Prod.mk.injEq, false_and, false_or, true_and, not_false_eq_true, decide_false, Bool.or_false]
    constructor
    · rintro (⟨a, ha, ⟨rfl, rfl, rfl⟩, rfl⟩ | ⟨a, ha, ⟨rfl, rfl, rfl⟩, rfl⟩)
      · exact .inl ⟨ha, rfl, rfl, rfl⟩
      · exact .inr ⟨rfl, ha, rfl, rfl⟩
    · rintro (⟨ha, h3, h4, h5⟩ | ⟨h3, ha, h4, h5⟩)
      · exact .inl ⟨y1, ha, ⟨rfl, h3.symm, h4.symm⟩, h5.symm⟩
      · exact .inr ⟨y2, ha, ⟨h3.symm, rfl, h4.symm⟩, h5.symm⟩
theorem mem_leadsL {m : Mach} {seen faults : List Int} {x : Tw} {p : Tw × Bool} {k : Nat} : p ∈ leadsL m seen faults x k ↔ ∃ i : Nat, i < k ∧ p ∈ leadsE m seen faults x (i : Int) := by
  unfold leadsL
  simp [List.mem_flatMap, List.mem_range]
theorem edW_iff {m : Mach} (hm : m.May) {seen faults : List Int} {x y : Tw} {c : Nat} : EdW m seen faults x y c ↔ ∃ e : Int, 0 ≤ e ∧ e < m.events ∧ ∃ b, (y, b) ∈ leadsE m seen faults x e ∧ c = cnt b := by
  have := hm.2.2.1
  unfold EdW
  constructor
  · rintro ⟨b, hb, hc⟩
    obtain ⟨i, hi, h⟩ := mem_leadsL.1 hb
    exact ⟨i, by omega, by omega, b, h, hc⟩
  · rintro ⟨e, h0, h1, b, h, hc⟩
    exact ⟨b, mem_leadsL.2 ⟨e.toNat, by omega, by rw [Int.toNat_of_nonneg h0]; exact h⟩, hc⟩
theorem lead_flag {m : Mach} {seen faults : List Int} {x y : Tw} {e : Int} {b : Bool} (h : (y, b) ∈ leadsE m seen faults x e) : (b = true → x.2.2 = true) ∧ (x.2.2 = true → y.2.2 = true) := by
  rcases mem_leadsE.1 h with ⟨_, _, _, _, h1, h2⟩ | ⟨_, _, _, h1, h2⟩ | ⟨_, _, _, _, h1, h2⟩
  · exact ⟨fun h => h2 ▸ h, fun h => h1.trans h⟩
  · exact ⟨fun h => h2 ▸ h, fun h => by rw [h1, h]; rfl⟩
  · exact ⟨fun h => Bool.noConfusion (h2.symm.trans h), fun h => h1.trans h⟩
theorem edW_one {m : Mach} {seen faults : List Int} (x y : Tw) (c : Nat) (h : EdW m seen faults x y c) : c ≤ 1 := by
  obtain ⟨b, _, hc⟩ := h
  rw [hc]; exact cnt_le b
theorem edW_flag {m : Mach} {seen faults : List Int} {x y : Tw} {c : Nat} (h : EdW m seen faults x y c) : (0 < c → FW x) ∧ (FW x → FW y) := by
  obtain ⟨b, hb, rfl⟩ := h
  obtain ⟨i, _, h⟩ := mem_leadsL.1 hb
  obtain ⟨h1, h2⟩ := lead_flag h
  exact ⟨fun hc => h1 (by cases b; exact absurd hc (by decide); rfl), h2⟩
theorem pthW_flag {m : Mach} {seen faults : List Int} {x y : Tw} {n k : Nat} (h : Pth (EdW m seen faults) x y n k) : (0 < n → FW y) ∧ (FW x → FW y) := by
  induction h with
  | nil => exact ⟨fun h => absurd h (by omega), id⟩
  | @snoc t u n k c _ he ih =>
    obtain ⟨h1, h2⟩ := edW_flag he
    refine ⟨fun hc => ?_, fun h => h2 (ih.2 h)⟩
    rcases Nat.eq_zero_or_pos n with h3 | h3
    · exact h2 (h1 (by omega))
    · exact h2 (ih.1 h3)
theorem pthW_round {m : Mach} {seen faults : List Int} (x : Tw) (n k : Nat) (h : Pth (EdW m seen faults) x x n k) (hn : 0 < n) : FW x := (pthW_flag h).1 hn
/-- Twins of states. -/
def InW (m : Mach) (x : Tw) : Prop := (0 ≤ x.1 ∧ x.1 < m.states) ∧ 0 ≤ x.2.1 ∧ x.2.1 < m.states
theorem lead_in {m : Mach} (hm : m.May) {seen faults : List Int} {x y : Tw} {e : Int} {b : Bool} (h : (y, b) ∈ leadsE m seen faults x e) (hx : InW m x) : InW m y := by
  rcases mem_leadsE.1 h with ⟨_, _, h1, h2, _, _⟩ | ⟨_, h1, h2, _, _⟩ | ⟨_, _, h1, h2, _, _⟩
  · exact ⟨stepL_range hm _ _ _ h1, stepL_range hm _ _ _ h2⟩
  · exact ⟨stepL_range hm _ _ _ h1, by rw [h2]; exact hx.2⟩
  · exact ⟨by rw [h1]; exact hx.1, stepL_range hm _ _ _ h2⟩
theorem leadsL_in {m : Mach} (hm : m.May) {seen faults : List Int} {x : Tw} {k : Nat} (hx : InW m x) {p : Tw × Bool} (h : p ∈ leadsL m seen faults x k) : InW m p.1 := by
  obtain ⟨i, _, h⟩ := mem_leadsL.1 h
  exact lead_in hm (y := p.1) (b := p.2) h hx
theorem stW_in {m : Mach} (hm : m.May) {x : Tw} (h : StW m x) : InW m x := ⟨row_range (may_starts hm) _ h.1, row_range (may_starts hm) _ h.2.1⟩
theorem wkW_in {m : Mach} (hm : m.May) {seen faults : List Int} {x : Tw} {n : Nat} (h : Wk (StW m) (EdW m seen faults) x n) : InW m x := by
  obtain ⟨s, k, hs, hp⟩ := h
  induction hp with
  | nil => exact stW_in hm hs
  | snoc _ he ih =>
    obtain ⟨b, hb, _⟩ := he
    exact leadsL_in hm (ih) hb
def codeW (S : Nat) (x : Tw) : Nat := (cnt x.2.2 * S + x.2.1.toNat) * S + x.1.toNat
theorem codeW_lt {m : Mach} {x : Tw} (h : InW m x) : codeW m.states.toNat x < 2 * m.states.toNat * m.states.toNat := by
  obtain ⟨⟨h1, h2⟩, h3, h4⟩ := h
  unfold codeW
  have a1 : x.1.toNat < m.states.toNat := by omega
  have a2 : x.2.1.toNat < m.states.toNat := by omega
  have a3 := cnt_le x.2.2
  generalize m.states.toNat = S at *
  have b1 : cnt x.2.2 * S + x.2.1.toNat + 1 ≤ 2 * S := by
    have : cnt x.2.2 * S ≤ 1 * S := Nat.mul_le_mul_right _ a3
    omega
  have b2 : (cnt x.2.2 * S + x.2.1.toNat + 1) * S ≤ 2 * S * S := Nat.mul_le_mul_right _ b1
  rw [Nat.succ_mul] at b2
  omega
theorem codeW_inj {m : Mach} {x y : Tw} (h : InW m x) (h' : InW m y) (he : codeW m.states.toNat x = codeW m.states.toNat y) : x = y := by
  obtain ⟨⟨h1, h2⟩, h3, h4⟩ := h
  obtain ⟨⟨k1, k2⟩, k3, k4⟩ := h'
  unfold codeW at he
  have a1 : x.1.toNat < m.states.toNat := by omega
  have a2 : x.2.1.toNat < m.states.toNat := by omega
  have c1 : y.1.toNat < m.states.toNat := by omega
  have c2 : y.2.1.toNat < m.states.toNat := by omega
  generalize m.states.toNat = S at *
  have split : ∀ a b c d : Nat, b < S → d < S → a * S + b = c * S + d → a = c ∧ b = d := fun a b c d hb hd h => by
    have e1 : (a * S + b) % S = b := by rw [Nat.mul_comm, Nat.mul_add_mod, Nat.mod_eq_of_lt hb]
    have e2 : (c * S + d) % S = d := by rw [Nat.mul_comm, Nat.mul_add_mod, Nat.mod_eq_of_lt hd]
    have e : b = d := by rw [← e1, ← e2, h]
    subst e
    have : a * S = c * S := by omega
    exact ⟨Nat.eq_of_mul_eq_mul_right (by omega) this, rfl⟩
  obtain ⟨e1, e2⟩ := split _ _ _ _ a1 c1 he
  obtain ⟨e3, e4⟩ := split _ _ _ _ a2 c2 e1
  refine Prod.ext (by omega) (Prod.ext (by omega) ?_)
  cases hx : x.2.2 <;> cases hy : y.2.2 <;> rw [hx, hy] at e3 <;> first | rfl | exact absurd e3 (by decide)
/-- How long a fault may stay unfound. -/
abbrev DelIs (m : Mach) (seen faults : List Int) (d : Int) : Prop := DelayIs (Wk (StW m) (EdW m seen faults)) FW d
theorem row_lenM {l : List Int} {b : Int} (h : IsRow l b) : l.length ≤ b.toNat := by
  have := nodup_nat_len b.toNat (l.map Int.toNat) (by
    rw [List.nodup_iff_pairwise_ne, List.pairwise_map]
    exact (List.Pairwise.imp (R := (· < ·)) (S := (· ≠ ·)) (fun h => by omega) h.strict).imp_of_mem fun {x y} hx hy hxy e => hxy (by have := h.mem hx; have := h.mem hy; omega)) fun x hx => by
    obtain ⟨y, hy, rfl⟩ := List.mem_map.1 hx
    have := h.mem hy; omega
  simpa using this
theorem stepL_len {m : Mach} (hm : m.May) (h6 : m.states ≤ 6) (l : List Int) (e : Int) : (stepL m l e).length ≤ 6 := by
  have := row_lenM (stepL_row hm l e)
  omega
theorem leadsE_len {m : Mach} (hm : m.May) (h6 : m.states ≤ 6) (seen faults : List Int) (x : Tw) (e : Int) : (leadsE m seen faults x e).length ≤ 36 := by
  have h1 := stepL_len hm h6 [x.1] e
  have h2 := stepL_len hm h6 [x.2.1] e
  have h3 : (secs m faults x e).length ≤ 6 := by unfold secs; split; exact Nat.zero_le _; exact h2
  unfold leadsE
  split
  · rw [List.length_flatMap]
    have : ∀ l : List Int, (l.map fun a => ((secs m faults x e).map fun b => (((a, b, x.2.2) : Tw), x.2.2)).length).sum ≤ l.length * 6 := fun l => by
      induction l with
      | nil => simp
      | cons a l ih => simp only [List.map_cons, List.sum_cons, List.length_map, List.length_cons, Nat.succ_mul] at *; omega
    have := this (stepL m [x.1] e)
    omega
  · simp only [List.length_append, List.length_map]; omega
theorem leadsL_len {m : Mach} (hm : m.May) (h6 : m.states ≤ 6) (seen faults : List Int) (x : Tw) : ∀ k, (leadsL m seen faults x k).length ≤ 36 * k
  | 0 => Nat.le_refl _
  | k + 1 => by
      rw [leadsL_succ, List.length_append]
      have := leadsL_len hm h6 seen faults x k
      have := leadsE_len hm h6 seen faults x k
      omega
end Go.Proofs.Ytfckamjbeplceaa
