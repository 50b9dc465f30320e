/-
  Chapter 7: the reference's places: by their contracts.
-/
import Derived.Test.YtkemapljhmoafaaWithin
import Derived.Test.YtkemapljhmoafaaRowC
namespace Go.Proofs.Ytkemapljhmoafaa
set_option linter.unusedSimpArgs false
set_option linter.unusedVariables false
set_option linter.unusedSectionVars false
open Go.RowKit

/-- A row that can be read, in a block that lay there at first or that holds elements of the type e. -/
structure RowT (B e : Nat) (w : World) (A : Option Addr) (l : List Int) : Prop where
  ints : Ints (fun b => b < w.heap.size ∧ (b < B ∨ ∃ cs r, w.heap[b]? = some (.cells cs e r))) w A l
section
variable {B e : Nat} {w w' : World} {A : Option Addr} {l : List Int}
theorem RowT.lt (h : RowT B e w A l) : Ints (· < w.heap.size) w A l := h.ints.mono fun _ hb => hb.1
theorem RowT.keep (h : RowT B e w A l) (hz : w.heap.size ≤ w'.heap.size) (hk : ∀ b, b < w.heap.size → (b < B ∨ ∃ cs r, w.heap[b]? = some (.cells cs e r)) → w'.heap[b]? = w.heap[b]?) : RowT B e w' A l := by
  refine ⟨⟨h.ints.isSome, fun hl => ?_, fun i hi => ?_⟩⟩
  · obtain ⟨h1, h2⟩ := h.ints.block hl
    refine ⟨by omega, ?_⟩
    rcases h2 with h2 | ⟨cs, r, h3⟩
    · exact .inl h2
    · exact .inr ⟨cs, r, by rw [hk _ h1 (.inr ⟨cs, r, h3⟩)]; exact h3⟩
  · obtain ⟨h1, h2⟩ := h.ints.block (by omega)
    rw [← h.ints.cell i hi]
    exact World.cell?_of_block (by rw [eA_block]; exact hk _ h1 h2)
theorem RowT.below (h : RowT B e w A l) (hb : Below w.heap.size w w') : RowT B e w' A l := h.keep hb.size fun b hlt _ => hb.block b hlt
theorem RowT.grew {e' sz c n : Nat} {A2 : Option Addr} {xs : List Value} (h : RowT B e w A l) (ho : Own B e' sz w A2 c n xs) (hne : e' ≠ e) (hg : Grew w w' A2) : RowT B e w' A l :=
  h.keep hg.by_.size fun b hlt hor => hg.by_.block b hlt (by
    rcases ho.own.2 with ⟨h0, _⟩ | ⟨g, cap, cur, hv, hB, hh, _⟩
    · injection h0 with h0; subst h0; simp
    · injection hv with hv
      subst hv
      simp only [Option.map_some, ne_eq, Option.some.injEq]
      rintro rfl
      rcases hor with h1 | ⟨cs, r, h1⟩
      · omega
      · rw [h1] at hh
        injection hh with hh
        injection hh with _ ht
        exact hne ht.symm)
theorem RowT.of_arg (h : Ints (· < B) w A l) (hB : B ≤ w.heap.size) : RowT B e w A l := ⟨h.mono fun b hb => ⟨by omega, .inl hb⟩⟩
theorem RowT.of_own {B' c : Nat} (h : OwnI B' e w A c l) : RowT B e w A l := by
  refine ⟨?_⟩
  have hi := OwnI.ints h
  refine ⟨hi.isSome, fun hl => ?_, hi.cell⟩
  have hA := h.isSome hl
  have hb := h.block hA
  refine ⟨hb.2, .inr ?_⟩
  rcases h.own.2 with ⟨h0, _⟩ | ⟨g, cap, cur, hv, _, hh, _⟩
  · injection h0 with h0; subst h0; cases hA
  · injection hv with hv
    subst hv
    exact ⟨cur, _, hh⟩
end

structure P7 where
  A : Option Addr
  ca : Nat
  a : List Int
  B : Option Addr
  cb : Nat
  b : List Int
  W : Option Addr
  cw : Nat
  w : List Int
def P7.cells (p : P7) : List Value := [.slice p.A p.a.length p.ca, .slice p.B p.b.length p.cb, .slice p.W p.w.length p.cw]
def P7.abs (p : P7) : St × List Int := ((p.a, p.b), p.w)
theorem p7Enc : Enc P7.cells 3 := ⟨fun _ => rfl, fun p u hu => by
  unfold P7.cells at hu
  rcases List.mem_cons.1 hu with rfl | hu
  · rfl
  · rcases List.mem_cons.1 hu with rfl | hu
    · rfl
    · rw [List.mem_singleton.1 hu]; rfl⟩
structure P7.Good (B e : Nat) (w : World) (p : P7) : Prop where
  a : RowT B e w p.A p.a
  b : RowT B e w p.B p.b
  w : RowT B e w p.W p.w
  n : p.a.length ≤ 2147483648 ∧ p.b.length ≤ 2147483648 ∧ p.w.length ≤ 2147483648
theorem P7.Good.below {B e : Nat} {w w' : World} {p : P7} (h : P7.Good B e w p) (hb : Below w.heap.size w w') : P7.Good B e w' p := ⟨h.a.below hb, h.b.below hb, h.w.below hb, h.n⟩

theorem ref7_known {w : World} {L : Option Addr} {c : Nat} {pl : List P7} (hR : Recs P7.cells 3 (· < w.heap.size) w L pl) (nl : pl.length ≤ 1000000)
    (hg : ∀ p ∈ pl, (Ints (· < w.heap.size) w p.A p.a ∧ p.a.length ≤ 2147483648) ∧ Ints (· < w.heap.size) w p.B p.b ∧ p.b.length ≤ 2147483648)
    {A A1 : Option Addr} {ca cb : Nat} {a b : List Int} (h1 : Ints (· < w.heap.size) w A a) (h2 : Ints (· < w.heap.size) w A1 b) :
    Cal Try.prog 86 [.slice L pl.length c, .slice A a.length ca, .slice A1 b.length cb] w fun v w' => v = .bool (decide ((a, b) ∈ pl.map fun p => (p.a, p.b))) ∧ Same w w' := by
  refine cal_ref7_known (by simp) 100000 fun Q hQ => ?_
  simp (disch := first | with_reducible assumption | omega) only [push_cast, x_blk, x_cd, ↓reduceIte, Nat.reduceEqDiff, List.map_cons, List.map_nil, Int.reduceEq, Int.lt_irrefl, F_ref7_known]
  refine loop_rule (fun f w' => ∃ k : Nat, k ≤ pl.length ∧ (f 0 = .slice L pl.length c ∧ f 1 = .slice A a.length ca ∧ f 2 = .slice A1 b.length cb ∧ f 7 = .int .i64 k) ∧ (∀ i p, i < k → pl[i]? = some p → (p.a, p.b) ≠ (a, b)) ∧ Same w w')
    (fun f _ => pl.length - (intOf (f 7)).toNat) ⟨0, Nat.zero_le _, ⟨rfl, rfl, rfl, rfl⟩, fun i p hi => absurd hi (by omega), Same.refl w⟩ ?_
  rintro f w1 ⟨k, hk, fr, hp, s1⟩ J hJ
  by_cases hlt : k < pl.length
  case neg =>
    have r : decide ((a, b) ∈ pl.map fun p => (p.a, p.b)) = false := decide_eq_false fun h => by
      obtain ⟨p, hp1, hp2⟩ := List.mem_map.1 h
      obtain ⟨i, hi, hpi⟩ := List.getElem_of_mem hp1
      exact hp i p (by omega) (by rw [List.getElem?_eq_getElem hi, hpi]) hp2
    simp (disch := first | with_reducible assumption | omega) only [push_cast, x_blk, x_cd, ↓reduceIte, Nat.reduceEqDiff, List.map_cons, List.map_nil, Int.reduceEq, Int.lt_irrefl, L_ref7_known_0, fr, hlt]
    exact fin_1 (hQ _ _ ⟨(by simp only [push_cast, ↓reduceIte, Nat.reduceEqDiff, Int.reduceEq, r]), s1⟩)
  have hpk : pl[k]? = some (pl[k]'hlt) := List.getElem?_eq_getElem hlt
  have hmem : pl[k]'hlt ∈ pl := List.getElem_mem hlt
  generalize pl[k]'hlt = p at hpk hmem
  obtain ⟨⟨ga, na⟩, gb, nb⟩ := hg p hmem
  have hR1 := hR.same s1
  have hA := hR1.isSome (by omega)
  have l0 := fun {K : Fr → World → Prop} {f : Fr} {d : Option Nat} {w' : World} => hR1.ld (P := Try.prog) (K := K) (f := f) (d := d) (w := w') ty_ag_22 hpk (j := 0) (v := .slice p.A p.a.length p.ca) rfl
  simp (disch := first | with_reducible assumption | omega) only [push_cast, x_blk, x_cd, ↓reduceIte, Nat.reduceEqDiff, List.map_cons, List.map_nil, Int.reduceEq, Int.lt_irrefl, L_ref7_known_0, fr, hlt, l0]
  refine call_of (ref1_Same (ga.same s1) (h1.same s1) p.ca ca (by omega)) ?_
  rintro v w2 ⟨rfl, s2⟩
  have s2 := s1.trans s2
  by_cases c1 : p.a = a
  case neg =>
    simp (disch := first | with_reducible assumption | omega) only [push_cast, x_blk, x_cd, ↓reduceIte, Nat.reduceEqDiff, List.map_cons, List.map_nil, Int.reduceEq, Int.lt_irrefl, c1, fr]
    exact hJ _ _ ⟨k + 1, hlt, (by simp only [push_cast, ↓reduceIte, Nat.reduceEqDiff, true_and, and_true, and_self, eq_self, fr]), fun i p' hi hpi hh => by
      by_cases e : i = k
      · subst e; rw [hpk] at hpi; obtain rfl := Option.some.inj hpi; exact c1 (congrArg Prod.fst hh)
      · exact hp i p' (by omega) hpi hh, s2⟩ (by simp only [push_cast, ↓reduceIte, Nat.reduceEqDiff, intOf, fr]; omega)
  have hR2 := hR.same s2
  have l1 := fun {K : Fr → World → Prop} {f : Fr} {d : Option Nat} {w' : World} => hR2.ld (P := Try.prog) (K := K) (f := f) (d := d) (w := w') ty_ag_22 hpk (j := 1) (v := .slice p.B p.b.length p.cb) rfl
  simp (disch := first | with_reducible assumption | omega) only [push_cast, x_blk, x_cd, ↓reduceIte, Nat.reduceEqDiff, List.map_cons, List.map_nil, Int.reduceEq, Int.lt_irrefl, c1, eq_self, fr, hlt, l1]
  refine call_of (ref1_Same (gb.same s2) (h2.same s2) p.cb cb (by omega)) ?_
  rintro v w3 ⟨rfl, s3⟩
  have s3 := s2.trans s3
  by_cases c2 : p.b = b
  · have r : decide ((a, b) ∈ pl.map fun p => (p.a, p.b)) = true := decide_eq_true (List.mem_map.2 ⟨p, hmem, by rw [c1, c2]⟩)
    simp (disch := first | with_reducible assumption | omega) only [push_cast, x_blk, x_cd, ↓reduceIte, Nat.reduceEqDiff, List.map_cons, List.map_nil, Int.reduceEq, Int.lt_irrefl, c2, eq_self]
    exact fin_1 (hQ _ _ ⟨(by simp only [push_cast, ↓reduceIte, Nat.reduceEqDiff, Int.reduceEq, r]), s3⟩)
  · simp (disch := first | with_reducible assumption | omega) only [push_cast, x_blk, x_cd, ↓reduceIte, Nat.reduceEqDiff, List.map_cons, List.map_nil, Int.reduceEq, Int.lt_irrefl, c2, fr]
    exact hJ _ _ ⟨k + 1, hlt, (by simp only [push_cast, ↓reduceIte, Nat.reduceEqDiff, true_and, and_true, and_self, eq_self, fr]), fun i p' hi hpi hh => by
      by_cases e : i = k
      · subst e; rw [hpk] at hpi; obtain rfl := Option.some.inj hpi; exact c2 (congrArg Prod.snd hh)
      · exact hp i p' (by omega) hpi hh, s3⟩ (by simp only [push_cast, ↓reduceIte, Nat.reduceEqDiff, intOf, fr]; omega)
end Go.Proofs.Ytkemapljhmoafaa
