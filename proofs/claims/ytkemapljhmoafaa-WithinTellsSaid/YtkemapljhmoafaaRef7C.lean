/-
  Chapter 7: the reference's Without, Within; the program's Within; the law WithinTells.
-/
import Derived.Test.YtkemapljhmoafaaRef7B
import Derived.Test.YtkemapljhmoafaaMachC
namespace Go.Proofs.Ytkemapljhmoafaa
set_option linter.unusedSimpArgs false
set_option linter.unusedVariables false
set_option linter.unusedSectionVars false
open Go.RowKit

theorem FirstIs.unique {step : St → Int → St} {found : St → Bool} {es : List Int} {first : St} {b b' : Bool} {o o' : List Int} (h : FirstIs step found es first b o) (h' : FirstIs step found es first b' o') : b = b' ∧ o = o' := by
  have pre : ∀ {k n j : Nat} {q : St × List Int}, k ≤ n → (bIter step es first k)[j]? = some q → (bIter step es first n)[j]? = some q := fun {k n j q} hkn hq => by
    rw [prefix_getElem? (bIter_prefix (step := step) (es := es) first hkn) (by
      rcases Nat.lt_or_ge j (bIter step es first k).length with h1 | h1
      · exact h1
      · rw [List.getElem?_eq_none h1] at hq; cases hq)]
    exact hq
  have one : ∀ {k q n}, (bIter step es first k)[k]? = some q → found q.1 = true → (bIter step es first n).length = n → (∀ (j : Nat) (p : St × List Int), (bIter step es first n)[j]? = some p → found p.1 = false) → False := fun {k q n} hq hf hn hno => by
    rcases Nat.le_total k n with h1 | h1
    · have := hno k q (pre h1 hq); rw [hf] at this; cases this
    · rw [bIter_stop (step := step) (es := es) (by omega) k h1] at hq
      have := hno k q hq; rw [hf] at this; cases this
  rcases h with ⟨rfl, k, q, hq, hf, rfl, hno⟩ | ⟨rfl, rfl, n, hn, hno⟩ <;> rcases h' with ⟨rfl, k', q', hq', hf', rfl, hno'⟩ | ⟨rfl, rfl, n', hn', hno'⟩
  · have : k = k' := by
      rcases Nat.lt_trichotomy k k' with h1 | h1 | h1
      · have := hno' k h1 q (pre (Nat.le_of_lt h1) hq); rw [hf] at this; cases this
      · exact h1
      · have := hno k' h1 q' (pre (Nat.le_of_lt h1) hq'); rw [hf'] at this; cases this
    subst this
    rw [hq] at hq'
    rw [Option.some.inj hq']
    exact ⟨rfl, rfl⟩
  · exact (one hq hf hn' hno').elim
  · exact (one hq' hf' hn hno).elim
  · exact ⟨rfl, rfl⟩

def found2 (ma mb : Mach) (s : St) : Bool := decide (MeetL s.1 ma.ends) && !decide (MeetL s.2 mb.ends)
theorem only_meet (l m : List Int) : decide (0 < ((onlyL l m true).length : Int)) = decide (MeetL l m) := by
  refine decide_eq_decide.2 ?_
  rw [Int.natCast_pos, List.length_pos_iff_exists_mem]
  unfold MeetL onlyL
  simp [List.mem_filter]
theorem only_none (l m : List Int) : decide (((onlyL l m true).length : Int) = 0) = !decide (MeetL l m) := by
  have h := only_meet l m
  by_cases c : MeetL l m
  · rw [decide_eq_true c] at h ⊢
    have := of_decide_eq_true h
    exact decide_eq_false (by omega)
  · rw [decide_eq_false c] at h ⊢
    have := of_decide_eq_false h
    exact decide_eq_true (by omega)

theorem ref7_Without {w : World} {a b : MV} {ma mb : Mach} (ha : IsM (· < w.heap.size) w a ma) (hb : IsM (· < w.heap.size) w b mb) (fa : ma.Fits) (fb : mb.Fits) (pa : ma.May) (pb : mb.May) (na : ma.states ≤ 6) (nb : mb.states ≤ 6) :
    Cal Try.prog 54 [a.val ma, b.val mb] w fun v w' =>
      ∃ O co o bo, v = .tuple #[.slice O o.length co, .bool bo] ∧ Ints (· < w'.heap.size) w' O o ∧ Below w.heap.size w w' ∧ o.length ≤ 2147483648 ∧ FirstIs (step2 ma mb) (found2 ma mb) (evs ma.events.toNat) (ma.starts, mb.starts) bo o := by
  have la := fa.lenE
  have lb := fb.lenE
  refine cal_ref7_Without (by simp) 100000 fun Q hQ => ?_
  simp (disch := first | with_reducible assumption | omega) only [push_cast, x_blk, x_cd, ↓reduceIte, Nat.reduceEqDiff, List.map_cons, List.map_nil, Int.reduceEq, Int.lt_irrefl, F_ref7_Without]
  refine blk_of (box_agg _ (a.cells ma)) ?_
  intro w1 k1 b1 z1
  simp (disch := first | with_reducible assumption | omega) only [push_cast, x_blk, x_cd, ↓reduceIte, Nat.reduceEqDiff, List.map_cons, List.map_nil, Int.reduceEq, Int.lt_irrefl]
  refine blk_of (box_agg _ (b.cells mb)) ?_
  intro w2 k2 b2 z2
  have k1 := k1.below b2 k1.lt
  have b2 := b1.trans (b2.mono b1.size)
  have up : ∀ {w' : World} {c : MV} {mc : Mach}, IsM (· < w.heap.size) w c mc → Below w.heap.size w w' → IsM (· < w'.heap.size) w' c mc := fun {w' c mc} h hb => (h.below hb).mono fun b hl => Nat.lt_of_lt_of_le hl hb.size
  simp (disch := first | with_reducible assumption | omega) only [push_cast, x_blk, x_cd, ↓reduceIte, Nat.reduceEqDiff, List.map_cons, List.map_nil, Int.reduceEq, Int.lt_irrefl, k1.mA ty_ag_33 ty_sz_33, k2.mA ty_ag_33 ty_sz_33]
  refine call_of (ref7_Places (up ha b2) (up hb b2) fa fb pa pb na nb) ?_
  rintro v w3 ⟨K, pl, L, c, rfl, habs, hpl, hlen, hK, hR, hgood, b3⟩
  have k1 := k1.below b3 k1.lt
  have k2 := k2.below b3 k2.lt
  have bb := b2.trans (b3.mono b2.size)
  simp (disch := first | with_reducible assumption | omega) only [push_cast, x_blk, x_cd, ↓reduceIte, Nat.reduceEqDiff, List.map_cons, List.map_nil, Int.reduceEq, Int.lt_irrefl]
  refine loop_rule (fun f w' => ∃ k : Nat, k ≤ K ∧ (f 2 = .pointer (some ⟨w.heap.size, 0, none⟩) ∧ f 3 = .pointer (some ⟨w1.heap.size, 0, none⟩) ∧ f 6 = .slice L pl.length c ∧ f 7 = .int .i64 k) ∧
      (∀ (j : Nat) (p : P7), j < k → pl[j]? = some p → found2 ma mb p.abs.1 = false) ∧ Below w3.heap.size w3 w')
    (fun f _ => K - (intOf (f 7)).toNat) ⟨0, Nat.zero_le _, ⟨rfl, rfl, rfl, rfl⟩, fun j p hj => absurd hj (by omega), Below.refl _ _⟩ ?_
  rintro f w4 ⟨k, hk, fr, hnf, b4⟩ J hJ
  have bw4 := bb.trans (b4.mono bb.size)
  have hat : ∀ (j : Nat) (q : St × List Int), (bIter (step2 ma mb) (evs ma.events.toNat) (ma.starts, mb.starts) K)[j]? = some q → ∃ p, pl[j]? = some p ∧ p.abs = q := fun j q hq => by
    rw [← habs, List.getElem?_map] at hq
    cases hp : pl[j]? with
    | none => rw [hp] at hq; cases hq
    | some p => rw [hp] at hq; exact ⟨p, rfl, Option.some.inj hq⟩
  by_cases hlt : k < pl.length
  case neg =>
    simp (disch := first | with_reducible assumption | omega) only [push_cast, x_blk, x_cd, ↓reduceIte, Nat.reduceEqDiff, List.map_cons, List.map_nil, Int.reduceEq, Int.lt_irrefl, L_ref7_Without_0, fr, hlt]
    exact fin_2 (hQ _ _ ⟨none, 0, [], false, (by simp only [push_cast, ↓reduceIte, Nat.reduceEqDiff, Int.reduceEq, List.length_nil]), Ints.nil _ _ _, bw4, by simp, .inr ⟨rfl, rfl, K, by rw [← habs]; simpa using hpl, fun j q hq => by
      obtain ⟨p, hp, rfl⟩ := hat j q hq
      exact hnf j p (by
        rcases Nat.lt_or_ge j k with h1 | h1
        · exact h1
        · rw [List.getElem?_eq_none (by omega)] at hp; cases hp) hp⟩⟩)
  have hpk : pl[k]? = some (pl[k]'hlt) := List.getElem?_eq_getElem hlt
  have hmem : pl[k]'hlt ∈ pl := List.getElem_mem hlt
  generalize pl[k]'hlt = p at hpk hmem
  have gp := hgood p hmem
  have hA := hR.isSome (by omega)
  have hR4 := (hR.below b4)
  have hR4d : Recs P7.cells 3 (· < w3.heap.size) w4.drew L pl := hR4.keep fun _ _ => rfl
  have k1d := (k1.below b4 k1.lt).drew
  generalize hu : w4.drew = u at *
  have s4 : Same w4 u := hu ▸ (Same.refl w4).drew
  have b4u := b4.trans (s4.below _)
  have bwu := bw4.trans (s4.below _)
  have gpu := gp.below b4u
  have l0 := fun {K : Fr → World → Prop} {f : Fr} {d : Option Nat} {w' : World} => hR4d.ld (P := Try.prog) (K := K) (f := f) (d := d) (w := w') ty_ag_22 hpk (j := 0) (v := .slice p.A p.a.length p.ca) rfl
  have hgn := gp.n
  simp (disch := first | with_reducible assumption | omega) only [push_cast, x_blk, x_cd, ↓reduceIte, Nat.reduceEqDiff, List.map_cons, List.map_nil, Int.reduceEq, Int.lt_irrefl, L_ref7_Without_0, fr, hlt, hu, l0, k1d.m4 ty_ag_22]
  refine call_of (ref1_Only gpu.a.lt ((up ha bwu).ends) p.ca _ true (by omega) (by omega)) ?_
  rintro v w5 ⟨A5, c5, rfl, o5, b5⟩
  have b35 := b4u.trans (b5.mono b4u.size)
  have hR5d : Recs P7.cells 3 (· < w3.heap.size) w5.drew L pl := (hR.below b35).keep fun _ _ => rfl
  have k2d := (k2.below b35 k2.lt).drew
  generalize hu5 : w5.drew = u5 at *
  have s5 : Same w5 u5 := hu5 ▸ (Same.refl w5).drew
  have b35u := b35.trans (s5.below _)
  have bwu5 := bb.trans (b35u.mono bb.size)
  have gp5 := gp.below b35u
  have l1 := fun {K : Fr → World → Prop} {f : Fr} {d : Option Nat} {w' : World} => hR5d.ld (P := Try.prog) (K := K) (f := f) (d := d) (w := w') ty_ag_22 hpk (j := 1) (v := .slice p.B p.b.length p.cb) rfl
  simp (disch := first | with_reducible assumption | omega) only [push_cast, x_blk, x_cd, ↓reduceIte, Nat.reduceEqDiff, List.map_cons, List.map_nil, Int.reduceEq, Int.lt_irrefl, fr, hlt, hu5, l1, k2d.m4 ty_ag_22]
  refine call_of (ref1_Only gp5.b.lt ((up hb bwu5).ends) p.cb _ true (by omega) (by omega)) ?_
  rintro v w6 ⟨A6, c6, rfl, o6, b6⟩
  have b36 := b35u.trans (b6.mono b35u.size)
  have bw6 := bb.trans (b36.mono bb.size)
  have hR6 := hR.below b36
  have m1 := only_meet p.a ma.ends
  have m2 := only_none p.b mb.ends
  have hff : found2 ma mb p.abs.1 = (decide (MeetL p.a ma.ends) && !decide (MeetL p.b mb.ends)) := rfl
  have l2 := fun {K : Fr → World → Prop} {f : Fr} {d : Option Nat} {w' : World} => hR6.ld (P := Try.prog) (K := K) (f := f) (d := d) (w := w') ty_ag_22 hpk (j := 2) (v := .slice p.W p.w.length p.cw) rfl
  have next : found2 ma mb p.abs.1 = false → ∀ (j : Nat) (p' : P7), j < k + 1 → pl[j]? = some p' → found2 ma mb p'.abs.1 = false := fun h0 j p' hj hp' => by
    by_cases e : j = k
    · subst e; rw [hpk] at hp'; rw [← Option.some.inj hp']; exact h0
    · exact hnf j p' (by omega) hp'
  by_cases c1 : MeetL p.a ma.ends
  case neg =>
    rw [decide_eq_false c1] at m1 hff
    simp (disch := first | with_reducible assumption | omega) only [push_cast, x_blk, x_cd, ↓reduceIte, Nat.reduceEqDiff, List.map_cons, List.map_nil, Int.reduceEq, Int.lt_irrefl, m1, fr]
    exact hJ _ _ ⟨k + 1, by omega, (by simp only [push_cast, ↓reduceIte, Nat.reduceEqDiff, true_and, and_true, and_self, eq_self, fr]), next (by rw [hff]; rfl), b36⟩ (by simp only [push_cast, ↓reduceIte, Nat.reduceEqDiff, intOf, fr]; omega)
  rw [decide_eq_true c1] at m1 hff
  by_cases c2 : MeetL p.b mb.ends
  · rw [decide_eq_true c2] at m2 hff
    simp (disch := first | with_reducible assumption | omega) only [push_cast, x_blk, x_cd, ↓reduceIte, Nat.reduceEqDiff, List.map_cons, List.map_nil, Int.reduceEq, Int.lt_irrefl, m1, m2, fr]
    exact hJ _ _ ⟨k + 1, by omega, (by simp only [push_cast, ↓reduceIte, Nat.reduceEqDiff, true_and, and_true, and_self, eq_self, fr]), next (by rw [hff]; rfl), b36⟩ (by simp only [push_cast, ↓reduceIte, Nat.reduceEqDiff, intOf, fr]; omega)
  rw [decide_eq_false c2] at m2 hff
  have hqK : (bIter (step2 ma mb) (evs ma.events.toNat) (ma.starts, mb.starts) K)[k]? = some p.abs := by rw [← habs, List.getElem?_map, hpk]; rfl
  have hpre := bIter_prefix (step := step2 ma mb) (es := evs ma.events.toNat) (ma.starts, mb.starts) hk
  simp (disch := first | with_reducible assumption | omega) only [push_cast, x_blk, x_cd, ↓reduceIte, Nat.reduceEqDiff, List.map_cons, List.map_nil, Int.reduceEq, Int.lt_irrefl, m1, m2, fr, hlt, l2]
  refine fin_2 (hQ _ _ ⟨p.W, p.cw, p.w, true, (by simp only [push_cast, ↓reduceIte, Nat.reduceEqDiff, Int.reduceEq]), (gp.below b36).w.lt, bw6, hgn.2.2, .inl ⟨rfl, k, p.abs, ?_, by rw [hff]; rfl, rfl, fun j hj q hq => ?_⟩⟩)
  · rw [← prefix_getElem? hpre (hlen k (by omega))]; exact hqK
  · have hj2 := hlen k (by omega)
    rw [← prefix_getElem? hpre (by omega)] at hq
    obtain ⟨p', hp', rfl⟩ := hat j q hq
    exact hnf j p' hj hp'
end Go.Proofs.Ytkemapljhmoafaa
