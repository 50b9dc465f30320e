/-
  The law WithinSays: what within.Within tells is the least word between, or there is none: it returns true.
-/
import Derived.Test.YtiabkafgmanhiaaDoorLaw7
import Derived.Test.YtiabkafgmanhiaaDoorLawMach
import Derived.Test.YtiabkafgmanhiaaDoorShl
namespace Go.Proofs.YtiabkafgmanhiaaDoor
set_option linter.unusedSimpArgs false
set_option linter.unusedVariables false
set_option linter.unusedSectionVars false
open Go.RowKit

noncomputable instance (u v : List Int) : Decidable (Shl u v) := Classical.propDecidable _
theorem keep_lesser {ok ok' : Nat → Prop} {w : World} {A A' : Option Addr} {l m : List Int} (h : Ints ok w A l) (h' : Ints ok' w A' m) (c c' : Nat) (hl : l.length ≤ 9223372036854775807) :
    Cal Tryd.prog 44 [.slice A l.length c, .slice A' m.length c'] w fun v w' => v = .bool (decide (Shl l m)) ∧ Same w w' := by
  refine cal_keep_lesser (by simp) 100000 fun Q hQ => ?_
  by_cases hlen : (l.length : Int) = (m.length : Int)
  case neg =>
    have r : decide (Shl l m) = decide ((l.length : Int) < (m.length : Int)) := decide_eq_decide.2 ⟨fun h => by rcases h with h | ⟨h, _⟩ <;> omega, fun h => .inl (by omega)⟩
    simp (disch := first | with_reducible assumption | omega) only [push_cast, x_blk, x_cd, ↓reduceIte, Nat.reduceEqDiff, List.map_cons, List.map_nil, Int.reduceEq, Int.lt_irrefl, F_keep_lesser, hlen]
    exact fin_1 (hQ _ _ ⟨(by simp only [push_cast, ↓reduceIte, Nat.reduceEqDiff, Int.reduceEq, r]), Same.refl _⟩)
  have hlen' : l.length = m.length := by omega
  simp (disch := first | with_reducible assumption | omega) only [push_cast, x_blk, x_cd, ↓reduceIte, Nat.reduceEqDiff, List.map_cons, List.map_nil, Int.reduceEq, Int.lt_irrefl, F_keep_lesser, hlen, eq_self]
  refine loop_rule (fun f w' => ∃ k : Nat, k ≤ l.length ∧ (f 0 = .slice A l.length c ∧ f 1 = .slice A' m.length c' ∧ f 5 = .int .i64 k) ∧ (∀ i, i < k → l.getD i 0 = m.getD i 0) ∧ Same w w')
    (fun f _ => l.length - (intOf (f 5)).toNat) ⟨0, Nat.zero_le _, ⟨rfl, rfl, rfl⟩, fun i hi => absurd hi (by omega), Same.refl w⟩ ?_
  rintro f w1 ⟨k, hk, fr, hp, s1⟩ J hJ
  by_cases hlt : k < l.length
  case neg =>
    have r : decide (Shl l m) = false := decide_eq_false fun h => by
      rcases h with h | ⟨_, i, hi, _, h⟩
      · omega
      · rw [hp i (by omega)] at h; omega
    simp (disch := first | with_reducible assumption | omega) only [push_cast, x_blk, x_cd, ↓reduceIte, Nat.reduceEqDiff, List.map_cons, List.map_nil, Int.reduceEq, Int.lt_irrefl, L_keep_lesser_0, fr, hlt]
    exact fin_1 (hQ _ _ ⟨(by simp only [push_cast, ↓reduceIte, Nat.reduceEqDiff, Int.reduceEq, r]), s1⟩)
  have hI := (h.same s1).drew
  have hI' := (h'.same s1).drew
  have hA := hI.isSome (by omega)
  have hA' := hI'.isSome (by omega)
  have hlt' : k < m.length := by omega
  by_cases c1 : l.getD k 0 = m.getD k 0
  · simp (disch := first | with_reducible assumption | omega) only [push_cast, x_blk, x_cd, ↓reduceIte, Nat.reduceEqDiff, List.map_cons, List.map_nil, Int.reduceEq, Int.lt_irrefl, L_keep_lesser_0, fr, hlt, hlt', hI.ld ty_ag_3, hI'.ld ty_ag_3, c1, eq_self]
    exact hJ _ _ ⟨k + 1, hlt, (by simp only [push_cast, ↓reduceIte, Nat.reduceEqDiff, true_and, and_true, and_self, eq_self, fr]), fun i hi => if e : i = k then e ▸ c1 else hp i (by omega), s1.drew⟩ (by simp only [push_cast, ↓reduceIte, Nat.reduceEqDiff, intOf, fr]; omega)
  · have r : decide (Shl l m) = decide (l.getD k 0 < m.getD k 0) := decide_eq_decide.2 ⟨fun h => by
      rcases h with h | ⟨_, i, hi, he, h⟩
      · omega
      · rcases Nat.lt_trichotomy i k with d | rfl | d
        · rw [hp i d] at h; omega
        · exact h
        · exact absurd (he k d) c1, fun h => .inr ⟨hlen', k, hlt, hp, h⟩⟩
    have hI2 := hI.drew
    have hI2' := hI'.drew
    simp (disch := first | with_reducible assumption | omega) only [push_cast, x_blk, x_cd, ↓reduceIte, Nat.reduceEqDiff, List.map_cons, List.map_nil, Int.reduceEq, Int.lt_irrefl, L_keep_lesser_0, fr, hlt, hlt', hI.ld ty_ag_3, hI'.ld ty_ag_3, hI2.ld ty_ag_3, hI2'.ld ty_ag_3, c1]
    exact fin_1 (hQ _ _ ⟨(by simp only [push_cast, ↓reduceIte, Nat.reduceEqDiff, Int.reduceEq, r]), s1.drew.drew⟩)

theorem evs_sorted (n : Nat) : (evs n).Pairwise (· < ·) := by
  unfold evs
  rw [List.pairwise_map]
  exact List.pairwise_lt_range.imp fun h => by omega
theorem isWord_evs {m : Mach} (he : 0 ≤ m.events) {u : List Int} : IsWord m u ↔ ∀ e ∈ u, e ∈ evs m.events.toNat := by
  have key : IsWord m u ↔ ∀ x ∈ u, 0 ≤ x ∧ x < m.events := ⟨fun h x hx => by
    obtain ⟨i, hi, rfl⟩ := (mem_iff_getD u 0 x).1 hx
    exact h i hi, fun h i hi => h _ (getD_mem u 0 i hi)⟩
  rw [key]
  have ee : ((m.events.toNat : Nat) : Int) = m.events := by omega
  exact forall_congr' fun x => forall_congr' fun _ => by rw [evs_mem, ee]
theorem run2 (a b : Mach) (u : List Int) (s : St) : u.foldl (step2 a b) s = (afterL a s.1 u, afterL b s.2 u) := by
  induction u generalizing s with
  | nil => rfl
  | cons e u ih => rw [List.foldl_cons, ih]; rfl
theorem found2_run (a b : Mach) (u : List Int) : found2 a b (u.foldl (step2 a b) (a.starts, b.starts)) = (decide (AcceptsL a u) && !decide (AcceptsL b u)) := by
  rw [run2]; rfl
theorem says_none {a b : Mach} (pa : a.May) {o : List Int} (h : FirstIs (step2 a b) (found2 a b) (evs a.events.toNat) (a.starts, b.starts) false o) :
    o = [] ∧ ∀ u, IsWord a u → AcceptsL a u → AcceptsL b u := by
  have he : 0 ≤ a.events := by have := pa.2.2.1; omega
  rcases h with ⟨h, _⟩ | ⟨_, rfl, k, hk, hno⟩
  · cases h
  · refine ⟨rfl, fun u hu ha => ?_⟩
    have := first_none (evs_sorted _) hk hno u ((isWord_evs he).1 hu)
    rw [found2_run, decide_eq_true ha, Bool.true_and] at this
    by_cases hb : AcceptsL b u
    · exact hb
    · rw [decide_eq_false hb] at this; cases this
theorem says_some {a b : Mach} (pa : a.May) (pb : b.May) (na : a.states ≤ 6) (nb : b.states ≤ 6) {o : List Int} (h : FirstIs (step2 a b) (found2 a b) (evs a.events.toNat) (a.starts, b.starts) true o) :
    o.length ≤ 4096 ∧ IsWord a o ∧ AcceptsL a o ∧ ¬ AcceptsL b o ∧ ∀ u, IsWord a u → AcceptsL a u → ¬ AcceptsL b u → ¬ Shl u o := by
  have he : 0 ≤ a.events := by have := pa.2.2.1; omega
  rcases h with ⟨_, k, q, hq, hf, rfl, hno⟩ | ⟨h, _⟩
  · have hr := bIter_run (evs_sorted _) hq
    rw [hr.1, found2_run, Bool.and_eq_true] at hf
    have h1 : k < (bIter (step2 a b) (evs a.events.toNat) (a.starts, b.starts) k).length := by
      rcases Nat.lt_or_ge k (bIter (step2 a b) (evs a.events.toNat) (a.starts, b.starts) k).length with c | c
      · exact c
      · rw [List.getElem?_eq_none c] at hq; cases hq
    have h2 := bIter_word _ _ _ _ hq
    have h3 := pairs_few pa pb na nb (evs a.events.toNat) k 0
    rw [bPart_zero] at h3
    refine ⟨by omega, (isWord_evs he).2 hr.2, of_decide_eq_true hf.1, by simpa using hf.2, fun u hu ha hb => ?_⟩
    exact (first_some (evs_sorted _) hq hno u ((isWord_evs he).1 hu) (by rw [found2_run, decide_eq_true ha, decide_eq_false hb]; rfl)).not
  · cases h

theorem law_WithinSays {w : World} (hT : Tab w) {a0 : MV} {m0 : Mach} (h : IsM (· < w.heap.size) w a0 m0) (hf : m0.Fits) {a1 : MV} {m1 : Mach} (h' : IsM (· < w.heap.size) w a1 m1) (hf' : m1.Fits)
    {A2 : Option Addr} {c2 : Nat} {l2 : List Int} (h2 : Ints (· < w.heap.size) w A2 l2) (_b2 : ∀ x ∈ l2, I64 x) (n2 : l2.length ≤ 17592186043904) (_k2 : l2.length ≤ c2) :
    Cal Tryd.prog 8 [a0.val m0, a1.val m1, .slice A2 l2.length c2] w fun v w' => v = .bool true ∧ Below w.heap.size w w' := by
  refine cal_keep_WithinSays (by simp) 100000 fun Q hQ => ?_
  simp (disch := first | with_reducible assumption | omega) only [push_cast, x_blk, x_cd, ↓reduceIte, Nat.reduceEqDiff, List.map_cons, List.map_nil, Int.reduceEq, Int.lt_irrefl, F_keep_WithinSays]
  refine blk_of (box_agg _ (a0.cells m0)) ?_
  intro w1 k1 b1 z1
  simp (disch := first | with_reducible assumption | omega) only [push_cast, x_blk, x_cd, ↓reduceIte, Nat.reduceEqDiff, List.map_cons, List.map_nil, Int.reduceEq, Int.lt_irrefl]
  refine blk_of (box_agg _ (a1.cells m1)) ?_
  intro w2 k2 b2 z2
  have k1 := k1.below b2 k1.lt
  have bb := b1.trans (b2.mono b1.size)
  have up : ∀ {w' : World} {c : MV} {mc : Mach}, IsM (· < w.heap.size) w c mc → Below w.heap.size w w' → IsM (· < w'.heap.size) w' c mc := fun {w' c mc} h hb => (h.below hb).mono fun b hl => Nat.lt_of_lt_of_le hl hb.size
  simp (disch := first | with_reducible assumption | omega) only [push_cast, x_blk, x_cd, ↓reduceIte, Nat.reduceEqDiff, List.map_cons, List.map_nil, Int.reduceEq, Int.lt_irrefl, k1.mA ty_ag_25 ty_sz_25, k2.mA ty_ag_25 ty_sz_25]
  refine call_of (within_Within (up h bb) (up h' bb) hf hf') ?_
  rintro v w3 ⟨bo, O, co, o, e, rfl, ho, b3, hsp, _⟩
  replace k1 := k1.below b3 k1.lt
  replace k2 := k2.below b3 k2.lt
  replace bb := bb.trans (Below.mono b3 bb.size)
  by_cases c1 : m0.May ∧ m1.May
  case neg =>
    obtain ⟨rfl, rfl, rfl⟩ := hsp.1 c1
    simp (disch := first | with_reducible assumption | omega) only [push_cast, x_blk, x_cd, ↓reduceIte, Nat.reduceEqDiff, List.map_cons, List.map_nil, Int.reduceEq, Int.lt_irrefl, List.length_nil, eq_self]
    exact fin_1 (hQ _ _ ⟨by rfl, bb⟩)
  by_cases p3 : m0.events = m1.events
  case neg =>
    obtain ⟨rfl, rfl, rfl⟩ := hsp.2.1 ⟨c1, p3⟩
    simp (disch := first | with_reducible assumption | omega) only [push_cast, x_blk, x_cd, ↓reduceIte, Nat.reduceEqDiff, List.map_cons, List.map_nil, Int.reduceEq, Int.lt_irrefl, List.length_nil, eq_self]
    exact fin_1 (hQ _ _ ⟨by rfl, bb⟩)
  by_cases p4 : m0.states ≤ 6 ∧ m1.states ≤ 6
  case neg =>
    obtain ⟨rfl, rfl, rfl⟩ := hsp.2.2.1 ⟨c1, p3, p4⟩
    simp (disch := first | with_reducible assumption | omega) only [push_cast, x_blk, x_cd, ↓reduceIte, Nat.reduceEqDiff, List.map_cons, List.map_nil, Int.reduceEq, Int.lt_irrefl, List.length_nil, eq_self]
    exact fin_1 (hQ _ _ ⟨by rfl, bb⟩)
  obtain ⟨rfl, hfi⟩ := hsp.2.2.2 ⟨c1, p3, p4⟩
  obtain ⟨p1, p2⟩ := c1
  simp (disch := first | with_reducible assumption | omega) only [push_cast, x_blk, x_cd, ↓reduceIte, Nat.reduceEqDiff, List.map_cons, List.map_nil, Int.reduceEq, Int.lt_irrefl, eq_self, k1.mA ty_ag_25 ty_sz_25]
  refine call_of (machine_Accepts (up h bb) hf (hT.below bb hT.lt) (h2.below bb).lt n2) ?_
  rintro v w4 ⟨p, f, rfl, b4, pyes, _, pno⟩
  replace ho := (ho.below b4).lt
  replace k1 := k1.below b4 k1.lt
  replace k2 := k2.below b4 k2.lt
  replace bb := bb.trans (Below.mono b4 bb.size)
  simp (disch := first | with_reducible assumption | omega) only [push_cast, x_blk, x_cd, ↓reduceIte, Nat.reduceEqDiff, List.map_cons, List.map_nil, Int.reduceEq, Int.lt_irrefl, k2.mA ty_ag_25 ty_sz_25]
  refine call_of (machine_Accepts (up h' bb) hf' (hT.below bb hT.lt) (h2.below bb).lt n2) ?_
  rintro v w5 ⟨q, g, rfl, b5, qyes, _, qno⟩
  replace ho := (ho.below b5).lt
  replace k1 := k1.below b5 k1.lt
  replace k2 := k2.below b5 k2.lt
  replace bb := bb.trans (Below.mono b5 bb.size)
  by_cases hw : IsWord m0 l2
  case neg =>
    have hw' : ¬ IsWord m1 l2 := fun hh => hw fun i hi => by rw [p3]; exact hh i hi
    obtain ⟨rfl, rfl⟩ := pno ⟨p1, hw⟩
    obtain ⟨rfl, rfl⟩ := qno ⟨p2, hw'⟩
    cases bo
    case true =>
      obtain ⟨rfl, _⟩ := says_none p1 hfi
      simp (disch := first | with_reducible assumption | omega) only [push_cast, x_blk, x_cd, ↓reduceIte, Nat.reduceEqDiff, List.map_cons, List.map_nil, Int.reduceEq, Int.lt_irrefl, List.length_nil, eq_self]
      exact fin_1 (hQ _ _ ⟨by rfl, bb⟩)
    case false =>
      obtain ⟨lo, ow, oa, ob, _⟩ := says_some p1 p2 p4.1 p4.2 hfi
      have ow' : IsWord m1 o := fun i hi => by rw [← p3]; exact ow i hi
      simp (disch := first | with_reducible assumption | omega) only [push_cast, x_blk, x_cd, ↓reduceIte, Nat.reduceEqDiff, List.map_cons, List.map_nil, Int.reduceEq, Int.lt_irrefl, k1.mA ty_ag_25 ty_sz_25]
      refine call_of (machine_Accepts (up h bb) hf (hT.below bb hT.lt) ho (by omega)) ?_
      rintro v w8 ⟨x, hx, rfl, b8, yes8, _⟩
      obtain ⟨rfl, e8⟩ := yes8 ⟨p1, ow⟩
      rw [decide_eq_true oa] at e8
      subst e8
      replace ho := (ho.below b8).lt
      replace k1 := k1.below b8 k1.lt
      replace k2 := k2.below b8 k2.lt
      replace bb := bb.trans (Below.mono b8 bb.size)
      simp (disch := first | with_reducible assumption | omega) only [push_cast, x_blk, x_cd, ↓reduceIte, Nat.reduceEqDiff, List.map_cons, List.map_nil, Int.reduceEq, Int.lt_irrefl, k2.mA ty_ag_25 ty_sz_25]
      refine call_of (machine_Accepts (up h' bb) hf' (hT.below bb hT.lt) ho (by omega)) ?_
      rintro v w9 ⟨y, hy, rfl, b9, yes9, _⟩
      obtain ⟨rfl, e9⟩ := yes9 ⟨p2, ow'⟩
      rw [decide_eq_false ob] at e9
      subst e9
      replace k1 := k1.below b9 k1.lt
      replace k2 := k2.below b9 k2.lt
      replace bb := bb.trans (Below.mono b9 bb.size)
      simp (disch := first | with_reducible assumption | omega) only [push_cast, x_blk, x_cd, ↓reduceIte, Nat.reduceEqDiff, List.map_cons, List.map_nil, Int.reduceEq, Int.lt_irrefl, eq_self]
      exact fin_1 (hQ _ _ ⟨by rfl, bb⟩)
  have hw' : IsWord m1 l2 := fun i hi => by rw [← p3]; exact hw i hi
  obtain ⟨rfl, ep⟩ := pyes ⟨p1, hw⟩
  obtain ⟨rfl, eq⟩ := qyes ⟨p2, hw'⟩
  by_cases hA : AcceptsL m0 l2
  case neg =>
    rw [decide_eq_false hA] at ep
    subst ep
    cases bo
    case true =>
      obtain ⟨rfl, _⟩ := says_none p1 hfi
      simp (disch := first | with_reducible assumption | omega) only [push_cast, x_blk, x_cd, ↓reduceIte, Nat.reduceEqDiff, List.map_cons, List.map_nil, Int.reduceEq, Int.lt_irrefl, List.length_nil, eq_self]
      exact fin_1 (hQ _ _ ⟨by rfl, bb⟩)
    case false =>
      obtain ⟨lo, ow, oa, ob, _⟩ := says_some p1 p2 p4.1 p4.2 hfi
      have ow' : IsWord m1 o := fun i hi => by rw [← p3]; exact ow i hi
      simp (disch := first | with_reducible assumption | omega) only [push_cast, x_blk, x_cd, ↓reduceIte, Nat.reduceEqDiff, List.map_cons, List.map_nil, Int.reduceEq, Int.lt_irrefl, k1.mA ty_ag_25 ty_sz_25]
      refine call_of (machine_Accepts (up h bb) hf (hT.below bb hT.lt) ho (by omega)) ?_
      rintro v w8 ⟨x, hx, rfl, b8, yes8, _⟩
      obtain ⟨rfl, e8⟩ := yes8 ⟨p1, ow⟩
      rw [decide_eq_true oa] at e8
      subst e8
      replace ho := (ho.below b8).lt
      replace k1 := k1.below b8 k1.lt
      replace k2 := k2.below b8 k2.lt
      replace bb := bb.trans (Below.mono b8 bb.size)
      simp (disch := first | with_reducible assumption | omega) only [push_cast, x_blk, x_cd, ↓reduceIte, Nat.reduceEqDiff, List.map_cons, List.map_nil, Int.reduceEq, Int.lt_irrefl, k2.mA ty_ag_25 ty_sz_25]
      refine call_of (machine_Accepts (up h' bb) hf' (hT.below bb hT.lt) ho (by omega)) ?_
      rintro v w9 ⟨y, hy, rfl, b9, yes9, _⟩
      obtain ⟨rfl, e9⟩ := yes9 ⟨p2, ow'⟩
      rw [decide_eq_false ob] at e9
      subst e9
      replace k1 := k1.below b9 k1.lt
      replace k2 := k2.below b9 k2.lt
      replace bb := bb.trans (Below.mono b9 bb.size)
      simp (disch := first | with_reducible assumption | omega) only [push_cast, x_blk, x_cd, ↓reduceIte, Nat.reduceEqDiff, List.map_cons, List.map_nil, Int.reduceEq, Int.lt_irrefl, eq_self]
      exact fin_1 (hQ _ _ ⟨by rfl, bb⟩)
  rw [decide_eq_true hA] at ep
  subst ep
  by_cases hB : AcceptsL m1 l2
  case pos =>
    rw [decide_eq_true hB] at eq
    subst eq
    cases bo
    case true =>
      obtain ⟨rfl, _⟩ := says_none p1 hfi
      simp (disch := first | with_reducible assumption | omega) only [push_cast, x_blk, x_cd, ↓reduceIte, Nat.reduceEqDiff, List.map_cons, List.map_nil, Int.reduceEq, Int.lt_irrefl, List.length_nil, eq_self]
      exact fin_1 (hQ _ _ ⟨by rfl, bb⟩)
    case false =>
      obtain ⟨lo, ow, oa, ob, _⟩ := says_some p1 p2 p4.1 p4.2 hfi
      have ow' : IsWord m1 o := fun i hi => by rw [← p3]; exact ow i hi
      simp (disch := first | with_reducible assumption | omega) only [push_cast, x_blk, x_cd, ↓reduceIte, Nat.reduceEqDiff, List.map_cons, List.map_nil, Int.reduceEq, Int.lt_irrefl, k1.mA ty_ag_25 ty_sz_25]
      refine call_of (machine_Accepts (up h bb) hf (hT.below bb hT.lt) ho (by omega)) ?_
      rintro v w8 ⟨x, hx, rfl, b8, yes8, _⟩
      obtain ⟨rfl, e8⟩ := yes8 ⟨p1, ow⟩
      rw [decide_eq_true oa] at e8
      subst e8
      replace ho := (ho.below b8).lt
      replace k1 := k1.below b8 k1.lt
      replace k2 := k2.below b8 k2.lt
      replace bb := bb.trans (Below.mono b8 bb.size)
      simp (disch := first | with_reducible assumption | omega) only [push_cast, x_blk, x_cd, ↓reduceIte, Nat.reduceEqDiff, List.map_cons, List.map_nil, Int.reduceEq, Int.lt_irrefl, k2.mA ty_ag_25 ty_sz_25]
      refine call_of (machine_Accepts (up h' bb) hf' (hT.below bb hT.lt) ho (by omega)) ?_
      rintro v w9 ⟨y, hy, rfl, b9, yes9, _⟩
      obtain ⟨rfl, e9⟩ := yes9 ⟨p2, ow'⟩
      rw [decide_eq_false ob] at e9
      subst e9
      replace k1 := k1.below b9 k1.lt
      replace k2 := k2.below b9 k2.lt
      replace bb := bb.trans (Below.mono b9 bb.size)
      simp (disch := first | with_reducible assumption | omega) only [push_cast, x_blk, x_cd, ↓reduceIte, Nat.reduceEqDiff, List.map_cons, List.map_nil, Int.reduceEq, Int.lt_irrefl, eq_self]
      exact fin_1 (hQ _ _ ⟨by rfl, bb⟩)
  rw [decide_eq_false hB] at eq
  subst eq
  cases bo
  case true => exact absurd ((says_none p1 hfi).2 l2 hw hA) hB
  case false =>
    obtain ⟨lo, ow, oa, ob, hleast⟩ := says_some p1 p2 p4.1 p4.2 hfi
    simp (disch := first | with_reducible assumption | omega) only [push_cast, x_blk, x_cd, ↓reduceIte, Nat.reduceEqDiff, List.map_cons, List.map_nil, Int.reduceEq, Int.lt_irrefl, eq_self]
    refine call_of (keep_lesser (h2.below bb) ho c2 co (by omega)) ?_
    rintro v w6 ⟨rfl, s6⟩
    rw [decide_eq_false (hleast l2 hw hA hB)]
    replace ho := (ho.same s6).lt
    have b6 := s6.below w5.heap.size
    replace k1 := k1.below b6 k1.lt
    replace k2 := k2.below b6 k2.lt
    replace bb := bb.trans (Below.mono b6 bb.size)
    have ow' : IsWord m1 o := fun i hi => by rw [← p3]; exact ow i hi
    simp (disch := first | with_reducible assumption | omega) only [push_cast, x_blk, x_cd, ↓reduceIte, Nat.reduceEqDiff, List.map_cons, List.map_nil, Int.reduceEq, Int.lt_irrefl, eq_self, k1.mA ty_ag_25 ty_sz_25]
    refine call_of (machine_Accepts (up h bb) hf (hT.below bb hT.lt) ho (by omega)) ?_
    rintro v w8 ⟨x, hx, rfl, b8, yes8, _⟩
    obtain ⟨rfl, e8⟩ := yes8 ⟨p1, ow⟩
    rw [decide_eq_true oa] at e8
    subst e8
    replace ho := (ho.below b8).lt
    replace k1 := k1.below b8 k1.lt
    replace k2 := k2.below b8 k2.lt
    replace bb := bb.trans (Below.mono b8 bb.size)
    simp (disch := first | with_reducible assumption | omega) only [push_cast, x_blk, x_cd, ↓reduceIte, Nat.reduceEqDiff, List.map_cons, List.map_nil, Int.reduceEq, Int.lt_irrefl, k2.mA ty_ag_25 ty_sz_25]
    refine call_of (machine_Accepts (up h' bb) hf' (hT.below bb hT.lt) ho (by omega)) ?_
    rintro v w9 ⟨y, hy, rfl, b9, yes9, _⟩
    obtain ⟨rfl, e9⟩ := yes9 ⟨p2, ow'⟩
    rw [decide_eq_false ob] at e9
    subst e9
    replace k1 := k1.below b9 k1.lt
    replace k2 := k2.below b9 k2.lt
    replace bb := bb.trans (Below.mono b9 bb.size)
    simp (disch := first | with_reducible assumption | omega) only [push_cast, x_blk, x_cd, ↓reduceIte, Nat.reduceEqDiff, List.map_cons, List.map_nil, Int.reduceEq, Int.lt_irrefl, eq_self]
    exact fin_1 (hQ _ _ ⟨by rfl, bb⟩)
end Go.Proofs.YtiabkafgmanhiaaDoor
