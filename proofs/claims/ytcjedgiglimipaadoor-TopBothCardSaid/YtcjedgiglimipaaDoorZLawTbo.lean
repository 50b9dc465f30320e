/-
  Chapter 5: the law TopBoth: by its contracts.
-/
import Derived.Test.YtcjedgiglimipaaDoorZLawBes
namespace Go.Proofs.YtcjedgiglimipaaDoor
set_option linter.unusedSimpArgs false
set_option linter.unusedVariables false
set_option linter.unusedSectionVars false
open Go.RowKit

theorem nodup_sub_len {α : Type} [DecidableEq α] : ∀ {l k : List α}, l.Nodup → (∀ x ∈ l, x ∈ k) → l.length ≤ k.length
  | [], _, _, _ => Nat.zero_le _
  | x :: l, k, hn, hs => by
    have hx := hs x (by simp)
    rw [List.nodup_cons] at hn
    have h1 := nodup_sub_len (l := l) (k := k.erase x) hn.2 (fun y hy => (List.mem_erase_of_ne (by rintro rfl; exact hn.1 hy)).2 (hs y (by simp [hy])))
    rw [List.length_erase_of_mem hx] at h1
    have := List.length_pos_of_mem hx
    rw [List.length_cons]; omega
theorem prodA_len (xs ys : List Arr) : (xs.flatMap fun s => ys.map fun t => (s, t)).length = xs.length * ys.length := by
  induction xs with
  | nil => simp
  | cons x l ih => rw [List.flatMap_cons, List.length_append, ih, List.length_map, List.length_cons, Nat.succ_mul]; omega
/-- The two arrows of a step of both. -/
def arr2 (ps : List Pr) (t : Tr) : Arr × Arr := (⟨(ps.getD t.1 default).1, t.2.1, t.2.2.1⟩, ⟨(ps.getD t.1 default).2, t.2.1, t.2.2.2⟩)
section
variable {a b : Mach} {n : Nat} (hn : n = a.events.toNat) (ha : a.May) (hb : b.May) (h6 : a.states ≤ 6 ∧ b.states ≤ 6)
include ha hb h6 in
theorem both_few {l : List Pr} (hd : l.Nodup) (hr : ∀ p ∈ l, InPr a b p) : l.length ≤ 36 := by
  have := pairs_len ha hb hd hr
  exact Nat.le_trans this (Nat.le_trans (Nat.mul_le_mul (show a.states.toNat ≤ 6 by omega) (show b.states.toNat ≤ 6 by omega)) (by decide))
theorem to_step {m : Mach} {s e q : Int} (h : q ∈ bsTo m s e true) : (⟨s, e, q⟩ : Arr) ∈ m.arrows := by
  obtain ⟨x, hx, h1, h2, h3⟩ := mem_stepL.1 (show q ∈ stepL m [s] e from h)
  cases x
  simp only [List.mem_singleton] at *
  subst h1 h2 h3
  exact hx
include hn in
theorem both_arrows {k : Nat} {T : List Tr} {st : FSt} (h : FK a b (evs n) (evs n) k T st) (hk : k ≤ st.ps.length) : T.length ≤ a.arrows.length * b.arrows.length := by
  subst hn
  have hT : (T.map (arr2 st.ps)).length = T.length := List.length_map ..
  rw [← prodA_len, ← hT]
  have key : ∀ t ∈ T, ∃ p, st.ps[t.1]? = some p ∧ st.ps.getD t.1 default = p ∧ t.2.2 ∈ bsLds a b (evs a.events.toNat) (evs a.events.toNat) p t.2.1 ∧ t.2.1 ∈ evs a.events.toNat := by
    rintro ⟨i, e, q⟩ ht
    obtain ⟨h1, h2, p, h3, h4⟩ := (h.is i e q).1 ht
    exact ⟨p, h3, by simp only [List.getD_eq_getElem?_getD, h3, Option.getD_some], h4, h2⟩
  refine nodup_sub_len ?_ ?_
  · refine List.Pairwise.map _ (fun a b hab => hab) (List.Pairwise.imp_of_mem (fun {x y} hx hy hxy e => ?_) h.nodup)
    obtain ⟨p, p1, p2, _, _⟩ := key x hx
    obtain ⟨q, q1, q2, _, _⟩ := key y hy
    unfold arr2 at e
    rw [p2, q2] at e
    simp only [Prod.mk.injEq, Arr.mk.injEq] at e
    obtain ⟨⟨e1, e2, e3⟩, e4, _, e6⟩ := e
    have hpq : p = q := Prod.ext e1 e4
    subst hpq
    have l1 := (List.getElem?_eq_some_iff.1 p1).1
    have h1 : x.1 = y.1 := (List.getElem?_inj l1 h.fi.nodup).1 (p1.trans q1.symm)
    exact hxy (Prod.ext h1 (Prod.ext e2 (Prod.ext e3 e6)))
  · intro x hx
    obtain ⟨t, ht, rfl⟩ := List.mem_map.1 hx
    obtain ⟨p, p1, p2, p3, p4⟩ := key t ht
    unfold bsLds at p3
    rw [if_pos (.inl p4), decide_eq_true p4] at p3
    obtain ⟨s, hs, y, hy, hq⟩ : ∃ s ∈ bsTo a p.1 t.2.1 true, ∃ y ∈ bsTo b p.2 t.2.1 true, (s, y) = t.2.2 := by simpa only [List.mem_flatMap, List.mem_map] using p3
    rw [List.mem_flatMap]
    refine ⟨_, to_step hs, List.mem_map.2 ⟨_, to_step hy, ?_⟩⟩
    unfold arr2
    rw [p2, ← hq]
include hn ha hb h6 in
theorem run_none : ∀ (m k : Nat) {T : List Tr} {st : FSt}, m + k = 300 → FK a b (evs n) (evs n) k T st → bsRun a b (evs n) (evs n) m k st = none → 4096 < a.arrows.length * b.arrows.length
  | 0, k, T, st, hm, hF, _ => by
    have := both_few ha hb h6 hF.fi.nodup hF.rng
    have := hF.le
    omega
  | m + 1, k, T, st, hm, hF, h => by
    unfold bsRun at h
    split at h
    · rename_i hk
      have hF' := hF.next ha hb hk
      split at h
      · exact run_none m (k + 1) (by omega) hF' h
      · rename_i ho
        have h1 := both_few ha hb h6 hF'.fi.nodup hF'.rng
        have h2 := both_arrows hn hF' hF'.le
        have h3 : (bsK a b (evs n) (evs n) k st).ar.length = (T ++ bsT a b (evs n) (evs n) k (st.ps.getD k default) (evs a.events.toNat)).length := by rw [hF'.fi.ar, List.length_map]
        unfold FSt.Ok at ho
        omega
    · cases h
include hn ha hb h6 in
theorem all_none (h : bsAll a b (evs n) (evs n) = none) : 4096 < a.arrows.length * b.arrows.length := run_none hn ha hb h6 300 0 rfl (FK.start ha hb) h
end
theorem within_ok {m n : Mach} {b : Bool} {o : List Int} (h : WithinSpec m n b o 0) : (m.May ∧ n.May) ∧ m.events = n.events ∧ m.states ≤ 6 ∧ n.states ≤ 6 := by
  by_cases c1 : m.May ∧ n.May
  case neg => exact absurd (h.1 c1).2.2 (by decide)
  by_cases c2 : m.events = n.events
  case neg => exact absurd (h.2.1 ⟨c1, c2⟩).2.2 (by decide)
  by_cases c3 : m.states ≤ 6 ∧ n.states ≤ 6
  case neg => exact absurd (h.2.2.1 ⟨c1, c2, c3⟩).2.2 (by decide)
  exact ⟨c1, c2, c3⟩
theorem within_iff {m n : Mach} (c1 : m.May ∧ n.May) (c2 : m.events = n.events) (c3 : m.states ≤ 6 ∧ n.states ≤ 6) {b : Bool} {o : List Int} {e : Int} (h : WithinSpec m n b o e) :
    e = 0 ∧ b = decide (b = true) ∧ (b = true ↔ ∀ u, IsWord m u → AcceptsL m u → AcceptsL n u) := by
  obtain ⟨rfl, hf⟩ := h.2.2.2 ⟨c1, c2, c3⟩
  refine ⟨rfl, by simp, ?_⟩
  cases b
  · obtain ⟨_, h1, h2, h3, _⟩ := says_some c1.1 c1.2 c3.1 c3.2 hf
    exact ⟨fun hh => Bool.noConfusion hh, fun hh => absurd (hh o h1 h2) h3⟩
  · exact ⟨fun _ => (says_none c1.1 hf).2, fun _ => rfl⟩
theorem only_evs {m : Mach} (he : 0 ≤ m.events) {u : List Int} (hu : IsWord m u) : onlyL u (evs m.events.toNat) true = u := by
  unfold onlyL
  rw [List.filter_eq_self]
  intro x hx
  simpa using (isWord_evs he).1 hu x hx
theorem top_all {w : World} (n : Int) (h0 : 0 ≤ n) (h1 : n ≤ 8) :
    Cal Tryd.prog 44 [.int .i64 n] w fun v w' => ∃ O co, v = .slice O (evs n.toNat).length co ∧ OwnI w.heap.size 3 w' O co (evs n.toNat) ∧ Below w.heap.size w w' := by
  have hsn : ∀ k : Nat, evs (k + 1) = evs k ++ [(k : Int)] := fun k => by unfold evs; rw [List.range_succ, List.map_append]; rfl
  refine cal_top_all (by simp) 100000 fun Q hQ => ?_
  simp (disch := first | with_reducible assumption | omega) only [push_cast, x_blk, x_cd, ↓reduceIte, Nat.reduceEqDiff, List.map_cons, List.map_nil, Int.reduceEq, Int.lt_irrefl, F_top_all]
  refine loop_rule (fun f w' => ∃ (k : Nat) (O : Option Addr) (co : Nat), (k : Int) ≤ n ∧ (f 0 = .int .i64 n ∧ f 3 = .slice O (evs k).length co ∧ f 4 = .int .i64 k) ∧ OwnI w.heap.size 3 w' O co (evs k) ∧ Below w.heap.size w w')
    (fun f _ => n.toNat - (intOf (f 4)).toNat) ⟨0, none, 0, by simpa using h0, ⟨rfl, rfl, rfl⟩, Own.nil _ _ _ _, Below.refl _ _⟩ ?_
  rintro f w2 ⟨k, O, co, hk, fr, ho, b2⟩ J hJ
  by_cases hlt : (k : Int) < n
  case neg =>
    obtain rfl : k = n.toNat := by omega
    simp (disch := first | with_reducible assumption | omega) only [push_cast, x_blk, x_cd, ↓reduceIte, Nat.reduceEqDiff, List.map_cons, List.map_nil, Int.reduceEq, Int.lt_irrefl, L_top_all_0, fr, hlt]
    exact fin_1 (hQ _ _ ⟨O, co, (by simp only [push_cast, ↓reduceIte, Nat.reduceEqDiff, Int.reduceEq, fr]), ho, b2⟩)
  have hl := evs_len k
  simp (disch := first | with_reducible assumption | omega) only [push_cast, x_blk, x_cd, ↓reduceIte, Nat.reduceEqDiff, List.map_cons, List.map_nil, Int.reduceEq, Int.lt_irrefl, L_top_all_0, fr, hlt, bs_22]
  refine app_int slT_22 ho _ (by omega) b2.size ?_
  intro A' c' w3 ho3 hg3 hA3 hs3 hz3
  simp (disch := first | with_reducible assumption | omega) only [push_cast, x_blk, x_cd, ↓reduceIte, Nat.reduceEqDiff, List.map_cons, List.map_nil, Int.reduceEq, Int.lt_irrefl, fr]
  exact hJ _ _ ⟨k + 1, A', c', by omega, (by simp only [push_cast, ↓reduceIte, Nat.reduceEqDiff, true_and, and_true, and_self, eq_self, fr, hsn, List.length_append, List.length_cons, List.length_nil]), by rw [hsn]; exact ho3, hg3.below b2 b2.size ho.geB⟩ (by simp only [push_cast, ↓reduceIte, Nat.reduceEqDiff, intOf, fr]; omega)

theorem law_TopBoth {w : World} (hT : Tab w) {a0 : MV} {m0 : Mach} (h : IsM (· < w.heap.size) w a0 m0) (hf : m0.Fits) {a1 : MV} {m1 : Mach} (h' : IsM (· < w.heap.size) w a1 m1) (hf' : m1.Fits)
    {a2 : MV} {m2 : Mach} (h'' : IsM (· < w.heap.size) w a2 m2) (hf'' : m2.Fits) :
    Cal Tryd.prog 14 [a0.val m0, a1.val m1, a2.val m2] w fun v w' => v = .bool true ∧ Below w.heap.size w w' := by
  refine cal_top_TopBoth (by simp) 100000 fun Q hQ => ?_
  simp (disch := first | with_reducible assumption | omega) only [push_cast, x_blk, x_cd, ↓reduceIte, Nat.reduceEqDiff, List.map_cons, List.map_nil, Int.reduceEq, Int.lt_irrefl, F_top_TopBoth]
  refine blk_of (box_agg _ (a0.cells m0)) ?_
  intro w1 k1 b1 z1
  simp (disch := first | with_reducible assumption | omega) only [push_cast, x_blk, x_cd, ↓reduceIte, Nat.reduceEqDiff, List.map_cons, List.map_nil, Int.reduceEq, Int.lt_irrefl]
  refine blk_of (box_agg _ (a1.cells m1)) ?_
  intro w2 k2 b2 z2
  replace k1 := k1.below b2 k1.lt
  have bb := b1.trans (b2.mono b1.size)
  simp (disch := first | with_reducible assumption | omega) only [push_cast, x_blk, x_cd, ↓reduceIte, Nat.reduceEqDiff, List.map_cons, List.map_nil, Int.reduceEq, Int.lt_irrefl]
  refine blk_of (box_agg _ (a2.cells m2)) ?_
  intro w3 k3 b3 z3
  replace k1 := k1.below b3 k1.lt
  replace k2 := k2.below b3 k2.lt
  replace bb := bb.trans (b3.mono bb.size)
  simp (disch := first | with_reducible assumption | omega) only [push_cast, x_blk, x_cd, ↓reduceIte, Nat.reduceEqDiff, List.map_cons, List.map_nil, Int.reduceEq, Int.lt_irrefl, k1.mA ty_ag_25 ty_sz_25]
  refine call_of (ref2_May (h.up bb) hf) ?_
  rintro v w4 ⟨rfl, b4⟩
  replace k1 := k1.below b4 k1.lt
  replace k2 := k2.below b4 k2.lt
  replace k3 := k3.below b4 k3.lt
  replace bb := bb.trans (Below.mono b4 bb.size)
  by_cases pa : m0.May
  case neg =>
    simp (disch := first | with_reducible assumption | omega) only [push_cast, x_blk, x_cd, ↓reduceIte, Nat.reduceEqDiff, List.map_cons, List.map_nil, Int.reduceEq, Int.lt_irrefl, decide_eq_false pa]
    exact fin_1 (hQ _ _ ⟨(by simp only [push_cast, ↓reduceIte, Nat.reduceEqDiff, Int.reduceEq]), bb⟩)
  simp (disch := first | with_reducible assumption | omega) only [push_cast, x_blk, x_cd, ↓reduceIte, Nat.reduceEqDiff, List.map_cons, List.map_nil, Int.reduceEq, Int.lt_irrefl, decide_eq_true pa, k2.mA ty_ag_25 ty_sz_25]
  refine call_of (ref2_May (h'.up bb) hf') ?_
  rintro v w5 ⟨rfl, b5⟩
  replace k1 := k1.below b5 k1.lt
  replace k2 := k2.below b5 k2.lt
  replace k3 := k3.below b5 k3.lt
  replace bb := bb.trans (Below.mono b5 bb.size)
  by_cases pb : m1.May
  case neg =>
    simp (disch := first | with_reducible assumption | omega) only [push_cast, x_blk, x_cd, ↓reduceIte, Nat.reduceEqDiff, List.map_cons, List.map_nil, Int.reduceEq, Int.lt_irrefl, decide_eq_false pb]
    exact fin_1 (hQ _ _ ⟨(by simp only [push_cast, ↓reduceIte, Nat.reduceEqDiff, Int.reduceEq]), bb⟩)
  by_cases pe : m0.events = m1.events
  case neg =>
    simp (disch := first | with_reducible assumption | omega) only [push_cast, x_blk, x_cd, ↓reduceIte, Nat.reduceEqDiff, List.map_cons, List.map_nil, Int.reduceEq, Int.lt_irrefl, decide_eq_true pb, k1.m1 ty_ag_3, k2.m1 ty_ag_3, pe]
    exact fin_1 (hQ _ _ ⟨(by simp only [push_cast, ↓reduceIte, Nat.reduceEqDiff, Int.reduceEq]), bb⟩)
  by_cases p6 : 6 < m0.states
  case pos =>
    simp (disch := first | with_reducible assumption | omega) only [push_cast, x_blk, x_cd, ↓reduceIte, Nat.reduceEqDiff, List.map_cons, List.map_nil, Int.reduceEq, Int.lt_irrefl, decide_eq_true pb, k1.m1 ty_ag_3, k2.m1 ty_ag_3, pe, k1.m0 ty_ag_3, p6]
    exact fin_1 (hQ _ _ ⟨(by simp only [push_cast, ↓reduceIte, Nat.reduceEqDiff, Int.reduceEq]), bb⟩)
  by_cases q6 : 6 < m1.states
  case pos =>
    simp (disch := first | with_reducible assumption | omega) only [push_cast, x_blk, x_cd, ↓reduceIte, Nat.reduceEqDiff, List.map_cons, List.map_nil, Int.reduceEq, Int.lt_irrefl, decide_eq_true pb, k1.m1 ty_ag_3, k2.m1 ty_ag_3, pe, k1.m0 ty_ag_3, p6, k2.m0 ty_ag_3, q6]
    exact fin_1 (hQ _ _ ⟨(by simp only [push_cast, ↓reduceIte, Nat.reduceEqDiff, Int.reduceEq]), bb⟩)
  have e0 := pa.2.2.1
  have e8 := pa.2.2.2.1
  simp (disch := first | with_reducible assumption | omega) only [push_cast, x_blk, x_cd, ↓reduceIte, Nat.reduceEqDiff, List.map_cons, List.map_nil, Int.reduceEq, Int.lt_irrefl, decide_eq_true pb, k1.m1 ty_ag_3, k2.m1 ty_ag_3, eq_self, pe, k1.m0 ty_ag_3, p6, k2.m0 ty_ag_3, q6]
  rw [← pe]
  refine call_of (top_all m0.events e0 e8) ?_
  rintro v w6 ⟨O, co, rfl, o6, b6⟩
  replace k1 := k1.below b6 k1.lt
  replace k2 := k2.below b6 k2.lt
  replace k3 := k3.below b6 k3.lt
  replace bb := bb.trans (Below.mono b6 bb.size)
  have i6 := (OwnI.ints o6).lt
  have lE : (evs m0.events.toNat).length ≤ 17592186043904 := by rw [evs_len]; omega
  simp (disch := first | with_reducible assumption | omega) only [push_cast, x_blk, x_cd, ↓reduceIte, Nat.reduceEqDiff, List.map_cons, List.map_nil, Int.reduceEq, Int.lt_irrefl, k1.mA ty_ag_25 ty_sz_25, k2.mA ty_ag_25 ty_sz_25]
  refine call_of (bes_Beside (h.up bb) hf (h'.up bb) hf' (hT.below bb hT.lt) i6 lE i6 lE) ?_
  rintro v w7 ⟨d, dm, R, cr, hs, e, rfl, hd, hR, hr, b7, sp⟩
  replace k1 := k1.below b7 k1.lt
  replace k2 := k2.below b7 k2.lt
  replace k3 := k3.below b7 k3.lt
  replace bb := bb.trans (Below.mono b7 bb.size)
  simp (disch := first | with_reducible assumption | omega) only [push_cast, x_blk, x_cd, ↓reduceIte, Nat.reduceEqDiff, List.map_cons, List.map_nil, Int.reduceEq, Int.lt_irrefl]
  refine blk_of (cs := mv0.cells mach0) al_25 ?_
  intro w8 k8 b8 z8
  simp (disch := first | with_reducible assumption | omega) only [push_cast, x_blk, x_cd, ↓reduceIte, Nat.reduceEqDiff, List.map_cons, List.map_nil, Int.reduceEq, Int.lt_irrefl]
  refine sto_mach k8 rfl d dm ?_
  intro w9 k9 g9 z9
  have b9 := g9.below b8 b8.size (by intro a ha; injection ha with ha; subst ha; exact Nat.le_refl _)
  replace hd := hd.up b9
  replace k1 := k1.below b9 k1.lt
  replace k2 := k2.below b9 k2.lt
  replace k3 := k3.below b9 k3.lt
  replace bb := bb.trans (Below.mono b9 bb.size)
  have hrow : IsRow (evs m0.events.toNat) m0.events := by
    have := IsRow_evs (n := m0.events.toNat) (b := m0.events.toNat) (Nat.le_refl _) (by omega)
    rwa [show ((m0.events.toNat : Nat) : Int) = m0.events by omega] at this
  have h66 : m0.states ≤ 6 ∧ m1.states ≤ 6 := by omega
  rcases sp with ⟨q, _⟩ | ⟨_, q, _⟩ | ⟨_, _, q, _⟩ | ⟨_, _, _, hst, rfl, _, rfl⟩ | ⟨_, _, pr, st, hst, rfl, _, rfl⟩
  · exact absurd ⟨pa, pb⟩ q
  · exact absurd pe q
  · exact absurd ⟨hrow, hrow⟩ q
  · have hmany := all_none rfl pa pb h66 hst
    have ha4 := pa.2.2.2.2.1
    have hb4 := pb.2.2.2.2.1
    have hmax : m0.arrows.length * m1.arrows.length ≤ 4096 * 4096 := Nat.mul_le_mul (by omega) (by omega)
    obtain ⟨q, hq⟩ : ∃ q, q = m0.arrows.length * m1.arrows.length := ⟨_, rfl⟩
    have hq' : (m0.arrows.length : Int) * (m1.arrows.length : Int) = (q : Int) := by rw [hq]; exact (Int.natCast_mul _ _).symm
    rw [← hq] at hmany hmax
    have r0 : (-9223372036854775808 : Int) ≤ (q : Int) := by omega
    have r1 : (q : Int) ≤ 9223372036854775807 := by omega
    have r2 : (4096 : Int) < (q : Int) := by omega
    clear hmany hmax ha4 hb4
    simp (disch := first | with_reducible assumption | omega) only [push_cast, x_blk, x_cd, ↓reduceIte, Nat.reduceEqDiff, List.map_cons, List.map_nil, Int.reduceEq, Int.lt_irrefl, Int.reduceEq, eq_self, k1.m3 ty_ag_23, k2.m3 ty_ag_23, hq', r0, r1, r2]
    exact fin_1 (hQ _ _ ⟨(by simp only [push_cast, ↓reduceIte, Nat.reduceEqDiff, Int.reduceEq]), bb⟩)
  have hF := bsAll_some pa pb hst
  have pm := hF.may pa
  have hacc := fun u hw => hF.accepts (w := u) hw
  have hev : (bsM m0 m1 st).events = m0.events := rfl
  clear hst hF
  generalize bsM m0 m1 st = dm at *
  replace hacc : ∀ u, IsWord m0 u → (AcceptsL dm u ↔ AcceptsL m0 u ∧ AcceptsL m1 u) := fun u hu => by
    have h1 := hacc u (fun x hx => by
      obtain ⟨j, hj, rfl⟩ := (mem_iff_getD u 0 x).1 hx
      exact hu j hj)
    rw [only_evs e0 hu] at h1
    rw [h1]
    exact ⟨fun h => h.2, fun h => ⟨fun x hx => .inl ((isWord_evs e0).1 hu x hx), h⟩⟩
  have wd : ∀ {u : List Int} {m n : Mach}, m.events = n.events → IsWord m u → IsWord n u := fun he hu j hj => by rw [← he]; exact hu j hj
  by_cases d6 : 6 < dm.states
  · simp (disch := first | with_reducible assumption | omega) only [push_cast, x_blk, x_cd, ↓reduceIte, Nat.reduceEqDiff, List.map_cons, List.map_nil, Int.reduceEq, Int.lt_irrefl, Int.reduceEq, eq_self, k9.m0 ty_ag_3, d6]
    exact fin_1 (hQ _ _ ⟨(by simp only [push_cast, ↓reduceIte, Nat.reduceEqDiff, Int.reduceEq]), bb⟩)
  simp (disch := first | with_reducible assumption | omega) only [push_cast, x_blk, x_cd, ↓reduceIte, Nat.reduceEqDiff, List.map_cons, List.map_nil, Int.reduceEq, Int.lt_irrefl, Int.reduceEq, eq_self, k9.m0 ty_ag_3, d6, k9.mA ty_ag_25 ty_sz_25, k1.mA ty_ag_25 ty_sz_25]
  refine call_of (within_Within hd (h.up bb) (May.fits pm) hf) ?_
  rintro v w10 ⟨x1, O1, co1, o1, e1, rfl, _, b10, s1, _⟩
  obtain ⟨rfl, _, t1⟩ := within_iff ⟨pm, pa⟩ hev ⟨by omega, by omega⟩ s1
  replace hd := hd.up b10
  replace k9 := k9.below b10 k9.lt
  replace k1 := k1.below b10 k1.lt
  replace k2 := k2.below b10 k2.lt
  replace k3 := k3.below b10 k3.lt
  replace bb := bb.trans (Below.mono b10 bb.size)
  have y1 := t1.2 fun u hu hA => ((hacc u (wd hev hu)).1 hA).1
  simp (disch := first | with_reducible assumption | omega) only [push_cast, x_blk, x_cd, ↓reduceIte, Nat.reduceEqDiff, List.map_cons, List.map_nil, Int.reduceEq, Int.lt_irrefl, k9.mA ty_ag_25 ty_sz_25, k2.mA ty_ag_25 ty_sz_25]
  refine call_of (within_Within hd (h'.up bb) (May.fits pm) hf') ?_
  rintro v w11 ⟨x2, O2, co2, o2, e2, rfl, _, b11, s2, _⟩
  obtain ⟨rfl, _, t2⟩ := within_iff ⟨pm, pb⟩ (hev.trans pe) ⟨by omega, by omega⟩ s2
  replace hd := hd.up b11
  replace k9 := k9.below b11 k9.lt
  replace k1 := k1.below b11 k1.lt
  replace k2 := k2.below b11 k2.lt
  replace k3 := k3.below b11 k3.lt
  replace bb := bb.trans (Below.mono b11 bb.size)
  have y2 := t2.2 fun u hu hA => ((hacc u (wd hev hu)).1 hA).2
  subst y1 y2
  simp (disch := first | with_reducible assumption | omega) only [push_cast, x_blk, x_cd, ↓reduceIte, Nat.reduceEqDiff, List.map_cons, List.map_nil, Int.reduceEq, Int.lt_irrefl, eq_self, Int.reduceEq, k3.mA ty_ag_25 ty_sz_25, k1.mA ty_ag_25 ty_sz_25]
  refine call_of (within_Within (h''.up bb) (h.up bb) hf'' hf) ?_
  rintro v w12 ⟨x3, O3, co3, o3, e3, rfl, _, b12, s3, _⟩
  replace hd := hd.up b12
  replace k9 := k9.below b12 k9.lt
  replace k1 := k1.below b12 k1.lt
  replace k2 := k2.below b12 k2.lt
  replace k3 := k3.below b12 k3.lt
  replace bb := bb.trans (Below.mono b12 bb.size)
  simp (disch := first | with_reducible assumption | omega) only [push_cast, x_blk, x_cd, ↓reduceIte, Nat.reduceEqDiff, List.map_cons, List.map_nil, Int.reduceEq, Int.lt_irrefl, k3.mA ty_ag_25 ty_sz_25, k2.mA ty_ag_25 ty_sz_25]
  refine call_of (within_Within (h''.up bb) (h'.up bb) hf'' hf') ?_
  rintro v w13 ⟨x4, O4, co4, o4, e4, rfl, _, b13, s4, _⟩
  replace hd := hd.up b13
  replace k9 := k9.below b13 k9.lt
  replace k1 := k1.below b13 k1.lt
  replace k2 := k2.below b13 k2.lt
  replace k3 := k3.below b13 k3.lt
  replace bb := bb.trans (Below.mono b13 bb.size)
  simp (disch := first | with_reducible assumption | omega) only [push_cast, x_blk, x_cd, ↓reduceIte, Nat.reduceEqDiff, List.map_cons, List.map_nil, Int.reduceEq, Int.lt_irrefl, k3.mA ty_ag_25 ty_sz_25, k9.mA ty_ag_25 ty_sz_25]
  refine call_of (within_Within (h''.up bb) hd hf'' (May.fits pm)) ?_
  rintro v w14 ⟨x5, O5, co5, o5, e5, rfl, _, b14, s5, _⟩
  replace k1 := k1.below b14 k1.lt
  replace k2 := k2.below b14 k2.lt
  replace k3 := k3.below b14 k3.lt
  replace bb := bb.trans (Below.mono b14 bb.size)
  by_cases z3 : e3 = 0
  case neg =>
    simp (disch := first | with_reducible assumption | omega) only [push_cast, x_blk, x_cd, ↓reduceIte, Nat.reduceEqDiff, List.map_cons, List.map_nil, Int.reduceEq, Int.lt_irrefl, z3]
    exact fin_1 (hQ _ _ ⟨(by simp only [push_cast, ↓reduceIte, Nat.reduceEqDiff, Int.reduceEq]), bb⟩)
  by_cases z4 : e4 = 0
  case neg =>
    simp (disch := first | with_reducible assumption | omega) only [push_cast, x_blk, x_cd, ↓reduceIte, Nat.reduceEqDiff, List.map_cons, List.map_nil, Int.reduceEq, Int.lt_irrefl, z3, eq_self, z4]
    exact fin_1 (hQ _ _ ⟨(by simp only [push_cast, ↓reduceIte, Nat.reduceEqDiff, Int.reduceEq]), bb⟩)
  subst z3 z4
  obtain ⟨c1, c2, c3⟩ := within_ok s3
  obtain ⟨_, _, t3⟩ := within_iff c1 c2 c3 s3
  obtain ⟨_, _, t4⟩ := within_iff ⟨c1.1, pb⟩ (c2.trans pe) ⟨c3.1, h66.2⟩ s4
  obtain ⟨rfl, _, t5⟩ := within_iff ⟨c1.1, pm⟩ (c2.trans hev.symm) ⟨c3.1, by omega⟩ s5
  have hx : x5 = (x3 && x4) := by
    rw [Bool.eq_iff_iff, Bool.and_eq_true, t3, t4, t5]
    constructor
    · exact fun hh => ⟨fun u hu hA => ((hacc u (wd c2 hu)).1 (hh u hu hA)).1, fun u hu hA => ((hacc u (wd c2 hu)).1 (hh u hu hA)).2⟩
    · exact fun hh u hu hA => (hacc u (wd c2 hu)).2 ⟨hh.1 u hu hA, hh.2 u hu hA⟩
  subst hx
  clear t3 t4 t5 s3 s4 s5
  cases x3
  · simp (disch := first | with_reducible assumption | omega) only [push_cast, x_blk, x_cd, ↓reduceIte, Nat.reduceEqDiff, List.map_cons, List.map_nil, Int.reduceEq, Int.lt_irrefl, eq_self]
    exact fin_1 (hQ _ _ ⟨by rfl, bb⟩)
  · cases x4
    · simp (disch := first | with_reducible assumption | omega) only [push_cast, x_blk, x_cd, ↓reduceIte, Nat.reduceEqDiff, List.map_cons, List.map_nil, Int.reduceEq, Int.lt_irrefl, eq_self]
      exact fin_1 (hQ _ _ ⟨by rfl, bb⟩)
    · simp (disch := first | with_reducible assumption | omega) only [push_cast, x_blk, x_cd, ↓reduceIte, Nat.reduceEqDiff, List.map_cons, List.map_nil, Int.reduceEq, Int.lt_irrefl, eq_self]
      exact fin_1 (hQ _ _ ⟨by rfl, bb⟩)
end Go.Proofs.YtcjedgiglimipaaDoor
