/-
  Chapter 4, in plain Lean: the machine of both: it may be; it accepts what both accept; how many arrows it has. No program in sight.
-/
import Derived.Test.YtcjedgiglimipaaDoorZBesP
namespace Go.Proofs.YtcjedgiglimipaaDoor
set_option linter.unusedSimpArgs false
set_option linter.unusedVariables false
set_option linter.unusedSectionVars false
open Go.RowKit

theorem Arr.lt_irrefl (x : Arr) : ¬ x.lt x := by unfold Arr.lt; omega
theorem Arr.lt_tri {x y : Arr} (h : ¬ x.lt y) (hn : x ≠ y) : y.lt x := by
  obtain ⟨a, b, c⟩ := x
  obtain ⟨d, e, f⟩ := y
  unfold Arr.lt at *
  simp only at *
  by_cases h1 : a = d
  · by_cases h2 : b = e
    · by_cases h3 : c = f
      · subst h1 h2 h3; exact absurd rfl hn
      · omega
    · omega
  · omega
theorem insA_cons (x y : Arr) (o : List Arr) : insA x (y :: o) = if y.lt x then y :: insA x o else if y = x then y :: o else x :: y :: o := by
  by_cases h : y.lt x
  · have ha : atA x (y :: o) = atA x o + 1 := by show (if y.lt x then atA x o + 1 else 0) = _; rw [if_pos h]
    unfold insA
    rw [if_pos h, ha]
    simp only [List.length_cons, Nat.add_lt_add_iff_right, List.getD_cons_succ, List.take_succ_cons, List.drop_succ_cons]
    split
    · rfl
    · rfl
  · have ha : atA x (y :: o) = 0 := by show (if y.lt x then atA x o + 1 else 0) = _; rw [if_neg h]
    unfold insA
    rw [if_neg h, ha]
    simp only [List.length_cons, List.getD_cons_zero, Nat.zero_lt_succ, true_and, List.take_zero, List.nil_append, List.drop_zero]
theorem insA_spec (x : Arr) : ∀ {o : List Arr}, OrdA o → OrdA (insA x o) ∧ ∀ z, z ∈ insA x o ↔ z = x ∨ z ∈ o
  | [], _ => ⟨by simp [insA, atA, OrdA], fun z => by simp [insA, atA]⟩
  | y :: o, h => by
    have h' := List.pairwise_cons.1 (show (y :: o).Pairwise Arr.lt from h)
    have ih := insA_spec x (show OrdA o from h'.2)
    rw [insA_cons]
    split
    · rename_i hyx
      refine ⟨List.pairwise_cons.2 ⟨fun z hz => ?_, ih.1⟩, fun z => ?_⟩
      · rcases (ih.2 z).1 hz with rfl | hz
        · exact hyx
        · exact h'.1 z hz
      · rw [List.mem_cons, ih.2, List.mem_cons]
        exact ⟨fun h => by rcases h with h | h | h <;> simp [h], fun h => by rcases h with h | h | h <;> simp [h]⟩
    · rename_i hyx
      split
      · rename_i e
        subst e
        exact ⟨h, fun z => by simp⟩
      · rename_i hne
        have hxy := Arr.lt_tri hyx hne
        refine ⟨List.pairwise_cons.2 ⟨fun z hz => ?_, h⟩, fun z => by simp⟩
        rcases List.mem_cons.1 hz with rfl | hz
        · exact hxy
        · exact Arr.lt_trans hxy (h'.1 z hz)
theorem sortA_spec (l : List Arr) : OrdA (sortA l) ∧ ∀ z, z ∈ sortA l ↔ z ∈ l := by
  have key : ∀ (l o : List Arr), OrdA o → OrdA (l.foldl (fun o x => insA x o) o) ∧ ∀ z, z ∈ l.foldl (fun o x => insA x o) o ↔ z ∈ o ∨ z ∈ l := by
    intro l
    induction l with
    | nil => intro o h; exact ⟨h, fun z => by simp⟩
    | cons x l ih =>
      intro o h
      have h1 := insA_spec x h
      have h2 := ih (insA x o) h1.1
      refine ⟨h2.1, fun z => ?_⟩
      rw [List.foldl_cons, h2.2, h1.2, List.mem_cons]
      exact ⟨fun h => by rcases h with (h | h) | h <;> simp [h], fun h => by rcases h with h | h | h <;> simp [h]⟩
  have := key l [] (by simp [OrdA])
  exact ⟨this.1, fun z => by rw [show sortA l = l.foldl (fun o x => insA x o) [] from rfl, this.2]; simp⟩
theorem sortA_len' (l : List Arr) : (sortA l).length ≤ l.length := by
  have := sortA_len l l.length
  rwa [List.take_length] at this
theorem OrdA.ext : ∀ {l m : List Arr}, OrdA l → OrdA m → (∀ x, x ∈ l ↔ x ∈ m) → l = m
  | [], [], _, _, _ => rfl
  | [], y :: m, _, _, h => absurd ((h y).2 (List.mem_cons_self ..)) (by simp)
  | x :: l, [], _, _, h => absurd ((h x).1 (List.mem_cons_self ..)) (by simp)
  | x :: l, y :: m, hl, hm, h => by
    have hl' := List.pairwise_cons.1 (show (x :: l).Pairwise Arr.lt from hl)
    have hm' := List.pairwise_cons.1 (show (y :: m).Pairwise Arr.lt from hm)
    have hxy : x = y := by
      rcases List.mem_cons.1 ((h x).1 (List.mem_cons_self ..)) with e | hx
      · exact e
      · rcases List.mem_cons.1 ((h y).2 (List.mem_cons_self ..)) with e | hy
        · exact e.symm
        · exact absurd (Arr.lt_trans (hm'.1 x hx) (hl'.1 y hy)) (Arr.lt_irrefl _)
    subst hxy
    rw [OrdA.ext (l := l) (m := m) hl'.2 hm'.2 fun z => by
      have := h z
      simp only [List.mem_cons] at this
      constructor
      · intro hz
        rcases this.1 (.inr hz) with e | hz'
        · subst e; exact absurd (hl'.1 z hz) (Arr.lt_irrefl _)
        · exact hz'
      · intro hz
        rcases this.2 (.inr hz) with e | hz'
        · subst e; exact absurd (hm'.1 z hz) (Arr.lt_irrefl _)
        · exact hz']
theorem OrdA.nodup {l : List Arr} (h : OrdA l) : l.Nodup := List.Pairwise.imp (fun {a b} hab e => by subst e; exact Arr.lt_irrefl _ hab) h
section
variable {a b : Mach} {ofA ofB : List Int}
theorem bsRun_step (k : Nat) (hk : k < 300) (st : FSt) : bsRun a b ofA ofB (300 - k) k st = if k < st.ps.length then (if (bsK a b ofA ofB k st).Ok then bsRun a b ofA ofB (300 - (k + 1)) (k + 1) (bsK a b ofA ofB k st) else none) else some st := by
  rw [show 300 - k = (300 - (k + 1)) + 1 by omega]
  rfl
/-- What was found, in all. -/
structure FF (a b : Mach) (ofA ofB : List Int) (st : FSt) : Prop where
  fk : ∃ T, FK a b ofA ofB st.ps.length T st
  ok : st.Ok
theorem bsRun_some (ha : a.May) (hb : b.May) : ∀ (n k : Nat) {T : List Tr} {st st' : FSt}, FK a b ofA ofB k T st → (st.Ok ∨ k = 0 ∧ st.ar = []) → bsRun a b ofA ofB n k st = some st' → FF a b ofA ofB st'
  | 0, _, _, _, _, _, _, h => by simp [bsRun] at h
  | n + 1, k, T, st, st', hF, hok, h => by
    unfold bsRun at h
    split at h
    · rename_i hk
      split at h
      · rename_i ho
        exact bsRun_some ha hb n (k + 1) (hF.next ha hb hk) (.inl ho) h
      · cases h
    · rename_i hk
      injection h with h
      subst h
      have hl := hF.le
      have e : k = st.ps.length := by omega
      refine ⟨⟨T, e ▸ hF⟩, ?_⟩
      rcases hok with h | ⟨h, h2⟩
      · exact h
      · unfold FSt.Ok; rw [h2, ← e, h]; exact ⟨by omega, by simp⟩
theorem bsAll_some (ha : a.May) (hb : b.May) {st : FSt} (h : bsAll a b ofA ofB = some st) : FF a b ofA ofB st := bsRun_some ha hb 300 0 (FK.start ha hb) (.inr ⟨rfl, rfl⟩) h
theorem FF.arrow {st : FSt} {T : List Tr} (h : FK a b ofA ofB st.ps.length T st) (x : Arr) : x ∈ (bsM a b st).arrows ↔ ∃ (i : Nat) (p q : Pr), x.evt ∈ evs a.events.toNat ∧ st.ps[i]? = some p ∧ q ∈ bsLds a b ofA ofB p x.evt ∧ q ∈ st.ps ∧ x.frm = i ∧ x.to_ = (fnd q st.ps : Nat) := by
  show x ∈ sortA st.ar ↔ _
  rw [(sortA_spec _).2, h.fi.ar, List.mem_map]
  constructor
  · rintro ⟨⟨i, e, q⟩, ht, rfl⟩
    obtain ⟨h1, h2, p, h3, h4⟩ := (h.is i e q).1 ht
    exact ⟨i, p, q, h2, h3, h4, h.fi.mem _ ht, rfl, rfl⟩
  · rintro ⟨i, p, q, h2, h3, h4, h5, h6, h7⟩
    refine ⟨(i, x.evt, q), (h.is _ _ _).2 ⟨(List.getElem?_eq_some_iff.1 h3).1, h2, p, h3, h4⟩, ?_⟩
    cases x
    simp only [bsArr] at *
    rw [h6, h7]
theorem FF.closed {st : FSt} {T : List Tr} (h : FK a b ofA ofB st.ps.length T st) {p q : Pr} {e : Int} (hp : p ∈ st.ps) (he : e ∈ evs a.events.toNat) (hq : q ∈ bsLds a b ofA ofB p e) : q ∈ st.ps := by
  have h1 := fnd_at hp
  have := (h.is (fnd p st.ps) e q).2 ⟨fnd_lt hp, he, p, h1, hq⟩
  exact h.fi.mem _ this
theorem bsEnds_mem {ps : List Pr} {x : Int} : x ∈ bsEnds a b ps ↔ ∃ (i : Nat) (p : Pr), x = i ∧ ps[i]? = some p ∧ p.1 ∈ a.ends ∧ p.2 ∈ b.ends := by
  unfold bsEnds
  rw [List.mem_filter, evs_mem]
  constructor
  · rintro ⟨⟨h0, h1⟩, h2⟩
    have hl : x.toNat < ps.length := by omega
    have h3 : ps[x.toNat]? = some (ps.getD x.toNat default) := by rw [List.getD_eq_getElem?_getD, List.getElem?_eq_getElem hl]; rfl
    have h4 := of_decide_eq_true h2
    exact ⟨x.toNat, _, by omega, h3, h4.1, h4.2⟩
  · rintro ⟨i, p, rfl, h2, h3, h4⟩
    have hl := (List.getElem?_eq_some_iff.1 h2).1
    refine ⟨⟨by omega, by omega⟩, decide_eq_true ?_⟩
    have : ps.getD (Int.toNat (i : Int)) default = p := by simp [List.getD_eq_getElem?_getD, h2]
    rw [this]
    exact ⟨h3, h4⟩
theorem IsRow_evs {n b : Nat} (h : n ≤ b) (hb : b ≤ 65536) : IsRow (evs n) b := IsRow.of_strict (evs_strict n) fun x hx => by have := evs_mem.1 hx; omega
theorem bsEnds_row (ps : List Pr) {c : Nat} (h : ps.length ≤ c) (hb : c ≤ 65536) : IsRow (bsEnds a b ps) c := by
  have h1 := IsRow_evs h hb
  exact IsRow.of_strict (List.Pairwise.filter _ h1.strict) fun x hx => h1.mem (List.mem_filter.1 hx).1
theorem FF.may {st : FSt} (h : FF a b ofA ofB st) (ha : a.May) : (bsM a b st).May := by
  obtain ⟨⟨T, hF⟩, ho⟩ := h
  have hp := hF.fi.pre.length_le
  have hm1 : st.ps.length ≤ max st.ps.length 1 := Nat.le_max_left _ _
  have hm2 : max st.ps.length 1 ≤ 256 := by have := ho.1; omega
  have e0 := ha.2.2.1
  have e8 := ha.2.2.2.1
  refine ⟨?_, ?_, e0, e8, ?_, ?_, ?_, ?_⟩
  · show (1 : Int) ≤ ((max st.ps.length 1 : Nat) : Int); omega
  · show ((max st.ps.length 1 : Nat) : Int) ≤ 256; omega
  · exact Nat.le_trans (sortA_len' _) ho.2
  · exact IsRow_evs (Nat.le_trans hp hm1) (by omega)
  · exact bsEnds_row _ hm1 (by omega)
  · intro i hi
    have hO : OrdA (bsM a b st).arrows := (sortA_spec st.ar).1
    refine ⟨?_, fun h0 => hO.at_ (by omega) hi⟩
    have hx : (bsM a b st).arrows.getD i default ∈ (bsM a b st).arrows := getD_mem _ _ _ hi
    obtain ⟨n, p, q, h2, h3, h4, h5, h6, h7⟩ := (FF.arrow hF _).1 hx
    have l1 := (List.getElem?_eq_some_iff.1 h3).1
    have l2 := fnd_lt h5
    have l3 := evs_mem.1 h2
    unfold Mach.ArrOk
    rw [h6, h7]
    show (_ ∧ (n : Int) < ((max st.ps.length 1 : Nat) : Int)) ∧ (_ ∧ ((fnd q st.ps : Nat) : Int) < ((max st.ps.length 1 : Nat) : Int)) ∧ _
    refine ⟨⟨by omega, by omega⟩, ⟨by omega, by omega⟩, l3.1, ?_⟩
    show _ < a.events
    omega
/-- Where states lead to; they stay, where the event is none of theirs. -/
def stO (m : Mach) (of_ : List Int) (A : List Int) (e : Int) : List Int := if e ∈ of_ then stepL m A e else A
theorem stO_fold (m : Mach) (of_ : List Int) : ∀ (w A : List Int), w.foldl (stO m of_) A = afterL m A (onlyL w of_ true)
  | [], A => rfl
  | e :: w, A => by
    rw [List.foldl_cons, stO_fold m of_ w]
    unfold stO onlyL
    by_cases h : e ∈ of_
    · rw [if_pos h, List.filter_cons_of_pos (by simp [h])]; rfl
    · rw [if_neg h, List.filter_cons_of_neg (by simp [h])]
theorem stO_mem {m : Mach} {of_ A : List Int} {e x : Int} : x ∈ stO m of_ A e ↔ ∃ s ∈ A, x ∈ bsTo m s e (decide (e ∈ of_)) := by
  unfold stO bsTo
  by_cases h : e ∈ of_
  · simp only [if_pos h, decide_eq_true h, ↓reduceIte, mem_stepL, List.mem_singleton]
    constructor
    · rintro ⟨y, hy, h1, h2, h3⟩; exact ⟨y.frm, h2, y, hy, h1, rfl, h3⟩
    · rintro ⟨s, hs, y, hy, h1, h2, h3⟩; exact ⟨y, hy, h1, h2 ▸ hs, h3⟩
  · simp [h]
structure BsRel (ps : List Pr) (S A B : List Int) : Prop where
  is : ∀ x : Int, x ∈ S ↔ ∃ (i : Nat) (p : Pr), x = i ∧ ps[i]? = some p ∧ p.1 ∈ A ∧ p.2 ∈ B
  all : ∀ s ∈ A, ∀ t ∈ B, (s, t) ∈ ps
theorem BsRel.step {st : FSt} {T : List Tr} (h : FK a b ofA ofB st.ps.length T st) {S A B : List Int} (hR : BsRel st.ps S A B) {e : Int} (he : e ∈ evs a.events.toNat) (ho : e ∈ ofA ∨ e ∈ ofB) : BsRel st.ps (stepL (bsM a b st) S e) (stO a ofA A e) (stO b ofB B e) := by
  have hn := h.fi.nodup
  refine ⟨fun x => ?_, ?_⟩
  · rw [mem_stepL]
    constructor
    · rintro ⟨y, hy, rfl, hf, rfl⟩
      obtain ⟨i, p, q, h2, h3, h4, h5, h6, h7⟩ := (FF.arrow h y).1 hy
      obtain ⟨i', p', e1, e2, e3, e4⟩ := (hR.is _).1 hf
      have ei : i' = i := by omega
      subst ei
      rw [h3] at e2
      injection e2 with e2
      subst e2
      have hq := (bsLds_mem ho).1 h4
      exact ⟨fnd q st.ps, q, h7, fnd_at h5, stO_mem.2 ⟨_, e3, hq.1⟩, stO_mem.2 ⟨_, e4, hq.2⟩⟩
    · rintro ⟨i, q, rfl, h2, h3, h4⟩
      obtain ⟨s, hs, h5⟩ := stO_mem.1 h3
      obtain ⟨t, ht, h6⟩ := stO_mem.1 h4
      have hp := hR.all s hs t ht
      have hq : q ∈ bsLds a b ofA ofB (s, t) e := (bsLds_mem ho).2 ⟨h5, h6⟩
      refine ⟨⟨(fnd (s, t) st.ps : Nat), e, (fnd q st.ps : Nat)⟩, (FF.arrow h _).2 ⟨fnd (s, t) st.ps, (s, t), q, he, fnd_at hp, hq, List.mem_of_getElem? h2, rfl, rfl⟩, rfl, (hR.is _).2 ⟨_, _, rfl, fnd_at hp, hs, ht⟩, ?_⟩
      show ((fnd q st.ps : Nat) : Int) = i
      rw [fnd_of hn h2]
  · intro s hs t ht
    obtain ⟨s0, h1, h2⟩ := stO_mem.1 hs
    obtain ⟨t0, h3, h4⟩ := stO_mem.1 ht
    exact FF.closed h (hR.all s0 h1 t0 h3) he ((bsLds_mem ho).2 ⟨h2, h4⟩)
theorem after_nil (m : Mach) : ∀ w : List Int, afterL m [] w = []
  | [] => rfl
  | e :: w => by
    show afterL m (stepL m [] e) w = []
    have : stepL m [] e = [] := by
      apply List.eq_nil_iff_forall_not_mem.2
      intro x hx
      obtain ⟨y, _, _, h, _⟩ := mem_stepL.1 hx
      exact absurd h (by simp)
    rw [this]
    exact after_nil m w
theorem step_lost {st : FSt} {T : List Tr} (h : FK a b ofA ofB st.ps.length T st) (S : List Int) {e : Int} (ho : ¬ (e ∈ ofA ∨ e ∈ ofB)) : stepL (bsM a b st) S e = [] := by
  apply List.eq_nil_iff_forall_not_mem.2
  intro x hx
  obtain ⟨y, hy, rfl, _, _⟩ := mem_stepL.1 hx
  obtain ⟨i, p, q, h2, h3, h4, _⟩ := (FF.arrow h y).1 hy
  exact ho (bsLds_own h4)
theorem BsRel.fold {st : FSt} {T : List Tr} (h : FK a b ofA ofB st.ps.length T st) : ∀ (w : List Int) {S A B : List Int}, BsRel st.ps S A B → (∀ e ∈ w, e ∈ evs a.events.toNat) → (∀ e ∈ w, e ∈ ofA ∨ e ∈ ofB) → BsRel st.ps (afterL (bsM a b st) S w) (w.foldl (stO a ofA) A) (w.foldl (stO b ofB) B)
  | [], _, _, _, hR, _, _ => hR
  | e :: w, _, _, _, hR, h1, h2 => BsRel.fold h w (hR.step h (h1 e (List.mem_cons_self ..)) (h2 e (List.mem_cons_self ..))) (fun x hx => h1 x (List.mem_cons_of_mem _ hx)) fun x hx => h2 x (List.mem_cons_of_mem _ hx)
theorem after_lost {st : FSt} {T : List Tr} (h : FK a b ofA ofB st.ps.length T st) : ∀ (w S : List Int), (∃ e ∈ w, ¬ (e ∈ ofA ∨ e ∈ ofB)) → afterL (bsM a b st) S w = []
  | [], _, ⟨e, he, _⟩ => absurd he (by simp)
  | e :: w, S, ⟨x, hx, hn⟩ => by
    show afterL _ (stepL (bsM a b st) S e) w = []
    by_cases ho : e ∈ ofA ∨ e ∈ ofB
    · rcases List.mem_cons.1 hx with rfl | hx
      · exact absurd ho hn
      · exact after_lost h w _ ⟨x, hx, hn⟩
    · rw [step_lost h S ho]; exact after_nil _ w
theorem FF.start {st : FSt} {T : List Tr} (h : FK a b ofA ofB st.ps.length T st) : BsRel st.ps (bsM a b st).starts a.starts b.starts := by
  have hpre := h.fi.pre
  refine ⟨fun x => ?_, fun s hs t ht => hpre.subset (prod_mem.2 ⟨hs, ht⟩)⟩
  show x ∈ evs (bsStart a b).length ↔ _
  rw [evs_mem]
  constructor
  · rintro ⟨h0, h1⟩
    have hl : x.toNat < (bsStart a b).length := by omega
    have hm := prod_mem.1 (List.getElem_mem hl : (bsStart a b)[x.toNat] ∈ _)
    exact ⟨x.toNat, (bsStart a b)[x.toNat], by omega, by rw [prefix_getElem? hpre hl, List.getElem?_eq_getElem hl], hm.1, hm.2⟩
  · rintro ⟨i, p, rfl, h2, h3, h4⟩
    have hm : p ∈ bsStart a b := prod_mem.2 ⟨h3, h4⟩
    have h5 := fnd_at hm
    have h6 := fnd_lt hm
    rw [← prefix_getElem? hpre h6] at h5
    have := nodup_at h.fi.nodup h2 h5
    omega
/-- The machine of both accepts a word, if it is of their events, and each accepts what of it is its own. -/
theorem FF.accepts {st : FSt} (h : FF a b ofA ofB st) {w : List Int} (hw : ∀ e ∈ w, 0 ≤ e ∧ e < a.events) : AcceptsL (bsM a b st) w ↔ (∀ e ∈ w, e ∈ ofA ∨ e ∈ ofB) ∧ AcceptsL a (onlyL w ofA true) ∧ AcceptsL b (onlyL w ofB true) := by
  obtain ⟨⟨T, hF⟩, _⟩ := h
  have hwe : ∀ e ∈ w, e ∈ evs a.events.toNat := fun e he => evs_mem.2 (by have := hw e he; omega)
  by_cases ho : ∀ e ∈ w, e ∈ ofA ∨ e ∈ ofB
  · have hR := BsRel.fold hF w (FF.start hF) hwe ho
    rw [stO_fold, stO_fold] at hR
    unfold AcceptsL MeetL
    constructor
    · rintro ⟨x, h1, h2⟩
      obtain ⟨i, p, rfl, h3, h4, h5⟩ := (hR.is x).1 h1
      obtain ⟨i', p', e1, e2, e3, e4⟩ := bsEnds_mem.1 h2
      have : i' = i := by omega
      subst this
      rw [h3] at e2
      injection e2 with e2
      subst e2
      exact ⟨ho, ⟨_, h4, e3⟩, ⟨_, h5, e4⟩⟩
    · rintro ⟨_, ⟨s, h1, h2⟩, ⟨t, h3, h4⟩⟩
      have hp := hR.all s h1 t h3
      exact ⟨(fnd (s, t) st.ps : Nat), (hR.is _).2 ⟨_, _, rfl, fnd_at hp, h1, h3⟩, bsEnds_mem.2 ⟨_, _, rfl, fnd_at hp, h2, h4⟩⟩
  · refine ⟨fun h => ?_, fun h => absurd h.1 ho⟩
    obtain ⟨x, h1, _⟩ := h
    have : ∃ e ∈ w, ¬ (e ∈ ofA ∨ e ∈ ofB) := Classical.byContradiction fun hn => ho fun e he => Classical.byContradiction fun h2 => hn ⟨e, he, h2⟩
    rw [after_lost hF w _ this] at h1
    exact absurd h1 (by simp)
end
end Go.Proofs.YtcjedgiglimipaaDoor
