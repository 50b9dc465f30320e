/-
  Chapter 4, in plain Lean: two machines together: pairs as they are found, arrows between them; what words are accepted. No program in sight.
-/
import Derived.Test.YtcjedgiglimipaaDoorZReachD
namespace Go.Proofs.YtcjedgiglimipaaDoor
set_option linter.unusedSimpArgs false
set_option linter.unusedVariables false
set_option linter.unusedSectionVars false
open Go.RowKit

abbrev Pr := Int × Int
def fnd (p : Pr) : List Pr → Nat
  | [] => 0
  | q :: l => if q = p then 0 else fnd p l + 1
theorem fnd_none {p : Pr} : ∀ {l : List Pr}, p ∉ l → fnd p l = l.length
  | [], _ => rfl
  | q :: l, h => by
    unfold fnd
    rw [if_neg (fun e => h (by rw [e]; exact List.mem_cons_self ..)), fnd_none (fun e => h (List.mem_cons_of_mem _ e))]; rfl
theorem fnd_at {p : Pr} : ∀ {l : List Pr}, p ∈ l → l[fnd p l]? = some p
  | [], h => absurd h (by simp)
  | q :: l, h => by
    unfold fnd
    by_cases e : q = p
    · rw [if_pos e, e]; rfl
    · rw [if_neg e]
      rcases List.mem_cons.1 h with h | h
      · exact absurd h.symm e
      · rw [List.getElem?_cons_succ]; exact fnd_at h
theorem fnd_lt {p : Pr} {l : List Pr} (h : p ∈ l) : fnd p l < l.length := (List.getElem?_eq_some_iff.1 (fnd_at h)).1
theorem fnd_app {p : Pr} : ∀ {l : List Pr} (m : List Pr), p ∈ l → fnd p (l ++ m) = fnd p l
  | [], _, h => absurd h (by simp)
  | q :: l, m, h => by
    rw [List.cons_append]
    unfold fnd
    by_cases e : q = p
    · rw [if_pos e, if_pos e]
    · rw [if_neg e, if_neg e]
      rcases List.mem_cons.1 h with h | h
      · exact absurd h.symm e
      · rw [fnd_app m h]
/-- The first place where it is. -/
theorem fnd_is {p : Pr} : ∀ {l : List Pr} {i : Nat}, l[i]? = some p → (∀ j, j < i → l[j]? ≠ some p) → fnd p l = i
  | [], i, h, _ => by simp at h
  | q :: l, 0, h, _ => by
    rw [List.getElem?_cons_zero] at h
    injection h with h
    unfold fnd
    rw [if_pos h]
  | q :: l, i + 1, h, hn => by
    have h0 := hn 0 (by omega)
    rw [List.getElem?_cons_zero] at h0
    unfold fnd
    rw [if_neg (fun e => h0 (by rw [e])), fnd_is (by rwa [List.getElem?_cons_succ] at h) fun j hj => by have := hn (j + 1) (by omega); rwa [List.getElem?_cons_succ] at this]
theorem nodup_at {α : Type} {l : List α} (h : l.Nodup) {i j : Nat} {x : α} (hi : l[i]? = some x) (hj : l[j]? = some x) : i = j := by
  have a := (List.getElem?_eq_some_iff.1 hi)
  have b := (List.getElem?_eq_some_iff.1 hj)
  obtain ⟨a1, a2⟩ := a
  obtain ⟨b1, b2⟩ := b
  rcases Nat.lt_trichotomy i j with c | c | c
  · exact absurd (a2.trans b2.symm) (List.pairwise_iff_getElem.1 h i j a1 b1 c)
  · exact c
  · exact absurd (b2.trans a2.symm) (List.pairwise_iff_getElem.1 h j i b1 a1 c)
theorem fnd_of {p : Pr} {l : List Pr} {i : Nat} (h : l.Nodup) (hi : l[i]? = some p) : fnd p l = i := fnd_is hi fun j hj e => by have := nodup_at h e hi; omega
/-- Where a state leads to, at an event; itself, if it takes no part. -/
def bsTo (m : Mach) (s e : Int) (part : Bool) : List Int := if part then stepL m [s] e else [s]
def bsLds (a b : Mach) (ofA ofB : List Int) (p : Pr) (e : Int) : List Pr :=
  if e ∈ ofA ∨ e ∈ ofB then (bsTo a p.1 e (decide (e ∈ ofA))).flatMap fun s => (bsTo b p.2 e (decide (e ∈ ofB))).map fun t => (s, t) else []
structure FSt where
  ps : List Pr
  ar : List Arr
def bsPut (k : Nat) (e : Int) (st : FSt) (p : Pr) : FSt := ⟨if p ∈ st.ps then st.ps else st.ps ++ [p], st.ar ++ [⟨k, e, (fnd p st.ps : Nat)⟩]⟩
def bsE (a b : Mach) (ofA ofB : List Int) (k : Nat) (p : Pr) (st : FSt) (e : Int) : FSt := (bsLds a b ofA ofB p e).foldl (bsPut k e) st
def bsK (a b : Mach) (ofA ofB : List Int) (k : Nat) (st : FSt) : FSt := (evs a.events.toNat).foldl (bsE a b ofA ofB k (st.ps.getD k default)) st
def bsStart (a b : Mach) : List Pr := a.starts.flatMap fun s => b.starts.map fun t => (s, t)
def FSt.Ok (st : FSt) : Prop := st.ps.length ≤ 256 ∧ st.ar.length ≤ 4096
instance (st : FSt) : Decidable st.Ok := inferInstanceAs (Decidable (_ ∧ _))
/-- From the k-th round on. -/
def bsRun (a b : Mach) (ofA ofB : List Int) : Nat → Nat → FSt → Option FSt
  | 0, _, _ => none
  | n + 1, k, st => if k < st.ps.length then (if (bsK a b ofA ofB k st).Ok then bsRun a b ofA ofB n (k + 1) (bsK a b ofA ofB k st) else none) else some st
/-- What is gone through in all; none: it is too much. -/
def bsAll (a b : Mach) (ofA ofB : List Int) : Option FSt := bsRun a b ofA ofB 300 0 ⟨bsStart a b, []⟩
/-- The numbers of the pairs that are ends. -/
def bsEnds (a b : Mach) (ps : List Pr) : List Int := (evs ps.length).filter fun n => decide ((ps.getD n.toNat default).1 ∈ a.ends ∧ (ps.getD n.toNat default).2 ∈ b.ends)
def bsM (a b : Mach) (st : FSt) : Mach := ⟨(max st.ps.length 1 : Nat), a.events, evs (bsStart a b).length, sortA st.ar, bsEnds a b st.ps⟩

abbrev Tr := Nat × Int × Pr
def bsArr (ps : List Pr) (t : Tr) : Arr := ⟨t.1, t.2.1, (fnd t.2.2 ps : Nat)⟩
/-- T: what was gone through, in order. -/
structure FI (ps0 : List Pr) (T : List Tr) (st : FSt) : Prop where
  nodup : st.ps.Nodup
  pre : ps0 <+: st.ps
  mem : ∀ t ∈ T, t.2.2 ∈ st.ps
  ar : st.ar = T.map (bsArr st.ps)
  src : ∀ p ∈ st.ps, p ∈ ps0 ∨ ∃ t ∈ T, t.2.2 = p
theorem FI.start {ps0 : List Pr} (h : ps0.Nodup) : FI ps0 [] ⟨ps0, []⟩ := ⟨h, List.prefix_refl _, by simp, rfl, fun p hp => .inl hp⟩
theorem bsPut_pre (k : Nat) (e : Int) (st : FSt) (p : Pr) : st.ps <+: (bsPut k e st p).ps := by
  unfold bsPut
  by_cases h : p ∈ st.ps
  · simp only [if_pos h]; exact List.prefix_refl _
  · simp only [if_neg h]; exact List.prefix_append _ _
theorem FI.put {ps0 : List Pr} {T : List Tr} {st : FSt} (h : FI ps0 T st) (k : Nat) (e : Int) (p : Pr) : FI ps0 (T ++ [(k, e, p)]) (bsPut k e st p) := by
  have hpre := bsPut_pre k e st p
  by_cases hp : p ∈ st.ps
  · have hps : (bsPut k e st p).ps = st.ps := by unfold bsPut; simp only [if_pos hp]
    refine ⟨by rw [hps]; exact h.nodup, by rw [hps]; exact h.pre, ?_, ?_, ?_⟩
    · intro t ht
      rw [hps]
      rcases List.mem_append.1 ht with ht | ht
      · exact h.mem t ht
      · rw [List.mem_singleton.1 ht]; exact hp
    · rw [hps]
      show st.ar ++ [_] = _
      rw [h.ar, List.map_append]; rfl
    · intro q hq
      rw [hps] at hq
      rcases h.src q hq with c | ⟨t, ht, e⟩
      · exact .inl c
      · exact .inr ⟨t, List.mem_append_left _ ht, e⟩
  · have hps : (bsPut k e st p).ps = st.ps ++ [p] := by unfold bsPut; simp only [if_neg hp]
    refine ⟨?_, h.pre.trans hpre, ?_, ?_, ?_⟩
    · rw [hps, List.nodup_append]
      exact ⟨h.nodup, by simp, fun x hx y hy e => by rw [List.mem_singleton.1 hy] at e; exact hp (e ▸ hx)⟩
    · intro t ht
      rw [hps]
      rcases List.mem_append.1 ht with ht | ht
      · exact List.mem_append_left _ (h.mem t ht)
      · rw [List.mem_singleton.1 ht]; simp
    · rw [hps]
      show st.ar ++ [_] = _
      rw [h.ar, List.map_append]
      congr 1
      · apply List.map_congr_left
        intro t ht
        unfold bsArr
        rw [fnd_app [p] (h.mem t ht)]
      · have : fnd p (st.ps ++ [p]) = fnd p st.ps := by
          rw [fnd_none hp]
          refine fnd_is (by simp) fun j hj e => hp ?_
          rw [List.getElem?_append_left hj] at e
          exact List.mem_of_getElem? e
        simp [bsArr, this]
    · intro q hq
      rw [hps] at hq
      rcases List.mem_append.1 hq with hq | hq
      · rcases h.src q hq with c | ⟨t, ht, e⟩
        · exact .inl c
        · exact .inr ⟨t, List.mem_append_left _ ht, e⟩
      · exact .inr ⟨(k, e, p), by simp, (List.mem_singleton.1 hq).symm⟩
theorem FI.fold {ps0 : List Pr} (k : Nat) (e : Int) : ∀ (L : List Pr) {T : List Tr} {st : FSt}, FI ps0 T st → FI ps0 (T ++ L.map fun p => (k, e, p)) (L.foldl (bsPut k e) st) ∧ st.ps <+: (L.foldl (bsPut k e) st).ps
  | [], T, st, h => ⟨by simpa using h, List.prefix_refl _⟩
  | p :: L, T, st, h => by
    have := FI.fold k e L (h.put k e p)
    rw [List.map_cons, show T ++ (k, e, p) :: List.map (fun p => (k, e, p)) L = T ++ [(k, e, p)] ++ List.map (fun p => (k, e, p)) L by simp]
    exact ⟨this.1, (bsPut_pre k e st p).trans this.2⟩
section
variable {a b : Mach} {ofA ofB : List Int}
/-- One round's. -/
def bsT (a b : Mach) (ofA ofB : List Int) (k : Nat) (p : Pr) (es : List Int) : List Tr := es.flatMap fun e => (bsLds a b ofA ofB p e).map fun q => (k, e, q)
theorem FI.round {ps0 : List Pr} (k : Nat) (p : Pr) : ∀ (es : List Int) {T : List Tr} {st : FSt}, FI ps0 T st → FI ps0 (T ++ bsT a b ofA ofB k p es) (es.foldl (bsE a b ofA ofB k p) st) ∧ st.ps <+: (es.foldl (bsE a b ofA ofB k p) st).ps
  | [], T, st, h => ⟨by simpa [bsT] using h, List.prefix_refl _⟩
  | e :: es, T, st, h => by
    have h1 := FI.fold k e (bsLds a b ofA ofB p e) h
    have h2 := FI.round k p es h1.1
    have he : bsT a b ofA ofB k p (e :: es) = ((bsLds a b ofA ofB p e).map fun q => (k, e, q)) ++ bsT a b ofA ofB k p es := rfl
    rw [he, ← List.append_assoc]
    exact ⟨h2.1, h1.2.trans h2.2⟩
end

theorem prod_len (xs ys : List Int) : (xs.flatMap fun s => ys.map fun t => (s, t)).length = xs.length * ys.length := by
  induction xs with
  | nil => simp
  | cons x l ih => rw [List.flatMap_cons, List.length_append, ih, List.length_map, List.length_cons, Nat.succ_mul]; omega
theorem prod_mem {xs ys : List Int} {p : Pr} : (p ∈ xs.flatMap fun s => ys.map fun t => (s, t)) ↔ p.1 ∈ xs ∧ p.2 ∈ ys := by
  simp only [List.mem_flatMap, List.mem_map]
  constructor
  · rintro ⟨s, hs, t, ht, rfl⟩; exact ⟨hs, ht⟩
  · rintro ⟨h1, h2⟩; exact ⟨p.1, h1, p.2, h2, rfl⟩
theorem prod_nodup : ∀ {xs ys : List Int}, xs.Nodup → ys.Nodup → (xs.flatMap fun s => ys.map fun t => ((s, t) : Pr)).Nodup
  | [], _, _, _ => by simp
  | x :: xs, ys, ha, hb => by
    rw [List.flatMap_cons, List.nodup_append]
    rw [List.nodup_cons] at ha
    refine ⟨?_, prod_nodup ha.2 hb, ?_⟩
    · exact List.Pairwise.map _ (fun a b hab e => hab (by injection e)) hb
    · intro p hp q hq e
      obtain ⟨t, _, rfl⟩ := List.mem_map.1 hp
      have := prod_mem.1 hq
      rw [← e] at this
      exact ha.1 this.1
def InPr (a b : Mach) (p : Pr) : Prop := (0 ≤ p.1 ∧ p.1 < a.states) ∧ 0 ≤ p.2 ∧ p.2 < b.states
theorem bsTo_row {m : Mach} (hm : m.May) {s : Int} (hs : 0 ≤ s ∧ s < m.states) (e : Int) (part : Bool) : IsRow (bsTo m s e part) m.states := by
  unfold bsTo
  split
  · exact stepL_row hm _ _
  · have := hm.2.1
    exact IsRow.of_strict (by simp [Strict]) fun x hx => by rw [List.mem_singleton.1 hx]; omega
theorem row_256 {m : Mach} (hm : m.May) {l : List Int} (h : IsRow l m.states) : l.length ≤ 256 := by
  have h2 := hm.2.1
  have : (l.map Int.toNat).length ≤ 256 := nodup_nat_len 256 _ (List.Pairwise.map _ (fun a b hab => hab) (List.Pairwise.imp_of_mem (fun {a b} ha hb hab => by have := h.mem ha; have := h.mem hb; show a.toNat ≠ b.toNat; omega) h.strict)) fun x hx => by
    obtain ⟨y, hy, rfl⟩ := List.mem_map.1 hx
    have := h.mem hy
    omega
  simpa using this
section
variable {a b : Mach} {ofA ofB : List Int} {p q : Pr} {e : Int}
theorem bsLds_mem (h : e ∈ ofA ∨ e ∈ ofB) : q ∈ bsLds a b ofA ofB p e ↔ q.1 ∈ bsTo a p.1 e (decide (e ∈ ofA)) ∧ q.2 ∈ bsTo b p.2 e (decide (e ∈ ofB)) := by
  unfold bsLds
  rw [if_pos h, prod_mem]
theorem bsLds_own (h : q ∈ bsLds a b ofA ofB p e) : e ∈ ofA ∨ e ∈ ofB := by
  unfold bsLds at h
  split at h
  · assumption
  · exact absurd h (by simp)
theorem bsLds_in (ha : a.May) (hb : b.May) (hp : InPr a b p) (h : q ∈ bsLds a b ofA ofB p e) : InPr a b q := by
  have h1 := (bsLds_mem (bsLds_own h)).1 h
  have r1 := (bsTo_row ha hp.1 e _).mem h1.1
  have r2 := (bsTo_row hb hp.2 e _).mem h1.2
  exact ⟨⟨r1.1, r1.2.1⟩, r2.1, r2.2.1⟩
theorem bsLds_nodup (ha : a.May) (hb : b.May) (hp : InPr a b p) : (bsLds a b ofA ofB p e).Nodup := by
  unfold bsLds
  split
  · exact prod_nodup (bsTo_row ha hp.1 e _).strict.nodup (bsTo_row hb hp.2 e _).strict.nodup
  · simp
theorem bsLds_len (ha : a.May) (hb : b.May) (hp : InPr a b p) : (bsLds a b ofA ofB p e).length ≤ 65536 := by
  unfold bsLds
  split
  · rw [prod_len]
    have h1 := row_256 ha (bsTo_row ha hp.1 e (decide (e ∈ ofA)))
    have h2 := row_256 hb (bsTo_row hb hp.2 e (decide (e ∈ ofB)))
    exact Nat.le_trans (Nat.mul_le_mul h1 h2) (by decide)
  · simp
theorem bsT_mem {k : Nat} {es : List Int} {t : Tr} : t ∈ bsT a b ofA ofB k p es ↔ t.1 = k ∧ t.2.1 ∈ es ∧ t.2.2 ∈ bsLds a b ofA ofB p t.2.1 := by
  unfold bsT
  simp only [List.mem_flatMap, List.mem_map]
  constructor
  · rintro ⟨e, he, q, hq, rfl⟩; exact ⟨rfl, he, hq⟩
  · rintro ⟨rfl, h2, h3⟩; exact ⟨t.2.1, h2, t.2.2, h3, rfl⟩
theorem bsT_nodup (ha : a.May) (hb : b.May) (hp : InPr a b p) {k : Nat} : ∀ {es : List Int}, es.Nodup → (bsT a b ofA ofB k p es).Nodup
  | [], _ => by simp [bsT]
  | e :: es, h => by
    have he : bsT a b ofA ofB k p (e :: es) = ((bsLds a b ofA ofB p e).map fun q => (k, e, q)) ++ bsT a b ofA ofB k p es := rfl
    rw [List.nodup_cons] at h
    rw [he, List.nodup_append]
    refine ⟨List.Pairwise.map _ (fun a b hab e => hab (by injection e with _ e; injection e)) (bsLds_nodup ha hb hp), bsT_nodup ha hb hp h.2, ?_⟩
    intro x hx y hy exy
    obtain ⟨q, _, rfl⟩ := List.mem_map.1 hx
    have := bsT_mem.1 hy
    rw [← exy] at this
    exact h.1 this.2.1
theorem bsT_len (ha : a.May) (hb : b.May) (hp : InPr a b p) {k : Nat} : ∀ es : List Int, (bsT a b ofA ofB k p es).length ≤ es.length * 65536
  | [] => by simp [bsT]
  | e :: es => by
    have he : bsT a b ofA ofB k p (e :: es) = ((bsLds a b ofA ofB p e).map fun q => (k, e, q)) ++ bsT a b ofA ofB k p es := rfl
    rw [he, List.length_append, List.length_map, List.length_cons]
    have := bsLds_len (e := e) (ofA := ofA) (ofB := ofB) ha hb hp
    have := bsT_len ha hb hp (k := k) es
    omega
end
/-- Behind k rounds. -/
structure FK (a b : Mach) (ofA ofB : List Int) (k : Nat) (T : List Tr) (st : FSt) : Prop where
  fi : FI (bsStart a b) T st
  is : ∀ i e q, (i, e, q) ∈ T ↔ i < k ∧ e ∈ evs a.events.toNat ∧ ∃ p, st.ps[i]? = some p ∧ q ∈ bsLds a b ofA ofB p e
  nodup : T.Nodup
  le : k ≤ st.ps.length
  rng : ∀ p ∈ st.ps, InPr a b p
theorem pairs_len {a b : Mach} (ha : a.May) (hb : b.May) {l : List Pr} (hn : l.Nodup) (hr : ∀ p ∈ l, InPr a b p) : l.length ≤ a.states.toNat * b.states.toNat := by
  have h1 := ha.1
  have h2 := hb.1
  have : (l.map fun p => p.1.toNat * b.states.toNat + p.2.toNat).length ≤ a.states.toNat * b.states.toNat := nodup_nat_len _ _ (List.Pairwise.map _ (fun a b hab => hab) (List.Pairwise.imp_of_mem (fun {x y} hx hy hxy => by
      obtain ⟨⟨x1, x2⟩, x3, x4⟩ := hr x hx
      obtain ⟨⟨y1, y2⟩, y3, y4⟩ := hr y hy
      show x.1.toNat * b.states.toNat + x.2.toNat ≠ y.1.toNat * b.states.toNat + y.2.toNat
      intro e
      have d : 0 < b.states.toNat := by omega
      have e1 : (x.1.toNat * b.states.toNat + x.2.toNat) / b.states.toNat = x.1.toNat := by
        rw [Nat.mul_comm, Nat.mul_add_div d, Nat.div_eq_of_lt (by omega)]; rfl
      have e2 : (y.1.toNat * b.states.toNat + y.2.toNat) / b.states.toNat = y.1.toNat := by
        rw [Nat.mul_comm, Nat.mul_add_div d, Nat.div_eq_of_lt (by omega)]; rfl
      have e3 : x.1.toNat = y.1.toNat := by rw [← e1, ← e2, e]
      rw [e3] at e
      have e4 : x.2.toNat = y.2.toNat := by omega
      exact hxy (Prod.ext (by omega) (by omega))) hn)) fun n hn => by
    obtain ⟨p, hp, rfl⟩ := List.mem_map.1 hn
    obtain ⟨⟨x1, x2⟩, x3, x4⟩ := hr p hp
    have : (p.1.toNat + 1) * b.states.toNat ≤ a.states.toNat * b.states.toNat := Nat.mul_le_mul_right _ (by omega)
    rw [Nat.succ_mul] at this
    omega
  simpa using this
section
variable {a b : Mach} {ofA ofB : List Int}
theorem bsStart_nodup (ha : a.May) (hb : b.May) : (bsStart a b).Nodup := prod_nodup (may_starts ha).strict.nodup (may_starts hb).strict.nodup
theorem bsStart_in (ha : a.May) (hb : b.May) : ∀ p ∈ bsStart a b, InPr a b p := fun p hp => by
  have := prod_mem.1 hp
  have r1 := (may_starts ha).mem this.1
  have r2 := (may_starts hb).mem this.2
  exact ⟨⟨r1.1, r1.2.1⟩, r2.1, r2.2.1⟩
theorem FK.start (ha : a.May) (hb : b.May) : FK a b ofA ofB 0 [] ⟨bsStart a b, []⟩ :=
  ⟨FI.start (bsStart_nodup ha hb), fun i e q => by simp, by simp, Nat.zero_le _, bsStart_in ha hb⟩
theorem bsPut_rng {k : Nat} {e : Int} {st : FSt} {p : Pr} (h : ∀ p ∈ st.ps, InPr a b p) (hp : InPr a b p) : ∀ q ∈ (bsPut k e st p).ps, InPr a b q := by
  intro q hq
  unfold bsPut at hq
  by_cases c : p ∈ st.ps
  · simp only [if_pos c] at hq; exact h q hq
  · simp only [if_neg c] at hq
    rcases List.mem_append.1 hq with hq | hq
    · exact h q hq
    · rw [List.mem_singleton.1 hq]; exact hp
theorem bsFold_rng {k : Nat} {e : Int} : ∀ (L : List Pr) {st : FSt}, (∀ p ∈ L, InPr a b p) → (∀ p ∈ st.ps, InPr a b p) → ∀ q ∈ (L.foldl (bsPut k e) st).ps, InPr a b q
  | [], _, _, h => h
  | p :: L, _, hL, h => bsFold_rng L (fun q hq => hL q (List.mem_cons_of_mem _ hq)) (bsPut_rng h (hL p (List.mem_cons_self ..)))
theorem bsE_rng (ha : a.May) (hb : b.May) {k : Nat} {p : Pr} (hp : InPr a b p) : ∀ (es : List Int) {st : FSt}, (∀ p ∈ st.ps, InPr a b p) → ∀ q ∈ (es.foldl (bsE a b ofA ofB k p) st).ps, InPr a b q
  | [], _, h => h
  | e :: es, _, h => bsE_rng ha hb hp es (bsFold_rng _ (fun _ hq => bsLds_in ha hb hp hq) h)
/-- Within a round: behind j events and L of the next one. -/
def bsMid (a b : Mach) (ofA ofB : List Int) (k : Nat) (st : FSt) (j : Nat) (L : List Pr) : FSt := L.foldl (bsPut k (j : Int)) (((evs a.events.toNat).take j).foldl (bsE a b ofA ofB k (st.ps.getD k default)) st)
theorem bsMid_snoc (k : Nat) (st : FSt) (j : Nat) (L : List Pr) (q : Pr) : bsMid a b ofA ofB k st j (L ++ [q]) = bsPut k (j : Int) (bsMid a b ofA ofB k st j L) q := by
  unfold bsMid; rw [List.foldl_append]; rfl
theorem bsMid_next (k : Nat) (st : FSt) {j : Nat} (hj : j < a.events.toNat) : bsMid a b ofA ofB k st j (bsLds a b ofA ofB (st.ps.getD k default) (j : Int)) = bsMid a b ofA ofB k st (j + 1) [] := by
  unfold bsMid
  have : (evs a.events.toNat).take (j + 1) = (evs a.events.toNat).take j ++ [(j : Int)] := by
    rw [take_snoc _ (0 : Int) j (by rw [evs_len]; exact hj), evs_at _ _ hj]
  rw [this, List.foldl_append]; rfl
theorem bsMid_end (k : Nat) (st : FSt) : bsMid a b ofA ofB k st a.events.toNat [] = bsK a b ofA ofB k st := by
  unfold bsMid bsK
  rw [List.take_of_length_le (by rw [evs_len]; exact Nat.le_refl _)]; rfl
structure FM (a b : Mach) (ofA ofB : List Int) (k : Nat) (T0 : List Tr) (st0 : FSt) (j : Nat) (L : List Pr) (st : FSt) : Prop where
  fi : FI (bsStart a b) (T0 ++ bsT a b ofA ofB k (st0.ps.getD k default) ((evs a.events.toNat).take j) ++ L.map fun q => (k, (j : Int), q)) st
  pre : st0.ps <+: st.ps
  rng : ∀ p ∈ st.ps, InPr a b p
theorem FK.in_ {k : Nat} {T : List Tr} {st : FSt} (h : FK a b ofA ofB k T st) (hk : k < st.ps.length) : InPr a b (st.ps.getD k default) := h.rng _ (getD_mem _ _ _ hk)
theorem FK.mid {k : Nat} {T : List Tr} {st : FSt} (h : FK a b ofA ofB k T st) (ha : a.May) (hb : b.May) (hk : k < st.ps.length) (j : Nat) {L : List Pr} (hL : ∀ q ∈ L, q ∈ bsLds a b ofA ofB (st.ps.getD k default) (j : Int)) :
    FM a b ofA ofB k T st j L (bsMid a b ofA ofB k st j L) := by
  have hp := h.in_ hk
  have h1 := FI.round (a := a) (b := b) (ofA := ofA) (ofB := ofB) k (st.ps.getD k default) ((evs a.events.toNat).take j) h.fi
  have h2 := FI.fold k (j : Int) L h1.1
  exact ⟨h2.1, h1.2.trans h2.2, bsFold_rng _ (fun q hq => bsLds_in ha hb hp (hL q hq)) (bsE_rng ha hb hp _ h.rng)⟩
theorem FM.psLen {k : Nat} {T : List Tr} {st0 st : FSt} {j : Nat} {L : List Pr} (h : FM a b ofA ofB k T st0 j L st) (ha : a.May) (hb : b.May) : st.ps.length ≤ 65536 := by
  have := pairs_len ha hb h.fi.nodup h.rng
  have h1 := ha.2.1
  have h2 := hb.2.1
  exact Nat.le_trans this (Nat.le_trans (Nat.mul_le_mul (show a.states.toNat ≤ 256 by omega) (show b.states.toNat ≤ 256 by omega)) (by decide))
theorem FM.arLen {k : Nat} {T : List Tr} {st0 st : FSt} {j : Nat} {L : List Pr} (h : FM a b ofA ofB k T st0 j L st) (h0 : FK a b ofA ofB k T st0) (ha : a.May) (hb : b.May) (hk : k < st0.ps.length) (hT : st0.ar.length ≤ 4096) (hL : L.length ≤ 65536) (hj : j ≤ 8) : st.ar.length ≤ 1000000 := by
  have hp := h0.in_ hk
  rw [h.fi.ar, List.length_map, List.length_append, List.length_append, List.length_map]
  have h1 : T.length ≤ 4096 := by rw [h0.fi.ar, List.length_map] at hT; exact hT
  have h2 := bsT_len (ofA := ofA) (ofB := ofB) ha hb hp (k := k) ((evs a.events.toNat).take j)
  have h3 : ((evs a.events.toNat).take j).length ≤ j := List.length_take_le _ _
  have h4 : ((evs a.events.toNat).take j).length * 65536 ≤ 8 * 65536 := Nat.mul_le_mul_right _ (by omega)
  omega
theorem FM.get {k : Nat} {T : List Tr} {st0 st : FSt} {j : Nat} {L : List Pr} (h : FM a b ofA ofB k T st0 j L st) (hk : k < st0.ps.length) : st.ps.getD k default = st0.ps.getD k default ∧ k < st.ps.length := by
  have := prefix_getElem? h.pre hk
  refine ⟨by simp only [List.getD_eq_getElem?_getD, this], ?_⟩
  exact Nat.lt_of_lt_of_le hk h.pre.length_le
theorem FK.next {k : Nat} {T : List Tr} {st : FSt} (h : FK a b ofA ofB k T st) (ha : a.May) (hb : b.May) (hk : k < st.ps.length) : FK a b ofA ofB (k + 1) (T ++ bsT a b ofA ofB k (st.ps.getD k default) (evs a.events.toNat)) (bsK a b ofA ofB k st) := by
  have hp := h.in_ hk
  have hm := h.mid ha hb hk a.events.toNat (L := []) (by simp)
  rw [bsMid_end] at hm
  have ht : (evs a.events.toNat).take a.events.toNat = evs a.events.toNat := List.take_of_length_le (by rw [evs_len]; exact Nat.le_refl _)
  have hfi := hm.fi
  rw [ht, List.map_nil, List.append_nil] at hfi
  refine ⟨hfi, ?_, ?_, Nat.le_trans hk hm.pre.length_le, hm.rng⟩
  · intro i e q
    rw [List.mem_append, h.is, bsT_mem]
    have hpk : st.ps[k]? = some (st.ps.getD k default) := by rw [List.getD_eq_getElem?_getD, List.getElem?_eq_getElem hk]; rfl
    constructor
    · rintro (⟨h1, h2, p, h3, h4⟩ | ⟨h1, h2, h3⟩)
      · exact ⟨by omega, h2, p, by rw [prefix_getElem? hm.pre (by omega)]; exact h3, h4⟩
      · simp only at h1 h2 h3
        subst h1
        exact ⟨by omega, h2, _, by rw [prefix_getElem? hm.pre hk]; exact hpk, h3⟩
    · rintro ⟨h1, h2, p, h3, h4⟩
      rcases Nat.lt_or_ge i k with c | c
      · exact .inl ⟨c, h2, p, by rw [← prefix_getElem? hm.pre (by omega)]; exact h3, h4⟩
      · obtain rfl : i = k := by omega
        rw [prefix_getElem? hm.pre hk, hpk] at h3
        injection h3 with h3
        exact .inr ⟨rfl, h2, by rw [h3]; exact h4⟩
  · rw [List.nodup_append]
    refine ⟨h.nodup, bsT_nodup ha hb hp (evs_strict _).nodup, ?_⟩
    intro x hx y hy exy
    have h1 := (h.is x.1 x.2.1 x.2.2).1 hx
    have h2 := bsT_mem.1 hy
    rw [← exy] at h2
    omega
end
end Go.Proofs.YtcjedgiglimipaaDoor
