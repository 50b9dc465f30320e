/-
  Machines made of what is gone through, of whatever kind: determined; and the least machine of a language. In plain Lean. No program in sight.
-/
import Derived.Test.YtcjedgiglimipaaDoorZDetP
import Derived.Test.YtcjedgiglimipaaDoorZTrim
namespace Go.Proofs.YtcjedgiglimipaaDoor
set_option linter.unusedSimpArgs false
set_option linter.unusedVariables false
set_option linter.unusedSectionVars false
open Go.RowKit

theorem arr_atG {S : Type} {step : S → Int → S} {n K : Nat} {L : List S} {ar : List Arr} (h : Arrows step (evs n) K 0 L ar) {i : Nat} (hi : i < K * n) :
    ∃ (j : Nat) (s : S), ar.getD i default = ⟨((i / n : Nat) : Int), ((i % n : Nat) : Int), j⟩ ∧ L[i / n]? = some s ∧ L[j]? = some (step s ((i % n : Nat) : Int)) := by
  have hl : ar.length = K * n := by rw [h.len (Nat.zero_le _), evs_len]; rfl
  have h1 : (ar.map fun a => (a.frm, a.evt))[i]? = some (((i / n : Nat) : Int), ((i % n : Nat) : Int)) := by
    rw [h.1, prs_evs, List.getElem?_map, List.getElem?_range hi]; rfl
  have hg : ar[i]? = some (ar.getD i default) := by simp [List.getD_eq_getElem?_getD, hl, hi]
  rw [List.getElem?_map, hg] at h1
  have hm := h.2 _ (List.mem_of_getElem? hg)
  generalize ar.getD i default = a at *
  simp only [Option.map_some, Option.some.injEq, Prod.mk.injEq] at h1
  obtain ⟨i', j, s, e1, e2, e3, e4⟩ := hm
  obtain ⟨f1, f2⟩ := h1
  have : i' = i / n := by rw [f1] at e1; exact (Int.ofNat.inj e1).symm
  subst this
  refine ⟨j, s, ?_, e3, by rw [← f2]; exact e4⟩
  cases a; simp_all
theorem arrows_unique {S : Type} {step : S → Int → S} {n K : Nat} {L : List S} (hL : L.Nodup) {ar ar' : List Arr} (h : Arrows step (evs n) K 0 L ar) (h' : Arrows step (evs n) K 0 L ar') : ar = ar' := by
  have hl : ar.length = K * n := by rw [h.len (Nat.zero_le _), evs_len]; rfl
  have hl' : ar'.length = K * n := by rw [h'.len (Nat.zero_le _), evs_len]; rfl
  refine ext_getD default (by omega) fun k hk => ?_
  obtain ⟨j, s, e1, e2, e3⟩ := arr_atG h (i := k) (by omega)
  obtain ⟨j', s', e1', e2', e3'⟩ := arr_atG h' (i := k) (by omega)
  rw [e2] at e2'
  obtain rfl := Option.some.inj e2'
  rw [e1, e1', (List.getElem?_inj (getElem?_lt e3) hL).1 (e3.trans e3'.symm)]

section
variable {S : Type}
noncomputable def finAt (fin : S → Prop) (L : List S) (i : Nat) : Bool := @decide (∃ s, L[i]? = some s ∧ fin s) (Classical.propDecidable _)
theorem finAt_iff {fin : S → Prop} {L : List S} {i : Nat} : finAt fin L i = true ↔ ∃ s, L[i]? = some s ∧ fin s := @decide_eq_true_iff _ (Classical.propDecidable _)
noncomputable def endsG (fin : S → Prop) (L : List S) (k : Nat) : List Int := ((List.range k).filter (finAt fin L)).map fun (i : Nat) => (i : Int)
theorem endsG_mem {fin : S → Prop} {L : List S} {k : Nat} {x : Int} : x ∈ endsG fin L k ↔ ∃ i : Nat, x = i ∧ i < k ∧ ∃ s, L[i]? = some s ∧ fin s := by
  unfold endsG
  simp only [List.mem_map, List.mem_filter, List.mem_range, finAt_iff]
  exact ⟨fun ⟨i, ⟨h1, h2⟩, h3⟩ => ⟨i, h3.symm, h1, h2⟩, fun ⟨i, h1, h2, h3⟩ => ⟨i, ⟨h2, h3⟩, h1.symm⟩⟩
theorem endsG_strict (fin : S → Prop) (L : List S) (k : Nat) : Strict (endsG fin L k) := by
  unfold endsG Strict
  rw [List.pairwise_map]
  exact (List.pairwise_lt_range.filter _).imp fun h => by omega
theorem endsG_succ (fin : S → Prop) {L : List S} {k : Nat} {s : S} (hk : L[k]? = some s) : (fin s → endsG fin L (k + 1) = endsG fin L k ++ [(k : Int)]) ∧ (¬ fin s → endsG fin L (k + 1) = endsG fin L k) := by
  have key : (∃ s, L[k]? = some s ∧ fin s) ↔ fin s := ⟨fun ⟨t, ht, hf⟩ => by rw [hk] at ht; rw [Option.some.inj ht]; exact hf, fun h => ⟨s, hk, h⟩⟩
  unfold endsG
  rw [List.range_succ, List.filter_append, List.map_append]
  refine ⟨fun h => ?_, fun h => ?_⟩
  · rw [List.filter_cons, if_pos (finAt_iff.2 (key.2 h))]; rfl
  · rw [List.filter_cons, if_neg (fun hh => h (key.1 (finAt_iff.1 hh)))]; simp
theorem endsG_len (fin : S → Prop) (L : List S) (k : Nat) : (endsG fin L k).length ≤ k := by
  unfold endsG
  rw [List.length_map]
  exact Nat.le_trans (List.length_filter_le _ _) (by simp)
theorem endsG_more (fin : S → Prop) {L L' : List S} {k : Nat} (h : ∀ i, i < k → L[i]? = L'[i]?) : endsG fin L k = endsG fin L' k := by
  unfold endsG
  congr 1
  refine List.filter_congr fun i hi => ?_
  unfold finAt
  rw [h i (List.mem_range.1 hi)]
noncomputable def detG (E : Int) (fin : S → Prop) (L : List S) (ar : List Arr) : Mach := ⟨L.length, E, [0], ar, endsG fin L L.length⟩
structure GDet (E : Int) (step : S → Int → S) (first : S) (L : List S) (ar : List Arr) : Prop where
  n8 : E.toNat ≤ 8
  ev : ((E.toNat : Nat) : Int) = E
  l256 : L.length ≤ 256
  first : L[0]? = some first
  nodup : L.Nodup
  arrows : Arrows step (evs E.toNat) L.length 0 L ar
variable {E : Int} {step : S → Int → S} {first : S} {L : List S} {ar : List Arr} {fin : S → Prop}
theorem GDet.pos (h : GDet E step first L ar) : 0 < L.length := getElem?_lt h.first
theorem GDet.len (h : GDet E step first L ar) : ar.length = L.length * E.toNat := by rw [h.arrows.len (Nat.zero_le _), evs_len]; rfl
theorem GDet.at_ (h : GDet E step first L ar) {i : Nat} (hi : i < ar.length) :
    ∃ (j : Nat) (s : S), ar.getD i default = ⟨((i / E.toNat : Nat) : Int), ((i % E.toNat : Nat) : Int), j⟩ ∧ L[i / E.toNat]? = some s ∧ L[j]? = some (step s ((i % E.toNat : Nat) : Int)) := arr_atG h.arrows (by rw [← h.len]; exact hi)
theorem GDet.inj (h : GDet E step first L ar) {i j : Nat} {s : S} (hi : L[i]? = some s) (hj : L[j]? = some s) : i = j :=
  (List.getElem?_inj (getElem?_lt hi) h.nodup).1 (hi.trans hj.symm)
theorem GDet.may (h : GDet E step first L ar) (fin : S → Prop) : (detG E fin L ar).May := by
  have h0 := h.pos
  have h1 := h.l256
  have h8 := h.n8
  have he := h.ev
  refine ⟨?_, ?_, ?_, ?_, ?_, ?_, ?_, fun i hi => ?_⟩
  · show (1 : Int) ≤ (L.length : Int); omega
  · show (L.length : Int) ≤ 256; omega
  · show 0 ≤ E; omega
  · show E ≤ 8; omega
  · show ar.length ≤ 4096
    rw [h.len]
    have : L.length * E.toNat ≤ 256 * 8 := Nat.mul_le_mul h1 h8
    omega
  · intro i hi
    have hi : i < 1 := hi
    obtain rfl : i = 0 := by omega
    exact ⟨by show (0 : Int) ≤ 0; omega, by show (0 : Int) < (L.length : Int); omega, by show (0 : Int) < 2147483648; omega, fun hh => absurd hh (by decide)⟩
  · refine IsRow.of_strict (endsG_strict _ _ _) fun x hx => ?_
    obtain ⟨i, rfl, hi, _⟩ := endsG_mem.1 hx
    show 0 ≤ (i : Int) ∧ (i : Int) < (L.length : Int) ∧ (i : Int) < 2147483648
    omega
  · have hi : i < ar.length := hi
    obtain ⟨j, s, ha, hs, hj⟩ := h.at_ hi
    have q1 := getElem?_lt hs
    have q2 := getElem?_lt hj
    have hnp : 0 < E.toNat := by
      rw [h.len] at hi
      rcases Nat.eq_zero_or_pos E.toNat with c | c
      · rw [c] at hi; omega
      · exact c
    have q3 := Nat.mod_lt i hnp
    show Mach.ArrOk _ (ar.getD i default) ∧ (0 < i → (ar.getD (i - 1) default).lt (ar.getD i default))
    rw [ha]
    refine ⟨⟨⟨Int.natCast_nonneg _, Int.ofNat_lt.2 q1⟩, ⟨by show (0 : Int) ≤ (j : Int); omega, by show (j : Int) < (L.length : Int); omega⟩, Int.natCast_nonneg _, by show ((i % E.toNat : Nat) : Int) < E; rw [← he]; exact Int.ofNat_lt.2 q3⟩, fun hp => ?_⟩
    obtain ⟨j', s', ha', _, _⟩ := h.at_ (i := i - 1) (by omega)
    rw [ha']
    have d1 := Nat.div_add_mod i E.toNat
    have d2 := Nat.div_add_mod (i - 1) E.toNat
    have d3 : (i - 1) / E.toNat ≤ i / E.toNat := Nat.div_le_div_right (by omega)
    generalize i / E.toNat = a at *
    generalize (i - 1) / E.toNat = b at *
    generalize i % E.toNat = c at *
    generalize (i - 1) % E.toNat = e at *
    rcases Nat.lt_or_ge b a with hb | hb
    · exact .inl (by show (b : Int) < (a : Int); omega)
    · obtain rfl : b = a := by omega
      exact .inr ⟨rfl, .inl (by show (e : Int) < (c : Int); omega)⟩
theorem GDet.next (h : GDet E step first L ar) {p : Nat} {s : S} (hp : L[p]? = some s) {e : Int} (h0 : 0 ≤ e) (h1 : e < E) : ∃ j : Nat, L[j]? = some (step s e) ∧ stepL (detG E fin L ar) [(p : Int)] e = [(j : Int)] := by
  have he := h.ev
  have hpl := getElem?_lt hp
  obtain ⟨e', rfl⟩ : ∃ e' : Nat, e = (e' : Int) := ⟨e.toNat, by omega⟩
  have he' : e' < E.toNat := by omega
  have hi : p * E.toNat + e' < ar.length := by
    rw [h.len]
    have : (p + 1) * E.toNat ≤ L.length * E.toNat := Nat.mul_le_mul_right _ hpl
    rw [Nat.succ_mul] at this
    omega
  have hnp : 0 < E.toNat := by omega
  have e1 : (p * E.toNat + e') / E.toNat = p := by rw [Nat.mul_comm, Nat.mul_add_div hnp, Nat.div_eq_of_lt he']; rfl
  have e2 : (p * E.toNat + e') % E.toNat = e' := by rw [Nat.mul_comm, Nat.mul_add_mod, Nat.mod_eq_of_lt he']
  obtain ⟨j, s', ha, hs, hj⟩ := h.at_ hi
  rw [e1, e2] at ha
  rw [e1, hp] at hs
  obtain rfl := Option.some.inj hs
  rw [e2] at hj
  refine ⟨j, hj, ?_⟩
  refine Strict.ext (sortedL_spec _).1 (List.pairwise_singleton _ _) fun x => ?_
  unfold stepL
  rw [(sortedL_spec _).2, List.mem_singleton]
  unfold stepT
  constructor
  · intro hx
    obtain ⟨a, hm, rfl⟩ := List.mem_map.1 hx
    obtain ⟨hm, hc⟩ := List.mem_filter.1 hm
    rw [Bool.and_eq_true, decide_eq_true_eq, decide_eq_true_eq, List.mem_singleton] at hc
    obtain ⟨i', j', s', f1, f2, f3, f4⟩ := h.arrows.2 a hm
    obtain rfl : i' = p := by have := hc.2; rw [f1] at this; exact Int.ofNat.inj this
    rw [hp] at f3
    obtain rfl := Option.some.inj f3
    rw [hc.1] at f4
    rw [f2, h.inj f4 hj]
  · rintro rfl
    refine List.mem_map.2 ⟨ar.getD (p * E.toNat + e') default, List.mem_filter.2 ⟨getD_mem ar default _ hi, ?_⟩, by rw [ha]⟩
    rw [ha]
    simp
theorem GDet.after (h : GDet E step first L ar) : ∀ (word : List Int) {p : Nat} {s : S}, L[p]? = some s → (∀ x ∈ word, 0 ≤ x ∧ x < E) → ∃ j : Nat, L[j]? = some (word.foldl step s) ∧ afterL (detG E fin L ar) [(p : Int)] word = [(j : Int)]
  | [], p, s, hp, _ => ⟨p, hp, rfl⟩
  | e :: word, p, s, hp, hw => by
    obtain ⟨j, hj, hs⟩ := h.next (fin := fin) hp (hw e (List.mem_cons_self ..)).1 (hw e (List.mem_cons_self ..)).2
    obtain ⟨j', hj', hs'⟩ := GDet.after h word hj fun x hx => hw x (List.mem_cons_of_mem _ hx)
    refine ⟨j', hj', ?_⟩
    show afterL (detG E fin L ar) (stepL (detG E fin L ar) [(p : Int)] e) word = _
    rw [hs, hs']
theorem GDet.accepts (h : GDet E step first L ar) {word : List Int} (hw : ∀ x ∈ word, 0 ≤ x ∧ x < E) : AcceptsL (detG E fin L ar) word ↔ fin (word.foldl step first) := by
  obtain ⟨j, hj, hs⟩ := h.after (fin := fin) word h.first hw
  have hjl := getElem?_lt hj
  unfold AcceptsL
  rw [show afterL (detG E fin L ar) (detG E fin L ar).starts word = [(j : Int)] from hs]
  show MeetL [(j : Int)] (endsG fin L L.length) ↔ _
  constructor
  · rintro ⟨x, hx, hx2⟩
    rw [List.mem_singleton.1 hx] at hx2
    obtain ⟨i, hi, _, t, ht, hM⟩ := endsG_mem.1 hx2
    obtain rfl : j = i := Int.ofNat.inj hi
    rw [hj] at ht
    rwa [Option.some.inj ht]
  · intro hM
    exact ⟨j, by simp, endsG_mem.2 ⟨j, rfl, hjl, _, hj, hM⟩⟩
theorem GDet.isDet (h : GDet E step first L ar) (fin : S → Prop) : IsDet (detG E fin L ar) := by
  refine ⟨h.may fin, rfl, ?_, fun i hi => ?_⟩
  · show (ar.length : Int) = (L.length : Int) * E
    rw [h.len]
    have := h.ev
    rw [Int.natCast_mul, this]
  · obtain ⟨j, s, ha, _, _⟩ := h.at_ (i := i) hi
    show (ar.getD i default).frm = _ ∧ (ar.getD i default).evt = _
    rw [ha]
    exact ⟨rfl, rfl⟩
end

abbrev Lg := List Int → Prop
noncomputable instance : DecidableEq Lg := fun _ _ => Classical.propDecidable _
def dv (X : Lg) (e : Int) : Lg := fun u => X (e :: u)
theorem dv_fold : ∀ (w : List Int) (X : Lg), w.foldl dv X = fun u => X (w ++ u)
  | [], _ => rfl
  | e :: w, X => by rw [List.foldl_cons, dv_fold w]; rfl
/-- What is accepted from some states on. -/
def langS (m : Mach) (s : List Int) : Lg := fun u => (∀ x ∈ u, 0 ≤ x ∧ x < m.events) ∧ MeetL (afterL m s u) m.ends
theorem dv_lang (m : Mach) (s : List Int) {e : Int} (h0 : 0 ≤ e) (h1 : e < m.events) : dv (langS m s) e = langS m (stepL m s e) := by
  funext u
  show ((∀ x ∈ e :: u, 0 ≤ x ∧ x < m.events) ∧ MeetL (afterL m s (e :: u)) m.ends) = _
  refine propext ⟨fun ⟨h, k⟩ => ⟨fun x hx => h x (List.mem_cons_of_mem _ hx), k⟩, fun ⟨h, k⟩ => ⟨fun x hx => ?_, k⟩⟩
  rcases List.mem_cons.1 hx with rfl | hx
  · exact ⟨h0, h1⟩
  · exact h x hx
/-- The least machine of a language. -/
def LeastOf (E : Int) (X : Lg) (o : Mach) : Prop :=
  ∃ (K : Nat) (L : List Lg) (ar : List Arr), L = (bIter dv (evs E.toNat) X K).map (·.1) ∧ L.length = K ∧ K ≤ 256 ∧ Arrows dv (evs E.toNat) K 0 L ar ∧ o = detG E (fun Y : Lg => Y []) L ar
theorem LeastOf.unique {E : Int} {X : Lg} {o o' : Mach} (h : LeastOf E X o) (h' : LeastOf E X o') : o = o' := by
  obtain ⟨K, L, ar, hL, hl, _, ha, rfl⟩ := h
  obtain ⟨K', L', ar', hL', hl', _, ha', rfl⟩ := h'
  have n1 : (bIter dv (evs E.toNat) X K).length ≤ K := by have := congrArg List.length hL; simp at this; omega
  have n2 : (bIter dv (evs E.toNat) X K').length ≤ K' := by have := congrArg List.length hL'; simp at this; omega
  have n1' : (bIter dv (evs E.toNat) X K).length = K := by have := congrArg List.length hL; simp at this; omega
  have n2' : (bIter dv (evs E.toNat) X K').length = K' := by have := congrArg List.length hL'; simp at this; omega
  have e1 := bIter_stop n1 (max K K') (Nat.le_max_left _ _)
  have e2 := bIter_stop n2 (max K K') (Nat.le_max_right _ _)
  have hK : K = K' := by rw [← n1', ← n2', ← e1, ← e2]
  subst hK
  obtain rfl : L = L' := by rw [hL, hL']
  have hnd : L.Nodup := by
    rw [hL]
    exact (bIter_good (step := dv) (es := evs E.toNat) (U := fun _ => True) (fun _ _ _ _ => trivial) trivial K).nodup
  rw [arrows_unique hnd ha ha']
theorem LeastOf.gdet {E : Int} {X : Lg} {K : Nat} {L : List Lg} {ar : List Arr} (h0 : 0 ≤ E) (h8 : E ≤ 8) (hL : L = (bIter dv (evs E.toNat) X K).map (·.1)) (hl : L.length = K) (hk : K ≤ 256) (ha : Arrows dv (evs E.toNat) K 0 L ar) : GDet E dv X L ar := by
  refine ⟨by omega, by omega, by omega, ?_, ?_, by rw [hl]; exact ha⟩
  · rw [hL, List.getElem?_map, prefix_getElem? (bIter_prefix (step := dv) (es := evs E.toNat) X (Nat.zero_le K)) (bIter_pos _ _)]; rfl
  · rw [hL]
    exact (bIter_good (step := dv) (es := evs E.toNat) (U := fun _ => True) (fun _ _ _ _ => trivial) trivial K).nodup
theorem LeastOf.accepts {E : Int} {X : Lg} {o : Mach} (h0 : 0 ≤ E) (h8 : E ≤ 8) (h : LeastOf E X o) {w : List Int} (hw : ∀ x ∈ w, 0 ≤ x ∧ x < E) : AcceptsL o w ↔ X w := by
  obtain ⟨K, L, ar, hL, hl, hk, ha, rfl⟩ := h
  rw [(LeastOf.gdet h0 h8 hL hl hk ha).accepts hw, dv_fold]
  show X (w ++ []) ↔ X w
  rw [List.append_nil]
theorem LeastOf.isDet {E : Int} {X : Lg} {o : Mach} (h0 : 0 ≤ E) (h8 : E ≤ 8) (h : LeastOf E X o) : IsDet o := by
  obtain ⟨K, L, ar, hL, hl, hk, ha, rfl⟩ := h
  exact (LeastOf.gdet h0 h8 hL hl hk ha).isDet _
theorem LeastOf.events {E : Int} {X : Lg} {o : Mach} (h : LeastOf E X o) : o.events = E := by
  obtain ⟨K, L, ar, hL, hl, hk, ha, rfl⟩ := h
  rfl
end Go.Proofs.YtcjedgiglimipaaDoor
