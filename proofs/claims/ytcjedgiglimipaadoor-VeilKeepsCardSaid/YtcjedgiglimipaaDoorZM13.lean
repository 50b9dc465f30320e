/-
  Machines made of what is gone through, of whatever kind: determined; and the least machine of a language. In plain Lean. No program in sight.
-/
import Derived.Test.YtcjedgiglimipaaDoorZM12
import Derived.Test.YtcjedgiglimipaaDoorZM11
namespace Go.Proofs.YtcjedgiglimipaaDoor
set_option linter.unusedSimpArgs false
set_option linter.unusedVariables false
set_option linter.unusedSectionVars false
open Go.RowKit

theorem arr_atG {S : Type} {step : S → Int → S} {n K : Nat} {L : List S} {ar : List Arr} (h : Arrows step (evs n) K 0 L ar) {i : Nat} (hi : i < K * n) :
    ∃ (j : Nat) (s : S), ar.getD i default = ⟨((i / n : Nat) : Int), ((i % n : Nat) : Int), j⟩ ∧ L[i / n]? = some s ∧ L[j]? = some (step s ((i % n : Nat) : Int)) := by
  have hl : ar.length = K * n := by rw [h.len (Nat.zero_le _), evs_len]; rfl
  have h1 : (ar.map fun a => (a.frm, a.evt))[i]? = some (((i / n : Nat) : Int), ((i % n : Nat) : Int)) := by
    rw [h.1, prs_evs, List.getElem?_map, List.getElem?_range hi]; rfl
  have hg : ar[i]? = some (ar.getD i default) := by simp [List.getD_eq_getElem?_getD, hl, hi]
  rw [List.getElem?_map, hg] at h1
  have hm := h.2 _ (List.mem_of_getElem? hg)
  generalize ar.getD i default = a at *
  simp only [Option.map_some, Option.some.injEq, Prod.mk.injEq] at h1
  obtain ⟨i', j, s, e1, e2, e3, e4⟩ := hm
  obtain ⟨f1, f2⟩ := h1
  have : i' = i / n := by rw [f1] at e1; exact (Int.ofNat.inj e1).symm
  subst this
  refine ⟨j, s, ?_, e3, by rw [← f2]; exact e4⟩
  cases a; simp_all
section
variable {S : Type}
noncomputable def finAt (fin : S → Prop) (L : List S) (i : Nat) : Bool := @decide (∃ s, L[i]? = some s ∧ fin s) (Classical.propDecidable _)
theorem finAt_iff {fin : S → Prop} {L : List S} {i : Nat} : finAt fin L i = true ↔ ∃ s, L[i]? = some s ∧ fin s := @decide_eq_true_iff _ (Classical.propDecidable _)
noncomputable def endsG (fin : S → Prop) (L : List S) (k : Nat) : List Int := ((List.range k).filter (finAt fin L)).map fun (i : Nat) => (i : Int)
theorem endsG_mem {fin : S → Prop} {L : List S} {k : Nat} {x : Int} : x ∈ endsG fin L k ↔ ∃ i : Nat, x = i ∧ i < k ∧ ∃ s, L[i]? = some s ∧ fin s := by
  unfold endsG
  simp only [List.mem_map, List.mem_filter, List.mem_range, finAt_iff]
  exact ⟨fun ⟨i, ⟨h1, h2⟩, h3⟩ => ⟨i, h3.symm, h1, h2⟩, fun ⟨i, h1, h2, h3⟩ => ⟨i, ⟨h2, h3⟩, h1.symm⟩⟩
theorem endsG_strict (fin : S → Prop) (L : List S) (k : Nat) : Strict (endsG fin L k) := by
  unfold endsG Strict
  rw [List.pairwise_map]
  exact (List.pairwise_lt_range.filter _).imp fun h => by omega
noncomputable def detG (E : Int) (fin : S → Prop) (L : List S) (ar : List Arr) : Mach := ⟨L.length, E, [0], ar, endsG fin L L.length⟩
structure GDet (E : Int) (step : S → Int → S) (first : S) (L : List S) (ar : List Arr) : Prop where
  n8 : E.toNat ≤ 8
  ev : ((E.toNat : Nat) : Int) = E
  l256 : L.length ≤ 256
  first : L[0]? = some first
  nodup : L.Nodup
  arrows : Arrows step (evs E.toNat) L.length 0 L ar
variable {E : Int} {step : S → Int → S} {first : S} {L : List S} {ar : List Arr} {fin : S → Prop}
theorem GDet.pos (h : GDet E step first L ar) : 0 < L.length := getElem?_lt h.first
theorem GDet.len (h : GDet E step first L ar) : ar.length = L.length * E.toNat := by rw [h.arrows.len (Nat.zero_le _), evs_len]; rfl
theorem GDet.at_ (h : GDet E step first L ar) {i : Nat} (hi : i < ar.length) :
    ∃ (j : Nat) (s : S), ar.getD i default = ⟨((i / E.toNat : Nat) : Int), ((i % E.toNat : Nat) : Int), j⟩ ∧ L[i / E.toNat]? = some s ∧ L[j]? = some (step s ((i % E.toNat : Nat) : Int)) := arr_atG h.arrows (by rw [← h.len]; exact hi)
theorem GDet.inj (h : GDet E step first L ar) {i j : Nat} {s : S} (hi : L[i]? = some s) (hj : L[j]? = some s) : i = j :=
  (List.getElem?_inj (getElem?_lt hi) h.nodup).1 (hi.trans hj.symm)
theorem GDet.may (h : GDet E step first L ar) (fin : S → Prop) : (detG E fin L ar).May := by
  have h0 := h.pos
  have h1 := h.l256
  have h8 := h.n8
  have he := h.ev
  refine ⟨?_, ?_, ?_, ?_, ?_, ?_, ?_, fun i hi => ?_⟩
  · show (1 : Int) ≤ (L.length : Int); omega
  · show (L.length : Int) ≤ 256; omega
  · show 0 ≤ E; omega
  · show E ≤ 8; omega
  · show ar.length ≤ 4096
    rw [h.len]
    have : L.length * E.toNat ≤ 256 * 8 := Nat.mul_le_mul h1 h8
    omega
  · intro i hi
    have hi : i < 1 := hi
    obtain rfl : i = 0 := by omega
    exact ⟨by show (0 : Int) ≤ 0; omega, by show (0 : Int) < (L.length : Int); omega, by show (0 : Int) < 2147483648; omega, fun hh => absurd hh (by decide)⟩
  · refine IsRow.of_strict (endsG_strict _ _ _) fun x hx => ?_
    obtain ⟨i, rfl, hi, _⟩ := endsG_mem.1 hx
    show 0 ≤ (i : Int) ∧ (i : Int) < (L.length : Int) ∧ (i : Int) < 2147483648
    omega
  · have hi : i < ar.length := hi
    obtain ⟨j, s, ha, hs, hj⟩ := h.at_ hi
    have q1 := getElem?_lt hs
    have q2 := getElem?_lt hj
    have hnp : 0 < E.toNat := by
      rw [h.len] at hi
      rcases Nat.eq_zero_or_pos E.toNat with c | c
      · rw [c] at hi; omega
      · exact c
    have q3 := Nat.mod_lt i hnp
    show Mach.ArrOk _ (ar.getD i default) ∧ (0 < i → (ar.getD (i - 1) default).lt (ar.getD i default))
    rw [ha]
    refine ⟨⟨⟨Int.natCast_nonneg _, Int.ofNat_lt.2 q1⟩, ⟨by show (0 : Int) ≤ (j : Int); omega, by show (j : Int) < (L.length : Int); omega⟩, Int.natCast_nonneg _, by show ((i % E.toNat : Nat) : Int) < E; rw [← he]; exact Int.ofNat_lt.2 q3⟩, fun hp => ?_⟩
    obtain ⟨j', s', ha', _, _⟩ := h.at_ (i := i - 1) (by omega)
    rw [ha']
    have d1 := Nat.div_add_mod i E.toNat
    have d2 := Nat.div_add_mod (i - 1) E.toNat
    have d3 : (i - 1) / E.toNat ≤ i / E.toNat := Nat.div_le_div_right (by omega)
    generalize i / E.toNat = a at *
    generalize (i - 1) / E.toNat = b at *
    generalize i % E.toNat = c at *
    generalize (i - 1) % E.toNat = e at *
    rcases Nat.lt_or_ge b a with hb | hb
    · exact .inl (by show (b : Int) < (a : Int); omega)
    · obtain rfl : b = a := by omega
      exact .inr ⟨rfl, .inl (by show (e : Int) < (c : Int); omega)⟩
theorem GDet.next (h : GDet E step first L ar) {p : Nat} {s : S} (hp : L[p]? = some s) {e : Int} (h0 : 0 ≤ e) (h1 : e < E) : ∃ j : Nat, L[j]? = some (step s e) ∧ stepL (detG E fin L ar) [(p : Int)] e = [(j : Int)] := by
  have he := h.ev
  have hpl := getElem?_lt hp
  obtain ⟨e', rfl⟩ : ∃ e' : Nat, e = (e' : Int) := ⟨e.toNat, by omega⟩
  have he' : e' < E.toNat := by omega
  have hi : p * E.toNat + e' < ar.length := by
    rw [h.len]
    have : (p + 1) * E.toNat ≤ L.length * E.toNat := Nat.mul_le_mul_right _ hpl
    rw [Nat.succ_mul] at this
    omega
  have hnp : 0 < E.toNat := by omega
  have e1 : (p * E.toNat + e') / E.toNat = p := by rw [Nat.mul_comm, Nat.mul_add_div hnp, Nat.div_eq_of_lt he']; rfl
  have e2 : (p * E.toNat + e') % E.toNat = e' := by rw [Nat.mul_comm, Nat.mul_add_mod, Nat.mod_eq_of_lt he']
  obtain ⟨j, s', ha, hs, hj⟩ := h.at_ hi
  rw [e1, e2] at ha
  rw [e1, hp] at hs
  obtain rfl := Option.some.inj hs
  rw [e2] at hj
  refine ⟨j, hj, ?_⟩
  refine Strict.ext (sortedL_spec _).1 (List.pairwise_singleton _ _) fun x => ?_
  unfold stepL
  rw [(sortedL_spec _).2, List.mem_singleton]
  unfold stepT
  constructor
  · intro hx
    obtain ⟨a, hm, rfl⟩ := List.mem_map.1 hx
    obtain ⟨hm, hc⟩ := List.mem_filter.1 hm
    rw [Bool.and_eq_true, decide_eq_true_eq, decide_eq_true_eq, List.mem_singleton] at hc
    obtain ⟨i', j', s', f1, f2, f3, f4⟩ := h.arrows.2 a hm
    obtain rfl : i' = p := by have := hc.2; rw [f1] at this; exact Int.ofNat.inj this
    rw [hp] at f3
    obtain rfl := Option.some.inj f3
    rw [hc.1] at f4
    rw [f2, h.inj f4 hj]
  · rintro rfl
    refine List.mem_map.2 ⟨ar.getD (p * E.toNat + e') default, List.mem_filter.2 ⟨getD_mem ar default _ hi, ?_⟩, by rw [ha]⟩
    rw [ha]
    simp
theorem GDet.after (h : GDet E step first L ar) : ∀ (word : List Int) {p : Nat} {s : S}, L[p]? = some s → (∀ x ∈ word, 0 ≤ x ∧ x < E) → ∃ j : Nat, L[j]? = some (word.foldl step s) ∧ afterL (detG E fin L ar) [(p : Int)] word = [(j : Int)]
  | [], p, s, hp, _ => ⟨p, hp, rfl⟩
  | e :: word, p, s, hp, hw => by
    obtain ⟨j, hj, hs⟩ := h.next (fin := fin) hp (hw e (List.mem_cons_self ..)).1 (hw e (List.mem_cons_self ..)).2
    obtain ⟨j', hj', hs'⟩ := GDet.after h word hj fun x hx => hw x (List.mem_cons_of_mem _ hx)
    refine ⟨j', hj', ?_⟩
    show afterL (detG E fin L ar) (stepL (detG E fin L ar) [(p : Int)] e) word = _
    rw [hs, hs']
theorem GDet.accepts (h : GDet E step first L ar) {word : List Int} (hw : ∀ x ∈ word, 0 ≤ x ∧ x < E) : AcceptsL (detG E fin L ar) word ↔ fin (word.foldl step first) := by
  obtain ⟨j, hj, hs⟩ := h.after (fin := fin) word h.first hw
  have hjl := getElem?_lt hj
  unfold AcceptsL
  rw [show afterL (detG E fin L ar) (detG E fin L ar).starts word = [(j : Int)] from hs]
  show MeetL [(j : Int)] (endsG fin L L.length) ↔ _
  constructor
  · rintro ⟨x, hx, hx2⟩
    rw [List.mem_singleton.1 hx] at hx2
    obtain ⟨i, hi, _, t, ht, hM⟩ := endsG_mem.1 hx2
    obtain rfl : j = i := Int.ofNat.inj hi
    rw [hj] at ht
    rwa [Option.some.inj ht]
  · intro hM
    exact ⟨j, by simp, endsG_mem.2 ⟨j, rfl, hjl, _, hj, hM⟩⟩
end

abbrev Lg := List Int → Prop
noncomputable instance : DecidableEq Lg := fun _ _ => Classical.propDecidable _
def dv (X : Lg) (e : Int) : Lg := fun u => X (e :: u)
theorem dv_fold : ∀ (w : List Int) (X : Lg), w.foldl dv X = fun u => X (w ++ u)
  | [], _ => rfl
  | e :: w, X => by rw [List.foldl_cons, dv_fold w]; rfl
/-- What is accepted from some states on. -/
def langS (m : Mach) (s : List Int) : Lg := fun u => (∀ x ∈ u, 0 ≤ x ∧ x < m.events) ∧ MeetL (afterL m s u) m.ends
theorem dv_lang (m : Mach) (s : List Int) {e : Int} (h0 : 0 ≤ e) (h1 : e < m.events) : dv (langS m s) e = langS m (stepL m s e) := by
  funext u
  show ((∀ x ∈ e :: u, 0 ≤ x ∧ x < m.events) ∧ MeetL (afterL m s (e :: u)) m.ends) = _
  refine propext ⟨fun ⟨h, k⟩ => ⟨fun x hx => h x (List.mem_cons_of_mem _ hx), k⟩, fun ⟨h, k⟩ => ⟨fun x hx => ?_, k⟩⟩
  rcases List.mem_cons.1 hx with rfl | hx
  · exact ⟨h0, h1⟩
  · exact h x hx
/-- The least machine of a language. -/
def LeastOf (E : Int) (X : Lg) (o : Mach) : Prop :=
  ∃ (K : Nat) (L : List Lg) (ar : List Arr), L = (bIter dv (evs E.toNat) X K).map (·.1) ∧ L.length = K ∧ K ≤ 256 ∧ Arrows dv (evs E.toNat) K 0 L ar ∧ o = detG E (fun Y : Lg => Y []) L ar
theorem LeastOf.gdet {E : Int} {X : Lg} {K : Nat} {L : List Lg} {ar : List Arr} (h0 : 0 ≤ E) (h8 : E ≤ 8) (hL : L = (bIter dv (evs E.toNat) X K).map (·.1)) (hl : L.length = K) (hk : K ≤ 256) (ha : Arrows dv (evs E.toNat) K 0 L ar) : GDet E dv X L ar := by
  refine ⟨by omega, by omega, by omega, ?_, ?_, by rw [hl]; exact ha⟩
  · rw [hL, List.getElem?_map, prefix_getElem? (bIter_prefix (step := dv) (es := evs E.toNat) X (Nat.zero_le K)) (bIter_pos _ _)]; rfl
  · rw [hL]
    exact (bIter_good (step := dv) (es := evs E.toNat) (U := fun _ => True) (fun _ _ _ _ => trivial) trivial K).nodup
theorem LeastOf.accepts {E : Int} {X : Lg} {o : Mach} (h0 : 0 ≤ E) (h8 : E ≤ 8) (h : LeastOf E X o) {w : List Int} (hw : ∀ x ∈ w, 0 ≤ x ∧ x < E) : AcceptsL o w ↔ X w := by
  obtain ⟨K, L, ar, hL, hl, hk, ha, rfl⟩ := h
  rw [(LeastOf.gdet h0 h8 hL hl hk ha).accepts hw, dv_fold]
  show X (w ++ []) ↔ X w
  rw [List.append_nil]
theorem LeastOf.events {E : Int} {X : Lg} {o : Mach} (h : LeastOf E X o) : o.events = E := by
  obtain ⟨K, L, ar, hL, hl, hk, ha, rfl⟩ := h
  rfl
end Go.Proofs.YtcjedgiglimipaaDoor

/-
  Chapter 5's reference: what unseen events lead to; where a machine may be when an event was seen: by their contracts.
-/
namespace Go.Proofs.YtcjedgiglimipaaDoor
set_option linter.unusedSimpArgs false
set_option linter.unusedVariables false
set_option linter.unusedSectionVars false
open Go.RowKit

theorem wide_snoc {seen : List Int} {m : Mach} {l : List Int} {k j : Nat} (hk : k ≤ l.length) (q : Int) (h : ∀ j, j < k → ∀ p ∈ unE m seen, p.1 = l.getD j 0 → p.2 ∈ l) : ∀ j, j < k → ∀ p ∈ unE m seen, p.1 = (l ++ [q]).getD j 0 → p.2 ∈ l ++ [q] := fun j hj p hp e => by
  rw [getD_append_left _ _ _ _ (by omega)] at e
  exact List.mem_append_left _ (h j hj p hp e)
theorem ref5_Wide {w : World} {a : MV} {m : Mach} (h : IsM (· < w.heap.size) w a m) (hm : m.May) {A1 : Option Addr} {c1 : Nat} {l0 : List Int} (h1 : Ints (· < w.heap.size) w A1 l0) (hl0 : IsRow l0 m.states) {A2 : Option Addr} {c2 : Nat} {seen : List Int} (h2 : Ints (· < w.heap.size) w A2 seen) (n2 : seen.length ≤ 17592186043904) :
    Cal Tryd.prog 56 [a.val m, .slice A1 l0.length c1, .slice A2 seen.length c2] w fun v w' => ∃ O co, v = .slice O (wideL m seen l0).length co ∧ OwnI w.heap.size 3 w' O co (wideL m seen l0) ∧ Below w.heap.size w w' := by
  have hst : m.states ≤ 256 := hm.2.1
  have nA := hm.2.2.2.2.1
  have hlen0 := hl0.len
  refine cal_ref5_Wide (by simp) 100000 fun Q hQ => ?_
  simp (disch := first | with_reducible assumption | omega) only [push_cast, x_blk, x_cd, ↓reduceIte, Nat.reduceEqDiff, List.map_cons, List.map_nil, Int.reduceEq, Int.lt_irrefl, F_ref5_Wide]
  refine blk_of (box_agg _ (a.cells m)) ?_
  intro w1 k1 b1 z1
  have b0 : Below w1.heap.size w1 (w1.alloc (.cells [].toArray 3)) := (Below.refl _ _).alloc (Nat.le_refl _) _
  have o0 : OwnI w1.heap.size 3 (w1.alloc (.cells [].toArray 3)) (some ⟨w1.heap.size, 0, none⟩) 0 [] := ⟨World.ownsRow_made w1 #[] 0 (Nat.le_refl _) (by decide) (by simp)⟩
  simp (disch := first | with_reducible assumption | omega) only [push_cast, x_blk, x_cd, ↓reduceIte, Nat.reduceEqDiff, List.map_cons, List.map_nil, Int.reduceEq, Int.lt_irrefl, bs0_22]
  generalize w1.alloc (Obj.cells [].toArray 3) = w2 at *
  have k2 := k1.below b0 k1.lt
  refine app_ints (l := []) slT_22 o0 (h1.up (b1.trans (b0.mono b1.size))) (by simp; omega) b0.size ?_
  intro O3 c3 w3 o3 g3 _ z3
  have b3 := g3.below b0 b0.size o0.geB
  rw [List.nil_append] at o3
  rw [show ([] : List Int).length + l0.length = l0.length by simp]
  have hG0 : RG (unE m seen) l0 m.states l0 := ⟨Strict.nodup hl0.strict, row_range hl0, fun x hx => hx, fun x hx => .base x hx⟩
  simp (disch := first | with_reducible assumption | omega) only [push_cast, x_blk, x_cd, ↓reduceIte, Nat.reduceEqDiff, List.map_cons, List.map_nil, Int.reduceEq, Int.lt_irrefl]
  refine loop_rule (fun f' w' => ∃ (k : Nat) (l : List Int) (O : Option Addr) (co : Nat), k ≤ l.length ∧ (f' 2 = .slice A2 seen.length c2 ∧ f' 3 = .pointer (some ⟨w.heap.size, 0, none⟩) ∧ f' 7 = .slice O l.length co ∧ f' 8 = .int .i64 k) ∧ RG (unE m seen) l0 m.states l ∧ (∀ j, j < k → ∀ p ∈ unE m seen, p.1 = l.getD j 0 → p.2 ∈ l) ∧ OwnI w1.heap.size 3 w' O co l ∧ Below w1.heap.size w1 w')
    (fun f' _ => 257 - (intOf (f' 8)).toNat) ⟨0, l0, O3, c3, Nat.zero_le _, ⟨rfl, rfl, rfl, rfl⟩, hG0, fun j hj => absurd hj (by omega), o3, b3⟩ ?_
  clear o3 b3 g3 hG0 k2
  rintro f w4 ⟨k, l, O, co, hkl, fr, hG, hcl, ho, bb⟩ J hJ
  have hlen := hG.len
  have hmu : (intOf (f 8)).toNat = k := by rw [fr.2.2.2]; simp [intOf]
  by_cases hlt : k < l.length
  case neg =>
    have hke : k = l.length := by omega
    have hdone := hG.done hst fun p hp hin => by
      obtain ⟨j, hj, hje⟩ := (mem_iff_getD l 0 p.1).1 hin
      exact hcl j (by omega) p hp hje.symm
    simp (disch := first | with_reducible assumption | omega) only [push_cast, x_blk, x_cd, ↓reduceIte, Nat.reduceEqDiff, List.map_cons, List.map_nil, Int.reduceEq, Int.lt_irrefl, L_ref5_Wide_1, fr, hlt]
    refine call_of (ref1_Sorted (Ints.lt (OwnI.ints ho)) co (by omega)) ?_
    rintro v w5 ⟨A5, c5, rfl, o5, b5⟩
    rw [hdone] at o5 ⊢
    simp (disch := first | with_reducible assumption | omega) only [push_cast, x_blk, x_cd, ↓reduceIte, Nat.reduceEqDiff, List.map_cons, List.map_nil, Int.reduceEq, Int.lt_irrefl]
    exact fin_1 (hQ _ _ ⟨A5, c5, rfl, o5.base (by have := bb.size; omega), b1.trans ((bb.trans (b5.mono bb.size)).mono b1.size)⟩)
  simp (disch := first | with_reducible assumption | omega) only [push_cast, x_blk, x_cd, ↓reduceIte, Nat.reduceEqDiff, List.map_cons, List.map_nil, Int.reduceEq, Int.lt_irrefl, L_ref5_Wide_1, fr, hlt]
  refine loop_rule (fun f' w' => ∃ (j : Nat) (l : List Int) (O : Option Addr) (co : Nat), j ≤ m.arrows.length ∧ k < l.length ∧ (f' 2 = .slice A2 seen.length c2 ∧ f' 3 = .pointer (some ⟨w.heap.size, 0, none⟩) ∧ f' 7 = .slice O l.length co ∧ f' 8 = .int .i64 k ∧ f' 9 = .int .i64 j) ∧ RG (unE m seen) l0 m.states l ∧ (∀ j, j < k → ∀ p ∈ unE m seen, p.1 = l.getD j 0 → p.2 ∈ l) ∧
      (∀ i, i < j → (m.arrows.getD i default).evt ∉ seen → (m.arrows.getD i default).frm = l.getD k 0 → (m.arrows.getD i default).to_ ∈ l) ∧ OwnI w1.heap.size 3 w' O co l ∧ Below w1.heap.size w1 w')
    (fun f' _ => m.arrows.length - (intOf (f' 9)).toNat) ⟨0, l, O, co, Nat.zero_le _, hlt, (by simp only [push_cast, ↓reduceIte, Nat.reduceEqDiff, true_and, and_true, and_self, eq_self, fr]), hG, hcl, fun i hi => absurd hi (by omega), ho, bb⟩ ?_
  clear hG hcl ho bb fr hlt hkl hlen
  rintro f w5 ⟨j, l, O, co, hj, hkl, fr, hG, hcl, hp, ho, bb⟩ J2 hJ2
  have kM := k1.below bb k1.lt
  have hlen := hG.len
  have bw := b1.trans (bb.mono b1.size)
  by_cases hjt : j < m.arrows.length
  case neg =>
    have hjm : j = m.arrows.length := by omega
    have hcl2 : ∀ j, j < k + 1 → ∀ p ∈ unE m seen, p.1 = l.getD j 0 → p.2 ∈ l := fun j' hj' p hp' e => by
      by_cases ej : j' = k
      · subst ej
        obtain ⟨x, hx, hux, rfl⟩ := mem_eds.1 hp'
        obtain ⟨i, hi, rfl⟩ := (mem_iff_getD m.arrows default x).1 hx
        exact hp i (by omega) (by simpa [unA] using hux) e
      · exact hcl j' (by omega) p hp' e
    simp (disch := first | with_reducible assumption | omega) only [push_cast, x_blk, x_cd, ↓reduceIte, Nat.reduceEqDiff, List.map_cons, List.map_nil, Int.reduceEq, Int.lt_irrefl, L_ref5_Wide_0, fr, hjt, kM.m3 ty_ag_23]
    exact hJ _ _ ⟨k + 1, l, O, co, by omega, (by simp only [push_cast, ↓reduceIte, Nat.reduceEqDiff, true_and, and_true, and_self, eq_self, fr]), hG, hcl2, ho, bb⟩ (by rw [hmu]; simp only [push_cast, ↓reduceIte, Nat.reduceEqDiff, intOf, fr]; omega)
  have hA := ((h.up bw).arrows).isSome (by omega)
  have hldA := fun {K : Fr → World → Prop} {f : Fr} {d : Option Nat} {w : World} => ((h.up bw).arrows).ldA (K := K) (f := f) (d := d) (w := w) ty_ag_85 ty_sz_85 j hjt
  have hym := getD_mem m.arrows default j hjt
  have hyr := (May.arr hm hym).2.1
  have hnx : ∀ z : List Int, z.getD k 0 = l.getD k 0 → ((m.arrows.getD j default).evt ∉ seen → (m.arrows.getD j default).frm = l.getD k 0 → (m.arrows.getD j default).to_ ∈ z) → (∀ i, i < j → (m.arrows.getD i default).evt ∉ seen → (m.arrows.getD i default).frm = l.getD k 0 → (m.arrows.getD i default).to_ ∈ z) → ∀ i, i < j + 1 → (m.arrows.getD i default).evt ∉ seen → (m.arrows.getD i default).frm = z.getD k 0 → (m.arrows.getD i default).to_ ∈ z := fun z hz h1 h2 i hi => by
    rw [hz]
    exact if e : i = j then e ▸ h1 else h2 i (by omega)
  have hed : (m.arrows.getD j default).evt ∉ seen → ((m.arrows.getD j default).frm, (m.arrows.getD j default).to_) ∈ unE m seen := fun hs => mem_eds.2 ⟨_, hym, by simpa [unA] using hs, rfl⟩
  generalize m.arrows.getD j default = y at *
  have hxm := getD_mem l 0 k hkl
  simp (disch := first | with_reducible assumption | omega) only [push_cast, x_blk, x_cd, ↓reduceIte, Nat.reduceEqDiff, List.map_cons, List.map_nil, Int.reduceEq, Int.lt_irrefl, L_ref5_Wide_0, fr, hjt, kM.m3 ty_ag_23, hldA]
  refine blk_of al_85 ?_
  intro w6 k6 b6 z6
  simp (disch := first | with_reducible assumption | omega) only [push_cast, x_blk, x_cd, ↓reduceIte, Nat.reduceEqDiff, List.map_cons, List.map_nil, Int.reduceEq, Int.lt_irrefl]
  refine sto_blk k6 (cs := arrCells y) ty_sz_85 rfl (by simp [arrCells, Value.oneCell']) ?_
  intro w7 k7 g7 z7
  have b7 : Below w5.heap.size w5 w7 := g7.below b6 (by omega) (by intro a ha; injection ha with ha; subst ha; exact Nat.le_refl _)
  replace ho := ho.below b7 (Nat.le_refl _)
  replace bb := bb.trans (b7.mono bb.size)
  have sd : Same w7 w7.drew := (Same.refl w7).drew
  replace k7 := k7.same sd
  replace ho := ho.same sd
  replace bb := bb.trans (sd.below _)
  generalize hu : w7.drew = u at *
  have bw := b1.trans (bb.mono b1.size)
  have hI := Ints.lt (OwnI.ints ho)
  have hAo := hI.isSome (by omega)
  have hldx := fun {K : Fr → World → Prop} {f : Fr} {d : Option Nat} {w : World} => hI.ld (P := Tryd.prog) (K := K) (f := f) (d := d) (w := w) ty_ag_3 k hkl
  generalize hx : l.getD k 0 = x at *
  by_cases c1 : y.frm = x
  case neg =>
    simp (disch := first | with_reducible assumption | omega) only [push_cast, x_blk, x_cd, ↓reduceIte, Nat.reduceEqDiff, List.map_cons, List.map_nil, Int.reduceEq, Int.lt_irrefl, fr, hu, hkl, hldx, k7.a0 ty_ag_3, c1]
    refine ⟨Below.refl _ _, Below.refl _ _, ?_⟩
    exact hJ2 _ _ ⟨j + 1, l, O, co, hjt, hkl, (by simp only [push_cast, ↓reduceIte, Nat.reduceEqDiff, true_and, and_true, and_self, eq_self, fr]), hG, hcl, hnx l hx (fun _ e => absurd e c1) hp, ho, bb⟩ (by simp only [push_cast, ↓reduceIte, Nat.reduceEqDiff, intOf, fr]; omega)
  simp (disch := first | with_reducible assumption | omega) only [push_cast, x_blk, x_cd, ↓reduceIte, Nat.reduceEqDiff, List.map_cons, List.map_nil, Int.reduceEq, Int.lt_irrefl, fr, hu, hkl, hldx, k7.a0 ty_ag_3, c1, eq_self, k7.a1 ty_ag_3]
  refine call_of (ref1_Has (h2.up bw) c2 y.evt (by omega)) ?_
  rintro v w8 ⟨rfl, s8⟩
  replace ho := ho.same s8
  replace bb := bb.trans (s8.below _)
  by_cases c2' : y.evt ∈ seen
  · simp (disch := first | with_reducible assumption | omega) only [push_cast, x_blk, x_cd, ↓reduceIte, Nat.reduceEqDiff, List.map_cons, List.map_nil, Int.reduceEq, Int.lt_irrefl, decide_eq_true c2', fr]
    refine ⟨s8.below _, s8.below _, ?_⟩
    exact hJ2 _ _ ⟨j + 1, l, O, co, hjt, hkl, (by simp only [push_cast, ↓reduceIte, Nat.reduceEqDiff, true_and, and_true, and_self, eq_self, fr]), hG, hcl, hnx l hx (fun e => absurd c2' e) hp, ho, bb⟩ (by simp only [push_cast, ↓reduceIte, Nat.reduceEqDiff, intOf, fr]; omega)
  simp (disch := first | with_reducible assumption | omega) only [push_cast, x_blk, x_cd, ↓reduceIte, Nat.reduceEqDiff, List.map_cons, List.map_nil, Int.reduceEq, Int.lt_irrefl, decide_eq_false c2', fr, k7.a2 ty_ag_3]
  refine ⟨s8.below _, ?_⟩
  refine call_of (ref1_Has (Ints.lt (OwnI.ints ho)) co y.to_ (by omega)) ?_
  rintro v w9 ⟨rfl, s9⟩
  have k9 := (k7.same s8).same s9
  replace ho := ho.same s9
  replace bb := bb.trans (s9.below _)
  replace s8 := s8.trans s9
  by_cases c3 : y.to_ ∈ l
  · simp (disch := first | with_reducible assumption | omega) only [push_cast, x_blk, x_cd, ↓reduceIte, Nat.reduceEqDiff, List.map_cons, List.map_nil, Int.reduceEq, Int.lt_irrefl, decide_eq_true c3, fr]
    refine ⟨s8.below _, ?_⟩
    exact hJ2 _ _ ⟨j + 1, l, O, co, hjt, hkl, (by simp only [push_cast, ↓reduceIte, Nat.reduceEqDiff, true_and, and_true, and_self, eq_self, fr]), hG, hcl, hnx l hx (fun _ _ => c3) hp, ho, bb⟩ (by simp only [push_cast, ↓reduceIte, Nat.reduceEqDiff, intOf, fr]; omega)
  simp (disch := first | with_reducible assumption | omega) only [push_cast, x_blk, x_cd, ↓reduceIte, Nat.reduceEqDiff, List.map_cons, List.map_nil, Int.reduceEq, Int.lt_irrefl, decide_eq_false c3, fr, k9.a2 ty_ag_3, bs_22]
  refine ⟨s8.below _, ?_⟩
  refine app_int slT_22 ho _ (by omega) bb.size ?_
  intro A' c' w10 ho' hg' hA' hs' hz'
  simp (disch := first | with_reducible assumption | omega) only [push_cast, x_blk, x_cd, ↓reduceIte, Nat.reduceEqDiff, List.map_cons, List.map_nil, Int.reduceEq, Int.lt_irrefl, fr]
  exact hJ2 _ _ ⟨j + 1, l ++ [y.to_], A', c', hjt, by simp; omega, (by simp only [push_cast, ↓reduceIte, Nat.reduceEqDiff, true_and, and_true, and_self, eq_self, fr, List.length_append, List.length_cons, List.length_nil]), hG.snoc (hed c2') (by rw [c1]; exact hxm) c3 hyr, wide_snoc (j := 0) (by omega) _ hcl, hnx _ (by rw [getD_append_left _ _ _ _ hkl, hx]) (fun _ _ => by simp) (fun i hi h1 h2 => List.mem_append_left _ (hp i hi h1 h2)), ho', hg'.below bb bb.size ho.geB⟩ (by simp only [push_cast, ↓reduceIte, Nat.reduceEqDiff, intOf, fr]; omega)
theorem ref5_Seeing {w : World} {a : MV} {m : Mach} (h : IsM (· < w.heap.size) w a m) (hm : m.May) (hf : m.Fits) {A1 : Option Addr} {c1 : Nat} {l0 : List Int} (h1 : Ints (· < w.heap.size) w A1 l0) (n1 : l0.length ≤ 17592186043904) {A2 : Option Addr} {c2 : Nat} {seen : List Int} (h2 : Ints (· < w.heap.size) w A2 seen) (n2 : seen.length ≤ 17592186043904) (e : Int) :
    Cal Tryd.prog 57 [a.val m, .slice A1 l0.length c1, .slice A2 seen.length c2, .int .i64 e] w fun v w' => ∃ O co, v = .slice O (seeL m seen l0 e).length co ∧ OwnI w.heap.size 3 w' O co (seeL m seen l0 e) ∧ Below w.heap.size w w' := by
  refine cal_ref5_Seeing (by simp) 100000 fun Q hQ => ?_
  simp (disch := first | with_reducible assumption | omega) only [push_cast, x_blk, x_cd, ↓reduceIte, Nat.reduceEqDiff, List.map_cons, List.map_nil, Int.reduceEq, Int.lt_irrefl, F_ref5_Seeing]
  refine blk_of (box_agg _ (a.cells m)) ?_
  intro w1 k1 b1 z1
  simp (disch := first | with_reducible assumption | omega) only [push_cast, x_blk, x_cd, ↓reduceIte, Nat.reduceEqDiff, List.map_cons, List.map_nil, Int.reduceEq, Int.lt_irrefl, k1.mA ty_ag_25 ty_sz_25]
  refine call_of (ref2_Step (h.up b1) hf (h1.up b1) n1 e) ?_
  rintro v w2 ⟨A3, c3, rfl, o3, b3⟩
  replace k1 := k1.below b3 k1.lt
  have bb := b1.trans (b3.mono b1.size)
  simp (disch := first | with_reducible assumption | omega) only [push_cast, x_blk, x_cd, ↓reduceIte, Nat.reduceEqDiff, List.map_cons, List.map_nil, Int.reduceEq, Int.lt_irrefl, k1.mA ty_ag_25 ty_sz_25]
  refine call_of (ref5_Wide (h.up bb) hm (Ints.lt (OwnI.ints o3)) (stepL_row hm l0 e) (h2.up bb) n2) ?_
  rintro v w3 ⟨O, co, rfl, o4, b4⟩
  simp (disch := first | with_reducible assumption | omega) only [push_cast, x_blk, x_cd, ↓reduceIte, Nat.reduceEqDiff, List.map_cons, List.map_nil, Int.reduceEq, Int.lt_irrefl]
  exact fin_1 (hQ _ _ ⟨O, co, rfl, o4.base bb.size, bb.trans (b4.mono bb.size)⟩)
end Go.Proofs.YtcjedgiglimipaaDoor

/-
  Chapter 5's reference: the machine of what is seen: by its contract.
-/
namespace Go.Proofs.YtcjedgiglimipaaDoor
set_option linter.unusedSimpArgs false
set_option linter.unusedVariables false
set_option linter.unusedSectionVars false
open Go.RowKit

end Go.Proofs.YtcjedgiglimipaaDoor

/-
  Chapter 2: the program's Join of two sets: by its contract.
-/
namespace Go.Proofs.YtcjedgiglimipaaDoor
set_option linter.unusedSimpArgs false
set_option linter.unusedVariables false
set_option linter.unusedSectionVars false
open Go.RowKit

theorem Grew.of_below {w w' : World} (b : Below w.heap.size w w') (A : Option Addr) : Grew w w' A := ⟨⟨b.os, b.tape, b.output, b.size, fun k hk _ => b.block k hk⟩⟩
theorem Grew.trans' {w w1 w2 : World} {A : Option Addr} (h : Grew w w1 A) (k : Grew w1 w2 A) : Grew w w2 A :=
  ⟨⟨k.by_.os.trans h.by_.os, k.by_.tape.trans h.by_.tape, k.by_.output.trans h.by_.output, Nat.le_trans h.by_.size k.by_.size, fun i hi hne => (k.by_.block i (Nat.lt_of_lt_of_le hi h.by_.size) hne).trans (h.by_.block i hi hne)⟩⟩
/-- The first i words of either. -/
structure OrAt (a b : List Nat) (i : Nat) (ws : List Nat) : Prop where
  len : ws.length = 4
  at_ : ∀ k, ws.getD k 0 = if k < i then a.getD k 0 ||| b.getD k 0 else a.getD k 0
theorem OrAt.start {a : List Nat} (ha : a.length = 4) (b : List Nat) : OrAt a b 0 a := ⟨ha, fun k => by rw [if_neg (by omega)]⟩
theorem OrAt.step {a b ws : List Nat} {i : Nat} (h : OrAt a b i ws) (hi : i < 4) : OrAt a b (i + 1) (ws.set i (ws.getD i 0 ||| b.getD i 0)) := by
  refine ⟨by rw [List.length_set]; exact h.len, fun k => ?_⟩
  rw [getD_set _ _ _ _ _ (by rw [h.len]; exact hi)]
  by_cases e : k = i
  · subst e
    rw [if_pos rfl, if_pos (by omega), h.at_, if_neg (by omega)]
  · rw [if_neg e, h.at_]
    by_cases c : k < i
    · rw [if_pos c, if_pos (by omega)]
    · rw [if_neg c, if_neg (by omega)]
theorem OrAt.words {s t : List Int} {i : Nat} {ws : List Nat} (h : OrAt (wordsOf s) (wordsOf t) i ws) : Words ws := ⟨h.len, fun k => by
  rw [h.at_]
  split
  · exact Nat.or_lt_two_pow ((wordsOf_words s).2 k) ((wordsOf_words t).2 k)
  · exact (wordsOf_words s).2 k⟩
theorem OrAt.done {s t : List Int} {ws : List Nat} (h : OrAt (wordsOf s) (wordsOf t) 4 ws) : ws = wordsOf (s ++ t) := by
  refine words_eq h.words fun n hn => ?_
  unfold setHas
  rw [h.at_, if_pos (by omega), Nat.testBit_or]
  have h1 := wordsOf_has s n hn
  have h2 := wordsOf_has t n hn
  unfold setHas at h1 h2
  rw [h1, h2, ← Bool.decide_or]
  exact decide_eq_decide.2 (by rw [List.mem_append])
theorem cells_set (ws : List Nat) (i z : Nat) : (setCells ws).set i (.int .u64 (z : Int)) = setCells (ws.set i z) := by
  unfold setCells
  rw [List.map_set]
theorem set_Join {l l2 : List Int} {w : World} {g : Nat} (hk : Blk w g 76 (setCells (wordsOf l))) :
    Cal Tryd.prog 96 [.pointer (some ⟨g, 0, none⟩), setV l2] w fun v w' => v = .tuple #[] ∧ Blk w' g 76 (setCells (wordsOf (l ++ l2))) ∧ Grew w w' (some ⟨g, 0, none⟩) := by
  refine cal_machine_Set_Join (by simp) 100000 fun Q hQ => ?_
  have hgl := hk.lt
  simp (disch := first | with_reducible assumption | omega) only [push_cast, x_blk, x_cd, ↓reduceIte, Nat.reduceEqDiff, List.map_cons, List.map_nil, Int.reduceEq, Int.lt_irrefl, F_machine_Set_Join]
  refine blk_of (box_agg _ (setCells (wordsOf l2))) ?_
  intro w1 k1 b1 z1
  have k0 := hk.below b1 hk.lt
  simp (disch := first | with_reducible assumption | omega) only [push_cast, x_blk, x_cd, ↓reduceIte, Nat.reduceEqDiff, List.map_cons, List.map_nil, Int.reduceEq, Int.lt_irrefl]
  refine loop_rule (fun f w' => ∃ (i : Nat) (ws : List Nat), i ≤ 4 ∧ (f 0 = .pointer (some ⟨g, 0, none⟩) ∧ f 3 = .pointer (some ⟨w.heap.size, 0, none⟩) ∧ f 5 = .int .i64 i) ∧ OrAt (wordsOf l) (wordsOf l2) i ws ∧
      Blk w' g 76 (setCells ws) ∧ Blk w' w.heap.size 76 (setCells (wordsOf l2)) ∧ Grew w w' (some ⟨g, 0, none⟩))
    (fun f _ => 4 - (intOf (f 5)).toNat) ⟨0, wordsOf l, by omega, ⟨rfl, rfl, rfl⟩, OrAt.start (wordsOf_words l).1 _, k0, k1, Grew.of_below b1 _⟩ ?_
  rintro f w2 ⟨i, ws, hi, fr, hw, kg, kb, gr⟩ J hJ
  by_cases hlt : (i : Int) < 4
  case neg =>
    have hie : i = 4 := by omega
    have hd := (hie ▸ hw : OrAt _ _ 4 ws).done
    subst hd
    simp (disch := first | with_reducible assumption | omega) only [push_cast, x_blk, x_cd, ↓reduceIte, Nat.reduceEqDiff, List.map_cons, List.map_nil, Int.reduceEq, Int.lt_irrefl, L_machine_Set_Join_0, fr, hlt]
    exact fin_0 (hQ _ _ ⟨rfl, kg, gr⟩)
  have hi4 : i < 4 := by omega
  have kgd := kg.drew
  have kbd := kb.drew
  have hx : ws.getD i 0 < 2 ^ 64 := hw.words.2 i
  have hy := (wordsOf_words l2).2 i
  have hstp := hw.step hi4
  have hww := hw.words
  generalize hu : ws.getD i 0 = x at *
  generalize hv : (wordsOf l2).getD i 0 = y at *
  generalize hz : x ||| y = z at *
  simp (disch := first | with_reducible assumption | omega) only [push_cast, x_blk, x_cd, ↓reduceIte, Nat.reduceEqDiff, List.map_cons, List.map_nil, Int.reduceEq, Int.lt_irrefl, L_machine_Set_Join_0, fr, hlt, Int.natCast_nonneg, bin_or' hz hx hy, kgd.word' hww ty_ag_74 i hi4 hu, kbd.word' (wordsOf_words l2) ty_ag_74 i hi4 hv]
  refine sto_cell kgd (by kernel_rfl) i (by rw [setCells_len, hw.len]; exact hi4) .u64 (z : Int) ?_
  intro w5 k5 g5 z5
  rw [cells_set] at k5
  simp (disch := first | with_reducible assumption | omega) only [push_cast, x_blk, x_cd, ↓reduceIte, Nat.reduceEqDiff, List.map_cons, List.map_nil, Int.reduceEq, Int.lt_irrefl, fr]
  exact hJ _ _ ⟨i + 1, _, by omega, (by simp only [push_cast, ↓reduceIte, Nat.reduceEqDiff, true_and, and_true, and_self, eq_self, fr]), hstp, k5, kbd.grown g5.by_ (by simp; omega), (gr.trans' (Grew.of_below ((Same.refl w2).drew.below _) _)).trans' g5⟩ (by simp only [push_cast, ↓reduceIte, Nat.reduceEqDiff, intOf, fr]; omega)
end Go.Proofs.YtcjedgiglimipaaDoor

/-
  Where states lead to, row by row, in place: one row joined to all that have its number, number by number. In plain Lean. No program in sight.
-/
namespace Go.Proofs.YtcjedgiglimipaaDoor
set_option linter.unusedSimpArgs false
set_option linter.unusedVariables false
set_option linter.unusedSectionVars false
open Go.RowKit

/-- t is in the s-th row. -/
def Mw (L : List (List Int)) (s : Nat) (t : Int) : Prop := t ∈ L.getD s []
noncomputable instance (L : List (List Int)) (s : Nat) (t : Int) : Decidable (Mw L s t) := Classical.propDecidable _
end Go.Proofs.YtcjedgiglimipaaDoor

/-
  Chapter 5: the program's wide: where each state leads to while nothing is seen: rows of sets in one block, each set changed in place: by its contract; and what is seen of a word.
-/
namespace Go.Proofs.YtcjedgiglimipaaDoor
set_option linter.unusedSimpArgs false
set_option linter.unusedVariables false
set_option linter.unusedSectionVars false
open Go.RowKit

section
variable {P : Program} {K : Fr → World → Prop} {f : Fr} {d : Option Nat} {u w w' : World} {g : Nat} {t ty e bytes : Nat}
theorem e_makeSlice' (t : TypeId) (l c : Operand) : EffX P K (.makeSlice t l c) ty f d w = Eff1 P K (Instr.makeSlice t (ev f l) (ev f c)) f d w := by simp [EffX, valOf]
end
section
variable {P : Program} {K : Fr → World → Prop} {f : Fr} {d : Option Nat} {u w w' : World} {g : Nat} {t ty : Nat} {ws : List Nat} {L1 L2 : List Value}
end
end Go.Proofs.YtcjedgiglimipaaDoor

/-
  Chapter 8: kinds of states of a determined machine, round by round; in plain Lean. And maps whose keys are signs.
-/
namespace Go.Proofs.YtcjedgiglimipaaDoor
set_option linter.unusedSimpArgs false
set_option linter.unusedVariables false
set_option linter.unusedSectionVars false
open Go.RowKit

structure DM (d : Mach) (D E : Nat) : Prop where
  st : d.states = D
  ev : d.events = E
  d0 : 0 < D
  dn : D ≤ 256
  e8 : E ≤ 8
  len : d.arrows.length = D * E
  to : ∀ i, i < D * E → 0 ≤ (d.arrows.getD i default).to_ ∧ (d.arrows.getD i default).to_ < D
  ends : IsRow d.ends D
def dl (d : Mach) (E s e : Nat) : Nat := ((d.arrows.getD (s * E + e) default).to_).toNat
def dfin (d : Mach) (s : Nat) : Prop := (s : Int) ∈ d.ends
theorem DM.at_ {d : Mach} {D E : Nat} (_h : DM d D E) {s e : Nat} (hs : s < D) (he : e < E) : s * E + e < D * E := by
  have : (s + 1) * E ≤ D * E := Nat.mul_le_mul_right _ hs
  rw [Nat.add_mul] at this
  omega
theorem DM.dl_lt {d : Mach} {D E : Nat} (h : DM d D E) {s e : Nat} (hs : s < D) (he : e < E) : dl d E s e < D := by
  have := h.to _ (h.at_ hs he)
  unfold dl; omega
/-- A state's sign, as far as it is written. -/
def sgP (d : Mach) (E : Nat) (p : List Int) (s j : Nat) : List Int := p.getD s 0 :: (List.range 8).map fun e => if e < j then p.getD (dl d E s e) 0 else 0
def sg (d : Mach) (E : Nat) (p : List Int) (s : Nat) : List Int := sgP d E p s E
theorem sg_eq {d : Mach} {E : Nat} (hE : E ≤ 8) {p : List Int} {s t : Nat} : sg d E p s = sg d E p t ↔ (p.getD s 0 = p.getD t 0 ∧ ∀ e, e < E → p.getD (dl d E s e) 0 = p.getD (dl d E t e) 0) := by
  unfold sg sgP
  rw [List.cons.injEq]
  refine and_congr_right fun _ => ⟨fun h e he => ?_, fun h => ?_⟩
  · have := congrArg (fun l => l[e]?) h
    simp only [List.getElem?_map, List.getElem?_range (show e < 8 by omega), Option.map_some, Option.some.injEq, if_pos he] at this
    exact this
  · refine List.map_congr_left fun e _ => ?_
    by_cases he : e < E
    · rw [if_pos he, if_pos he, h e he]
    · rw [if_neg he, if_neg he]
/-- The signs of the states below n, each once, as they come. -/
def gs (d : Mach) (E : Nat) (p : List Int) : Nat → List (List Int)
  | 0 => []
  | n + 1 => if sg d E p n ∈ gs d E p n then gs d E p n else gs d E p n ++ [sg d E p n]
theorem mem_gs {d : Mach} {E : Nat} {p : List Int} : ∀ {n : Nat} {x : List Int}, x ∈ gs d E p n ↔ ∃ s, s < n ∧ sg d E p s = x
  | 0, x => by simp [gs]
  | n + 1, x => by
    have ih := mem_gs (d := d) (E := E) (p := p) (n := n) (x := x)
    show x ∈ (if _ then _ else _) ↔ _
    split
    · rename_i h
      rw [ih]
      refine ⟨fun ⟨s, hs, e⟩ => ⟨s, by omega, e⟩, fun ⟨s, hs, e⟩ => ?_⟩
      by_cases c : s = n
      · subst c
        obtain ⟨s', h1, h2⟩ := (mem_gs (n := s) (x := sg d E p s)).1 h
        exact ⟨s', h1, h2.trans e⟩
      · exact ⟨s, by omega, e⟩
    · rw [List.mem_append, List.mem_singleton, ih]
      refine ⟨fun h => h.elim (fun ⟨s, hs, e⟩ => ⟨s, by omega, e⟩) fun e => ⟨n, by omega, e.symm⟩, fun ⟨s, hs, e⟩ => ?_⟩
      by_cases c : s = n
      · subst c; exact .inr e.symm
      · exact .inl ⟨s, by omega, e⟩
theorem gs_nodup (d : Mach) (E : Nat) (p : List Int) : ∀ n, (gs d E p n).Nodup
  | 0 => List.nodup_nil
  | n + 1 => by
    show (if _ then _ else _ : List (List Int)).Nodup
    split
    · exact gs_nodup d E p n
    · rename_i h
      refine List.nodup_append.2 ⟨gs_nodup d E p n, by simp, fun a ha b hb e => ?_⟩
      rw [List.mem_singleton.1 hb] at e
      exact h (e ▸ ha)
theorem gs_cnt (d : Mach) (E : Nat) (p : List Int) : ∀ n, (gs d E p n).length = cnt (sg d E p) n
  | 0 => rfl
  | n + 1 => by
    rw [cnt_succ, ← gs_cnt d E p n]
    show (if _ then _ else _ : List (List Int)).length = _
    have : NewIn (sg d E p) n ↔ sg d E p n ∉ gs d E p n := ⟨fun h hm => by
      obtain ⟨s, hs, e⟩ := mem_gs.1 hm
      exact h s hs e, fun h s hs e => h (mem_gs.2 ⟨s, hs, e⟩)⟩
    split
    · rename_i h
      rw [if_neg (fun hn => this.1 hn h)]; rfl
    · rename_i h
      rw [if_pos (this.2 h), List.length_append]; rfl
theorem gs_prefix (d : Mach) (E : Nat) (p : List Int) {n k : Nat} (h : n ≤ k) : gs d E p n <+: gs d E p k := by
  obtain ⟨m, rfl⟩ := Nat.le.dest h
  clear h
  induction m with
  | zero => exact List.prefix_refl _
  | succ m ih =>
    refine ih.trans ?_
    show gs d E p (n + m) <+: (if _ then _ else _)
    split
    · exact List.prefix_refl _
    · exact List.prefix_append _ _
/-- A list whose s-th number is the s-th state's sign's place among the signs. -/
structure NextIs (d : Mach) (E : Nat) (p : List Int) (n : Nat) (q : List Int) : Prop where
  at_ : ∀ s, s < n → ∃ i : Nat, (gs d E p n)[i]? = some (sg d E p s) ∧ q.getD s 0 = i
theorem NextIs.same {d : Mach} {E n : Nat} {p q : List Int} (h : NextIs d E p n q) {s t : Nat} (hs : s < n) (ht : t < n) : q.getD s 0 = q.getD t 0 ↔ sg d E p s = sg d E p t := by
  obtain ⟨i, hi, e1⟩ := h.at_ s hs
  obtain ⟨j, hj, e2⟩ := h.at_ t ht
  rw [e1, e2]
  constructor
  · intro e
    obtain rfl : i = j := by omega
    rw [hi] at hj
    injection hj
  · intro e
    rw [e] at hi
    have hl : i < (gs d E p n).length := (List.getElem?_eq_some_iff.1 hi).1
    rw [(List.getElem?_inj hl (gs_nodup d E p n)).1 (hi.trans hj.symm)]
theorem NextIs.le {d : Mach} {E n : Nat} {p q : List Int} (h : NextIs d E p n q) {s : Nat} (hs : s < n) : 0 ≤ q.getD s 0 ∧ q.getD s 0 ≤ n := by
  obtain ⟨i, hi, e⟩ := h.at_ s hs
  have := (List.getElem?_eq_some_iff.1 hi).1
  have h2 := gs_cnt d E p n
  have h3 := cnt_le (sg d E p) n
  omega
theorem NextIs.step {d : Mach} {E n : Nat} {p q : List Int} (h : NextIs d E p n q) {i : Nat} (hi : (gs d E p (n + 1))[i]? = some (sg d E p n)) (hq : n < q.length) : NextIs d E p (n + 1) (q.set n (i : Int)) := by
  refine ⟨fun s hs => ?_⟩
  by_cases c : s = n
  · subst c
    exact ⟨i, hi, by rw [List.getD_eq_getElem?_getD, List.getElem?_set, if_pos rfl, if_pos hq]; rfl⟩
  · obtain ⟨j, hj, e⟩ := h.at_ s (by omega)
    refine ⟨j, prefix_getElem? (gs_prefix d E p (Nat.le_succ n)) (List.getElem?_eq_some_iff.1 hj).1 |>.trans hj, ?_⟩
    rw [List.getD_eq_getElem?_getD, List.getElem?_set, if_neg (fun h => c h.symm), ← List.getD_eq_getElem?_getD, e]
/-- p tells apart just what words of up to r events do. -/
def PartIs (d : Mach) (D E r : Nat) (p : List Int) : Prop := ∀ s t, s < D → t < D → (p.getD s 0 = p.getD t 0 ↔ eqk E (dl d E) (dfin d) r s t)
theorem PartIs.next {d : Mach} {D E r : Nat} (hd : DM d D E) {p q : List Int} (h : PartIs d D E r p) (hq : NextIs d E p D q) : PartIs d D E (r + 1) q := fun s t hs ht => by
  rw [hq.same hs ht, sg_eq hd.e8, eqk_succ, h s t hs ht]
  exact and_congr_right fun _ => forall_congr' fun e => forall_congr' fun he => h _ _ (hd.dl_lt hs he) (hd.dl_lt ht he)
theorem sg_finer {d : Mach} {E : Nat} (hE : E ≤ 8) {p : List Int} {D : Nat} : ∀ s t, s < D → t < D → sg d E p s = sg d E p t → p.getD s 0 = p.getD t 0 := fun _ _ _ _ h => ((sg_eq hE).1 h).1
/-- As many as before: no word tells more apart. -/
theorem PartIs.done {d : Mach} {D E r : Nat} (hd : DM d D E) {p q : List Int} (h : PartIs d D E r p) (hq : NextIs d E p D q) (hc : cnt (fun s => p.getD s 0) D = (gs d E p D).length) {s t : Nat} (hs : s < D) (ht : t < D) :
    q.getD s 0 = q.getD t 0 ↔ eqA E (dl d E) (dfin d) s t := by
  rw [gs_cnt] at hc
  have hst : ∀ s t, s < D → t < D → eqk E (dl d E) (dfin d) r s t → eqk E (dl d E) (dfin d) (r + 1) s t := fun s t hs ht hk => by
    have e1 := (h s t hs ht).2 hk
    have e2 := kinds_same (sg_finer (D := D) hd.e8) hc hs ht e1
    exact (h.next hd hq s t hs ht).1 ((hq.same hs ht).2 e2)
  rw [h.next hd hq s t hs ht]
  exact ⟨fun hk => eqk_stable (fun s hs e he => hd.dl_lt hs he) hst hs ht (eqk_succ.1 hk).1, fun hk => eqA_iff.1 hk _⟩
end Go.Proofs.YtcjedgiglimipaaDoor

/-
  Chapter 8: a determined machine's states by their languages; what the least machine's makers go through; in plain Lean.
-/
namespace Go.Proofs.YtcjedgiglimipaaDoor
set_option linter.unusedSimpArgs false
set_option linter.unusedVariables false
set_option linter.unusedSectionVars false
open Go.RowKit

theorem DM.of {m : Mach} {L : List (List Int)} {ar : List Arr} (h : Det m L ar) : DM (detOf m L ar) L.length m.events.toNat := by
  have hmay := h.may
  refine ⟨rfl, h.ev.symm, h.pos, h.l256, h.n8, h.len, fun i hi => ?_, hmay.2.2.2.2.2.2.1⟩
  have h2 : i < (detOf m L ar).arrows.length := by show i < ar.length; rw [h.len]; exact hi
  have := May.arr hmay (getD_mem _ default i h2)
  exact this.2.1
theorem dm_step {m : Mach} {L : List (List Int)} {ar : List Arr} (h : Det m L ar) {s e : Nat} (hs : s < L.length) (he : e < m.events.toNat) :
    stepL (detOf m L ar) [(s : Int)] (e : Int) = [(dl (detOf m L ar) m.events.toNat s e : Int)] := by
  have hd := DM.of h
  have hat := hd.at_ hs he
  obtain ⟨j, hj, hst⟩ := h.step (p := s) (s := L[s]'hs) (List.getElem?_eq_getElem hs) (e := (e : Int)) (by omega) (by have := h.ev; omega)
  obtain ⟨j', s', ha, _, _⟩ := h.at_ (i := s * m.events.toNat + e) (by rw [h.len]; exact hat)
  have he0 : 0 < m.events.toNat := by omega
  have e1 : (s * m.events.toNat + e) / m.events.toNat = s := by rw [Nat.mul_comm, Nat.mul_add_div he0, Nat.div_eq_of_lt he]; omega
  have e2 : (s * m.events.toNat + e) % m.events.toNat = e := by rw [Nat.mul_comm, Nat.mul_add_mod, Nat.mod_eq_of_lt he]
  rw [e1, e2] at ha
  have hmem : (⟨(s : Int), (e : Int), j'⟩ : Arr) ∈ (detOf m L ar).arrows := by
    show _ ∈ ar
    rw [← ha]
    exact getD_mem _ _ _ (by rw [h.len]; exact hat)
  have hin : (j' : Int) ∈ stepL (detOf m L ar) [(s : Int)] (e : Int) := mem_stepL.2 ⟨_, hmem, rfl, by simp, rfl⟩
  rw [hst] at hin ⊢
  have : dl (detOf m L ar) m.events.toNat s e = j' := by
    unfold dl
    show (((ar.getD (s * m.events.toNat + e) default)).to_).toNat = j'
    rw [ha]; simp
  rw [this, List.mem_singleton.1 hin]
/-- The language from a state on. -/
def lgS (d : Mach) (s : Nat) : Lg := langS d [(s : Int)]
theorem dm_dv {m : Mach} {L : List (List Int)} {ar : List Arr} (h : Det m L ar) {s e : Nat} (hs : s < L.length) (he : e < m.events.toNat) : dv (lgS (detOf m L ar) s) (e : Int) = lgS (detOf m L ar) (dl (detOf m L ar) m.events.toNat s e) := by
  unfold lgS
  rw [dv_lang _ _ (by omega) (by show (e : Int) < m.events; have := h.ev; omega), dm_step h hs he]
theorem dm_first {m : Mach} {L : List (List Int)} {ar : List Arr} (h : Det m L ar) : lgS (detOf m L ar) 0 = langS m m.starts := by
  funext u
  by_cases hu : ∀ x ∈ u, 0 ≤ x ∧ x < m.events
  · obtain ⟨_, _, _, h2⟩ := h.accepts (word := u) fun i hi => hu _ (getD_mem u 0 i hi)
    exact propext ⟨fun hh => ⟨hu, h2.1 hh.2⟩, fun hh => ⟨hu, h2.2 hh.2⟩⟩
  · exact propext ⟨fun hh => absurd hh.1 hu, fun hh => absurd hh.1 hu⟩
noncomputable def ndL (m : Mach) (L : List (List Int)) (ar : List Arr) (fs : List Nat) : List Lg := fs.map (lgS (detOf m L ar))
abbrev nilG : Lg → Prop := fun Y => Y []
structure LQ (m : Mach) (L : List (List Int)) (ar : List Arr) (k j : Nat) (fs : List Nat) (ao : List Arr) : Prop where
  eq : ndL m L ar fs = (bPart dv (evs m.events.toNat) (langS m m.starts) k j).map (·.1)
  lt : ∀ s ∈ fs, s < L.length
  arr : Arrows dv (evs m.events.toNat) k j (ndL m L ar fs) ao
section
variable {m : Mach} {L : List (List Int)} {ar : List Arr} {k j : Nat} {fs : List Nat} {ao : List Arr}
theorem ndL_at {i s : Nat} (h : fs[i]? = some s) : (ndL m L ar fs)[i]? = some (lgS (detOf m L ar) s) := by unfold ndL; rw [List.getElem?_map, h]; rfl
theorem LQ.start (h : Det m L ar) : LQ m L ar 0 0 [0] [] := ⟨by
  show [lgS (detOf m L ar) 0] = _
  rw [dm_first h]; rfl, fun s hs => by rw [List.mem_singleton.1 hs]; exact h.pos, ⟨rfl, by simp⟩⟩
theorem LQ.len (h : LQ m L ar k j fs ao) : fs.length ≤ L.length := by
  have hn : (ndL m L ar fs).Nodup := by
    rw [h.eq]
    exact (bPart_good (step := dv) (es := evs m.events.toNat) (U := fun _ => True) (fun _ _ _ _ => trivial) trivial k j).nodup
  refine nodup_nat_len L.length fs ?_ h.lt
  unfold ndL at hn
  rw [List.nodup_iff_pairwise_ne, List.pairwise_map] at hn
  rw [List.nodup_iff_pairwise_ne]
  exact hn.imp fun hh e => hh (by rw [e])
theorem LQ.pair (h : LQ m L ar k j fs ao) {s : Nat} (hk : fs[k]? = some s) : ∃ q, (bPart dv (evs m.events.toNat) (langS m m.starts) k j)[k]? = some q ∧ q.1 = lgS (detOf m L ar) s := by
  have h1 := ndL_at (m := m) (L := L) (ar := ar) hk
  rw [h.eq, List.getElem?_map] at h1
  cases hq : (bPart dv (evs m.events.toNat) (langS m m.starts) k j)[k]? with
  | none => rw [hq] at h1; cases h1
  | some q => rw [hq] at h1; exact ⟨q, rfl, Option.some.inj h1⟩
theorem LQ.old (hD : Det m L ar) (h : LQ m L ar k j fs ao) (hj : j < m.events.toNat) {s : Nat} (hk : fs[k]? = some s) {i u : Nat} (hi : fs[i]? = some u) (he : lgS (detOf m L ar) u = lgS (detOf m L ar) (dl (detOf m L ar) m.events.toNat s j)) :
    LQ m L ar k (j + 1) fs (ao ++ [⟨k, j, i⟩]) := by
  have hs := h.lt s (List.mem_of_getElem? hk)
  obtain ⟨q, hq, hq1⟩ := h.pair hk
  have hej := evs_at _ _ hj
  have hdv := dm_dv hD hs hj
  have hsucc := bPart_succ dv (evs m.events.toNat) (langS m m.starts) k j (by rw [evs_len]; exact hj)
  rw [hej, bAdd_old hq (by rw [hq1, hdv, ← he, ← h.eq]; exact List.mem_of_getElem? (ndL_at hi))] at hsucc
  refine ⟨by rw [hsucc]; exact h.eq, h.lt, ?_⟩
  have := h.arr.add (i := i) (by rw [evs_len]; exact hj) (ndL_at hk) (by rw [hej, hdv, ← he]; exact ndL_at hi)
  rwa [hej] at this
theorem LQ.new (hD : Det m L ar) (h : LQ m L ar k j fs ao) (hj : j < m.events.toNat) {s : Nat} (hk : fs[k]? = some s) (hno : ∀ u ∈ fs, lgS (detOf m L ar) u ≠ lgS (detOf m L ar) (dl (detOf m L ar) m.events.toNat s j)) :
    LQ m L ar k (j + 1) (fs ++ [dl (detOf m L ar) m.events.toNat s j]) (ao ++ [⟨k, j, fs.length⟩]) := by
  have hs := h.lt s (List.mem_of_getElem? hk)
  obtain ⟨q, hq, hq1⟩ := h.pair hk
  have hej := evs_at _ _ hj
  have hdv := dm_dv hD hs hj
  have hsucc := bPart_succ dv (evs m.events.toNat) (langS m m.starts) k j (by rw [evs_len]; exact hj)
  have hnm : dv q.1 (j : Int) ∉ (bPart dv (evs m.events.toNat) (langS m m.starts) k j).map (·.1) := by
    rw [hq1, hdv, ← h.eq]
    intro hm
    obtain ⟨u, hu, e⟩ := List.mem_map.1 hm
    exact hno u hu e
  rw [hej, bAdd_new hq hnm] at hsucc
  have hnd : ndL m L ar (fs ++ [dl (detOf m L ar) m.events.toNat s j]) = ndL m L ar fs ++ [lgS (detOf m L ar) (dl (detOf m L ar) m.events.toNat s j)] := by unfold ndL; rw [List.map_append]; rfl
  refine ⟨by rw [hsucc, hnd, List.map_append, h.eq, List.map_singleton, hq1, hdv], fun u hu => ?_, ?_⟩
  · rcases List.mem_append.1 hu with hu | hu
    · exact h.lt u hu
    · rw [List.mem_singleton.1 hu]; exact (DM.of hD).dl_lt hs hj
  · have hl : (ndL m L ar fs).length = fs.length := List.length_map ..
    have := (h.arr.more (lgS (detOf m L ar) (dl (detOf m L ar) m.events.toNat s j))).add (i := fs.length) (by rw [evs_len]; exact hj) (s := lgS (detOf m L ar) s) (by rw [List.getElem?_append_left (by rw [hl]; exact (List.getElem?_eq_some_iff.1 hk).1)]; exact ndL_at hk)
      (by rw [hej, hdv, ← hl]; simp)
    rw [hej] at this
    rw [hnd]; exact this
theorem LQ.round (h : LQ m L ar k m.events.toNat fs ao) : LQ m L ar (k + 1) 0 fs ao := by
  have h1 := bPart_all (step := dv) (es := evs m.events.toNat) (langS m m.starts) k
  rw [evs_len] at h1
  refine ⟨by rw [h.eq, h1]; rfl, h.lt, ⟨?_, h.arr.2⟩⟩
  have h2 := h.arr.1
  rw [h2, ← prs_all, evs_len]
theorem LQ.done (h : LQ m L ar k 0 fs ao) (hl : L.length ≤ 256) (hk : fs.length = k) : LeastOf m.events (langS m m.starts) ⟨k, m.events, [0], ao, endsG nilG (ndL m L ar fs) k⟩ := by
  have hn : (ndL m L ar fs).length = k := by unfold ndL; rw [List.length_map, hk]
  have hle := h.len
  refine ⟨k, ndL m L ar fs, ao, h.eq, hn, by omega, h.arr, ?_⟩
  unfold detG
  rw [hn]
end
/-- A map from parts to places. -/
def kvP (p : List Int) (fs : List Nat) : List (Value × Value) := fs.zipIdx.map fun q => (Value.int .i64 (p.getD q.1 0), .int .i64 (q.2 : Int))
end Go.Proofs.YtcjedgiglimipaaDoor

/-
  Chapter 7: the program's Least, Within: by their contracts.
-/
namespace Go.Proofs.YtcjedgiglimipaaDoor
set_option linter.unusedSimpArgs false
set_option linter.unusedVariables false
set_option linter.unusedSectionVars false
open Go.RowKit

end Go.Proofs.YtcjedgiglimipaaDoor

/-
  Chapter 7: the reference's places: by their contracts.
  Chapter 7: the reference's Places, Without, Within: by their contracts.
  Chapter 7: the reference's Without, Within; the program's Within; the law WithinTells.
  Chapter 7: the program's Within and the reference's; the law WithinTells: it returns true.
-/
namespace Go.Proofs.YtcjedgiglimipaaDoor
set_option linter.unusedSimpArgs false
set_option linter.unusedVariables false
set_option linter.unusedSectionVars false
section
open Go.RowKit

structure P7 where
  A : Option Addr
  ca : Nat
  a : List Int
  B : Option Addr
  cb : Nat
  b : List Int
  W : Option Addr
  cw : Nat
  w : List Int
def P7.cells (p : P7) : List Value := [.slice p.A p.a.length p.ca, .slice p.B p.b.length p.cb, .slice p.W p.w.length p.cw]
def P7.abs (p : P7) : St × List Int := ((p.a, p.b), p.w)
structure P7.Good (B e : Nat) (w : World) (p : P7) : Prop where
  a : RowT B e w p.A p.a
  b : RowT B e w p.B p.b
  w : RowT B e w p.W p.w
  n : p.a.length ≤ 2147483648 ∧ p.b.length ≤ 2147483648 ∧ p.w.length ≤ 2147483648
theorem P7.Good.below {B e : Nat} {w w' : World} {p : P7} (h : P7.Good B e w p) (hb : Below w.heap.size w w') : P7.Good B e w' p := ⟨h.a.below hb, h.b.below hb, h.w.below hb, h.n⟩

end

section
open Go.RowKit

end

section
open Go.RowKit

end

section
open Go.RowKit

end
end Go.Proofs.YtcjedgiglimipaaDoor

/-
  Chapter 6: the reference's Is, Find: by their contracts.
  Chapter 6: the reference's Make, by its contract; the law DetermineMakes.
-/
namespace Go.Proofs.YtcjedgiglimipaaDoor
set_option linter.unusedSimpArgs false
set_option linter.unusedVariables false
set_option linter.unusedSectionVars false
section
open Go.RowKit

end

section
open Go.RowKit

end
end Go.Proofs.YtcjedgiglimipaaDoor

/-
  What lies in blocks that hold elements of some types, or that lay there at first, is kept while rows of other types grow. No program in sight.
-/
namespace Go.Proofs.YtcjedgiglimipaaDoor
set_option linter.unusedSimpArgs false
set_option linter.unusedVariables false
set_option linter.unusedSectionVars false
open Go.RowKit

def TyB (es : List Nat) (B : Nat) (w : World) (b : Nat) : Prop := b < w.heap.size ∧ (b < B ∨ ∃ e, e ∈ es ∧ ∃ cs r, w.heap[b]? = some (.cells cs e r))
structure KeepT (es : List Nat) (B : Nat) (w w' : World) : Prop where
  size : w.heap.size ≤ w'.heap.size
  at_ : ∀ b, TyB es B w b → w'.heap[b]? = w.heap[b]?
section
variable {es : List Nat} {B : Nat} {w w' : World} {A : Option Addr}
theorem TyB.lt {b : Nat} (h : TyB es B w b) : b < w.heap.size := h.1
theorem KeepT.tyb (k : KeepT es B w w') {b : Nat} (h : TyB es B w b) : TyB es B w' b := by
  refine ⟨Nat.lt_of_lt_of_le h.1 k.size, ?_⟩
  rcases h.2 with h2 | ⟨e, he, cs, r, h3⟩
  · exact .inl h2
  · exact .inr ⟨e, he, cs, r, by rw [k.at_ b h]; exact h3⟩
theorem KeepT.refl (w : World) : KeepT es B w w := ⟨Nat.le_refl _, fun _ _ => rfl⟩
theorem KeepT.trans {w2 : World} (h : KeepT es B w w') (k : KeepT es B w' w2) : KeepT es B w w2 := ⟨Nat.le_trans h.size k.size, fun b hb => (k.at_ b (h.tyb hb)).trans (h.at_ b hb)⟩
theorem KeepT.below (h : Below w.heap.size w w') : KeepT es B w w' := ⟨h.size, fun b hb => h.block b hb.1⟩
theorem KeepT.same (h : Same w w') : KeepT es B w w' := .below (h.below _)
theorem KeepT.grew {B' e' sz c n : Nat} {xs : List Value} (ho : Own B' e' sz w A c n xs) (hB : B ≤ B') (hne : e' ∉ es) (hg : Grew w w' A) : KeepT es B w w' :=
  ⟨hg.by_.size, fun b hb => hg.by_.block b hb.1 (by
    rcases ho.own.2 with ⟨h0, _⟩ | ⟨g, cap, cur, hv, hB', hh, _⟩
    · injection h0 with h0; subst h0; simp
    · injection hv with hv
      subst hv
      simp only [Option.map_some, ne_eq, Option.some.injEq]
      rintro rfl
      rcases hb.2 with h1 | ⟨e, he, cs, r, h1⟩
      · omega
      · rw [h1] at hh
        injection hh with hh
        injection hh with _ ht
        exact hne (ht ▸ he))⟩
theorem KeepT.grewB {g i t : Nat} {cs : List Value} (hk : Blk w g t cs) (hB : B ≤ g) (hne : t ∉ es) (hg : Grew w w' (some ⟨g, i, none⟩)) : KeepT es B w w' :=
  ⟨hg.by_.size, fun b hb => hg.by_.block b hb.1 (by
    simp only [Option.map_some, ne_eq, Option.some.injEq]
    rintro rfl
    rcases hb.2 with h1 | ⟨e, he, cs, r, h1⟩
    · omega
    · unfold Blk at hk
      rw [h1] at hk
      injection hk with hh
      injection hh with _ ht
      exact hne (ht ▸ he))⟩
theorem Ints.keepT {l : List Int} (h : Ints (TyB es B w) w A l) (k : KeepT es B w w') : Ints (TyB es B w') w' A l := h.keep' fun b hb => ⟨k.at_ b hb, k.tyb hb⟩
theorem Recs.keepT {α : Type} {enc : α → List Value} {sz : Nat} {l : List α} (h : Recs enc sz (TyB es B w) w A l) (k : KeepT es B w w') : Recs enc sz (TyB es B w') w' A l := h.keep' fun b hb => ⟨k.at_ b hb, k.tyb hb⟩
theorem Ints.tlt {l : List Int} (h : Ints (TyB es B w) w A l) : Ints (· < w.heap.size) w A l := h.mono fun _ hb => hb.1
theorem Recs.tlt {α : Type} {enc : α → List Value} {sz : Nat} {l : List α} (h : Recs enc sz (TyB es B w) w A l) : Recs enc sz (· < w.heap.size) w A l := h.mono fun _ hb => hb.1
theorem RowT.tyb {e : Nat} {l : List Int} (h : RowT B e w A l) (he : e ∈ es) : Ints (TyB es B w) w A l := h.ints.mono fun _ hb => ⟨hb.1, hb.2.imp id fun ⟨cs, r, hh⟩ => ⟨e, he, cs, r, hh⟩⟩
theorem Own.tyb {B' e sz c n : Nat} {xs : List Value} (h : Own B' e sz w A c n xs) (he : e ∈ es) {b : Nat} (hb : A.map (·.block) = some b) : TyB es B w b := by
  refine ⟨h.ltB hb.symm, .inr ⟨e, he, ?_⟩⟩
  rcases h.own.2 with ⟨h0, _⟩ | ⟨g, cap, cur, hv, hB', hh, _⟩
  · injection h0 with h0; subst h0; cases hb
  · injection hv with hv
    subst hv
    injection hb with hb
    simp only at hb
    subst hb
    exact ⟨_, _, hh⟩
theorem OwnI.tyb {B' e c : Nat} {l : List Int} (h : OwnI B' e w A c l) (he : e ∈ es) : Ints (TyB es B w) w A l := (OwnI.ints h).mono fun _ hb => Own.tyb h he hb.2
theorem OwnR.tyb {α : Type} {enc : α → List Value} {B' e sz c : Nat} {l : List α} (h : OwnR enc B' e sz w A c l) (E : Enc enc sz) (hs : 0 < sz) (he : e ∈ es) : Recs enc sz (TyB es B w) w A l := (OwnR.recs h E hs).mono fun _ hb => Own.tyb h he hb.2
/-- One of two rows of the same kind grows. -/
theorem Own.far {B1 e sz c n B2 e2 sz2 c2 n2 : Nat} {A2 A2' : Option Addr} {xs ys : List Value} (h : Own B1 e sz w A c n xs) (_ : Own B2 e2 sz2 w A2 c2 n2 ys) (hne : A = none ∨ A.map (·.block) ≠ A2.map (·.block))
    (hA : A2'.map (·.block) = A2.map (·.block) ∨ ∃ g, A2'.map (·.block) = some g ∧ w.heap.size ≤ g) : A = none ∨ A.map (·.block) ≠ A2'.map (·.block) := by
  rcases hne with hne | hne
  · exact .inl hne
  · rcases hA with hA | ⟨g, hg, hz⟩
    · exact .inr (by rw [hA]; exact hne)
    · cases A with
      | none => exact .inl rfl
      | some a =>
        refine .inr fun e => ?_
        rw [hg] at e
        have := h.ltB (b := g) e.symm
        omega
theorem far_symm {A A2 : Option Addr} (h : A = none ∨ A.map (·.block) ≠ A2.map (·.block)) : A2 = none ∨ A2.map (·.block) ≠ A.map (·.block) := by
  rcases h with rfl | h
  · cases A2 with
    | none => exact .inl rfl
    | some a => exact .inr (by simp)
  · exact .inr fun e => h e.symm
end
end Go.Proofs.YtcjedgiglimipaaDoor

/-
  Chapter 8: the program's Least: by its contract.
-/
namespace Go.Proofs.YtcjedgiglimipaaDoor
set_option linter.unusedSimpArgs false
set_option linter.unusedVariables false
set_option linter.unusedSectionVars false
open Go.RowKit

def ni (fs : List Nat) : List Int := fs.map fun (n : Nat) => (n : Int)
def Far (A A2 : Option Addr) : Prop := A = none ∨ A.map (·.block) ≠ A2.map (·.block)
theorem Far.symm {A A2 : Option Addr} (h : Far A A2) : Far A2 A := far_symm h
structure LW (wB : World) (go gM gS E : Nat) (p : List Int) (fs : List Nat) (ao : List Arr) (en : List Int) (A Aa Ae : Option Addr) (c ca ce : Nat) (w' : World) : Prop where
  mac : Blk w' go 25 (MV.cells ⟨some ⟨gS, 0, none⟩, 1, Aa, ca, Ae, ce⟩ ⟨0, E, [0], ao, en⟩)
  s0 : OwnI wB.heap.size 3 w' (some ⟨gS, 0, none⟩) 1 [0]
  fo : OwnI wB.heap.size 3 w' A c (ni fs)
  eo : OwnI wB.heap.size 3 w' Ae ce en
  ar : OwnR arrCells wB.heap.size 85 3 w' Aa ca ao
  map : MapIs Tryd.prog 3 w' gM (kvP p fs)
  sf : Far (some ⟨gS, 0, none⟩) A
  se : Far (some ⟨gS, 0, none⟩) Ae
  fe : Far A Ae
  bel : Below wB.heap.size wB w'
  go0 : wB.heap.size ≤ go
  gM0 : wB.heap.size ≤ gM
section
variable {wB : World} {go gM gS E : Nat} {p : List Int} {fs : List Nat} {ao : List Arr} {en : List Int} {A Aa Ae A' Aa' Ae' : Option Addr} {c ca ce c' ca' ce' : Nat} {w w1 w2 : World}
theorem LW.below (h : LW wB go gM gS E p fs ao en A Aa Ae c ca ce w) (b : Below w.heap.size w w1) : LW wB go gM gS E p fs ao en A Aa Ae c ca ce w1 :=
  ⟨h.mac.below b h.mac.lt, h.s0.below b (Nat.le_refl _), h.fo.below b (Nat.le_refl _), h.eo.below b (Nat.le_refl _), h.ar.below b (Nat.le_refl _), h.map.below b h.map.lt, h.sf, h.se, h.fe, h.bel.trans (b.mono h.bel.size), h.go0, h.gM0⟩
theorem LW.arr (h : LW wB go gM gS E p fs ao en A Aa Ae c ca ce w) {ao' : List Arr} (ho : OwnR arrCells wB.heap.size 85 3 w1 Aa' ca' ao') (g : Grew w w1 Aa) (hb1 : Blk w1 go 25 (MV.cells ⟨some ⟨gS, 0, none⟩, 1, Aa, ca, Ae, ce⟩ ⟨0, E, [0], ao, en⟩))
    (hk : Blk w2 go 25 (MV.cells ⟨some ⟨gS, 0, none⟩, 1, Aa', ca', Ae, ce⟩ ⟨0, E, [0], ao', en⟩)) (g2 : Grew w1 w2 (some ⟨go, 0, none⟩)) : LW wB go gM gS E p fs ao' en A Aa' Ae c ca' ce w2 := by
  have o1 := h.s0.grew g (Own.apart h.s0 h.ar (by decide))
  have o2 := h.fo.grew g (Own.apart h.fo h.ar (by decide))
  have o3 := h.eo.grew g (Own.apart h.eo h.ar (by decide))
  have m1 := h.map.grown g.by_ (h.map.ne_own h.ar)
  have bl := g.below h.bel h.bel.size h.ar.geB
  exact ⟨hk, o1.grew g2 (.inr (o1.ne_blk hb1 (by decide))), o2.grew g2 (.inr (o2.ne_blk hb1 (by decide))), o3.grew g2 (.inr (o3.ne_blk hb1 (by decide))), ho.grew g2 (.inr (ho.ne_blk hb1 (by decide))), m1.grown g2.by_ (by simpa using m1.ne_blk hb1), h.sf, h.se, h.fe, g2.below bl bl.size (by intro a ha; injection ha with ha; subst ha; exact h.go0), h.go0, h.gM0⟩
theorem LW.ends (h : LW wB go gM gS E p fs ao en A Aa Ae c ca ce w) {en' : List Int} (ho : OwnI wB.heap.size 3 w1 Ae' ce' en') (g : Grew w w1 Ae) (hA : Ae'.map (·.block) = Ae.map (·.block) ∨ ∃ g, Ae'.map (·.block) = some g ∧ w.heap.size ≤ g) (hb1 : Blk w1 go 25 (MV.cells ⟨some ⟨gS, 0, none⟩, 1, Aa, ca, Ae, ce⟩ ⟨0, E, [0], ao, en⟩))
    (hk : Blk w2 go 25 (MV.cells ⟨some ⟨gS, 0, none⟩, 1, Aa, ca, Ae', ce'⟩ ⟨0, E, [0], ao, en'⟩)) (g2 : Grew w1 w2 (some ⟨go, 0, none⟩)) : LW wB go gM gS E p fs ao en' A Aa Ae' c ca ce' w2 := by
  have o1 := h.s0.grew g h.se
  have o2 := h.fo.grew g h.fe
  have o3 := h.ar.grew g (Own.apart h.ar h.eo (by decide))
  have m1 := h.map.grown g.by_ (h.map.ne_own h.eo)
  have bl := g.below h.bel h.bel.size h.eo.geB
  exact ⟨hk, o1.grew g2 (.inr (o1.ne_blk hb1 (by decide))), o2.grew g2 (.inr (o2.ne_blk hb1 (by decide))), ho.grew g2 (.inr (ho.ne_blk hb1 (by decide))), o3.grew g2 (.inr (o3.ne_blk hb1 (by decide))), m1.grown g2.by_ (by simpa using m1.ne_blk hb1), h.sf, Own.far h.s0 h.eo h.se hA, Own.far h.fo h.eo h.fe hA, g2.below bl bl.size (by intro a ha; injection ha with ha; subst ha; exact h.go0), h.go0, h.gM0⟩
theorem LW.new (h : LW wB go gM gS E p fs ao en A Aa Ae c ca ce w) {t : Nat} (hm : MapIs Tryd.prog 3 w1 gM (kvP p (fs ++ [t]))) (g : Grew w w1 (some ⟨gM, 0, none⟩)) (hf1 : OwnI wB.heap.size 3 w1 A c (ni fs))
    (ho : OwnI wB.heap.size 3 w2 A' c' (ni (fs ++ [t]))) (g2 : Grew w1 w2 A) (hA : A'.map (·.block) = A.map (·.block) ∨ ∃ g, A'.map (·.block) = some g ∧ w1.heap.size ≤ g) : LW wB go gM gS E p (fs ++ [t]) ao en A' Aa Ae c' ca ce w2 := by
  have o1 := h.s0.grew g (.inr fun e => h.map.ne_own h.s0 e.symm)
  have o2 := h.eo.grew g (.inr fun e => h.map.ne_own h.eo e.symm)
  have o3 := h.ar.grew g (.inr fun e => h.map.ne_own h.ar e.symm)
  have k1 := h.mac.grown g.by_ (by have := h.map.ne_blk h.mac; simpa using fun e => this e.symm)
  have bl := g.below h.bel h.bel.size (by intro a ha; injection ha with ha; subst ha; exact h.gM0)
  exact ⟨k1.grown g2.by_ (fun e => hf1.ne_blk k1 (by decide) e.symm), o1.grew g2 h.sf, ho, o2.grew g2 h.fe.symm, o3.grew g2 (Own.apart o3 hf1 (by decide)), hm.grown g2.by_ (hm.ne_own hf1), Own.far o1 hf1 h.sf hA, h.se, far_symm (Own.far o2 hf1 h.fe.symm hA), g2.below bl bl.size hf1.geB, h.go0, h.gM0⟩
end
end Go.Proofs.YtcjedgiglimipaaDoor

/-
  Chapter 8's reference: where a state leads to; which states a word tells apart: by their contracts.
-/
namespace Go.Proofs.YtcjedgiglimipaaDoor
set_option linter.unusedSimpArgs false
set_option linter.unusedVariables false
set_option linter.unusedSectionVars false
open Go.RowKit

theorem mk_one {P : Program} {K : Fr → World → Prop} {w : World} {f : Fr} {d : Option Nat} {t e bytes : Nat} {z : Value} (hT : SlT P t e 1 bytes) (hb : bytes ≤ 1000) (hz : (P.info? e).bind (·.zero) = some z) (hc : z.cells = #[z]) (n : Nat) (hn : n ≤ 256)
    (hk : ∀ w', Blk w' w.heap.size e (List.replicate n z) → Below w.heap.size w w' → K (updO f d (.slice (some ⟨w.heap.size, 0, none⟩) n n)) w') :
    Eff1 P K (Instr.makeSlice t (.int .i64 (n : Int)) (.int .i64 (n : Int))) f d w := by
  obtain ⟨i, z', hi, hz', hsz, hby, _⟩ := hT.get
  have hz0 : z' = z := by rw [hi] at hz; simp [hz'] at hz; exact hz
  subst hz0
  obtain ⟨w', hr, ho, hg⟩ := run_makeSlice_full (P := P) (w := w) w.heap.size t e i _ 1 hT.under hi hz' hsz .i64 .i64 n (by omega) (by
    rw [hby]
    have : bytes * n ≤ 1000 * 256 := Nat.mul_le_mul hb hn
    omega) (by unfold maxLen; omega) (Nat.le_refl _)
  rw [eff1_of hr]
  refine hk w' ?_ ?_
  · have hl : (madeCells z'.cells (n * 1)).toList = List.replicate n z' := by rw [hc, toList_madeCells_one, Nat.mul_one]
    rw [hl] at ho
    rcases ho.2 with ⟨h1, _⟩ | ⟨g, cap, cur, h1, _, h3, _, _, h6, h7⟩
    · cases h1
    · injection h1 with h8 h9 h10
      injection h8 with h8
      injection h8 with h8
      subst h8 h10
      rw [← Array.length_toList] at h6
      rw [← h6, List.take_length] at h7
      show w'.heap[w.heap.size]? = _
      rw [h3, ← h7]
  · exact (Below.refl _ _).grown hg (Nat.le_refl _) (fun k hk => by cases hk)

def gb (B : List (List Bool)) (s t : Nat) : Bool := (B.getD s []).getD t false
def setT (B : List (List Bool)) (s t : Nat) : List (List Bool) := B.set s ((B.getD s []).set t true)
structure Sq (D : Nat) (B : List (List Bool)) : Prop where
  len : B.length = D
  row : ∀ s, s < D → (B.getD s []).length = D
theorem gb_setT {D : Nat} {B : List (List Bool)} (h : Sq D B) {s t : Nat} (hs : s < D) (ht : t < D) (s' t' : Nat) : gb (setT B s t) s' t' = if s' = s ∧ t' = t then true else gb B s' t' := by
  unfold gb setT
  rw [getD_set _ _ _ _ _ (by rw [h.len]; exact hs)]
  by_cases e : s' = s
  · subst e
    rw [if_pos rfl, getD_set _ _ _ _ _ (by rw [h.row s' hs]; exact ht)]
    by_cases e2 : t' = t
    · rw [if_pos e2, if_pos ⟨rfl, e2⟩]
    · rw [if_neg e2, if_neg (fun hh => e2 hh.2)]
  · rw [if_neg e, if_neg (fun hh => e hh.1)]
theorem Sq.setT {D : Nat} {B : List (List Bool)} (h : Sq D B) (s t : Nat) : Sq D (setT B s t) := by
  refine ⟨by unfold Go.Proofs.YtcjedgiglimipaaDoor.setT; rw [List.length_set]; exact h.len, fun s' hs' => ?_⟩
  unfold Go.Proofs.YtcjedgiglimipaaDoor.setT
  by_cases hs : s < D
  · rw [getD_set _ _ _ _ _ (by rw [h.len]; exact hs)]
    by_cases e : s' = s
    · rw [if_pos e, List.length_set]; exact h.row s hs
    · rw [if_neg e]; exact h.row s' hs'
  · rw [List.set_eq_of_length_le (by rw [h.len]; omega)]; exact h.row s' hs'
def prD (D : Nat) : List (Nat × Nat) := (List.range D).flatMap fun s => (List.range D).map fun t => (s, t)
/-- How many pairs are not apart. -/
def cF (D : Nat) (B : List (List Bool)) : Nat := (prD D).countP fun q => !gb B q.1 q.2
section
variable {d : Mach} {D E : Nat}
/-- What is in the table is apart; and what ends alone tell apart is in it. -/
structure Tb (d : Mach) (D E : Nat) (B : List (List Bool)) : Prop where
  sq : Sq D B
  sound : ∀ s t, s < D → t < D → gb B s t = true → ¬ eqA E (dl d E) (dfin d) s t
  ends : ∀ s t, s < D → t < D → gb B s t = false → (dfin d s ↔ dfin d t)
theorem Tb.add (hd : DM d D E) {B : List (List Bool)} (h : Tb d D E B) {s t e : Nat} (hs : s < D) (ht : t < D) (he : e < E) (hb : gb B (dl d E s e) (dl d E t e) = true) : Tb d D E (setT B s t) := by
  refine ⟨h.sq.setT s t, fun s' t' hs' ht' hg => ?_, fun s' t' hs' ht' hg => ?_⟩
  · rw [gb_setT h.sq hs ht] at hg
    split at hg
    · rename_i hh
      obtain ⟨rfl, rfl⟩ := hh
      exact fun hq => h.sound _ _ (hd.dl_lt hs' he) (hd.dl_lt ht' he) hb (eqA_step hq he)
    · exact h.sound s' t' hs' ht' hg
  · rw [gb_setT h.sq hs ht] at hg
    split at hg
    · cases hg
    · exact h.ends s' t' hs' ht' hg
/-- Nothing changes any more: what is not in the table is not apart. -/
theorem Tb.done (hd : DM d D E) {B : List (List Bool)} (h : Tb d D E B) (hst : ∀ s t, s < D → t < D → gb B s t = false → ∀ e, e < E → gb B (dl d E s e) (dl d E t e) = false) {s t : Nat} (hs : s < D) (ht : t < D) :
    gb B s t = false ↔ eqA E (dl d E) (dfin d) s t := by
  constructor
  · exact fun hb => eqA_of_bisim (n := D) (R := fun s t => gb B s t = false) (fun s hs e he => hd.dl_lt hs he) (fun s t hs ht hr => h.ends s t hs ht hr) (fun s t hs ht hr e he => hst s t hs ht hr e he) hs ht hb
  · intro hq
    cases hb : gb B s t with
    | false => rfl
    | true => exact absurd hq (h.sound s t hs ht hb)
/-- A round, as far as it has come: nothing new so far, and all that was looked at leads to what is not apart; or something new. -/
def Rnd (d : Mach) (D E : Nat) (B0 B : List (List Bool)) (ag : Bool) (p : Nat → Nat → Nat → Prop) : Prop :=
  (ag = false ∧ B = B0 ∧ ∀ s t e, s < D → t < D → e < E → p s t e → gb B s t = false → gb B (dl d E s e) (dl d E t e) = false) ∨ (ag = true ∧ cF D B < cF D B0)
end

theorem Blk.ne {w : World} {g g' t t' : Nat} {cs cs' : List Value} (h : Blk w g t cs) (h' : Blk w g' t' cs') (ht : t ≠ t') : g ≠ g' := fun e => by
  have h1 : w.heap[g]? = _ := h
  have h2 : w.heap[g']? = _ := h'
  rw [e, h2] at h1
  injection h1 with h1
  injection h1 with _ h1
  exact ht h1.symm
theorem sto_bool {P : Program} {K : Fr → World → Prop} {w : World} {f : Fr} {d : Option Nat} {g t ty : Nat} {cs : List Value} (hk : Blk w g t cs) (hty : tySize P ty = some 1) (j : Nat) (hj : j < cs.length) (b : Bool)
    (h : ∀ w', Blk w' g t (cs.set j (.bool b)) → Grew w w' (some ⟨g, 0, none⟩) → w'.heap.size = w.heap.size → K (updO f d undef) w') :
    Eff1 P K (do Instr.storeAt ty (.pointer (some ⟨g, j, none⟩)) (.bool b); pure undef) f d w := by
  have hc := hk.cell j
  have hf := hk.frozen j
  refine ⟨undef, w.setCell ⟨g, j, none⟩ (.bool b), ?_, h _ (hk.set j _) ⟨⟨rfl, rfl, rfl, by simp, fun _ hk' hne => Below.heap_setCell w _ _ _ (by simpa using hne)⟩⟩ (by simp)⟩
  unfold tySize at hty
  cases hi : P.info? ty with
  | none => simp [hi] at hty
  | some ie =>
    simp only [hi, Option.map_some, Option.some.injEq] at hty
    rw [List.getElem?_eq_getElem hj] at hc
    simp [Instr.storeAt, Instr.sureAddr, storeVar, sizeOf, typeInfo, hi, hty, Value.cells, storeCells, addr_add, run_store_bool, stored, hc, hf]
abbrev nilHd : Hd := ⟨none, 0, []⟩
def hdS (h : Hd) : Value := .slice h.A h.l.length h.c
def slO (D : Nat) (o : Option Nat) : Value := match o with | none => .slice none 0 0 | some g => .slice (some ⟨g, 0, none⟩) D D
open Classical in
noncomputable def rowA (d : Mach) (D i k : Nat) : List Bool := (List.range D).map fun u => if u < k then (decide ((i : Int) ∈ d.ends) != decide ((u : Int) ∈ d.ends)) else false
def leadA (d : Mach) (E s e : Nat) : List Int := (List.range e).map fun e => (dl d E s e : Int)
/-- The first k rows of the table, and of where states lead to, as they were made. -/
structure A1 (wB : World) (d : Mach) (D E gT gl k : Nat) (os : List (Option Nat)) (hs : List Hd) (w : World) : Prop where
  tb : Blk w gT 100 (os.map (slO D))
  ld : Blk w gl 22 (hs.map hdS)
  ol : os.length = D
  hl : hs.length = D
  row : ∀ (i g : Nat), i < k → os[i]? = some (some g) → Blk w g 4 ((rowA d D i D).map Value.bool)
  some_ : ∀ i : Nat, i < k → ∃ g, os[i]? = some (some g)
  ge : ∀ (i g : Nat), os[i]? = some (some g) → wB.heap.size ≤ g ∧ g < w.heap.size
  inj : ∀ (i j g : Nat), os[i]? = some (some g) → os[j]? = some (some g) → i = j
  nils : ∀ i : Nat, k ≤ i → i < D → os[i]? = some none ∧ hs[i]? = some nilHd
  own : ∀ x ∈ hs, OwnI wB.heap.size 3 w x.A x.c x.l
  lead : ∀ (i : Nat) (x : Hd), i < k → hs[i]? = some x → x.l = leadA d E i E
  bel : Below wB.heap.size wB w
  lo : wB.heap.size ≤ gT ∧ wB.heap.size ≤ gl
/-- .. and the next ones, as far as they are made. -/
structure A2 (wB : World) (d : Mach) (D E gT gl s g : Nat) (os : List (Option Nat)) (hs : List Hd) (cur : Hd) (r : List Bool) (w : World) : Prop where
  tb : Blk w gT 100 (os.map (slO D))
  ld : Blk w gl 22 ((hs.set s cur).map hdS)
  ol : os.length = D
  hl : hs.length = D
  row : ∀ (i g : Nat), i < s → os[i]? = some (some g) → Blk w g 4 ((rowA d D i D).map Value.bool)
  cu : Blk w g 4 (r.map Value.bool)
  at_ : os[s]? = some (some g)
  some_ : ∀ i : Nat, i < s → ∃ g, os[i]? = some (some g)
  ge : ∀ (i g : Nat), os[i]? = some (some g) → wB.heap.size ≤ g ∧ g < w.heap.size
  inj : ∀ (i j g : Nat), os[i]? = some (some g) → os[j]? = some (some g) → i = j
  nils : ∀ i : Nat, s < i → i < D → os[i]? = some none ∧ hs[i]? = some nilHd
  own : ∀ x ∈ hs, OwnI wB.heap.size 3 w x.A x.c x.l
  ownc : OwnI wB.heap.size 3 w cur.A cur.c cur.l
  far : ∀ x ∈ hs, Far x.A cur.A
  lead : ∀ (i : Nat) (x : Hd), i < s → hs[i]? = some x → x.l = leadA d E i E
  bel : Below wB.heap.size wB w
  lo : wB.heap.size ≤ gT ∧ wB.heap.size ≤ gl
section
variable {wB : World} {d : Mach} {D E gT gl s g : Nat} {os : List (Option Nat)} {hs : List Hd} {cur : Hd} {r : List Bool} {w w1 : World}
theorem A1.below (h : A1 wB d D E gT gl s os hs w) (b : Below w.heap.size w w1) : A1 wB d D E gT gl s os hs w1 :=
  ⟨h.tb.below b h.tb.lt, h.ld.below b h.ld.lt, h.ol, h.hl, fun i g hi hg => (h.row i g hi hg).below b (h.row i g hi hg).lt, h.some_, fun i g hg => ⟨(h.ge i g hg).1, by have := (h.ge i g hg).2; have := b.size; omega⟩, h.inj, h.nils, fun x hx => (h.own x hx).below b (Nat.le_refl _), h.lead, h.bel.trans (b.mono h.bel.size), h.lo⟩
theorem A2.below (h : A2 wB d D E gT gl s g os hs cur r w) (b : Below w.heap.size w w1) : A2 wB d D E gT gl s g os hs cur r w1 :=
  ⟨h.tb.below b h.tb.lt, h.ld.below b h.ld.lt, h.ol, h.hl, fun i g hi hg => (h.row i g hi hg).below b (h.row i g hi hg).lt, h.cu.below b h.cu.lt, h.at_, h.some_, fun i g hg => ⟨(h.ge i g hg).1, by have := (h.ge i g hg).2; have := b.size; omega⟩, h.inj, h.nils, fun x hx => (h.own x hx).below b (Nat.le_refl _), h.ownc.below b (Nat.le_refl _), h.far, h.lead, h.bel.trans (b.mono h.bel.size), h.lo⟩
/-- One more state that the next one leads to. -/
theorem A2.more (h : A2 wB d D E gT gl s g os hs cur r w) (hs' : s < D) {A' : Option Addr} {c' : Nat} {l' : List Int} {w2 : World} (ho : OwnI wB.heap.size 3 w1 A' c' l') (gr : Grew w w1 cur.A) (hA : A'.map (·.block) = cur.A.map (·.block) ∨ ∃ g, A'.map (·.block) = some g ∧ w.heap.size ≤ g)
    (ht : Blk w2 gl 22 (((hs.set s cur).map hdS).set s (hdS ⟨A', c', l'⟩))) (gr2 : Grew w1 w2 (some ⟨gl, 0, none⟩)) : A2 wB d D E gT gl s g os hs ⟨A', c', l'⟩ r w2 := by
  have hb1 : ∀ {g' t' : Nat} {cs : List Value}, Blk w g' t' cs → t' ≠ 3 → Blk w1 g' t' cs := fun {g' t' cs} hb hn => hb.grown gr.by_ (fun e => h.ownc.ne_blk hb (fun hh => hn hh.symm) e.symm)
  have hl1 := hb1 h.ld (by decide)
  have hb : ∀ {g' t' : Nat} {cs : List Value}, Blk w g' t' cs → t' ≠ 3 → t' ≠ 22 → Blk w2 g' t' cs := fun {g' t' cs} hb hn hn2 => (hb1 hb hn).grown gr2.by_ (by have := (hb1 hb hn).ne hl1 hn2; simpa using this)
  have hset : ((hs.set s cur).map hdS).set s (hdS ⟨A', c', l'⟩) = (hs.set s ⟨A', c', l'⟩).map hdS := by rw [← List.map_set, List.set_set]
  have z := gr.by_.size
  have z2 := gr2.by_.size
  have bl := gr.below h.bel h.bel.size h.ownc.geB
  have o1 := fun x hx => (h.own x hx).grew gr (h.far x hx)
  exact ⟨hb h.tb (by decide) (by decide), by rw [← hset]; exact ht, h.ol, h.hl, fun i g' hi hg' => hb (h.row i g' hi hg') (by decide) (by decide), hb h.cu (by decide) (by decide), h.at_, h.some_, fun i g' hg' => ⟨(h.ge i g' hg').1, by have := (h.ge i g' hg').2; omega⟩, h.inj, h.nils,
    fun x hx => (o1 x hx).grew gr2 (.inr ((o1 x hx).ne_blk hl1 (by decide))), ho.grew gr2 (.inr (ho.ne_blk hl1 (by decide))), fun x hx => Own.far (h.own x hx) h.ownc (h.far x hx) hA, h.lead, gr2.below bl bl.size (by intro a ha; injection ha with ha; subst ha; exact h.lo.2), h.lo⟩
/-- One more cell of the next row. -/
theorem A2.cell (h : A2 wB d D E gT gl s g os hs cur r w) {r' : List Bool} (hk : Blk w1 g 4 (r'.map Value.bool)) (gr : Grew w w1 (some ⟨g, 0, none⟩)) : A2 wB d D E gT gl s g os hs cur r' w1 := by
  have hb : ∀ {g' t' : Nat} {cs : List Value}, Blk w g' t' cs → g' ≠ g → Blk w1 g' t' cs := fun {g' t' cs} hb hn => hb.grown gr.by_ (by simpa using hn)
  have z := gr.by_.size
  exact ⟨hb h.tb (h.tb.ne h.cu (by decide)), hb h.ld (h.ld.ne h.cu (by decide)), h.ol, h.hl, fun i g' hi hg' => hb (h.row i g' hi hg') (fun e => by subst e; have := h.inj i s g' hg' h.at_; omega), hk, h.at_, h.some_, fun i g' hg' => ⟨(h.ge i g' hg').1, by have := (h.ge i g' hg').2; omega⟩, h.inj, h.nils,
    fun x hx => (h.own x hx).grew gr (.inr ((h.own x hx).ne_blk h.cu (by decide))), h.ownc.grew gr (.inr (h.ownc.ne_blk h.cu (by decide))), h.far, h.lead, gr.below h.bel h.bel.size (by intro a ha; injection ha with ha; subst ha; exact (h.ge s g h.at_).1), h.lo⟩
end

/-- The whole table, as it stands. -/
structure A3 (wB : World) (d : Mach) (D E gT gl : Nat) (os : List (Option Nat)) (hs : List Hd) (B : List (List Bool)) (w : World) : Prop where
  tb : Blk w gT 100 (os.map (slO D))
  ld : Blk w gl 22 (hs.map hdS)
  ol : os.length = D
  hl : hs.length = D
  row : ∀ (i g : Nat), i < D → os[i]? = some (some g) → Blk w g 4 ((B.getD i []).map Value.bool)
  some_ : ∀ i : Nat, i < D → ∃ g, os[i]? = some (some g)
  ge : ∀ (i g : Nat), os[i]? = some (some g) → wB.heap.size ≤ g
  inj : ∀ (i j g : Nat), os[i]? = some (some g) → os[j]? = some (some g) → i = j
  own : ∀ x ∈ hs, OwnI wB.heap.size 3 w x.A x.c x.l
  lead : ∀ (i : Nat) (x : Hd), i < D → hs[i]? = some x → x.l = leadA d E i E
  bel : Below wB.heap.size wB w
theorem A3.same {wB : World} {d : Mach} {D E gT gl : Nat} {os : List (Option Nat)} {hs : List Hd} {B : List (List Bool)} {w w1 : World} (h : A3 wB d D E gT gl os hs B w) (b : Below w.heap.size w w1) : A3 wB d D E gT gl os hs B w1 :=
  ⟨h.tb.below b h.tb.lt, h.ld.below b h.ld.lt, h.ol, h.hl, fun i g hi hg => (h.row i g hi hg).below b (h.row i g hi hg).lt, h.some_, h.ge, h.inj, fun x hx => (h.own x hx).below b (Nat.le_refl _), h.lead, h.bel.trans (b.mono h.bel.size)⟩
noncomputable def tabA (d : Mach) (D : Nat) : List (List Bool) := (List.range D).map fun i => rowA d D i D
theorem tabA_at {d : Mach} {D i : Nat} (h : i < D) : (tabA d D).getD i [] = rowA d D i D := by rw [List.getD_eq_getElem?_getD]; simp [tabA, h]
theorem A1.whole {wB : World} {d : Mach} {D E gT gl : Nat} {os : List (Option Nat)} {hs : List Hd} {w : World} (h : A1 wB d D E gT gl D os hs w) : A3 wB d D E gT gl os hs (tabA d D) w :=
  ⟨h.tb, h.ld, h.ol, h.hl, fun i g hi hg => by rw [tabA_at hi]; exact h.row i g hi hg, h.some_, fun i g hg => (h.ge i g hg).1, h.inj, h.own, h.lead, h.bel⟩
/-- One more pair is apart. -/
theorem A3.set {wB : World} {d : Mach} {D E gT gl s t g : Nat} {os : List (Option Nat)} {hs : List Hd} {B : List (List Bool)} {w w1 : World} (h : A3 wB d D E gT gl os hs B w) (hq : Sq D B) (hs' : s < D) (hg : os[s]? = some (some g)) (hk : Blk w1 g 4 (((B.getD s []).map Value.bool).set t (.bool true))) (gr : Grew w w1 (some ⟨g, 0, none⟩)) :
    A3 wB d D E gT gl os hs (setT B s t) w1 := by
  have hc := h.row s g hs' hg
  have hb : ∀ {g' t' : Nat} {cs : List Value}, Blk w g' t' cs → g' ≠ g → Blk w1 g' t' cs := fun {g' t' cs} hb hn => hb.grown gr.by_ (by simpa using hn)
  refine ⟨hb h.tb (h.tb.ne hc (by decide)), hb h.ld (h.ld.ne hc (by decide)), h.ol, h.hl, fun i g' hi hg' => ?_, h.some_, h.ge, h.inj, fun x hx => (h.own x hx).grew gr (.inr ((h.own x hx).ne_blk hc (by decide))), h.lead, gr.below h.bel h.bel.size (by intro a ha; injection ha with ha; subst ha; exact h.ge s g hg)⟩
  unfold setT
  rw [getD_set _ _ _ _ _ (by rw [hq.len]; exact hs')]
  by_cases e : i = s
  · subst e
    rw [hg] at hg'
    injection hg' with hg'
    injection hg' with hg'
    subst hg'
    rw [if_pos rfl, List.map_set]
    exact hk
  · rw [if_neg e]
    exact hb (h.row i g' hi hg') (fun e2 => by subst e2; exact e (h.inj i s g' hg' hg))
theorem Rnd.weak {d : Mach} {D E : Nat} {B0 B : List (List Bool)} {ag : Bool} {p q : Nat → Nat → Nat → Prop} (h : Rnd d D E B0 B ag p) (hpq : ∀ s t e, s < D → t < D → e < E → gb B s t = false → q s t e → p s t e) : Rnd d D E B0 B ag q := by
  rcases h with ⟨h1, h2, h3⟩ | h
  · exact .inl ⟨h1, h2, fun s t e hs ht he hq hb => h3 s t e hs ht he (hpq s t e hs ht he hb hq) hb⟩
  · exact .inr h
theorem Rnd.miss {d : Mach} {D E : Nat} {B0 B : List (List Bool)} {ag : Bool} {p q : Nat → Nat → Nat → Prop} (h : Rnd d D E B0 B ag p) {s t e : Nat} (hx : gb B (dl d E s e) (dl d E t e) = false) (hpq : ∀ s' t' e', q s' t' e' → p s' t' e' ∨ (s' = s ∧ t' = t ∧ e' = e)) : Rnd d D E B0 B ag q := by
  rcases h with ⟨h1, h2, h3⟩ | h
  · refine .inl ⟨h1, h2, fun s' t' e' hs ht he hq hb => ?_⟩
    rcases hpq s' t' e' hq with h4 | ⟨rfl, rfl, rfl⟩
    · exact h3 s' t' e' hs ht he h4 hb
    · exact hx
  · exact .inr h
structure LV (wB : World) (go gS E : Nat) (fs : List Nat) (ao : List Arr) (en : List Int) (A Aa Ae : Option Addr) (c ca ce : Nat) (w' : World) : Prop where
  mac : Blk w' go 25 (MV.cells ⟨some ⟨gS, 0, none⟩, 1, Aa, ca, Ae, ce⟩ ⟨0, E, [0], ao, en⟩)
  s0 : OwnI wB.heap.size 3 w' (some ⟨gS, 0, none⟩) 1 [0]
  fo : OwnI wB.heap.size 3 w' A c (ni fs)
  eo : OwnI wB.heap.size 3 w' Ae ce en
  ar : OwnR arrCells wB.heap.size 85 3 w' Aa ca ao
  sf : Far (some ⟨gS, 0, none⟩) A
  se : Far (some ⟨gS, 0, none⟩) Ae
  fe : Far A Ae
  bel : Below wB.heap.size wB w'
  go0 : wB.heap.size ≤ go
section
variable {wB : World} {go gS E : Nat} {fs : List Nat} {ao : List Arr} {en : List Int} {A Aa Ae A' Aa' Ae' : Option Addr} {c ca ce c' ca' ce' : Nat} {w w1 w2 : World}
theorem LV.below (h : LV wB go gS E fs ao en A Aa Ae c ca ce w) (b : Below w.heap.size w w1) : LV wB go gS E fs ao en A Aa Ae c ca ce w1 :=
  ⟨h.mac.below b h.mac.lt, h.s0.below b (Nat.le_refl _), h.fo.below b (Nat.le_refl _), h.eo.below b (Nat.le_refl _), h.ar.below b (Nat.le_refl _), h.sf, h.se, h.fe, h.bel.trans (b.mono h.bel.size), h.go0⟩
theorem LV.arr (h : LV wB go gS E fs ao en A Aa Ae c ca ce w) {ao' : List Arr} (ho : OwnR arrCells wB.heap.size 85 3 w1 Aa' ca' ao') (g : Grew w w1 Aa) (hb1 : Blk w1 go 25 (MV.cells ⟨some ⟨gS, 0, none⟩, 1, Aa, ca, Ae, ce⟩ ⟨0, E, [0], ao, en⟩))
    (hk : Blk w2 go 25 (MV.cells ⟨some ⟨gS, 0, none⟩, 1, Aa', ca', Ae, ce⟩ ⟨0, E, [0], ao', en⟩)) (g2 : Grew w1 w2 (some ⟨go, 0, none⟩)) : LV wB go gS E fs ao' en A Aa' Ae c ca' ce w2 := by
  have o1 := h.s0.grew g (Own.apart h.s0 h.ar (by decide))
  have o2 := h.fo.grew g (Own.apart h.fo h.ar (by decide))
  have o3 := h.eo.grew g (Own.apart h.eo h.ar (by decide))
  have bl := g.below h.bel h.bel.size h.ar.geB
  exact ⟨hk, o1.grew g2 (.inr (o1.ne_blk hb1 (by decide))), o2.grew g2 (.inr (o2.ne_blk hb1 (by decide))), o3.grew g2 (.inr (o3.ne_blk hb1 (by decide))), ho.grew g2 (.inr (ho.ne_blk hb1 (by decide))), h.sf, h.se, h.fe, g2.below bl bl.size (by intro a ha; injection ha with ha; subst ha; exact h.go0), h.go0⟩
theorem LV.ends (h : LV wB go gS E fs ao en A Aa Ae c ca ce w) {en' : List Int} (ho : OwnI wB.heap.size 3 w1 Ae' ce' en') (g : Grew w w1 Ae) (hA : Ae'.map (·.block) = Ae.map (·.block) ∨ ∃ g, Ae'.map (·.block) = some g ∧ w.heap.size ≤ g) (hb1 : Blk w1 go 25 (MV.cells ⟨some ⟨gS, 0, none⟩, 1, Aa, ca, Ae, ce⟩ ⟨0, E, [0], ao, en⟩))
    (hk : Blk w2 go 25 (MV.cells ⟨some ⟨gS, 0, none⟩, 1, Aa, ca, Ae', ce'⟩ ⟨0, E, [0], ao, en'⟩)) (g2 : Grew w1 w2 (some ⟨go, 0, none⟩)) : LV wB go gS E fs ao en' A Aa Ae' c ca ce' w2 := by
  have o1 := h.s0.grew g h.se
  have o2 := h.fo.grew g h.fe
  have o3 := h.ar.grew g (Own.apart h.ar h.eo (by decide))
  have bl := g.below h.bel h.bel.size h.eo.geB
  exact ⟨hk, o1.grew g2 (.inr (o1.ne_blk hb1 (by decide))), o2.grew g2 (.inr (o2.ne_blk hb1 (by decide))), ho.grew g2 (.inr (ho.ne_blk hb1 (by decide))), o3.grew g2 (.inr (o3.ne_blk hb1 (by decide))), h.sf, Own.far h.s0 h.eo h.se hA, Own.far h.fo h.eo h.fe hA, g2.below bl bl.size (by intro a ha; injection ha with ha; subst ha; exact h.go0), h.go0⟩
theorem LV.new (h : LV wB go gS E fs ao en A Aa Ae c ca ce w) {t : Nat} (ho : OwnI wB.heap.size 3 w2 A' c' (ni (fs ++ [t]))) (g2 : Grew w w2 A) (hA : A'.map (·.block) = A.map (·.block) ∨ ∃ g, A'.map (·.block) = some g ∧ w.heap.size ≤ g) : LV wB go gS E (fs ++ [t]) ao en A' Aa Ae c' ca ce w2 :=
  ⟨h.mac.grown g2.by_ (fun e => h.fo.ne_blk h.mac (by decide) e.symm), h.s0.grew g2 h.sf, ho, h.eo.grew g2 h.fe.symm, h.ar.grew g2 (Own.apart h.ar h.fo (by decide)), Own.far h.s0 h.fo h.sf hA, h.se, far_symm (Own.far h.eo h.fo h.fe.symm hA), g2.below h.bel h.bel.size h.fo.geB, h.go0⟩
end
end Go.Proofs.YtcjedgiglimipaaDoor

/-
  Chapter 15, in plain Lean: of each row, by its number: can it be kept? No program in sight.
-/
namespace Go.Proofs.YtcjedgiglimipaaDoor
set_option linter.unusedSimpArgs false
set_option linter.unusedVariables false
set_option linter.unusedSectionVars false
open Go.RowKit

theorem rowN_k {n j k : Nat} (hn : n < 2 ^ j) (hk : j ≤ k) : rowN n k = rowN n j := (rowN_end hk (Nat.div_eq_of_lt hn)).symm
section
variable (p : Plt) (free : List Int)
/-- Where a row leads to, by the events that can't be forbidden: by the numbers. -/
noncomputable def edN (n : Nat) : List Int := (ufE p free).map fun e => ((vnum (nextP p (rowN n 6) e) : Nat) : Int)
def cG (g : List Bool) : Nat := g.countP id
structure Gd (D : Nat) (g : List Bool) : Prop where
  len : g.length = D
  sound : ∀ n, n < D → g.getD n false = false → ¬ Kp p free (rowN n 6)
  tells : ∀ n, n < D → g.getD n false = true → ¬ TellsL (rowN n 6) p.secret
/-- A round, as far as it has come. -/
def RndG (g0 g : List Bool) (ag : Bool) (q : Nat → Nat → Prop) : Prop :=
  (ag = false ∧ g = g0 ∧ ∀ n i, q n i → i < (edN p free n).length → g.getD n false = true → g.getD ((edN p free n).getD i 0).toNat false = true) ∨ (ag = true ∧ cG g < cG g0)
end
theorem getD_set_bool (g : List Bool) (n m : Nat) (hn : n < g.length) : (g.set n false).getD m false = if n = m then false else g.getD m false := by
  by_cases c : n = m
  · subst c; rw [if_pos rfl, List.getD_eq_getElem?_getD, List.getElem?_set_self hn]; rfl
  · rw [if_neg c, List.getD_eq_getElem?_getD, List.getElem?_set_ne c, ← List.getD_eq_getElem?_getD]
theorem cG_set {g : List Bool} {n : Nat} (hn : n < g.length) (h : g.getD n false = true) : cG (g.set n false) < cG g := by
  unfold cG
  induction g generalizing n with
  | nil => simp at hn
  | cons b g ih =>
    cases n with
    | zero =>
      have hb : b = true := h
      subst hb
      simp [List.set]
    | succ n =>
      have := ih (n := n) (by simpa using hn) h
      rw [List.set_cons_succ, List.countP_cons, List.countP_cons]
      omega
section
variable {p : Plt} {free : List Int} {st : Nat} (hm : p.m.May) (hst : p.m.states = st) (h6 : st ≤ 6)
include hm hst h6
theorem next_num (s : List Int) (e : Int) : vnum (nextP p s e) < 2 ^ st ∧ rowN (vnum (nextP p s e)) 6 = nextP p s e := by
  have hr : IsRow (nextP p s e) (st : Int) := hst ▸ seeL_row hm _ _ _
  have h1 := num_lt hr
  exact ⟨h1, by rw [rowN_k h1 h6, row_num hr]⟩
theorem edN_mem {n : Nat} {x : Int} : x ∈ edN p free n ↔ ∃ e ∈ ufE p free, x = ((vnum (nextP p (rowN n 6) e) : Nat) : Int) := by
  unfold edN
  rw [List.mem_map]
  exact ⟨fun ⟨e, h1, h2⟩ => ⟨e, h1, h2.symm⟩, fun ⟨e, h1, h2⟩ => ⟨e, h1, h2.symm⟩⟩
theorem edN_rng {n i : Nat} (hi : i < (edN p free n).length) : ∃ (t : Nat) (e : Int), (edN p free n).getD i 0 = (t : Int) ∧ t < 2 ^ st ∧ e ∈ ufE p free ∧ rowN t 6 = nextP p (rowN n 6) e := by
  obtain ⟨e, he, h⟩ := (edN_mem hm hst h6).1 (getD_mem _ 0 i hi)
  have := next_num hm hst h6 (rowN n 6) e
  exact ⟨_, e, h, this.1, he, this.2⟩
theorem Gd.set {g : List Bool} (h : Gd p free (2 ^ st) g) {n i : Nat} (hn : n < 2 ^ st) (hi : i < (edN p free n).length) (hb : g.getD ((edN p free n).getD i 0).toNat false = false) : Gd p free (2 ^ st) (g.set n false) := by
  refine ⟨by rw [List.length_set]; exact h.len, fun k hk hg => ?_, fun k hk hg => ?_⟩
  · rw [getD_set_bool _ _ _ (by rw [h.len]; exact hn)] at hg
    by_cases c : n = k
    · subst c
      obtain ⟨t, e, h1, h2, h3, h4⟩ := edN_rng hm hst h6 hi
      rw [h1, Int.toNat_natCast] at hb
      have := h.sound t h2 hb
      rw [h4] at this
      exact Kp.not_next h3 this
    · rw [if_neg c] at hg; exact h.sound k hk hg
  · rw [getD_set_bool _ _ _ (by rw [h.len]; exact hn)] at hg
    by_cases c : n = k
    · rw [if_pos c] at hg; cases hg
    · rw [if_neg c] at hg; exact h.tells k hk hg
theorem Gd.done {g : List Bool} (h : Gd p free (2 ^ st) g) (hs : ∀ n i, n < 2 ^ st → i < (edN p free n).length → g.getD n false = true → g.getD ((edN p free n).getD i 0).toNat false = true) : ∀ n, n < 2 ^ st → (g.getD n false = true ↔ Kp p free (rowN n 6)) := by
  intro n hn
  constructor
  · intro hg
    refine Kp.of (G := fun s => ∃ n, n < 2 ^ st ∧ g.getD n false = true ∧ rowN n 6 = s) ?_ ?_ ⟨n, hn, hg, rfl⟩
    · rintro s ⟨k, hk, hgk, rfl⟩; exact h.tells k hk hgk
    · rintro s ⟨k, hk, hgk, rfl⟩ e he
      have hnx := next_num hm hst h6 (rowN k 6) e
      obtain ⟨i, hi, hie⟩ := (mem_iff_getD (edN p free k) 0 _).1 ((edN_mem hm hst h6).2 ⟨e, he, rfl⟩)
      have := hs k i hk hi hgk
      rw [hie, Int.toNat_natCast] at this
      exact ⟨_, hnx.1, this, hnx.2⟩
  · intro hk
    cases hg : g.getD n false with
    | true => rfl
    | false => exact absurd hk (h.sound n hn hg)
end
theorem RndG.weak {p : Plt} {free : List Int} {g0 g : List Bool} {ag : Bool} {q q' : Nat → Nat → Prop} (h : RndG p free g0 g ag q) (hq : ∀ n i, i < (edN p free n).length → q' n i → q n i) : RndG p free g0 g ag q' := by
  rcases h with ⟨h1, h2, h3⟩ | h
  · exact .inl ⟨h1, h2, fun n i h4 hi hg => h3 n i (hq n i hi h4) hi hg⟩
  · exact .inr h
end Go.Proofs.YtcjedgiglimipaaDoor

/-
  Chapter 9's reference: From, Estimate, Tells, Has, Forward, Lesser, Best; the laws' seen, all, best: by their contracts.
-/
namespace Go.Proofs.YtcjedgiglimipaaDoor
set_option linter.unusedSimpArgs false
set_option linter.unusedVariables false
set_option linter.unusedSectionVars false
open Go.RowKit

theorem only_nil {s l : List Int} : onlyL s l false = [] ↔ AllIn s l := by
  unfold onlyL AllIn
  rw [List.filter_eq_nil_iff]
  simp
theorem only_sub (l m : List Int) (b : Bool) : (onlyL l m b).length ≤ l.length := by unfold onlyL; exact List.length_filter_le _ _
theorem ref9_Tells {w : World} {A : Option Addr} {c : Nat} {s : List Int} (h : Ints (· < w.heap.size) w A s) (n1 : s.length ≤ 17592186043904) {A2 : Option Addr} {c2 : Nat} {l : List Int} (h2 : Ints (· < w.heap.size) w A2 l) (n2 : l.length ≤ 17592186043904) :
    Cal Tryd.prog 37 [.slice A s.length c, .slice A2 l.length c2] w fun v w' => v = .bool (decide (TellsL s l)) ∧ Below w.heap.size w w' := by
  refine cal_ref9_Tells (by simp) 100000 fun Q hQ => ?_
  simp (disch := first | with_reducible assumption | omega) only [push_cast, x_blk, x_cd, ↓reduceIte, Nat.reduceEqDiff, List.map_cons, List.map_nil, Int.reduceEq, Int.lt_irrefl, F_ref9_Tells]
  refine call_of (ref1_Only h h2 c c2 false n1 (by omega)) ?_
  rintro v w2 ⟨O, co, rfl, o2, b2⟩
  have hlen := only_sub s l false
  by_cases e : s = []
  · subst e
    have r : decide (TellsL [] l) = false := decide_eq_false fun hh => hh.1 rfl
    simp (disch := first | with_reducible assumption | omega) only [push_cast, x_blk, x_cd, ↓reduceIte, Nat.reduceEqDiff, List.map_cons, List.map_nil, Int.reduceEq, Int.lt_irrefl, List.length_nil]
    exact fin_1 (hQ _ _ ⟨(by simp only [push_cast, ↓reduceIte, Nat.reduceEqDiff, Int.reduceEq, r]), b2⟩)
  have hpos : (0 : Int) < (s.length : Int) := by have := List.length_pos_iff.2 e; omega
  have r : decide (TellsL s l) = decide (((onlyL s l false).length : Int) = 0) := decide_eq_decide.2 ⟨fun hh => by
    rw [only_nil.2 hh.2]; rfl, fun hh => ⟨e, only_nil.1 (List.length_eq_zero_iff.1 (by omega))⟩⟩
  simp (disch := first | with_reducible assumption | omega) only [push_cast, x_blk, x_cd, ↓reduceIte, Nat.reduceEqDiff, List.map_cons, List.map_nil, Int.reduceEq, Int.lt_irrefl, hpos]
  exact fin_1 (hQ _ _ ⟨(by simp only [push_cast, ↓reduceIte, Nat.reduceEqDiff, Int.reduceEq, r]), b2⟩)
structure Kn where
  R : Option Addr
  cr : Nat
  r : List Int
  W : Option Addr
  cw : Nat
  w : List Int
def Kn.cells (p : Kn) : List Value := [.slice p.R p.r.length p.cr, .slice p.W p.w.length p.cw]
def Kn.abs (p : Kn) : List Int × List Int := (p.r, p.w)
/-- What is known, and can be read. -/
structure KnAt (B : Nat) (w : World) (p : Kn) : Prop where
  r : RowT B 3 w p.R p.r
  w : RowT B 3 w p.W p.w
  nr : p.r.length ≤ 256
  nw : p.w.length ≤ 100000
theorem KnAt.below {B : Nat} {w w' : World} {p : Kn} (h : KnAt B w p) (b : Below w.heap.size w w') : KnAt B w' p := ⟨h.r.below b, h.w.below b, h.nr, h.nw⟩
theorem KnAt.grew {B e' sz c n : Nat} {w w' : World} {p : Kn} {A2 : Option Addr} {xs : List Value} (h : KnAt B w p) (ho : Own B e' sz w A2 c n xs) (hne : e' ≠ 3) (hg : Grew w w' A2) : KnAt B w' p := ⟨h.r.grew ho hne hg, h.w.grew ho hne hg, h.nr, h.nw⟩
noncomputable def fromL (p : Plt) (states word : List Int) : List Int := word.foldl (nextP p) (wideL p.m p.seen states)
theorem fromL_row {p : Plt} (h : p.m.May) {states : List Int} (hs : IsRow states p.m.states) (word : List Int) : IsRow (fromL p states word) p.m.states := by
  have key : ∀ (word : List Int) (l : List Int), IsRow l p.m.states → IsRow (word.foldl (nextP p) l) p.m.states := by
    intro word
    induction word with
    | nil => intro l hl; exact hl
    | cons e word ih => intro l _; exact ih _ (seeL_row h _ _ _)
  exact key word _ (wideL_row h (row_range hs))
theorem ref9_From {w : World} {a : PV} {p : Plt} (ha : IsP (· < w.heap.size) w a p) (hf : p.Fits) (hm : p.m.May) {A1 : Option Addr} {c1 : Nat} {l0 : List Int} (h1 : Ints (· < w.heap.size) w A1 l0) (hl0 : IsRow l0 p.m.states) {A : Option Addr} {c : Nat} {l : List Int} (h : Ints (· < w.heap.size) w A l) (n1 : l.length ≤ 17592186043904) :
    Cal Tryd.prog 109 [a.val p, .slice A1 l0.length c1, .slice A l.length c] w fun v w' => ∃ O co, v = .slice O (fromL p l0 l).length co ∧ OwnI w.heap.size 3 w' O co (fromL p l0 l) ∧ Below w.heap.size w w' := by
  have nP := hf.lenP
  have hst : p.m.states ≤ 256 := hm.2.1
  refine cal_ref9_From (by simp) 100000 fun Q hQ => ?_
  simp (disch := first | with_reducible assumption | omega) only [push_cast, x_blk, x_cd, ↓reduceIte, Nat.reduceEqDiff, List.map_cons, List.map_nil, Int.reduceEq, Int.lt_irrefl, F_ref9_From]
  refine blk_of (box_agg _ (a.cells p)) ?_
  intro w1 k1 b1 z1
  simp (disch := first | with_reducible assumption | omega) only [push_cast, x_blk, x_cd, ↓reduceIte, Nat.reduceEqDiff, List.map_cons, List.map_nil, Int.reduceEq, Int.lt_irrefl, k1.pM, k1.p5]
  refine call_of (ref5_Wide (ha.up b1).m hm (h1.up b1) hl0 (ha.up b1).seen nP) ?_
  rintro v w2 ⟨O2, c2, rfl, o2, b2⟩
  have hsn : ∀ k, k < l.length → fromL p l0 (l.take (k + 1)) = nextP p (fromL p l0 (l.take k)) (l.getD k 0) := fun k hk => by
    unfold fromL
    rw [take_snoc _ 0 k hk, List.foldl_append]; rfl
  simp (disch := first | with_reducible assumption | omega) only [push_cast, x_blk, x_cd, ↓reduceIte, Nat.reduceEqDiff, List.map_cons, List.map_nil, Int.reduceEq, Int.lt_irrefl]
  refine loop_rule (fun f w' => ∃ (k : Nat) (O : Option Addr) (co : Nat), k ≤ l.length ∧ (f 2 = .slice A l.length c ∧ f 3 = .pointer (some ⟨w.heap.size, 0, none⟩) ∧ f 7 = .slice O (fromL p l0 (l.take k)).length co ∧ f 8 = .int .i64 k) ∧
      OwnI w1.heap.size 3 w' O co (fromL p l0 (l.take k)) ∧ Below w1.heap.size w1 w')
    (fun f _ => l.length - (intOf (f 8)).toNat) ⟨0, O2, c2, Nat.zero_le _, ⟨rfl, rfl, rfl, rfl⟩, o2, b2⟩ ?_
  clear o2
  rintro f w3 ⟨k, O, co, hk, fr, ho, b3⟩ J hJ
  have bb := b1.trans (b3.mono b1.size)
  by_cases hlt : k < l.length
  case neg =>
    obtain rfl : k = l.length := by omega
    rw [List.take_length] at ho fr
    simp (disch := first | with_reducible assumption | omega) only [push_cast, x_blk, x_cd, ↓reduceIte, Nat.reduceEqDiff, List.map_cons, List.map_nil, Int.reduceEq, Int.lt_irrefl, L_ref9_From_0, fr, Nat.lt_irrefl]
    exact fin_1 (hQ _ _ ⟨O, co, (by simp only [push_cast, ↓reduceIte, Nat.reduceEqDiff, Int.reduceEq, fr]), ho.base b1.size, bb⟩)
  have k3 := k1.below b3 k1.lt
  have sd : Same w3 w3.drew := (Same.refl w3).drew
  replace k3 := k3.same sd
  replace ho := ho.same sd
  replace b3 := b3.trans (sd.below _)
  generalize hu : w3.drew = u at *
  have bb := b1.trans (b3.mono b1.size)
  have hI := h.up bb
  have hA := hI.isSome (by omega)
  have hrow := fromL_row hm hl0 (l.take k)
  have hrl := hrow.len
  simp (disch := first | with_reducible assumption | omega) only [push_cast, x_blk, x_cd, ↓reduceIte, Nat.reduceEqDiff, List.map_cons, List.map_nil, Int.reduceEq, Int.lt_irrefl, L_ref9_From_0, fr, hlt, hu, k3.pM, k3.p5, hI.ld ty_ag_3]
  refine call_of (ref5_Seeing (ha.up bb).m hm hf.m (Ints.lt (OwnI.ints ho)) (by omega) (ha.up bb).seen nP _) ?_
  rintro v w4 ⟨O4, c4, rfl, o4, b4⟩
  simp (disch := first | with_reducible assumption | omega) only [push_cast, x_blk, x_cd, ↓reduceIte, Nat.reduceEqDiff, List.map_cons, List.map_nil, Int.reduceEq, Int.lt_irrefl, fr]
  exact hJ _ _ ⟨k + 1, O4, c4, hlt, (by simp only [push_cast, ↓reduceIte, Nat.reduceEqDiff, true_and, and_true, and_self, eq_self, fr, hsn k hlt]), by rw [hsn k hlt]; exact o4.base b3.size, b3.trans (b4.mono b3.size)⟩ (by simp only [push_cast, ↓reduceIte, Nat.reduceEqDiff, intOf, fr]; omega)
theorem ref9_Estimate {w : World} {a : PV} {p : Plt} (ha : IsP (· < w.heap.size) w a p) (hf : p.Fits) (hm : p.m.May) {A : Option Addr} {c : Nat} {l : List Int} (h : Ints (· < w.heap.size) w A l) (n1 : l.length ≤ 17592186043904) :
    Cal Tryd.prog 76 [a.val p, .slice A l.length c] w fun v w' => ∃ O co, v = .slice O (estL p l).length co ∧ OwnI w.heap.size 3 w' O co (estL p l) ∧ Below w.heap.size w w' := by
  refine cal_ref9_Estimate (by simp) 100000 fun Q hQ => ?_
  simp (disch := first | with_reducible assumption | omega) only [push_cast, x_blk, x_cd, ↓reduceIte, Nat.reduceEqDiff, List.map_cons, List.map_nil, Int.reduceEq, Int.lt_irrefl, F_ref9_Estimate]
  refine blk_of (box_agg _ (a.cells p)) ?_
  intro w1 k1 b1 z1
  simp (disch := first | with_reducible assumption | omega) only [push_cast, x_blk, x_cd, ↓reduceIte, Nat.reduceEqDiff, List.map_cons, List.map_nil, Int.reduceEq, Int.lt_irrefl, k1.pA', k1.p2]
  refine call_of (ref9_From (ha.up b1) hf hm (ha.up b1).m.starts (may_starts hm) (h.up b1) n1) ?_
  rintro v w2 ⟨O2, c2, rfl, o2, b2⟩
  simp (disch := first | with_reducible assumption | omega) only [push_cast, x_blk, x_cd, ↓reduceIte, Nat.reduceEqDiff, List.map_cons, List.map_nil, Int.reduceEq, Int.lt_irrefl]
  exact fin_1 (hQ _ _ ⟨O2, c2, rfl, o2.base b1.size, b1.trans (b2.mono b1.size)⟩)

end Go.Proofs.YtcjedgiglimipaaDoor

/-
  Chapter 15's reference: Good: by its contract.
-/
namespace Go.Proofs.YtcjedgiglimipaaDoor
set_option linter.unusedSimpArgs false
set_option linter.unusedVariables false
set_option linter.unusedSectionVars false
open Go.RowKit

/-- All is kept below a mark, but for two blocks. -/
structure KeepO (lo g h : Nat) (w w' : World) : Prop where
  size : w.heap.size ≤ w'.heap.size
  at_ : ∀ b, b < lo → b ≠ g → b ≠ h → w'.heap[b]? = w.heap[b]?
theorem KeepO.below {lo g h : Nat} {w w' : World} (b : Below w.heap.size w w') (hl : lo ≤ w.heap.size) : KeepO lo g h w w' := ⟨b.size, fun k hk _ _ => b.block k (by omega)⟩
theorem KeepO.trans {lo g h : Nat} {w w1 w2 : World} (a : KeepO lo g h w w1) (b : KeepO lo g h w1 w2) : KeepO lo g h w w2 := ⟨Nat.le_trans a.size b.size, fun k h1 h2 h3 => (b.at_ k h1 h2 h3).trans (a.at_ k h1 h2 h3)⟩
theorem KeepO.grewB {lo g h x i : Nat} {w w' : World} (hg : Grew w w' (some ⟨x, i, none⟩)) (hx : x = g ∨ x = h) (hl : lo ≤ w.heap.size) : KeepO lo g h w w' :=
  ⟨hg.by_.size, fun k h1 h2 h3 => hg.by_.block k (by omega) (by simp only [Option.map_some, ne_eq, Option.some.injEq]; omega)⟩
theorem KeepO.grew {lo g h : Nat} {w w' : World} {A : Option Addr} (hg : Grew w w' A) (hA : ∀ a, A = some a → lo ≤ a.block) (hl : lo ≤ w.heap.size) : KeepO lo g h w w' :=
  ⟨hg.by_.size, fun k h1 _ _ => hg.by_.block k (by omega) (by
    cases A with
    | none => simp
    | some a => have := hA a rfl; simp only [Option.map_some, ne_eq, Option.some.injEq]; omega)⟩
abbrev OkO (lo g h : Nat) (b : Nat) : Prop := b < lo ∧ b ≠ g ∧ b ≠ h
theorem KeepO.two {lo g h : Nat} {w w' : World} (a : KeepO lo h h w w') : KeepO lo g h w w' := ⟨a.size, fun k h1 _ h3 => a.at_ k h1 h3 h3⟩
theorem Ints.keepO {lo g h : Nat} {w w' : World} {A : Option Addr} {l : List Int} (a : Ints (OkO lo g h) w A l) (k : KeepO lo g h w w') : Ints (OkO lo g h) w' A l := a.keep fun b hb => k.at_ b hb.1 hb.2.1 hb.2.2
def hdV (x : Hd) : Value := .slice x.A x.l.length x.c
abbrev nHd : Hd := ⟨none, 0, []⟩
/-- The rows of where rows lead to, so far. -/
structure ToW (p : Plt) (free : List Int) (D lo gG gT n : Nat) (hs : List Hd) (w : World) : Prop where
  len : hs.length = D
  blk : Blk w gT 22 (hs.map hdV)
  row : ∀ i, i < n → (hs.getD i nHd).l = edN p free i ∧ Ints (OkO lo gG gT) w (hs.getD i nHd).A (hs.getD i nHd).l
  nil : ∀ i, n ≤ i → hs.getD i nHd = nHd
theorem hd_getD {hs : List Hd} {n : Nat} (h : n < hs.length) : (hs.map hdV).getD n undef = hdV (hs.getD n nHd) := getD_map _ _ _ _ _ h
theorem getD_set_hd (hs : List Hd) (n m : Nat) (x : Hd) (hn : n < hs.length) : (hs.set n x).getD m nHd = if n = m then x else hs.getD m nHd := by
  by_cases c : n = m
  · subst c; rw [if_pos rfl, List.getD_eq_getElem?_getD, List.getElem?_set_self hn]; rfl
  · rw [if_neg c, List.getD_eq_getElem?_getD, List.getElem?_set_ne c, ← List.getD_eq_getElem?_getD]
theorem map_set_hd (hs : List Hd) (n : Nat) (x : Hd) : (hs.set n x).map hdV = (hs.map hdV).set n (hdV x) := by rw [List.map_set]
theorem set_self_hd {hs : List Hd} {n : Nat} (h : n < hs.length) {x : Hd} (e : hs.getD n nHd = x) : hs.set n x = hs := by
  refine ext_getD nHd (by simp) fun i hi => ?_
  rw [getD_set_hd _ _ _ _ h]
  split
  · rename_i c; rw [← c, e]
  · rfl
theorem uf_snoc {p : Plt} {free : List Int} {k : Nat} (hk : k < p.seen.length) : ((p.seen.take (k + 1)).filter fun e => decide (e ∉ free)) = if p.seen.getD k 0 ∈ free then (p.seen.take k).filter fun e => decide (e ∉ free) else ((p.seen.take k).filter fun e => decide (e ∉ free)) ++ [p.seen.getD k 0] := by
  rw [take_snoc _ (0 : Int) k hk, List.filter_append]
  generalize p.seen.getD k 0 = e
  by_cases c : e ∈ free
  · rw [if_pos c, List.filter_cons, if_neg (by simpa using c)]; simp
  · rw [if_neg c, List.filter_cons, if_pos (by simpa using c)]; rfl
/-- The row of where a row leads to, as far as some events. -/
noncomputable def edU (p : Plt) (free : List Int) (n k : Nat) : List Int := ((p.seen.take k).filter fun e => decide (e ∉ free)).map fun e => ((vnum (nextP p (rowN n 6) e) : Nat) : Int)
theorem edU_succ {p : Plt} {free : List Int} {n k : Nat} (hk : k < p.seen.length) : edU p free n (k + 1) = if p.seen.getD k 0 ∈ free then edU p free n k else edU p free n k ++ [((vnum (nextP p (rowN n 6) (p.seen.getD k 0)) : Nat) : Int)] := by
  unfold edU
  rw [uf_snoc hk]
  split
  · rfl
  · rw [List.map_append]; rfl
theorem edU_all (p : Plt) (free : List Int) (n : Nat) : edU p free n p.seen.length = edN p free n := by unfold edU edN ufE; rw [List.take_length]
theorem edU_len (p : Plt) (free : List Int) (n k : Nat) : (edU p free n k).length ≤ k := by
  unfold edU
  rw [List.length_map]
  exact Nat.le_trans (List.length_filter_le _ _) (List.length_take_le _ _)
theorem row_lenV {l : List Int} {b : Int} (h : IsRow l b) : l.length ≤ b.toNat := by
  have := nodup_nat_len b.toNat (l.map Int.toNat) (by
    rw [List.nodup_iff_pairwise_ne, List.pairwise_map]
    exact (List.nodup_iff_pairwise_ne.1 (Strict.nodup h.strict)).imp_of_mem fun {x y} hx hy hxy e => hxy (by have := h.mem hx; have := h.mem hy; omega)) fun x hx => by
    obtain ⟨y, hy, rfl⟩ := List.mem_map.1 hx
    have := h.mem hy; omega
  simpa using this
theorem Blk.keepO {lo g h k t : Nat} {cs : List Value} {w w' : World} (a : Blk w k t cs) (o : KeepO lo g h w w') (hk : k < lo ∧ k ≠ g ∧ k ≠ h) : Blk w' k t cs := by
  unfold Blk at a ⊢
  rw [o.at_ k hk.1 hk.2.1 hk.2.2]; exact a
def GoodRes (p : Plt) (free : List Int) (D : Nat) (w : World) (v : Value) (w' : World) : Prop :=
  ∃ (g : Nat) (G : List Bool), v = .slice (some ⟨g, 0, none⟩) D D ∧ w.heap.size ≤ g ∧ Blk w' g 4 (G.map Value.bool) ∧ Below w.heap.size w w' ∧ G.length = D ∧ ∀ n, n < D → (G.getD n false = true ↔ Kp p free (rowN n 6))

theorem ref15_Good {w : World} {a : PV} {p : Plt} (ha : IsP (· < w.heap.size) w a p) (hf : p.Fits) (hp : p.May) {st : Nat} (hst : p.m.states = st) {A1 : Option Addr} {c1 : Nat} {free : List Int} (h1 : Ints (· < w.heap.size) w A1 free) (n1 : free.length ≤ 17592186043904) :
    Cal Tryd.prog 75 [a.val p, .slice A1 free.length c1] w (GoodRes p free (2 ^ st) w) := by
  have hm := hp.1
  have h6 : st ≤ 6 := by have := hp.2.1; omega
  have st1 : 1 ≤ st := by have := hm.1; omega
  have nQ := hf.lenQ
  have n8 : p.seen.length ≤ 8 := by have := row_lenV hp.2.2.1; have := hm.2.2.2.1; omega
  have hpow : ∀ k, k ≤ st → 2 ^ k ≤ 64 := fun k hk => Nat.le_trans (Nat.pow_le_pow_right (by decide) (show k ≤ 6 by omega)) (by decide)
  have hnx := next_num (p := p) hm hst h6
  have hset := fun {g : List Bool} (h : Gd p free (2 ^ st) g) {n i : Nat} hn hi hb => Gd.set hm hst h6 h (n := n) (i := i) hn hi hb
  have hdone := fun {g : List Bool} (h : Gd p free (2 ^ st) g) hs => Gd.done hm hst h6 h hs
  have hrng := fun {n i : Nat} hi => edN_rng (p := p) (free := free) hm hst h6 (n := n) (i := i) hi
  obtain ⟨D, hDd⟩ : ∃ D, 2 ^ st = D := ⟨_, rfl⟩
  have hD64 : D ≤ 64 := by rw [← hDd]; exact hpow st (Nat.le_refl _)
  rw [hDd]
  simp only [hDd] at hset hdone hnx hrng
  refine cal_ref15_Good (by simp) 1000000 fun Q hQ => ?_
  simp (disch := first | with_reducible assumption | omega) only [push_cast, x_blk, x_cd, ↓reduceIte, Nat.reduceEqDiff, List.map_cons, List.map_nil, Int.reduceEq, Int.lt_irrefl, F_ref15_Good]
  refine blk_of (box_agg _ (a.cells p)) ?_
  intro w1 k1 b1 z1
  simp (disch := first | with_reducible assumption | omega) only [push_cast, x_blk, x_cd, ↓reduceIte, Nat.reduceEqDiff, List.map_cons, List.map_nil, Int.reduceEq, Int.lt_irrefl]
  refine loop_rule (fun f w' => ∃ k pw : Nat, k ≤ st ∧ 2 ^ k = pw ∧ (f 1 = .slice A1 free.length c1 ∧ f 2 = .pointer (some ⟨w.heap.size, 0, none⟩) ∧ f 5 = .int .i64 pw ∧ f 6 = .int .i64 k) ∧ Same w1 w')
    (fun f _ => st - (intOf (f 6)).toNat) ⟨0, 1, by omega, rfl, ⟨rfl, rfl, rfl, rfl⟩, Same.refl _⟩ ?_
  rintro f w2 ⟨k, pw, hk, hpw, fr, s2⟩ J hJ
  have k2 := k1.same s2
  have hb := hpow k hk
  by_cases hlt : (k : Int) < (st : Int)
  case pos =>
    have hb2 := hpow (k + 1) (by omega)
    have e2 : 2 ^ (k + 1) = 2 * pw := by rw [Nat.pow_succ, Nat.mul_comm, hpw]
    obtain ⟨q, hq⟩ : ∃ q, q = 2 * pw := ⟨_, rfl⟩
    have e3 : (2 : Int) * (pw : Int) = (q : Int) := by omega
    simp (disch := first | with_reducible assumption | omega) only [push_cast, x_blk, x_cd, ↓reduceIte, Nat.reduceEqDiff, List.map_cons, List.map_nil, Int.reduceEq, Int.lt_irrefl, L_ref15_Good_5, fr, hlt, k2.p0, hst, e3]
    exact hJ _ _ ⟨k + 1, q, by omega, by omega, (by simp only [push_cast, ↓reduceIte, Nat.reduceEqDiff, true_and, and_true, and_self, eq_self, fr]), s2⟩ (by simp only [push_cast, ↓reduceIte, Nat.reduceEqDiff, intOf, fr]; omega)
  have hkst : k = st := by omega
  have hpD : pw = D := by rw [← hpw, hkst, hDd]
  clear hpow hb hpw hk hJ
  subst hpD
  have z2 : w2.heap.size = w1.heap.size := by rw [s2.heap]
  have b2 := s2.below w1.heap.size
  simp (disch := first | with_reducible assumption | omega) only [push_cast, x_blk, x_cd, ↓reduceIte, Nat.reduceEqDiff, List.map_cons, List.map_nil, Int.reduceEq, Int.lt_irrefl, L_ref15_Good_5, fr, hlt, hkst, Int.lt_irrefl, k2.p0, hst, e_makeSlice']
  refine mk_one (z := .bool false) slT_100 (by decide) (by kernel_rfl) rfl pw (by omega) ?_
  intro w3 kG b3
  simp (disch := first | with_reducible assumption | omega) only [push_cast, x_blk, x_cd, ↓reduceIte, Nat.reduceEqDiff, List.map_cons, List.map_nil, Int.reduceEq, Int.lt_irrefl, fr, e_makeSlice']
  refine mk_one (z := .slice none 0 0) slT_44 (by decide) (by kernel_rfl) rfl pw (by omega) ?_
  intro w4 kT b4
  have lG := kG.lt
  have lT := kT.lt
  have b14 := (b2.trans (b3.mono (by omega))).trans (b4.mono (by omega))
  have kP4 := (k2.below b3 (by omega)).below b4 (by have := k2.lt; omega)
  have kG4 := kG.below b4 lG
  generalize hgG : w2.heap.size = gG at *
  generalize hgT : w3.heap.size = gT at *
  have hGT : gG < gT := lG
  have hw1 : w1.heap.size = w.heap.size + 1 := z1
  have G0 : List.replicate pw (Value.bool false) = (List.replicate pw false).map Value.bool := by rw [List.map_replicate]
  have H0 : List.replicate pw (Value.slice none 0 0) = (List.replicate pw nHd).map hdV := by rw [List.map_replicate]; rfl
  rw [G0] at kG4
  rw [H0] at kT
  have hT0 : ToW p free pw w4.heap.size gG gT 0 (List.replicate pw nHd) w4 := ⟨by simp, kT, fun i hi => absurd hi (by omega), fun i _ => by
    rw [List.getD_eq_getElem?_getD, List.getElem?_replicate]; split <;> rfl⟩
  clear k2 kG kT b3 b4 G0 H0
  simp (disch := first | with_reducible assumption | omega) only [push_cast, x_blk, x_cd, ↓reduceIte, Nat.reduceEqDiff, List.map_cons, List.map_nil, Int.reduceEq, Int.lt_irrefl]
  refine loop_rule (fun f w' => ∃ (n : Nat) (G : List Bool) (hs : List Hd), n ≤ pw ∧ G.length = pw ∧ (∀ i, i < n → G.getD i false = !decide (TellsL (rowN i 6) p.secret)) ∧ (f 1 = .slice A1 free.length c1 ∧ f 2 = .pointer (some ⟨w.heap.size, 0, none⟩) ∧ f 5 = .int .i64 pw ∧ f 7 = .slice (some ⟨gG, 0, none⟩) pw pw ∧ f 8 = .slice (some ⟨gT, 0, none⟩) pw pw ∧ f 9 = .int .i64 n) ∧
      Blk w' w.heap.size 43 (a.cells p) ∧ Blk w' gG 4 (G.map Value.bool) ∧ ToW p free pw w'.heap.size gG gT n hs w' ∧ gT < w'.heap.size ∧ Below w1.heap.size w1 w')
    (fun f _ => pw - (intOf (f 9)).toNat) ⟨0, _, _, Nat.zero_le _, by simp, fun i hi => absurd hi (by omega), (by simp only [push_cast, ↓reduceIte, Nat.reduceEqDiff, true_and, and_true, and_self, eq_self, fr]), kP4, kG4, hT0, lT, b14⟩ ?_
  clear fr kP4 kG4 hT0 b14 lT lG
  rintro f w5 ⟨n, G, hs, hn, hGl, hGt, fr, kP, kG, hT, lT, b5⟩ J hJ
  by_cases hlt2 : (n : Int) < (pw : Int)
  case neg =>
    have hne : n = pw := by omega
    subst hne
    have hGd0 : Gd p free n G := ⟨hGl, fun i hi hg => by
      rw [hGt i hi] at hg
      exact Kp.not_tells (by simpa using hg), fun i hi hg => by
      rw [hGt i hi] at hg
      simpa using hg⟩
    have hlo : w5.heap.size = w5.heap.size := rfl
    have hsG : (some (⟨gG, 0, none⟩ : Addr)).isSome = true := rfl
    have hsT : (some (⟨gT, 0, none⟩ : Addr)).isSome = true := rfl
    have gbd : ∀ (G : List Bool) (i : Nat), i < G.length → (G.map Value.bool).getD i undef = .bool (G.getD i false) := fun G i hi => getD_map _ _ _ _ _ hi
    have hk0 : KeepO w5.heap.size gG gG w5 w5 := ⟨Nat.le_refl _, fun _ _ _ _ => rfl⟩
    simp (disch := first | with_reducible assumption | omega) only [push_cast, x_blk, x_cd, ↓reduceIte, Nat.reduceEqDiff, List.map_cons, List.map_nil, Int.reduceEq, Int.lt_irrefl, L_ref15_Good_4, fr, hlt2, Int.lt_irrefl]
    refine loop_ix (fun r f w' => ∃ (G : List Bool) (ag : Bool), r = 2 * cG G + (if ag then 1 else 0) ∧ Gd p free n G ∧ (f 5 = .int .i64 n ∧ f 7 = .slice (some ⟨gG, 0, none⟩) n n ∧ f 8 = .slice (some ⟨gT, 0, none⟩) n n ∧ f 13 = .bool ag) ∧
        (ag = false → ∀ k i, k < n → i < (edN p free k).length → G.getD k false = true → G.getD ((edN p free k).getD i 0).toNat false = true) ∧ KeepO w5.heap.size gG gG w5 w' ∧ Blk w' gG 4 (G.map Value.bool) ∧ Below w1.heap.size w1 w')
      (n0 := 2 * cG G + 1) ⟨G, true, rfl, hGd0, (by simp only [push_cast, ↓reduceIte, Nat.reduceEqDiff, true_and, and_true, and_self, eq_self, fr]), (fun hh => by cases hh), hk0, kG, b5⟩ ?_
    clear hGd0 fr hGl hGt kG b5 hk0 G hJ hlt2 hn
    rintro r f w6 ⟨G, ag, rfl, hGd, fr, hstab, o6, kG, b6⟩ J hJ
    cases ag
    case false =>
      simp (disch := first | with_reducible assumption | omega) only [push_cast, x_blk, x_cd, ↓reduceIte, Nat.reduceEqDiff, List.map_cons, List.map_nil, Int.reduceEq, Int.lt_irrefl, L_ref15_Good_2, fr]
      exact fin_1 (hQ _ _ ⟨gG, G, (by simp only [push_cast, ↓reduceIte, Nat.reduceEqDiff, Int.reduceEq, fr]), by omega, kG, b1.trans (b6.mono b1.size), hGd.len, hdone hGd (hstab rfl)⟩)
    simp (disch := first | with_reducible assumption | omega) only [push_cast, x_blk, x_cd, ↓reduceIte, Nat.reduceEqDiff, List.map_cons, List.map_nil, Int.reduceEq, Int.lt_irrefl, L_ref15_Good_2, fr]
    refine loop_rule (fun f w' => ∃ (k : Nat) (G2 : List Bool) (ag : Bool), k ≤ n ∧ Gd p free n G2 ∧ RndG p free G G2 ag (fun k' _ => k' < k) ∧ (f 5 = .int .i64 n ∧ f 7 = .slice (some ⟨gG, 0, none⟩) n n ∧ f 8 = .slice (some ⟨gT, 0, none⟩) n n ∧ f 13 = .bool ag ∧ f 14 = .int .i64 k) ∧
        KeepO w5.heap.size gG gG w5 w' ∧ Blk w' gG 4 (G2.map Value.bool) ∧ Below w1.heap.size w1 w')
      (fun f _ => n - (intOf (f 14)).toNat) ⟨0, G, false, by omega, hGd, .inl ⟨rfl, rfl, fun k i h0 => absurd h0 (by omega)⟩, (by simp only [push_cast, ↓reduceIte, Nat.reduceEqDiff, true_and, and_true, and_self, eq_self, fr]), o6, kG, b6⟩ ?_
    clear hGd fr hstab kG b6 o6
    rintro f w6 ⟨k, G2, ag, hkn, hGd, hR, fr, o6, kG, b6⟩ J1 hJ1
    by_cases hlt : (k : Int) < (n : Int)
    case neg =>
      have hse : k = n := by omega
      rw [hse] at hR
      simp (disch := first | with_reducible assumption | omega) only [push_cast, x_blk, x_cd, ↓reduceIte, Nat.reduceEqDiff, List.map_cons, List.map_nil, Int.reduceEq, Int.lt_irrefl, L_ref15_Good_1, fr, hlt, hse, Int.lt_irrefl]
      rcases hR with ⟨rfl, rfl, h3⟩ | ⟨rfl, h3⟩
      · exact hJ _ _ _ ⟨G2, false, rfl, hGd, (by simp only [push_cast, ↓reduceIte, Nat.reduceEqDiff, true_and, and_true, and_self, eq_self, fr]), (fun _ k i hk hi hg => h3 k i hk hi hg), o6, kG, b6⟩ (by simp)
      · exact hJ _ _ _ ⟨G2, true, rfl, hGd, (by simp only [push_cast, ↓reduceIte, Nat.reduceEqDiff, true_and, and_true, and_self, eq_self, fr]), (fun hh => by cases hh), o6, kG, b6⟩ (by simp; omega)
    have hkl : k < n := by omega
    have hmu : n - (intOf (f 14)).toNat = n - k := by rw [fr.2.2.2.2]; simp [intOf]
    rw [hmu] at hJ1
    obtain ⟨re, rI⟩ := hT.row k hkl
    have hkT : k < (hs.map hdV).length := by rw [List.length_map, hT.len]; exact hkl
    have hgT : (hs.map hdV).getD k undef = .slice (hs.getD k nHd).A (edN p free k).length (hs.getD k nHd).c := by rw [hd_getD (by rw [hT.len]; exact hkl), ← re]; rfl
    have hel : (edN p free k).length ≤ 8 := by rw [← edU_all]; have := edU_len p free k p.seen.length; omega
    rw [re] at rI
    generalize hs.getD k nHd = hk at *
    simp (disch := first | with_reducible assumption | omega) only [push_cast, x_blk, x_cd, ↓reduceIte, Nat.reduceEqDiff, List.map_cons, List.map_nil, Int.reduceEq, Int.lt_irrefl, L_ref15_Good_1, fr, hlt, hkl]
    have hR0 : RndG p free G G2 ag (fun k' i' => k' < k ∨ (k' = k ∧ i' < 0)) := hR.weak fun _ _ _ h0 => h0.elim id fun hh => absurd hh.2 (by omega)
    refine loop_rule (fun f w' => ∃ (i : Nat) (G2 : List Bool) (ag : Bool), i ≤ (edN p free k).length ∧ Gd p free n G2 ∧ RndG p free G G2 ag (fun k' i' => k' < k ∨ (k' = k ∧ i' < i)) ∧ (f 5 = .int .i64 n ∧ f 7 = .slice (some ⟨gG, 0, none⟩) n n ∧ f 8 = .slice (some ⟨gT, 0, none⟩) n n ∧ f 13 = .bool ag ∧ f 14 = .int .i64 k ∧ f 15 = .int .i64 i) ∧
        KeepO w5.heap.size gG gG w5 w' ∧ Blk w' gG 4 (G2.map Value.bool) ∧ Below w1.heap.size w1 w')
      (fun f _ => (edN p free k).length - (intOf (f 15)).toNat) ⟨0, G2, ag, by omega, hGd, hR0, (by simp only [push_cast, ↓reduceIte, Nat.reduceEqDiff, true_and, and_true, and_self, eq_self, fr]), o6, kG, b6⟩ ?_
    clear hGd fr hR hR0 kG b6 o6 hmu hlt G2 ag
    rintro f w6 ⟨i, G2, ag, hie, hGd, hR, fr, o6, kG, b6⟩ J2 hJ2
    have kT := hT.blk.keepO o6 ⟨lT, by omega, by omega⟩
    have lT2 := fun {K : Fr → World → Prop} {f : Fr} {d : Option Nat} {w' : World} => kT.ld (P := Tryd.prog) (K := K) (f := f) (d := d) (w := w') ty_ag_22 k hkT
    rw [hgT] at lT2
    have hGk : k < G2.length := by rw [hGd.len]; exact hkl
    have lG2 := fun {K : Fr → World → Prop} {f : Fr} {d : Option Nat} {w' : World} => kG.ld (P := Tryd.prog) (K := K) (f := f) (d := d) (w := w') ty_ag_4 k (by rw [List.length_map]; exact hGk)
    rw [gbd G2 k hGk] at lG2
    have rI6 := rI.keep fun b hb => o6.at_ b hb.1 hb.2.1 hb.2.1
    by_cases hil : i < (edN p free k).length
    case neg =>
      have hie2 : i = (edN p free k).length := by omega
      simp (disch := first | with_reducible assumption | omega) only [push_cast, x_blk, x_cd, ↓reduceIte, Nat.reduceEqDiff, List.map_cons, List.map_nil, Int.reduceEq, Int.lt_irrefl, L_ref15_Good_0, fr, hkl, hsT, hsG, eA_zero, lT2, hil]
      exact hJ1 _ _ ⟨k + 1, G2, ag, by omega, hGd, hR.weak fun k' i' hi' h0 => (by
        by_cases c : k' = k
        · subst c; exact .inr ⟨rfl, by omega⟩
        · exact .inl (by omega)), (by simp only [push_cast, ↓reduceIte, Nat.reduceEqDiff, true_and, and_true, and_self, eq_self, fr]), o6, kG, b6⟩ (by simp only [push_cast, ↓reduceIte, Nat.reduceEqDiff, intOf, fr]; omega)
    cases hb : G2.getD k false
    case false =>
      rw [hb] at lG2
      simp (disch := first | with_reducible assumption | omega) only [push_cast, x_blk, x_cd, ↓reduceIte, Nat.reduceEqDiff, List.map_cons, List.map_nil, Int.reduceEq, Int.lt_irrefl, L_ref15_Good_0, fr, hkl, hsT, hsG, eA_zero, lT2, hil, lG2]
      refine hJ1 _ _ ⟨k + 1, G2, ag, by omega, hGd, ?_, (by simp only [push_cast, ↓reduceIte, Nat.reduceEqDiff, true_and, and_true, and_self, eq_self, fr]), o6, kG, b6⟩ (by simp only [push_cast, ↓reduceIte, Nat.reduceEqDiff, intOf, fr]; omega)
      rcases hR with ⟨h1, h2, h3⟩ | hR
      · refine .inl ⟨h1, h2, fun k' i' h0 hi' hg => ?_⟩
        by_cases c : k' = k
        · subst c; rw [hb] at hg; cases hg
        · exact h3 k' i' (.inl (by omega)) hi' hg
      · exact .inr hR
    rw [hb] at lG2
    obtain ⟨tt, e, ht1, ht2, _, _⟩ := hrng hil
    have sI := rI6.isSome (by omega)
    have le := fun {K : Fr → World → Prop} {f : Fr} {d : Option Nat} {w : World} => rI6.ld (P := Tryd.prog) (K := K) (f := f) (d := d) (w := w) ty_ag_3 i hil
    rw [ht1] at le
    have hGt2 : tt < G2.length := by rw [hGd.len]; exact ht2
    have lG3 := fun {K : Fr → World → Prop} {f : Fr} {d : Option Nat} {w' : World} => kG.ld (P := Tryd.prog) (K := K) (f := f) (d := d) (w := w') ty_ag_4 tt (by rw [List.length_map]; exact hGt2)
    rw [gbd G2 tt hGt2] at lG3
    cases hb2 : G2.getD tt false
    case true =>
      rw [hb2] at lG3
      simp (disch := first | with_reducible assumption | omega) only [push_cast, x_blk, x_cd, ↓reduceIte, Nat.reduceEqDiff, List.map_cons, List.map_nil, Int.reduceEq, Int.lt_irrefl, L_ref15_Good_0, fr, hkl, hsT, hsG, eA_zero, lT2, hil, lG2, sI, le, ht2, lG3]
      refine hJ2 _ _ ⟨i + 1, G2, ag, hil, hGd, ?_, (by simp only [push_cast, ↓reduceIte, Nat.reduceEqDiff, true_and, and_true, and_self, eq_self, fr]), o6, kG, b6⟩ (by simp only [push_cast, ↓reduceIte, Nat.reduceEqDiff, intOf, fr]; omega)
      rcases hR with ⟨h1, h2, h3⟩ | hR
      · refine .inl ⟨h1, h2, fun k' i' h0 hi' hg => ?_⟩
        by_cases c : k' = k ∧ i' = i
        · obtain ⟨rfl, rfl⟩ := c
          rw [ht1, Int.toNat_natCast]; exact hb2
        · exact h3 k' i' (by omega) hi' hg
      · exact .inr hR
    rw [hb2] at lG3
    have hGs := hset hGd hkl hil (by rw [ht1, Int.toNat_natCast]; exact hb2)
    have hcs := cG_set hGk hb
    simp (disch := first | with_reducible assumption | omega) only [push_cast, x_blk, x_cd, ↓reduceIte, Nat.reduceEqDiff, List.map_cons, List.map_nil, Int.reduceEq, Int.lt_irrefl, L_ref15_Good_0, fr, hkl, hsT, hsG, eA_zero, lT2, hil, lG2, sI, le, ht2, lG3]
    refine sto_bool kG (by kernel_rfl) k (by rw [List.length_map]; exact hGk) false ?_
    intro w7 kG7 g7 z7
    rw [← List.map_set] at kG7
    simp (disch := first | with_reducible assumption | omega) only [push_cast, x_blk, x_cd, ↓reduceIte, Nat.reduceEqDiff, List.map_cons, List.map_nil, Int.reduceEq, Int.lt_irrefl, fr]
    refine hJ2 _ _ ⟨i + 1, G2.set k false, true, hil, hGs, .inr ⟨rfl, ?_⟩, (by simp only [push_cast, ↓reduceIte, Nat.reduceEqDiff, true_and, and_true, and_self, eq_self, fr]), o6.trans (KeepO.grewB g7 (.inl rfl) o6.size), kG7, g7.below b6 (by have := b6.size; omega) (by intro a ha; injection ha with ha; subst ha; show w1.heap.size ≤ gG; omega)⟩ (by simp only [push_cast, ↓reduceIte, Nat.reduceEqDiff, intOf, fr]; omega)
    rcases hR with ⟨_, rfl, _⟩ | ⟨_, h3⟩
    · exact hcs
    · omega
  have hnl : n < pw := by omega
  simp (disch := first | with_reducible assumption | omega) only [push_cast, x_blk, x_cd, ↓reduceIte, Nat.reduceEqDiff, List.map_cons, List.map_nil, Int.reduceEq, Int.lt_irrefl, L_ref15_Good_4, fr, hlt2]
  refine call_of (ref15_rowOf (n := n) (by omega)) ?_
  rintro v w6 ⟨A6, c6, rfl, o6, b6⟩
  have hz6 := b6.size
  have hl6 : IsRow (rowN n 6) 6 := rowN_row (by omega) (by omega)
  have n6 := rowN_len n 6
  have bb5 := b1.trans (b5.mono b1.size)
  have bb6 := bb5.trans (b6.mono bb5.size)
  replace kP := kP.below b6 kP.lt
  replace kG := kG.below b6 (by omega)
  have kT := hT.blk.below b6 lT
  simp (disch := first | with_reducible assumption | omega) only [push_cast, x_blk, x_cd, ↓reduceIte, Nat.reduceEqDiff, List.map_cons, List.map_nil, Int.reduceEq, Int.lt_irrefl, fr, kP.p6]
  refine call_of (ref9_Tells (OwnI.ints o6).lt (by omega) (ha.up bb6).secret nQ) ?_
  rintro v w7 ⟨rfl, b7⟩
  have hz7 := b7.size
  replace kP := kP.below b7 kP.lt
  replace kG := kG.below b7 (by omega)
  replace kT := kT.below b7 (by omega)
  have b67 := b6.trans (b7.mono b6.size)
  replace o6 := o6.below b7 (Nat.le_refl _)
  have hsG : (some (⟨gG, 0, none⟩ : Addr)).isSome = true := rfl
  have hsT : (some (⟨gT, 0, none⟩ : Addr)).isSome = true := rfl
  generalize htl : decide (TellsL (rowN n 6) p.secret) = tl at *
  simp (disch := first | with_reducible assumption | omega) only [push_cast, x_blk, x_cd, ↓reduceIte, Nat.reduceEqDiff, List.map_cons, List.map_nil, Int.reduceEq, Int.lt_irrefl, fr, hlt2, hnl, hsG, eA_zero]
  refine sto_bool kG (by kernel_rfl) n (by rw [List.length_map, hGl]; exact hnl) _ ?_
  intro w8 kG8 g8 z8
  rw [← List.map_set] at kG8
  have hset8 : (G.set n (!tl)).length = pw := by rw [List.length_set]; exact hGl
  have hG8 : ∀ i, i < n + 1 → (G.set n (!tl)).getD i false = !decide (TellsL (rowN i 6) p.secret) := fun i hi => by
    by_cases c : n = i
    · subst c; rw [List.getD_eq_getElem?_getD, List.getElem?_set_self (by rw [hGl]; exact hnl), htl]; rfl
    · rw [List.getD_eq_getElem?_getD, List.getElem?_set_ne c, ← List.getD_eq_getElem?_getD]; exact hGt i (by omega)
  have lP : w.heap.size < gG := by omega
  have kP8 := kP.grown g8.by_ (by simp; omega)
  have kT8 := kT.grown g8.by_ (by simp; omega)
  have o8 := o6.grew g8 (.inr (by
    intro e
    have := o6.geB
    cases hA6 : A6 with
    | none => rw [hA6] at e; simp at e
    | some x => rw [hA6] at e; have := o6.geB x hA6; simp at e; omega))
  have b8 : Below w1.heap.size w1 w8 := g8.below (b5.trans (b67.mono b5.size)) (by omega) (by intro a ha; injection ha with ha; subst ha; show w1.heap.size ≤ gG; omega)
  have hrow8 : ∀ i, i < n → (hs.getD i nHd).l = edN p free i ∧ Ints (OkO w8.heap.size gG gT) w8 (hs.getD i nHd).A (hs.getD i nHd).l := fun i hi => by
    obtain ⟨e1, e2⟩ := hT.row i hi
    refine ⟨e1, ((e2.keep fun b hb => ?_).mono fun b hb => ⟨by have := hb.1; omega, hb.2⟩)⟩
    rw [g8.by_.block b (by have := hb.1; omega) (by simp only [Option.map_some, ne_eq, Option.some.injEq]; exact hb.2.1)]
    exact b67.block b hb.1
  have l8 : Ints (OkO w8.heap.size gG gT) w8 A6 (rowN n 6) := ((OwnI.ints o8).both (OwnI.ints o8).lt).mono fun b hb => ⟨hb.2, by have := hb.1.1; omega, by have := hb.1.1; omega⟩
  have hnil := hT.nil
  have hTl := hT.len
  clear hT kP kT kG o6 o8 b67
  have kT8' : Blk w8 gT 22 ((hs.set n ⟨none, 0, edU p free n 0⟩).map hdV) := by
    rw [set_self_hd (by omega) (by rw [hnil n (Nat.le_refl _)]; rfl)]; exact kT8
  have hmu : (intOf (f 9)).toNat = n := by rw [fr.2.2.2.2.2]; simp [intOf]
  have z78 : w8.heap.size = w7.heap.size := z8
  simp (disch := first | with_reducible assumption | omega) only [push_cast, x_blk, x_cd, ↓reduceIte, Nat.reduceEqDiff, List.map_cons, List.map_nil, Int.reduceEq, Int.lt_irrefl, fr]
  refine loop_rule (fun f' w' => ∃ (k : Nat) (A : Option Addr) (c : Nat), k ≤ p.seen.length ∧ (f' 1 = .slice A1 free.length c1 ∧ f' 2 = .pointer (some ⟨w.heap.size, 0, none⟩) ∧ f' 5 = .int .i64 pw ∧ f' 7 = .slice (some ⟨gG, 0, none⟩) pw pw ∧ f' 8 = .slice (some ⟨gT, 0, none⟩) pw pw ∧ f' 9 = .int .i64 n ∧ f' 10 = .slice A6 (rowN n 6).length c6 ∧ f' 11 = .int .i64 k) ∧
      KeepO w8.heap.size gT gT w8 w' ∧ Blk w' gT 22 ((hs.set n ⟨A, c, edU p free n k⟩).map hdV) ∧ OwnI w8.heap.size 3 w' A c (edU p free n k) ∧ Below w1.heap.size w1 w')
    (fun f' _ => p.seen.length - (intOf (f' 11)).toNat) ⟨0, none, 0, Nat.zero_le _, (by simp only [push_cast, ↓reduceIte, Nat.reduceEqDiff, true_and, and_true, and_self, eq_self, fr]), ⟨Nat.le_refl _, fun _ _ _ _ => rfl⟩, kT8', Own.nil _ _ _ _, b8⟩ ?_
  clear fr kT8 kT8'
  rintro f w9 ⟨k, A, c, hk, fr, o9, kT, ho, b9⟩ J2 hJ2
  have hz9 := o9.size
  have kP := kP8.keepO o9 ⟨by omega, by omega, by omega⟩
  have bb9 := b1.trans (b9.mono b1.size)
  have hIs := (ha.up bb9).seen
  by_cases hlk : k < p.seen.length
  case neg =>
    obtain rfl : k = p.seen.length := by omega
    rw [edU_all] at kT ho
    simp (disch := first | with_reducible assumption | omega) only [push_cast, x_blk, x_cd, ↓reduceIte, Nat.reduceEqDiff, List.map_cons, List.map_nil, Int.reduceEq, Int.lt_irrefl, L_ref15_Good_3, fr, kP.p5, Nat.lt_irrefl]
    refine hJ _ _ ⟨n + 1, G.set n (!tl), hs.set n ⟨A, c, edN p free n⟩, by omega, hset8, hG8, (by simp only [push_cast, ↓reduceIte, Nat.reduceEqDiff, true_and, and_true, and_self, eq_self, fr]), kP, kG8.keepO o9 ⟨by omega, by omega, by omega⟩, ⟨by rw [List.length_set]; exact hTl, kT, fun i hi => ?_, fun i hi => ?_⟩, by omega, b9⟩ (by rw [hmu]; simp only [push_cast, ↓reduceIte, Nat.reduceEqDiff, intOf, fr]; omega)
    · rw [getD_set_hd _ _ _ _ (by omega)]
      by_cases c2 : n = i
      · rw [if_pos c2]
        subst c2
        exact ⟨rfl, ((OwnI.ints ho).both (OwnI.ints ho).lt).mono fun b hb => ⟨hb.2, by have := hb.1.1; omega, by have := hb.1.1; omega⟩⟩
      · rw [if_neg c2]
        obtain ⟨e1, e2⟩ := hrow8 i (by omega)
        exact ⟨e1, (e2.keep fun b hb => o9.at_ b hb.1 hb.2.2 hb.2.2).mono fun b hb => ⟨by have := hb.1; omega, hb.2⟩⟩
    · rw [getD_set_hd _ _ _ _ (by omega), if_neg (by omega)]; exact hnil i (by omega)
  have sI := hIs.isSome (by omega)
  have he := edU_succ (p := p) (free := free) (n := n) hlk
  have hld := fun {K : Fr → World → Prop} {f : Fr} {d : Option Nat} {w : World} {u : World} (hI : Ints (· < u.heap.size) u a.Ap p.seen) => hI.ld (P := Tryd.prog) (K := K) (f := f) (d := d) (w := w) ty_ag_3 k hlk
  generalize p.seen.getD k 0 = e at *
  simp (disch := first | with_reducible assumption | omega) only [push_cast, x_blk, x_cd, ↓reduceIte, Nat.reduceEqDiff, List.map_cons, List.map_nil, Int.reduceEq, Int.lt_irrefl, L_ref15_Good_3, fr, kP.p5, hlk, sI, hld hIs]
  refine call_of (ref1_Has (h1.up bb9) c1 e (by omega)) ?_
  rintro v w10 ⟨rfl, s10⟩
  have b10 := s10.below w9.heap.size
  have o10 := o9.trans (KeepO.below b10 hz9)
  have hlenk := edU_len p free n k
  by_cases q : e ∈ free
  · rw [if_pos q] at he
    simp (disch := first | with_reducible assumption | omega) only [push_cast, x_blk, x_cd, ↓reduceIte, Nat.reduceEqDiff, List.map_cons, List.map_nil, Int.reduceEq, Int.lt_irrefl, fr, decide_eq_true q]
    exact hJ2 _ _ ⟨k + 1, A, c, hlk, (by simp only [push_cast, ↓reduceIte, Nat.reduceEqDiff, true_and, and_true, and_self, eq_self, fr]), o10, by rw [he]; exact kT.below b10 (by omega), by rw [he]; exact ho.below b10 (by omega), b9.trans (b10.mono (by omega))⟩ (by simp only [push_cast, ↓reduceIte, Nat.reduceEqDiff, intOf, fr]; omega)
  rw [if_neg q] at he
  have hz10 := b10.size
  have bd : Below w10.heap.size w10 w10.drew := (Same.refl w10).drew.below _
  have bu := b10.trans (bd.mono hz10)
  have ou := o9.trans (KeepO.below bu hz9)
  have kPu := kP8.keepO ou ⟨by omega, by omega, by omega⟩
  have kTu := kT.below bu (by omega)
  have hou := ho.below bu (by omega)
  have b9u := b9.trans (bu.mono (by omega))
  have bbu := b1.trans (b9u.mono b1.size)
  have hlu := l8.keepO ou.two
  clear o10 b10 bd s10
  generalize hu : w10.drew = u at *
  have hzu := bu.size
  simp (disch := first | with_reducible assumption | omega) only [push_cast, x_blk, x_cd, ↓reduceIte, Nat.reduceEqDiff, List.map_cons, List.map_nil, Int.reduceEq, Int.lt_irrefl, fr, decide_eq_false q, hu, kPu.pM, kPu.p5, hlk, sI, hld (ha.up bbu).seen]
  refine call_of (ref5_Seeing (ha.up bbu).m hm hf.m (hlu.mono fun b hb => by have := hb.1; omega) (by omega) (ha.up bbu).seen (by omega) e) ?_
  rintro v w11 ⟨A11, c11, rfl, o11, b11⟩
  have hnum := hnx (rowN n 6) e
  have hrw : IsRow (nextP p (rowN n 6) e) 6 := (seeL_row hm _ _ _).more (by omega)
  have hseq : seeL p.m p.seen (rowN n 6) e = nextP p (rowN n 6) e := rfl
  rw [hseq] at o11 ⊢
  have hl11 := row_lenV hrw
  have hz11 := b11.size
  simp (disch := first | with_reducible assumption | omega) only [push_cast, x_blk, x_cd, ↓reduceIte, Nat.reduceEqDiff, List.map_cons, List.map_nil, Int.reduceEq, Int.lt_irrefl, fr]
  have bd : Below w11.heap.size w11 w11.drew := (Same.refl w11).drew.below _
  have b12 := b11.trans (bd.mono hz11)
  have o12 := ou.trans (KeepO.below b12 (by omega))
  have kT12 := kTu.below b12 (by omega)
  have ho12 := hou.below b12 (by omega)
  have b9v := b9u.trans (b12.mono (by omega))
  have r12 := OwnI.ints (o11.below bd (Nat.le_refl _))
  have hgd : ((hs.set n ⟨A, c, edU p free n k⟩).map hdV).getD n undef = .slice A (edU p free n k).length c := by
    rw [hd_getD (by rw [List.length_set]; omega), getD_set_hd _ _ _ _ (by omega), if_pos rfl]; rfl
  have lT2 := fun {K : Fr → World → Prop} {f : Fr} {d : Option Nat} {w' : World} => kT12.ld (P := Tryd.prog) (K := K) (f := f) (d := d) (w := w') ty_ag_22 n (by rw [List.length_map, List.length_set]; omega)
  rw [hgd] at lT2
  have hzz := bd.size
  clear bd
  generalize hu2 : w11.drew = u2 at *
  simp (disch := first | with_reducible assumption | omega) only [push_cast, x_blk, x_cd, ↓reduceIte, Nat.reduceEqDiff, List.map_cons, List.map_nil, Int.reduceEq, Int.lt_irrefl, fr, hu2, hlt2, hnl, hsT, eA_zero, lT2]
  refine call_of (ref15_number r12 hrw) ?_
  rintro v w13 ⟨rfl, s13⟩
  have b13 := s13.below u2.heap.size
  generalize vnum (nextP p (rowN n 6) e) = nm at *
  simp (disch := first | with_reducible assumption | omega) only [push_cast, x_blk, x_cd, ↓reduceIte, Nat.reduceEqDiff, List.map_cons, List.map_nil, Int.reduceEq, Int.lt_irrefl, fr]
  refine ⟨b13, ?_⟩
  refine ⟨b13.alloc b13.size _, ?_⟩
  have hz13 := b13.size
  have ho13 := ho12.below b13 (by omega)
  have kT13 := kT12.below b13 (by omega)
  have o13 := o12.trans (KeepO.below b13 (by omega))
  have b9w := b9v.trans (b13.mono (by omega))
  refine app_int slT_22 ho13 (nm : Int) (by omega) (by omega) ?_
  intro A14 c14 w14 ho14 g14 hA14 hs14 z14
  have o14 := o13.trans (KeepO.grew g14 ho13.geB (by omega))
  have kT14 := kT13.grown g14.by_ (by
    cases A with
    | none => simp
    | some x => have := ho13.geB x rfl; simp; omega)
  have b14 := g14.below b9w (by omega) (fun a ha => by have := ho13.geB a ha; omega)
  simp (disch := first | with_reducible assumption | omega) only [push_cast, x_blk, x_cd, ↓reduceIte, Nat.reduceEqDiff, List.map_cons, List.map_nil, Int.reduceEq, Int.lt_irrefl, fr, hlt2, hnl, hsT, eA_zero]
  have hzz14 := o14.size
  have z9u : w14.heap.size ≥ w13.heap.size := g14.by_.size
  refine sto_slice kT14 (by kernel_rfl) n (by rw [List.length_map, List.length_set]; omega) _ _ _ ?_
  intro w15 k15 g15 z15
  have o15 := o14.trans (KeepO.grewB g15 (.inl rfl) (by omega))
  have ho15 := ho14.grew g15 (.inr (by
    intro e'
    cases hA' : A14 with
    | none => rw [hA'] at e'; simp at e'
    | some x => rw [hA'] at e'; have := ho14.geB x hA'; simp at e'; omega))
  have b15 := g15.below b14 (by omega) (by intro a ha; injection ha with ha; subst ha; show w1.heap.size ≤ gT; omega)
  have k16 : Blk w15 gT 22 ((hs.set n ⟨A14, c14, edU p free n k ++ [(nm : Int)]⟩).map hdV) := by
    have e1 : (hs.set n ⟨A14, c14, edU p free n k ++ [(nm : Int)]⟩).map hdV = ((hs.set n ⟨A, c, edU p free n k⟩).map hdV).set n (.slice A14 ((edU p free n k).length + 1) c14) := by
      rw [map_set_hd, map_set_hd, List.set_set]
      simp [hdV]
    rw [e1]; exact k15
  simp (disch := first | with_reducible assumption | omega) only [push_cast, x_blk, x_cd, ↓reduceIte, Nat.reduceEqDiff, List.map_cons, List.map_nil, Int.reduceEq, Int.lt_irrefl, fr]
  exact hJ2 _ _ ⟨k + 1, A14, c14, hlk, (by simp only [push_cast, ↓reduceIte, Nat.reduceEqDiff, true_and, and_true, and_self, eq_self, fr]), o15, by rw [he]; exact k16, by rw [he]; exact ho15, b15⟩ (by simp only [push_cast, ↓reduceIte, Nat.reduceEqDiff, intOf, fr]; omega)
end Go.Proofs.YtcjedgiglimipaaDoor

/-
  Chapter 15's reference: Most: by its contract.
-/
namespace Go.Proofs.YtcjedgiglimipaaDoor
set_option linter.unusedSimpArgs false
set_option linter.unusedVariables false
set_option linter.unusedSectionVars false
open Go.RowKit

/-- The greatest part of some states that can be kept. -/
noncomputable def mostL (p : Plt) (free to : List Int) : List Int := pick fun x => ∃ t, Strict t ∧ (∀ y ∈ t, y ∈ to) ∧ x ∈ t ∧ Kp p free (wideL p.m p.seen t)
theorem part_iff {st : Nat} {to : List Int} (h : IsRow to (st : Int)) (h6 : st ≤ 6) {n : Nat} (hn : n < 64) : PartN n (vnum to) ↔ ∀ y ∈ rowN n 6, y ∈ to := by
  have hb := fun i => num_bit h i
  constructor
  · intro hp y hy
    obtain ⟨i, rfl, _, h2⟩ := rowN_mem.1 hy
    have := hp i h2
    rw [hb] at this
    exact of_decide_eq_true this
  · intro hs i hi
    rw [hb]
    have h6' : i < 6 := by
      rcases Nat.lt_or_ge i 6 with c | c
      · exact c
      · rw [Nat.testBit_lt_two_pow (Nat.lt_of_lt_of_le (show n < 2 ^ 6 from hn) (Nat.pow_le_pow_right (by decide) c))] at hi; cases hi
    exact decide_eq_true (hs _ (rowN_mem.2 ⟨i, rfl, h6', hi⟩))
theorem part_le {a b : Nat} (h : PartN a b) : a ≤ b := Nat.le_of_testBit h
/-- What is joined so far. -/
def MostU (p : Plt) (free to out : List Int) (n : Nat) : Prop := Strict out ∧ ∀ x, x ∈ out ↔ ∃ k, 1 ≤ k ∧ k < n ∧ PartN k (vnum to) ∧ Kp p free (wideL p.m p.seen (rowN k 6)) ∧ x ∈ rowN k 6
theorem MostU.done {p : Plt} {free to out : List Int} {st : Nat} (hr : IsRow to (st : Int)) (h6 : st ≤ 6) (h : MostU p free to out (vnum to + 1)) : out = mostL p free to := by
  have h64 : vnum to < 64 := Nat.lt_of_lt_of_le (num_lt hr) (Nat.le_trans (Nat.pow_le_pow_right (by decide) h6) (by decide))
  have hsm : Small out := fun x hx => by
    obtain ⟨k, _, _, _, _, hx⟩ := (h.2 x).1 hx
    obtain ⟨i, rfl, hi, _⟩ := rowN_mem.1 hx
    omega
  refine pick_eq h.1 hsm fun x => ?_
  rw [h.2]
  constructor
  · rintro ⟨k, h1, h2, h3, h4, h5⟩
    exact ⟨_, rowN_strict _ _, (part_iff hr h6 (by omega)).1 h3, h5, h4⟩
  · rintro ⟨t, h1, h2, h3, h4⟩
    have htr : IsRow t (st : Int) := IsRow.of_strict h1 fun y hy => by have := hr.mem (h2 y hy); omega
    have e1 : rowN (vnum t) 6 = t := by rw [rowN_k (num_lt htr) h6, row_num htr]
    have ht64 : vnum t < 64 := Nat.lt_of_lt_of_le (num_lt htr) (Nat.le_trans (Nat.pow_le_pow_right (by decide) h6) (by decide))
    have hp : PartN (vnum t) (vnum to) := (part_iff hr h6 ht64).2 (by rw [e1]; exact h2)
    refine ⟨vnum t, ?_, by have := part_le hp; omega, hp, by rw [e1]; exact h4, by rw [e1]; exact h3⟩
    rcases Nat.eq_zero_or_pos (vnum t) with c | c
    · rw [c] at e1
      rw [← e1] at h3
      obtain ⟨i, _, _, hi⟩ := rowN_mem.1 h3
      simp at hi
    · exact c
theorem MostU.skip {p : Plt} {free to out : List Int} {n : Nat} (h : MostU p free to out n) (hn : ¬ (PartN n (vnum to) ∧ Kp p free (wideL p.m p.seen (rowN n 6)))) : MostU p free to out (n + 1) := by
  refine ⟨h.1, fun x => ?_⟩
  rw [h.2]
  constructor
  · rintro ⟨k, h1, h2, h3⟩; exact ⟨k, h1, by omega, h3⟩
  · rintro ⟨k, h1, h2, h3, h4, h5⟩
    by_cases c : k = n
    · subst c; exact absurd ⟨h3, h4⟩ hn
    · exact ⟨k, h1, by omega, h3, h4, h5⟩
theorem MostU.join {p : Plt} {free to out : List Int} {n : Nat} (h : MostU p free to out n) (h1 : 1 ≤ n) (h2 : PartN n (vnum to)) (h3 : Kp p free (wideL p.m p.seen (rowN n 6))) : MostU p free to (sortedL (out ++ rowN n 6)) (n + 1) := by
  refine ⟨(sortedL_spec _).1, fun x => ?_⟩
  rw [(sortedL_spec _).2, List.mem_append, h.2]
  constructor
  · rintro (⟨k, g1, g2, g3⟩ | hx)
    · exact ⟨k, g1, by omega, g3⟩
    · exact ⟨n, h1, by omega, h2, h3, hx⟩
  · rintro ⟨k, g1, g2, g3, g4, g5⟩
    by_cases c : k = n
    · subst c; exact .inr g5
    · exact .inl ⟨k, g1, by omega, g3, g4, g5⟩
theorem MostU.row {p : Plt} {free to out : List Int} {n : Nat} (h : MostU p free to out n) : IsRow out 6 := IsRow.of_strict h.1 fun x hx => by
  obtain ⟨k, _, _, _, _, hx⟩ := (h.2 x).1 hx
  obtain ⟨i, rfl, hi, _⟩ := rowN_mem.1 hx
  omega
theorem ref15_Most {w : World} {a : PV} {p : Plt} (ha : IsP (· < w.heap.size) w a p) (hp : p.May) {st : Nat} (hst : p.m.states = st) {free : List Int} {gG : Nat} {G : List Bool} (hG : Blk w gG 4 (G.map Value.bool)) (hGl : G.length = 2 ^ st) (hGk : ∀ n, n < 2 ^ st → (G.getD n false = true ↔ Kp p free (rowN n 6)))
    {A2 : Option Addr} {c2 : Nat} {to : List Int} (h2 : Ints (· < w.heap.size) w A2 to) (hr : IsRow to (st : Int)) :
    Cal Tryd.prog 110 [a.val p, .slice (some ⟨gG, 0, none⟩) (2 ^ st : Nat) (2 ^ st : Nat), .slice A2 to.length c2] w fun v w' => ∃ A c, v = .slice A (mostL p free to).length c ∧ OwnI w.heap.size 3 w' A c (mostL p free to) ∧ Below w.heap.size w w' := by
  have hm := hp.1
  have h6 : st ≤ 6 := by have := hp.2.1; omega
  have n8 : p.seen.length ≤ 8 := by have := row_lenV hp.2.2.1; have := hm.2.2.2.1; omega
  have h64 : 2 ^ st ≤ 64 := Nat.le_trans (Nat.pow_le_pow_right (by decide) h6) (by decide)
  have hall := num_lt hr
  obtain ⟨D, hD⟩ : ∃ D, 2 ^ st = D := ⟨_, rfl⟩
  simp only [hD] at hGl hGk h64 hall ⊢
  have hdone := fun {out : List Int} (h : MostU p free to out (vnum to + 1)) => h.done hr h6
  have hpr := fun (t : List Int) (ht : IsRow t (st : Int)) => show vnum t < D ∧ rowN (vnum t) 6 = t from ⟨hD ▸ num_lt ht, by rw [rowN_k (num_lt ht) h6, row_num ht]⟩
  refine cal_ref15_Most (by simp) 1000000 fun Q hQ => ?_
  simp (disch := first | with_reducible assumption | omega) only [push_cast, x_blk, x_cd, ↓reduceIte, Nat.reduceEqDiff, List.map_cons, List.map_nil, Int.reduceEq, Int.lt_irrefl, F_ref15_Most]
  refine blk_of (box_agg _ (a.cells p)) ?_
  intro w1 kP b1 z1
  simp (disch := first | with_reducible assumption | omega) only [push_cast, x_blk, x_cd, ↓reduceIte, Nat.reduceEqDiff, List.map_cons, List.map_nil, Int.reduceEq, Int.lt_irrefl]
  refine call_of (ref15_number (h2.up b1) (hr.more (by omega))) ?_
  rintro v w2 ⟨rfl, s2⟩
  have bb := s2.below w1.heap.size
  replace kP := kP.same s2
  have kG := (hG.below b1 hG.lt).same s2
  have lG := hG.lt
  generalize hal : vnum to = al at *
  refine loop_rule (fun f w' => ∃ (n : Nat) (out : List Int) (A : Option Addr) (c : Nat), 1 ≤ n ∧ n ≤ al + 1 ∧ MostU p free to out n ∧ (f 1 = .slice (some ⟨gG, 0, none⟩) D D ∧ f 3 = .pointer (some ⟨w.heap.size, 0, none⟩) ∧ f 7 = .int .i64 al ∧ f 8 = .slice A out.length c ∧ f 9 = .int .i64 n) ∧
      OwnI w.heap.size 3 w' A c out ∧ Below w1.heap.size w1 w')
    (fun f _ => al + 1 - (intOf (f 9)).toNat) ⟨1, [], none, 0, by omega, by omega, ⟨by simp [Strict], fun x => ⟨fun h => by simp at h, fun ⟨k, g1, g2, _⟩ => absurd g2 (by omega)⟩⟩, ⟨rfl, rfl, rfl, rfl, rfl⟩, Own.nil _ _ _ _, bb⟩ ?_
  have kP1 := kP
  have kG1 := hG.below b1 lG
  have kP0 : Blk w1 w.heap.size 43 (a.cells p) := by unfold Blk at kP ⊢; rw [← s2.heap]; exact kP
  clear bb kP kG kP1
  rintro f w3 ⟨n, out, A, c, hn1, hn2, hM, fr, ho, b3⟩ J hJ
  have hz1 := b1.size
  have hz3 := b3.size
  have kP := kP0.below b3 kP0.lt
  have kG := kG1.below b3 (by omega)
  by_cases hle : (n : Int) ≤ (al : Int)
  case neg =>
    obtain rfl : n = al + 1 := by omega
    have e := hdone hM
    rw [e] at fr ho
    have hle2 : ¬ ((al : Int) + 1 ≤ (al : Int)) := by omega
    simp (disch := first | with_reducible assumption | omega) only [push_cast, x_blk, x_cd, ↓reduceIte, Nat.reduceEqDiff, List.map_cons, List.map_nil, Int.reduceEq, Int.lt_irrefl, L_ref15_Most_0, fr, hle2]
    exact fin_1 (hQ _ _ ⟨A, c, (by simp only [push_cast, ↓reduceIte, Nat.reduceEqDiff, Int.reduceEq, fr]), ho, b1.trans (b3.mono b1.size)⟩)
  have hn64 : n < 64 := by omega
  have h01 := hM.row
  have hlo := row_lenV h01
  simp (disch := first | with_reducible assumption | omega) only [push_cast, x_blk, x_cd, ↓reduceIte, Nat.reduceEqDiff, List.map_cons, List.map_nil, Int.reduceEq, Int.lt_irrefl, L_ref15_Most_0, fr, hle]
  refine call_of (ref15_part hn64 (show al < 64 by omega)) ?_
  rintro v w4 ⟨⟨r, rfl, hr1⟩, s4⟩
  have b4 := s4.below w3.heap.size
  cases r
  case false =>
    have hsk := hM.skip fun hh => Bool.noConfusion (hr1.2 (hal ▸ hh.1))
    simp (disch := first | with_reducible assumption | omega) only [push_cast, x_blk, x_cd, ↓reduceIte, Nat.reduceEqDiff, List.map_cons, List.map_nil, Int.reduceEq, Int.lt_irrefl, fr]
    exact hJ _ _ ⟨n + 1, out, A, c, by omega, by omega, hsk, (by simp only [push_cast, ↓reduceIte, Nat.reduceEqDiff, true_and, and_true, and_self, eq_self, fr]), ho.below b4 (by omega), b3.trans (b4.mono hz3)⟩ (by simp only [push_cast, ↓reduceIte, Nat.reduceEqDiff, intOf, fr]; omega)
  have hpt := hr1.1 rfl
  rw [← hal] at hpt
  have hsub := (part_iff hr h6 hn64).1 hpt
  rw [hal] at hpt
  have hrn : IsRow (rowN n 6) (st : Int) := IsRow.of_strict (rowN_strict _ _) fun x hx => by have := hr.mem (hsub x hx); omega
  simp (disch := first | with_reducible assumption | omega) only [push_cast, x_blk, x_cd, ↓reduceIte, Nat.reduceEqDiff, List.map_cons, List.map_nil, Int.reduceEq, Int.lt_irrefl, fr]
  refine call_of (ref15_rowOf hn64) ?_
  rintro v w5 ⟨A5, c5, rfl, o5, b5⟩
  have b35 := b4.trans (b5.mono b4.size)
  have hz5 := b35.size
  replace kP := kP.below b35 (by omega)
  replace kG := kG.below b35 (by omega)
  have b15 := b3.trans (b35.mono hz3)
  have bb5 := b1.trans (b15.mono hz1)
  have i5 := (OwnI.ints o5).lt
  have hrnm : IsRow (rowN n 6) p.m.states := by rw [hst]; exact hrn
  simp (disch := first | with_reducible assumption | omega) only [push_cast, x_blk, x_cd, ↓reduceIte, Nat.reduceEqDiff, List.map_cons, List.map_nil, Int.reduceEq, Int.lt_irrefl, fr, kP.pM, kP.p5]
  refine call_of (ref5_Wide (ha.up bb5).m hm i5 hrnm (ha.up bb5).seen (by omega)) ?_
  rintro v w6 ⟨A6, c6, rfl, o6, b6⟩
  have hz6 := b6.size
  replace kG := kG.below b6 (by omega)
  have b36 := b35.trans (b6.mono b35.size)
  have hwr : IsRow (wideL p.m p.seen (rowN n 6)) (st : Int) := hst ▸ wideL_row hm (row_range hrnm)
  obtain ⟨hwn, hwe⟩ := hpr _ hwr
  have hkw := hGk _ hwn
  rw [hwe] at hkw
  simp (disch := first | with_reducible assumption | omega) only [push_cast, x_blk, x_cd, ↓reduceIte, Nat.reduceEqDiff, List.map_cons, List.map_nil, Int.reduceEq, Int.lt_irrefl, fr]
  refine call_of (ref15_number (OwnI.ints o6) (hwr.more (by omega))) ?_
  rintro v w7 ⟨rfl, s7⟩
  have b7 := s7.below w6.heap.size
  have b37 := b36.trans (b7.mono b36.size)
  replace kG := kG.same s7
  generalize vnum (wideL p.m p.seen (rowN n 6)) = nw at *
  have hsG : (some (⟨gG, 0, none⟩ : Addr)).isSome = true := rfl
  have lG2 := fun {K : Fr → World → Prop} {f : Fr} {d : Option Nat} {w' : World} => kG.ld (P := Tryd.prog) (K := K) (f := f) (d := d) (w := w') ty_ag_4 nw (by rw [List.length_map, hGl]; exact hwn)
  have gbd : (G.map Value.bool).getD nw undef = .bool (G.getD nw false) := getD_map _ _ _ _ _ (by rw [hGl]; exact hwn)
  rw [gbd] at lG2
  have ho7 := ho.below b37 (by omega)
  have b17 := b3.trans (b37.mono hz3)
  cases hgw : G.getD nw false
  case false =>
    rw [hgw] at lG2 hkw
    have hsk := hM.skip fun hh => Bool.noConfusion (hkw.2 hh.2)
    simp (disch := first | with_reducible assumption | omega) only [push_cast, x_blk, x_cd, ↓reduceIte, Nat.reduceEqDiff, List.map_cons, List.map_nil, Int.reduceEq, Int.lt_irrefl, fr, hwn, hsG, eA_zero, lG2]
    exact hJ _ _ ⟨n + 1, out, A, c, by omega, by omega, hsk, (by simp only [push_cast, ↓reduceIte, Nat.reduceEqDiff, true_and, and_true, and_self, eq_self, fr]), ho7, b17⟩ (by simp only [push_cast, ↓reduceIte, Nat.reduceEqDiff, intOf, fr]; omega)
  rw [hgw] at lG2 hkw
  have hjn := hM.join hn1 (by rw [hal]; exact hpt) (hkw.1 rfl)
  have hl5 := rowN_len n 6
  simp (disch := first | with_reducible assumption | omega) only [push_cast, x_blk, x_cd, ↓reduceIte, Nat.reduceEqDiff, List.map_cons, List.map_nil, Int.reduceEq, Int.lt_irrefl, fr, hwn, hsG, eA_zero, lG2]
  refine call_of (ref1_Join (OwnI.ints ho7).lt ((i5.up b6).up b7) (by omega) (by omega)) ?_
  rintro v w8 ⟨A8, c8, rfl, o8, b8⟩
  simp (disch := first | with_reducible assumption | omega) only [push_cast, x_blk, x_cd, ↓reduceIte, Nat.reduceEqDiff, List.map_cons, List.map_nil, Int.reduceEq, Int.lt_irrefl, fr]
  exact hJ _ _ ⟨n + 1, _, A8, c8, by omega, by omega, hjn, (by simp only [push_cast, ↓reduceIte, Nat.reduceEqDiff, true_and, and_true, and_self, eq_self, fr]), o8.base (by have := b37.size; omega), b17.trans (b8.mono (by have := b37.size; omega))⟩ (by simp only [push_cast, ↓reduceIte, Nat.reduceEqDiff, intOf, fr]; omega)
end Go.Proofs.YtcjedgiglimipaaDoor

/-
  Chapter 15's reference: Stay: by its contract.
-/
namespace Go.Proofs.YtcjedgiglimipaaDoor
set_option linter.unusedSimpArgs false
set_option linter.unusedVariables false
set_option linter.unusedSectionVars false
open Go.RowKit

noncomputable def toL (p : Plt) (free node : List Int) (e : Int) : List Int := if e ∈ free then mostL p free (stepL p.m node e) else stepL p.m node e
def StayIs (m : Mach) (to : List Int) (e s : Int) : Prop := ∃ t ∈ to, stepL m [s] e = [t]
noncomputable def stayL (m : Mach) (to node : List Int) (e : Int) : List Int := node.filter fun s => @decide (StayIs m to e s) (Classical.propDecidable _)
theorem stayL_mem {m : Mach} {to node : List Int} {e s : Int} : s ∈ stayL m to node e ↔ s ∈ node ∧ StayIs m to e s := by
  unfold stayL
  rw [List.mem_filter]
  exact and_congr Iff.rfl (@decide_eq_true_iff _ (Classical.propDecidable _))
theorem stayL_take {m : Mach} {to node : List Int} {e : Int} {k : Nat} (hk : k < node.length) :
    (StayIs m to e (node.getD k 0) → stayL m to (node.take (k + 1)) e = stayL m to (node.take k) e ++ [node.getD k 0]) ∧ (¬ StayIs m to e (node.getD k 0) → stayL m to (node.take (k + 1)) e = stayL m to (node.take k) e) := by
  unfold stayL
  rw [take_snoc _ (0 : Int) k hk, List.filter_append]
  generalize node.getD k 0 = s
  refine ⟨fun h => ?_, fun h => ?_⟩
  · rw [List.filter_cons, if_pos (@decide_eq_true _ (Classical.propDecidable _) h)]; rfl
  · rw [List.filter_cons, if_neg (by simpa using h)]; simp
theorem stayL_len (m : Mach) (to node : List Int) (e : Int) : (stayL m to node e).length ≤ node.length := by unfold stayL; exact List.length_filter_le _ _
theorem mostL_row {p : Plt} {free to : List Int} {b : Int} (h : IsRow to b) : IsRow (mostL p free to) b := pick_row fun x ⟨_, _, h2, h3, _⟩ => (h.mem (h2 x h3)).2.1
theorem toL_row {p : Plt} (hm : p.m.May) (free node : List Int) (e : Int) : IsRow (toL p free node e) p.m.states := by
  unfold toL
  split
  · exact mostL_row (stepL_row hm _ _)
  · exact stepL_row hm _ _
theorem ref15_Stay {w : World} {a : PV} {p : Plt} (ha : IsP (· < w.heap.size) w a p) (hf : p.Fits) (hp : p.May) {st : Nat} (hst : p.m.states = st) {A1 : Option Addr} {c1 : Nat} {free : List Int} (h1 : Ints (· < w.heap.size) w A1 free) (n1 : free.length ≤ 17592186043904)
    {gG : Nat} {G : List Bool} (hG : Blk w gG 4 (G.map Value.bool)) (hGl : G.length = 2 ^ st) (hGk : ∀ n, n < 2 ^ st → (G.getD n false = true ↔ Kp p free (rowN n 6)))
    {A2 : Option Addr} {c2 : Nat} {node : List Int} (h2 : Ints (· < w.heap.size) w A2 node) (hr : IsRow node p.m.states) (e : Int) :
    Cal Tryd.prog 78 [a.val p, .slice A1 free.length c1, .slice (some ⟨gG, 0, none⟩) (2 ^ st : Nat) (2 ^ st : Nat), .slice A2 node.length c2, .int .i64 e] w fun v w' => ∃ A c A' c', v = .tuple #[.slice A (stayL p.m (toL p free node e) node e).length c, .slice A' (toL p free node e).length c'] ∧
      OwnI w.heap.size 3 w' A c (stayL p.m (toL p free node e) node e) ∧ Ints (· < w'.heap.size) w' A' (toL p free node e) ∧ Below w.heap.size w w' := by
  have hm := hp.1
  have h6 : st ≤ 6 := by have := hp.2.1; omega
  have nN := row_lenV hr
  have hms := hp.2.1
  obtain ⟨D, hD⟩ : ∃ D, 2 ^ st = D := ⟨_, rfl⟩
  have hmost := fun (W : World) (bW : Below w.heap.size w W) {A2 : Option Addr} {c2 : Nat} {to : List Int} (h2 : Ints (· < W.heap.size) W A2 to) (hr : IsRow to (st : Int)) => ref15_Most (c2 := c2) (ha.up bW) hp hst (hG.below bW hG.lt) hGl hGk h2 hr
  simp only [hD] at hmost ⊢
  refine cal_ref15_Stay (by simp) 1000000 fun Q hQ => ?_
  simp (disch := first | with_reducible assumption | omega) only [push_cast, x_blk, x_cd, ↓reduceIte, Nat.reduceEqDiff, List.map_cons, List.map_nil, Int.reduceEq, Int.lt_irrefl, F_ref15_Stay]
  refine blk_of (box_agg _ (a.cells p)) ?_
  intro w1 kP b1 z1
  simp (disch := first | with_reducible assumption | omega) only [push_cast, x_blk, x_cd, ↓reduceIte, Nat.reduceEqDiff, List.map_cons, List.map_nil, Int.reduceEq, Int.lt_irrefl, kP.pM]
  refine call_of (ref2_Step (ha.up b1).m hf.m (h2.up b1) (by omega) e) ?_
  rintro v w2 ⟨A3, c3, rfl, o2, b2⟩
  have bb2 := b1.trans (b2.mono b1.size)
  replace kP := kP.below b2 kP.lt
  have i2 := (OwnI.ints o2).lt
  simp (disch := first | with_reducible assumption | omega) only [push_cast, x_blk, x_cd, ↓reduceIte, Nat.reduceEqDiff, List.map_cons, List.map_nil, Int.reduceEq, Int.lt_irrefl]
  refine call_of (ref1_Has (h1.up bb2) c1 e (by omega)) ?_
  rintro v w3 ⟨rfl, s3⟩
  have b3 := s3.below w2.heap.size
  have bb3 := bb2.trans (b3.mono bb2.size)
  replace kP := kP.below b3 kP.lt
  replace i2 := i2.up b3
  have hT : ∀ T, toL p free node e = T → IsRow T p.m.states := fun T hT => hT ▸ toL_row hm free node e
  by_cases q : e ∈ free
  case' pos =>
    simp (disch := first | with_reducible assumption | omega) only [push_cast, x_blk, x_cd, ↓reduceIte, Nat.reduceEqDiff, List.map_cons, List.map_nil, Int.reduceEq, Int.lt_irrefl, decide_eq_true q, kP.pA']
    refine call_of (hmost _ bb3 i2 (hst ▸ stepL_row hm _ _)) ?_
    rintro v w4 ⟨A4, c4, rfl, o4, b4⟩
    have bb4 := bb3.trans (b4.mono bb3.size)
    replace kP := kP.below b4 kP.lt
    have i4 := (OwnI.ints o4).lt
    have hTe : mostL p free (stepL p.m node e) = toL p free node e := by unfold toL; rw [if_pos q]
    rw [hTe] at i4 ⊢
    simp (disch := first | with_reducible assumption | omega) only [push_cast, x_blk, x_cd, ↓reduceIte, Nat.reduceEqDiff, List.map_cons, List.map_nil, Int.reduceEq, Int.lt_irrefl]
  case' neg =>
    have bb4 := bb3
    have i4 := i2
    have hTe : stepL p.m node e = toL p free node e := by unfold toL; rw [if_neg q]
    rw [hTe] at i4 ⊢
    simp (disch := first | with_reducible assumption | omega) only [push_cast, x_blk, x_cd, ↓reduceIte, Nat.reduceEqDiff, List.map_cons, List.map_nil, Int.reduceEq, Int.lt_irrefl, decide_eq_false q]
    generalize A3 = A4 at *
    generalize c3 = c4 at *
    generalize w3 = w4 at *
  all_goals
    have hrT := toL_row hm free node e
    clear hTe hT
    generalize toL p free node e = T at *
    have hz4 : w.heap.size ≤ w4.heap.size := bb4.size
    have lP := kP.lt
    refine loop_rule (fun f w' => ∃ (k : Nat) (A : Option Addr) (c : Nat), k ≤ node.length ∧ (f 3 = .slice A2 node.length c2 ∧ f 4 = .int .i64 e ∧ f 5 = .pointer (some ⟨w.heap.size, 0, none⟩) ∧ f 12 = .slice A4 T.length c4 ∧ f 13 = .slice A (stayL p.m T (node.take k) e).length c ∧ f 14 = .int .i64 k) ∧
        OwnI w4.heap.size 3 w' A c (stayL p.m T (node.take k) e) ∧ Below w4.heap.size w4 w')
      (fun f _ => node.length - (intOf (f 14)).toNat) ⟨0, none, 0, Nat.zero_le _, (by simp only [push_cast, ↓reduceIte, Nat.reduceEqDiff, Int.reduceEq, List.take_zero, stayL, List.filter_nil, List.length_nil, and_self, eq_self]), (by rw [show stayL p.m T (node.take 0) e = [] by simp [stayL]]; exact Own.nil _ _ _ _), Below.refl _ _⟩ ?_
    rintro f w5 ⟨k, A, c, hk, fr, ho, b5⟩ J hJ
    have hz5 := b5.size
    have bb5 := bb4.trans (b5.mono bb4.size)
    by_cases hlt : k < node.length
    case neg =>
      obtain rfl : k = node.length := by omega
      rw [List.take_length] at fr ho
      simp (disch := first | with_reducible assumption | omega) only [push_cast, x_blk, x_cd, ↓reduceIte, Nat.reduceEqDiff, List.map_cons, List.map_nil, Int.reduceEq, Int.lt_irrefl, L_ref15_Stay_0, fr, Nat.lt_irrefl]
      exact fin_2 (hQ _ _ ⟨A, c, A4, c4, (by simp only [push_cast, ↓reduceIte, Nat.reduceEqDiff, Int.reduceEq, fr]), ho.base hz4, i4.up b5, bb5⟩)
    have hsl := stayL_len p.m T (node.take k) e
    have htk : (node.take k).length ≤ k := List.length_take_le _ _
    obtain ⟨e1, e2⟩ := stayL_take (m := p.m) (to := T) (e := e) hlt
    have bd : Below w5.heap.size w5 w5.drew := (Same.refl w5).drew.below _
    have b6 := b5.trans (bd.mono hz5)
    have bb6 := bb4.trans (b6.mono bb4.size)
    have kP6 := kP.below b6 lP
    have ho6 := ho.below bd (by omega)
    have hI := h2.up bb6
    have sI := hI.isSome (by omega)
    have hld := fun {K : Fr → World → Prop} {f : Fr} {d : Option Nat} {w : World} {u : World} (hI : Ints (· < u.heap.size) u A2 node) => hI.ld (P := Tryd.prog) (K := K) (f := f) (d := d) (w := w) ty_ag_3 k hlt
    generalize hs : node.getD k 0 = s at *
    generalize hu : w5.drew = u at *
    have hzu := b6.size
    have oE := own_int1 u s 3
    have bE : Below u.heap.size u (u.alloc (.cells [.int .i64 s].toArray 3)) := (Below.refl _ _).alloc (Nat.le_refl _) _
    simp (disch := first | with_reducible assumption | omega) only [push_cast, x_blk, x_cd, ↓reduceIte, Nat.reduceEqDiff, List.map_cons, List.map_nil, Int.reduceEq, Int.lt_irrefl, L_ref15_Stay_0, fr, hlt, hu, kP6.pM, sI, hld hI, bs_22]
    refine ⟨bE, ?_⟩
    generalize u.alloc (.cells [.int .i64 s].toArray 3) = u2 at *
    have bb7 := bb6.trans (bE.mono bb6.size)
    refine call_of (ref2_Step (c1 := 1) (ha.up bb7).m hf.m (OwnI.ints oE).lt (by simp) e) ?_
    rintro v w8 ⟨A8, c8, rfl, o8, b8⟩
    have bE8 := bE.trans (b8.mono bE.size)
    have b68 := b6.trans (bE8.mono hzu)
    have ho8 := ho6.below bE8 (by omega)
    have rl := stepL_row hm [s] e
    have nl := row_lenV rl
    have i8 := OwnI.ints o8
    have hq : StayIs p.m T e s ↔ (stepL p.m [s] e).length = 1 ∧ (stepL p.m [s] e).getD 0 0 ∈ T := by
      constructor
      · rintro ⟨t, ht, h⟩
        rw [h]; exact ⟨rfl, ht⟩
      · rintro ⟨hl1, hin⟩
        refine ⟨_, hin, ?_⟩
        generalize stepL p.m [s] e = l at *
        match l, hl1 with
        | [x], _ => rfl
    simp (disch := first | with_reducible assumption | omega) only [push_cast, x_blk, x_cd, ↓reduceIte, Nat.reduceEqDiff, List.map_cons, List.map_nil, Int.reduceEq, Int.lt_irrefl, fr]
    refine ⟨bE8, ?_⟩
    generalize stepL p.m [s] e = l at *
    by_cases cl : (l.length : Int) = 1
    case neg =>
      have hn : ¬ StayIs p.m T e s := fun h => cl (by have := (hq.1 h).1; omega)
      rw [← e2 hn] at ho8
      simp (disch := first | with_reducible assumption | omega) only [push_cast, x_blk, x_cd, ↓reduceIte, Nat.reduceEqDiff, List.map_cons, List.map_nil, Int.reduceEq, Int.lt_irrefl, fr, cl]
      exact hJ _ _ ⟨k + 1, A, c, hlt, (by simp only [push_cast, ↓reduceIte, Nat.reduceEqDiff, true_and, and_true, and_self, eq_self, fr, e2 hn]), ho8, b68⟩ (by simp only [push_cast, ↓reduceIte, Nat.reduceEqDiff, intOf, fr]; omega)
    have hl1 : l.length = 1 := by omega
    have sA := i8.isSome (by omega)
    have h01 : (0 : Int) < (l.length : Int) := by omega
    have hl0 := fun {K : Fr → World → Prop} {f : Fr} {d : Option Nat} {w : World} => i8.ld (P := Tryd.prog) (K := K) (f := f) (d := d) (w := w) ty_ag_3 0 (by omega)
    generalize l.getD 0 0 = t0 at *
    have hz8 := b68.size
    simp (disch := first | with_reducible assumption | omega) only [push_cast, x_blk, x_cd, ↓reduceIte, Nat.reduceEqDiff, List.map_cons, List.map_nil, Int.reduceEq, Int.lt_irrefl, fr, cl, eq_self, sA, h01, Int.le_refl, Int.toNat_zero, hl0]
    refine call_of (ref1_Has (i4.up b68) c4 t0 (by have := row_lenV hrT; omega)) ?_
    rintro v w9 ⟨rfl, s9⟩
    have b9 := s9.below w8.heap.size
    have b69 := b68.trans (b9.mono hz8)
    have ho9 := ho8.below b9 (by have := bb4.size; omega)
    by_cases ct : t0 ∈ T
    case neg =>
      have hn : ¬ StayIs p.m T e s := fun h => ct (hq.1 h).2
      rw [← e2 hn] at ho9
      simp (disch := first | with_reducible assumption | omega) only [push_cast, x_blk, x_cd, ↓reduceIte, Nat.reduceEqDiff, List.map_cons, List.map_nil, Int.reduceEq, Int.lt_irrefl, fr, decide_eq_false ct]
      exact hJ _ _ ⟨k + 1, A, c, hlt, (by simp only [push_cast, ↓reduceIte, Nat.reduceEqDiff, true_and, and_true, and_self, eq_self, fr, e2 hn]), ho9, b69⟩ (by simp only [push_cast, ↓reduceIte, Nat.reduceEqDiff, intOf, fr]; omega)
    have hy := e1 (hq.2 ⟨hl1, ct⟩)
    have hz9 := b69.size
    simp (disch := first | with_reducible assumption | omega) only [push_cast, x_blk, x_cd, ↓reduceIte, Nat.reduceEqDiff, List.map_cons, List.map_nil, Int.reduceEq, Int.lt_irrefl, fr, decide_eq_true ct, hlt, sI, hld (h2.up (bb4.trans (b69.mono bb4.size))), bs_22]
    refine app_int slT_22 ho9 s (by omega) (by omega) ?_
    intro A10 c10 w10 o10 g10 _ _ z10
    simp (disch := first | with_reducible assumption | omega) only [push_cast, x_blk, x_cd, ↓reduceIte, Nat.reduceEqDiff, List.map_cons, List.map_nil, Int.reduceEq, Int.lt_irrefl, fr]
    exact hJ _ _ ⟨k + 1, A10, c10, hlt, (by simp only [push_cast, ↓reduceIte, Nat.reduceEqDiff, true_and, and_true, and_self, eq_self, fr, hy, List.length_append, List.length_cons, List.length_nil]), by rw [hy]; exact o10, g10.below b69 (by omega) ho9.geB⟩ (by simp only [push_cast, ↓reduceIte, Nat.reduceEqDiff, intOf, fr]; omega)
end Go.Proofs.YtcjedgiglimipaaDoor

/-
  Chapter 15: is a plant plain? By the contracts.
-/
namespace Go.Proofs.YtcjedgiglimipaaDoor
set_option linter.unusedSimpArgs false
set_option linter.unusedVariables false
set_option linter.unusedSectionVars false
open Go.RowKit

def PlainM (m : Mach) : Prop := m.starts.length ≤ 1 ∧ ∀ s e : Int, 0 ≤ s → s < m.states → 0 ≤ e → e < m.events → (stepL m [s] e).length ≤ 1
def KeyEq (a b : Arr) : Prop := a.frm = b.frm ∧ a.evt = b.evt
instance (a b : Arr) : Decidable (KeyEq a b) := inferInstanceAs (Decidable (_ ∧ _))
theorem two_of {l : List Int} (hs : Strict l) (h : ¬ l.length ≤ 1) : ∃ x y, x ∈ l ∧ y ∈ l ∧ x < y := by
  match l, h with
  | [], h => simp at h
  | [x], h => simp at h
  | x :: y :: l, _ => exact ⟨x, y, by simp, by simp, (List.pairwise_cons.1 hs).1 y (by simp)⟩
theorem ord_at {m : Mach} (hm : m.May) {i j : Nat} (hij : i < j) (hj : j < m.arrows.length) : (m.arrows.getD i default).lt (m.arrows.getD j default) := by
  have := List.pairwise_iff_getElem.1 (May.ord hm) i j (by omega) hj hij
  rw [List.getD_eq_getElem?_getD, List.getD_eq_getElem?_getD, List.getElem?_eq_getElem (by omega : i < m.arrows.length), List.getElem?_eq_getElem hj]
  exact this
theorem arr_ix {m : Mach} {a : Arr} (h : a ∈ m.arrows) : ∃ i, i < m.arrows.length ∧ m.arrows.getD i default = a := by
  obtain ⟨i, hi, e⟩ := List.getElem_of_mem h
  exact ⟨i, hi, by rw [List.getD_eq_getElem?_getD, List.getElem?_eq_getElem hi, e]; rfl⟩
theorem plain_adj {m : Mach} (hm : m.May) : PlainM m ↔ m.starts.length ≤ 1 ∧ ∀ i, 0 < i → i < m.arrows.length → ¬ KeyEq (m.arrows.getD (i - 1) default) (m.arrows.getD i default) := by
  refine and_congr Iff.rfl ⟨fun h i h0 hi hk => ?_, fun h s e s0 s1 e0 e1 => Classical.byContradiction fun hn => ?_⟩
  · have hlt := ord_at hm (show i - 1 < i by omega) hi
    have ha := getD_mem m.arrows default (i - 1) (by omega)
    have hb := getD_mem m.arrows default i hi
    generalize m.arrows.getD (i - 1) default = a at *
    generalize m.arrows.getD i default = b at *
    obtain ⟨⟨a1, a2⟩, _, a5, a6⟩ := May.arr hm ha
    have hl := h _ _ a1 a2 a5 a6
    have ma : a.to_ ∈ stepL m [a.frm] a.evt := mem_stepL.2 ⟨a, ha, rfl, by simp, rfl⟩
    have mb : b.to_ ∈ stepL m [a.frm] a.evt := mem_stepL.2 ⟨b, hb, hk.2.symm, by simp [hk.1], rfl⟩
    have hne : a.to_ ≠ b.to_ := by
      unfold Arr.lt at hlt
      obtain ⟨k1, k2⟩ := hk
      omega
    generalize stepL m [a.frm] a.evt = l at *
    match l, hl with
    | [], _ => simp at ma
    | [x], _ => exact hne ((List.mem_singleton.1 ma).trans (List.mem_singleton.1 mb).symm)
  · obtain ⟨x, y, hx, hy, hxy⟩ := two_of (stepL_row hm [s] e).strict hn
    obtain ⟨a, ha, a1, a2, a3⟩ := mem_stepL.1 hx
    obtain ⟨b, hb, b1, b2, b3⟩ := mem_stepL.1 hy
    rw [List.mem_singleton] at a2 b2
    obtain ⟨i, hi, ei⟩ := arr_ix ha
    obtain ⟨j, hj, ej⟩ := arr_ix hb
    have hij : i < j := by
      rcases Nat.lt_trichotomy i j with c | c | c
      · exact c
      · subst c; rw [ei] at ej; rw [ej] at a3; omega
      · have := ord_at hm c hi
        rw [ei, ej] at this
        unfold Arr.lt at this
        omega
    have h1 := ord_at hm (show i < i + 1 by omega) (by omega)
    have hk : KeyEq (m.arrows.getD i default) (m.arrows.getD (i + 1) default) := by
      by_cases c : i + 1 = j
      · rw [c, ei, ej]; exact ⟨a2.trans b2.symm, a1.trans b1.symm⟩
      · have h2 := ord_at hm (show i + 1 < j by omega) hj
        rw [ei] at h1 ⊢
        rw [ej] at h2
        generalize m.arrows.getD (i + 1) default = c at *
        unfold Arr.lt at h1 h2
        unfold KeyEq
        omega
    exact h (i + 1) (by omega) (by omega) (by rw [Nat.add_sub_cancel]; exact hk)
theorem veil_plain {w : World} {a : PV} {p : Plt} (ha : IsP (· < w.heap.size) w a p) (hm : p.m.May) :
    Cal Tryd.prog 70 [a.val p] w fun v w' => (∃ b : Bool, v = .bool b ∧ (b = true ↔ PlainM p.m)) ∧ Below w.heap.size w w' := by
  have nA := hm.2.2.2.2.1
  have hpa := plain_adj hm
  refine cal_veil_plain (by simp) 100000 fun Q hQ => ?_
  simp (disch := first | with_reducible assumption | omega) only [push_cast, x_blk, x_cd, ↓reduceIte, Nat.reduceEqDiff, List.map_cons, List.map_nil, Int.reduceEq, Int.lt_irrefl, F_veil_plain]
  refine blk_of (box_agg _ (a.cells p)) ?_
  intro w1 k1 b1 z1
  by_cases c1 : (1 : Int) < (p.m.starts.length : Int)
  · simp (disch := first | with_reducible assumption | omega) only [push_cast, x_blk, x_cd, ↓reduceIte, Nat.reduceEqDiff, List.map_cons, List.map_nil, Int.reduceEq, Int.lt_irrefl, k1.p2, c1]
    exact fin_1 (hQ _ _ ⟨⟨false, (by simp only [push_cast, ↓reduceIte, Nat.reduceEqDiff, Int.reduceEq]), by rw [hpa]; exact ⟨fun h => (by cases h), fun h => absurd h.1 (by omega)⟩⟩, b1⟩)
  simp (disch := first | with_reducible assumption | omega) only [push_cast, x_blk, x_cd, ↓reduceIte, Nat.reduceEqDiff, List.map_cons, List.map_nil, Int.reduceEq, Int.lt_irrefl, k1.p2, c1, k1.p3]
  refine loop_rule (fun f w' => ∃ i : Nat, i ≤ p.m.arrows.length ∧ (f 1 = .pointer (some ⟨w.heap.size, 0, none⟩) ∧ f 12 = .slice a.m.Aa p.m.arrows.length a.m.ca ∧ f 13 = .int .i64 p.m.arrows.length ∧ f 14 = .int .i64 i) ∧ (∀ j, 0 < j → j < i → ¬ KeyEq (p.m.arrows.getD (j - 1) default) (p.m.arrows.getD j default)) ∧ Below w1.heap.size w1 w')
    (fun f _ => p.m.arrows.length - (intOf (f 14)).toNat) ⟨0, Nat.zero_le _, ⟨rfl, rfl, rfl, rfl⟩, fun j h0 h1 => absurd h1 (by omega), Below.refl _ _⟩ ?_
  rintro f w2 ⟨i, hi, fr, hpre, b2⟩ J hJ
  have bb := b1.trans (b2.mono b1.size)
  by_cases hlt : i < p.m.arrows.length
  case neg =>
    obtain rfl : i = p.m.arrows.length := by omega
    simp (disch := first | with_reducible assumption | omega) only [push_cast, x_blk, x_cd, ↓reduceIte, Nat.reduceEqDiff, List.map_cons, List.map_nil, Int.reduceEq, Int.lt_irrefl, L_veil_plain_0, fr, Nat.lt_irrefl]
    exact fin_1 (hQ _ _ ⟨⟨true, (by simp only [push_cast, ↓reduceIte, Nat.reduceEqDiff, Int.reduceEq]), by rw [hpa]; exact ⟨fun _ => ⟨by omega, hpre⟩, fun _ => rfl⟩⟩, bb⟩)
  have hI := (ha.up bb).m.arrows
  have hA := hI.isSome (by omega)
  simp (disch := first | with_reducible assumption | omega) only [push_cast, x_blk, x_cd, ↓reduceIte, Nat.reduceEqDiff, List.map_cons, List.map_nil, Int.reduceEq, Int.lt_irrefl, L_veil_plain_0, fr, hlt, hI.ldA ty_ag_85 ty_sz_85]
  refine blk_of al_85 ?_
  intro w3 k3 b3 z3
  simp (disch := first | with_reducible assumption | omega) only [push_cast, x_blk, x_cd, ↓reduceIte, Nat.reduceEqDiff, List.map_cons, List.map_nil, Int.reduceEq, Int.lt_irrefl, fr]
  refine sto_blk k3 (cs := arrCells (p.m.arrows.getD i default)) ty_sz_85 rfl (by simp [arrCells, Value.oneCell']) ?_
  intro w4 k4 g4 z4
  have b4 : Below w2.heap.size w2 w4 := g4.below b3 (by omega) (by intro a ha; injection ha with ha; subst ha; exact Nat.le_refl _)
  have bd : Below w4.heap.size w4 w4.drew := (Same.refl w4).drew.below _
  have b24 := b4.trans (bd.mono b4.size)
  have b14 := b2.trans (b24.mono b2.size)
  have bb4 := b1.trans (b14.mono b1.size)
  have kP := k1.below b14 k1.lt
  replace k4 := k4.below bd k4.lt
  generalize hu : w4.drew = u at *
  by_cases h0 : (0 : Int) < (i : Int)
  case neg =>
    have hz : i = 0 := by omega
    simp (disch := first | with_reducible assumption | omega) only [push_cast, x_blk, x_cd, ↓reduceIte, Nat.reduceEqDiff, List.map_cons, List.map_nil, Int.reduceEq, Int.lt_irrefl, fr, hu, h0]
    exact hJ _ _ ⟨i + 1, hlt, (by simp only [push_cast, ↓reduceIte, Nat.reduceEqDiff, true_and, and_true, and_self, eq_self, fr]), fun j h1 h2 => absurd h2 (by omega), b14⟩ (by simp only [push_cast, ↓reduceIte, Nat.reduceEqDiff, intOf, fr]; omega)
  obtain ⟨i1, hi1⟩ : ∃ i1 : Nat, i = i1 + 1 := ⟨i - 1, by omega⟩
  have hi1l : i1 < p.m.arrows.length := by omega
  have e1 : (i : Int) - 1 = (i1 : Int) := by omega
  have hIu := (ha.up bb4).m.arrows
  have ld0 := fun {K : Fr → World → Prop} {f : Fr} {d : Option Nat} {w : World} => hIu.ld0 (P := Tryd.prog) (K := K) (f := f) (d := d) (w := w) ty_ag_3 i1 hi1l
  have ld00 : ∀ {K : Fr → World → Prop} {f : Fr} {d : Option Nat} {w : World}, Val1 Tryd.prog K (Instr.loadAt 3 (.pointer (some (eA a.m.Aa (i1 * 3 + 0))))) u f d w = K (updO f d (.int .i64 (p.m.arrows.getD i1 default).frm)) w := fun {K f d w} => ld0
  have ld1 := fun {K : Fr → World → Prop} {f : Fr} {d : Option Nat} {w : World} => hIu.ld1 (P := Tryd.prog) (K := K) (f := f) (d := d) (w := w) ty_ag_3 i1 hi1l
  have hky : KeyEq (p.m.arrows.getD (i - 1) default) (p.m.arrows.getD i default) ↔ (p.m.arrows.getD i1 default).frm = (p.m.arrows.getD i default).frm ∧ (p.m.arrows.getD i1 default).evt = (p.m.arrows.getD i default).evt := by
    rw [show i - 1 = i1 by omega]; exact Iff.rfl
  have hnext : ¬ KeyEq (p.m.arrows.getD (i - 1) default) (p.m.arrows.getD i default) → ∀ j, 0 < j → j < i + 1 → ¬ KeyEq (p.m.arrows.getD (j - 1) default) (p.m.arrows.getD j default) := fun hn j h1 h2 => by
    by_cases c : j = i
    · rw [c]; exact hn
    · exact hpre j h1 (by omega)
  have hbad : KeyEq (p.m.arrows.getD (i - 1) default) (p.m.arrows.getD i default) → ¬ PlainM p.m := fun hk hp => (hpa.1 hp).2 i (by omega) hlt hk
  generalize p.m.arrows.getD i1 default = x at *
  generalize p.m.arrows.getD i default = y at *
  by_cases q1 : x.frm = y.frm
  case neg =>
    simp (disch := first | with_reducible assumption | omega) only [push_cast, x_blk, x_cd, ↓reduceIte, Nat.reduceEqDiff, List.map_cons, List.map_nil, Int.reduceEq, Int.lt_irrefl, fr, hu, h0, kP.p3, e1, hi1l, hA, ld0, ld00, k4.a0 ty_ag_3, q1]
    exact hJ _ _ ⟨i + 1, hlt, (by simp only [push_cast, ↓reduceIte, Nat.reduceEqDiff, true_and, and_true, and_self, eq_self, fr]), hnext fun hh => q1 (hky.1 hh).1, b14⟩ (by simp only [push_cast, ↓reduceIte, Nat.reduceEqDiff, intOf, fr]; omega)
  by_cases q2 : x.evt = y.evt
  case neg =>
    simp (disch := first | with_reducible assumption | omega) only [push_cast, x_blk, x_cd, ↓reduceIte, Nat.reduceEqDiff, List.map_cons, List.map_nil, Int.reduceEq, Int.lt_irrefl, fr, hu, h0, kP.p3, e1, hi1l, hA, ld0, ld00, k4.a0 ty_ag_3, q1, eq_self, ld1, k4.a1 ty_ag_3, q2]
    exact hJ _ _ ⟨i + 1, hlt, (by simp only [push_cast, ↓reduceIte, Nat.reduceEqDiff, true_and, and_true, and_self, eq_self, fr]), hnext fun hh => q2 (hky.1 hh).2, b14⟩ (by simp only [push_cast, ↓reduceIte, Nat.reduceEqDiff, intOf, fr]; omega)
  simp (disch := first | with_reducible assumption | omega) only [push_cast, x_blk, x_cd, ↓reduceIte, Nat.reduceEqDiff, List.map_cons, List.map_nil, Int.reduceEq, Int.lt_irrefl, fr, hu, h0, kP.p3, e1, hi1l, hA, ld0, ld00, k4.a0 ty_ag_3, q1, eq_self, ld1, k4.a1 ty_ag_3, q2]
  exact fin_1 (hQ _ _ ⟨⟨false, (by simp only [push_cast, ↓reduceIte, Nat.reduceEqDiff, Int.reduceEq]), ⟨fun hh => (by cases hh), fun hh => absurd hh (hbad (hky.2 ⟨q1, q2⟩))⟩⟩, bb4⟩)
end Go.Proofs.YtcjedgiglimipaaDoor

/-
  Chapter 15, in plain Lean: the nodes and the moves of the veil, as they are come to. No program in sight.
-/
namespace Go.Proofs.YtcjedgiglimipaaDoor
set_option linter.unusedSimpArgs false
set_option linter.unusedVariables false
set_option linter.unusedSectionVars false
open Go.RowKit

structure Mv where
  node : Nat
  evt : Int
  stay : List Int
  to_ : Nat
structure VS where
  nodes : List (List Int)
  moves : List Mv
/-- The place of a row among rows; of one that is not there: behind all. -/
def ixL (x : List Int) : List (List Int) → Nat
  | [] => 0
  | y :: l => if y = x then 0 else ixL x l + 1
theorem ixL_lt {x : List Int} : ∀ {l : List (List Int)}, x ∈ l → ixL x l < l.length ∧ l[ixL x l]? = some x
  | [], h => by simp at h
  | y :: l, h => by
    unfold ixL
    by_cases c : y = x
    · rw [if_pos c]; exact ⟨by simp, by simp [c]⟩
    · rw [if_neg c]
      rcases List.mem_cons.1 h with h | h
      · exact absurd h.symm c
      · obtain ⟨h1, h2⟩ := ixL_lt h
        exact ⟨by simp; omega, by simpa using h2⟩
theorem ixL_none {x : List Int} : ∀ {l : List (List Int)}, x ∉ l → ixL x l = l.length
  | [], _ => rfl
  | y :: l, h => by
    unfold ixL
    rw [if_neg (fun c => h (by simp [c])), ixL_none (fun hh => h (by simp [hh]))]; rfl
theorem ixL_first {x : List Int} : ∀ {l : List (List Int)} {i : Nat}, l[i]? = some x → (∀ j, j < i → l[j]? ≠ some x) → ixL x l = i
  | [], i, h, _ => by simp at h
  | y :: l, i, h, hn => by
    unfold ixL
    cases i with
    | zero => rw [if_pos (by simpa using h)]
    | succ i =>
      rw [if_neg (fun c => hn 0 (by omega) (by simp [c])), ixL_first (by simpa using h) fun j hj => by simpa using hn (j + 1) (by omega)]
section
variable (p : Plt) (free : List Int)
noncomputable def vE (k : Nat) (st : VS) (e : Int) : VS :=
  if stayL p.m (toL p free (st.nodes.getD k []) e) (st.nodes.getD k []) e = [] then st else
    ⟨if wideL p.m p.seen (toL p free (st.nodes.getD k []) e) ∈ st.nodes then st.nodes else st.nodes ++ [wideL p.m p.seen (toL p free (st.nodes.getD k []) e)],
      st.moves ++ [⟨k, e, stayL p.m (toL p free (st.nodes.getD k []) e) (st.nodes.getD k []) e, ixL (wideL p.m p.seen (toL p free (st.nodes.getD k []) e)) st.nodes⟩]⟩
noncomputable def vIter : Nat → VS
  | 0 => ⟨[firstP p], []⟩
  | k + 1 => p.seen.foldl (vE p free k) (vIter k)
/-- Within the k-th round, as far as the j-th event. -/
noncomputable def vPart (k j : Nat) : VS := (p.seen.take j).foldl (vE p free k) (vIter p free k)
end
section
variable {p : Plt} {free : List Int}
theorem vPart_zero (k : Nat) : vPart p free k 0 = vIter p free k := rfl
theorem vPart_all (k : Nat) : vPart p free k p.seen.length = vIter p free (k + 1) := by unfold vPart; rw [List.take_length]; rfl
theorem vPart_succ (k : Nat) {j : Nat} (hj : j < p.seen.length) : vPart p free k (j + 1) = vE p free k (vPart p free k j) (p.seen.getD j 0) := by
  unfold vPart
  rw [take_snoc _ (0 : Int) j hj, List.foldl_append]; rfl
theorem vE_pre (k : Nat) (st : VS) (e : Int) : st.nodes <+: (vE p free k st e).nodes := by
  unfold vE
  split
  · exact List.prefix_refl _
  · dsimp only
    split
    · exact List.prefix_refl _
    · exact List.prefix_append _ _
/-- What holds of the nodes. -/
structure VGood (p : Plt) (st : VS) : Prop where
  nodup : st.nodes.Nodup
  row : ∀ l ∈ st.nodes, IsRow l p.m.states
  pos : 0 < st.nodes.length
theorem VGood.step (hm : p.m.May) {st : VS} (h : VGood p st) (k : Nat) (e : Int) : VGood p (vE p free k st e) := by
  unfold vE
  split
  · exact h
  · refine ⟨?_, ?_, ?_⟩
    · dsimp only
      split
      · exact h.nodup
      · rename_i hn
        rw [List.nodup_append]
        exact ⟨h.nodup, by simp, fun a ha b hb => by rw [List.mem_singleton.1 hb]; exact fun e => hn (e ▸ ha)⟩
    · dsimp only
      split
      · exact h.row
      · intro l hl
        rcases List.mem_append.1 hl with hl | hl
        · exact h.row l hl
        · rw [List.mem_singleton.1 hl]; exact wideL_row hm (row_range (toL_row hm free _ _))
    · dsimp only
      split
      · exact h.pos
      · simp
theorem VGood.fold (hm : p.m.May) (k : Nat) : ∀ (es : List Int) {st : VS}, VGood p st → VGood p (es.foldl (vE p free k) st) ∧ st.nodes <+: (es.foldl (vE p free k) st).nodes
  | [], _, h => ⟨h, List.prefix_refl _⟩
  | e :: es, st, h => by
    have := VGood.fold hm k es (h.step (free := free) hm k e)
    exact ⟨this.1, (vE_pre k st e).trans this.2⟩
theorem vIter_good (hm : p.m.May) : ∀ k, VGood p (vIter p free k)
  | 0 => ⟨by simp [vIter], fun l hl => by
      have : l = firstP p := by simpa [vIter] using hl
      rw [this]; exact firstP_row hm, by simp [vIter]⟩
  | k + 1 => (VGood.fold hm k p.seen (vIter_good hm k)).1
theorem vPart_good (hm : p.m.May) (k j : Nat) : VGood p (vPart p free k j) ∧ (vIter p free k).nodes <+: (vPart p free k j).nodes := VGood.fold hm k _ (vIter_good hm k)
theorem VGood.len {st : VS} (h : VGood p st) (h6 : p.m.states ≤ 6) : st.nodes.length ≤ 64 := by
  have : (st.nodes.map codeR).length ≤ 64 := nodup_nat_len 64 _ (List.Pairwise.map _ (fun a b hab => hab) (List.Pairwise.imp_of_mem (fun {x y} hx hy hxy e => hxy (codeR_inj ((h.row x hx).more h6) ((h.row y hy).more h6) e)) h.nodup)) fun n hn => by
    obtain ⟨l, hl, rfl⟩ := List.mem_map.1 hn
    exact codeR_lt ((h.row l hl).more h6)
  simpa using this
theorem vE_stop {k : Nat} {st : VS} (h : st.nodes.length ≤ k) (e : Int) : vE p free k st e = st := by
  unfold vE
  rw [if_pos]
  have : st.nodes.getD k [] = [] := by rw [List.getD_eq_getElem?_getD, List.getElem?_eq_none h]; rfl
  rw [this]; simp [stayL]
theorem vFold_stop {k : Nat} : ∀ (es : List Int) {st : VS}, st.nodes.length ≤ k → es.foldl (vE p free k) st = st
  | [], _, _ => rfl
  | e :: es, st, h => by rw [List.foldl_cons, vE_stop h]; exact vFold_stop es h
theorem vIter_stop {k : Nat} (h : (vIter p free k).nodes.length ≤ k) : ∀ n, k ≤ n → vIter p free n = vIter p free k := by
  intro n
  induction n with
  | zero => intro hk; rw [show k = 0 by omega]
  | succ n ih =>
    intro hk
    rcases Nat.lt_or_ge n k with c | c
    · rw [show k = n + 1 by omega]
    · have e := ih c
      show p.seen.foldl (vE p free n) (vIter p free n) = _
      rw [e, vFold_stop _ (by omega)]
/-- The veil: one, whatever the round. -/
theorem vIter_same {k k' : Nat} (h : (vIter p free k).nodes.length = k) (h' : (vIter p free k').nodes.length = k') : vIter p free k = vIter p free k' := by
  rw [← vIter_stop (Nat.le_of_eq h) (max k k') (Nat.le_max_left _ _), vIter_stop (Nat.le_of_eq h') (max k k') (Nat.le_max_right _ _)]
end
end Go.Proofs.YtcjedgiglimipaaDoor
