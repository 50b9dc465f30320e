/-
  Chapter 6: what the machine of the sets is: in plain Lean. No program in sight but by the names of machines.
  Chapter 6: the program's Is, by its contract; the law DetermineSame.
  Chapter 6: what is determined, by counting: in plain Lean; the reference's Is, by its contract.
-/
import Derived.Test.YtcjinmgieiebbaaDoorZDet
import Derived.Test.YtcjinmgieiebbaaDoorZSetAll
import Derived.Test.YtcjinmgieiebbaaDoorZLawMach
namespace Go.Proofs.YtcjinmgieiebbaaDoor
set_option linter.unusedSimpArgs false
set_option linter.unusedVariables false
set_option linter.unusedSectionVars false
section
open Go.RowKit

theorem prs_evs (n : Nat) : ∀ k : Nat, prs (evs n) k 0 = (List.range (k * n)).map fun (i : Nat) => (((i / n : Nat) : Int), ((i % n : Nat) : Int))
  | 0 => by simp [prs]
  | k + 1 => by
    rw [← prs_all]
    have h1 : prs (evs n) k (evs n).length = prs (evs n) k 0 ++ (evs n).map fun e => ((k : Int), e) := by simp [prs]
    rw [h1, prs_evs n k, Nat.succ_mul, List.range_add, List.map_append]
    congr 1
    unfold evs
    rw [List.map_map, List.map_map]
    refine List.map_congr_left fun j hj => ?_
    have hj := List.mem_range.1 hj
    have hn : 0 < n := by omega
    have e1 : (k * n + j) / n = k := by rw [Nat.mul_comm, Nat.mul_add_div hn, Nat.div_eq_of_lt hj]; rfl
    have e2 : (k * n + j) % n = j := by rw [Nat.mul_comm, Nat.mul_add_mod, Nat.mod_eq_of_lt hj]
    simp only [Function.comp, e1, e2]
theorem arr_at {step : List Int → Int → List Int} {n K : Nat} {L : List (List Int)} {ar : List Arr} (h : Arrows step (evs n) K 0 L ar) {i : Nat} (hi : i < K * n) :
    ∃ (j : Nat) (s : List Int), ar.getD i default = ⟨((i / n : Nat) : Int), ((i % n : Nat) : Int), j⟩ ∧ L[i / n]? = some s ∧ L[j]? = some (step s ((i % n : Nat) : Int)) := by
  have hl : ar.length = K * n := by rw [h.len (Nat.zero_le _), evs_len]; rfl
  have h1 : (ar.map fun a => (a.frm, a.evt))[i]? = some (((i / n : Nat) : Int), ((i % n : Nat) : Int)) := by
    rw [h.1, prs_evs, List.getElem?_map, List.getElem?_range hi]; rfl
  have hg : ar[i]? = some (ar.getD i default) := by simp [List.getD_eq_getElem?_getD, hl, hi]
  rw [List.getElem?_map, hg] at h1
  have hm := h.2 _ (List.mem_of_getElem? hg)
  generalize ar.getD i default = a at *
  simp only [Option.map_some, Option.some.injEq, Prod.mk.injEq] at h1
  obtain ⟨i', j, s, e1, e2, e3, e4⟩ := hm
  obtain ⟨f1, f2⟩ := h1
  have : i' = i / n := by rw [f1] at e1; exact (Int.ofNat.inj e1).symm
  subst this
  refine ⟨j, s, ?_, e3, by rw [← f2]; exact e4⟩
  cases a; simp_all

section
variable {m : Mach} {L : List (List Int)} {ar : List Arr}
/-- What is kept of the sets. -/
structure Det (m : Mach) (L : List (List Int)) (ar : List Arr) : Prop where
  n8 : m.events.toNat ≤ 8
  ev : ((m.events.toNat : Nat) : Int) = m.events
  l256 : L.length ≤ 256
  first : L[0]? = some m.starts
  nodup : L.Nodup
  row : ∀ s ∈ L, IsRow s m.states
  arrows : Arrows (stepL m) (evs m.events.toNat) L.length 0 L ar
theorem Det.of (hm : m.May) (h : SetsRes (stepL m) (evs m.events.toNat) m.starts true L ar) : Det m L ar := by
  rcases h with ⟨_, k, hk, hl, hL, har⟩ | ⟨h, _⟩
  · have hLl : L.length = k := by rw [hL, List.length_map, hl]
    have hgood := bIter_good (step := stepL m) (es := evs m.events.toNat) (U := fun s => IsRow s m.states) (fun s _ e _ => stepL_row hm s e) (may_starts hm) k
    refine ⟨by have := hm.2.2.2.1; omega, by have := hm.2.2.1; omega, by omega, ?_, by rw [hL]; exact hgood.nodup, fun s hs => ?_, by rw [hLl]; exact har⟩
    · rw [hL, List.getElem?_map, prefix_getElem? (bIter_prefix (step := stepL m) (es := evs m.events.toNat) m.starts (Nat.zero_le k)) (bIter_pos _ _)]; rfl
    · rw [hL] at hs
      obtain ⟨r, hr, rfl⟩ := List.mem_map.1 hs
      exact hgood.univ r hr
  · cases h
theorem Det.pos (h : Det m L ar) : 0 < L.length := by
  rcases Nat.lt_or_ge 0 L.length with c | c
  · exact c
  · have := h.first; rw [List.getElem?_eq_none c] at this; cases this
theorem getElem?_lt {α : Type} {l : List α} {i : Nat} {a : α} (h : l[i]? = some a) : i < l.length := by
  rcases Nat.lt_or_ge i l.length with c | c
  · exact c
  · rw [List.getElem?_eq_none c] at h; cases h
theorem Det.len (h : Det m L ar) : ar.length = L.length * m.events.toNat := by rw [h.arrows.len (Nat.zero_le _), evs_len]; rfl
theorem Det.at_ (h : Det m L ar) {i : Nat} (hi : i < ar.length) :
    ∃ (j : Nat) (s : List Int), ar.getD i default = ⟨((i / m.events.toNat : Nat) : Int), ((i % m.events.toNat : Nat) : Int), j⟩ ∧ L[i / m.events.toNat]? = some s ∧ L[j]? = some (stepL m s ((i % m.events.toNat : Nat) : Int)) := arr_at h.arrows (by rw [← h.len]; exact hi)
theorem Det.inj (h : Det m L ar) {i j : Nat} {s : List Int} (hi : L[i]? = some s) (hj : L[j]? = some s) : i = j :=
  (List.getElem?_inj (getElem?_lt hi) h.nodup).1 (hi.trans hj.symm)
theorem endsUpto_mem {k : Nat} {x : Int} : x ∈ endsUpto m L k ↔ ∃ i : Nat, x = i ∧ i < k ∧ MeetL (L.getD i []) m.ends := by
  unfold endsUpto
  simp only [List.mem_map, List.mem_filter, List.mem_range, decide_eq_true_eq]
  exact ⟨fun ⟨i, ⟨h1, h2⟩, h3⟩ => ⟨i, h3.symm, h1, h2⟩, fun ⟨i, h1, h2, h3⟩ => ⟨i, ⟨h2, h3⟩, h1.symm⟩⟩
theorem endsUpto_strict (k : Nat) : Strict (endsUpto m L k) := by
  unfold endsUpto Strict
  rw [List.pairwise_map]
  exact (List.pairwise_lt_range.filter _).imp fun h => by omega
theorem Det.may (h : Det m L ar) : (detOf m L ar).May := by
  have h0 := h.pos
  have h1 := h.l256
  have h8 := h.n8
  have he := h.ev
  refine ⟨?_, ?_, ?_, ?_, ?_, ?_, ?_, fun i hi => ?_⟩
  · show (1 : Int) ≤ (L.length : Int); omega
  · show (L.length : Int) ≤ 256; omega
  · show 0 ≤ m.events; omega
  · show m.events ≤ 8; omega
  · show ar.length ≤ 4096
    rw [h.len]
    have : L.length * m.events.toNat ≤ 256 * 8 := Nat.mul_le_mul h1 h8
    omega
  · intro i hi
    have hi : i < 1 := hi
    obtain rfl : i = 0 := by omega
    exact ⟨by show (0 : Int) ≤ 0; omega, by show (0 : Int) < (L.length : Int); omega, by show (0 : Int) < 2147483648; omega, fun hh => absurd hh (by decide)⟩
  · refine IsRow.of_strict (endsUpto_strict _) fun x hx => ?_
    obtain ⟨i, rfl, hi, _⟩ := endsUpto_mem.1 hx
    show 0 ≤ (i : Int) ∧ (i : Int) < (L.length : Int) ∧ (i : Int) < 2147483648
    omega
  · have hi : i < ar.length := hi
    obtain ⟨j, s, ha, hs, hj⟩ := h.at_ hi
    have q1 := getElem?_lt hs
    have q2 := getElem?_lt hj
    have hnp : 0 < m.events.toNat := by
      rw [h.len] at hi
      rcases Nat.eq_zero_or_pos m.events.toNat with c | c
      · rw [c] at hi; omega
      · exact c
    have q3 := Nat.mod_lt i hnp
    show Mach.ArrOk _ (ar.getD i default) ∧ (0 < i → (ar.getD (i - 1) default).lt (ar.getD i default))
    rw [ha]
    refine ⟨⟨⟨Int.natCast_nonneg _, Int.ofNat_lt.2 q1⟩, ⟨by show (0 : Int) ≤ (j : Int); omega, by show (j : Int) < (L.length : Int); omega⟩, Int.natCast_nonneg _, by show ((i % m.events.toNat : Nat) : Int) < m.events; rw [← he]; exact Int.ofNat_lt.2 q3⟩, fun hp => ?_⟩
    obtain ⟨j', s', ha', _, _⟩ := h.at_ (i := i - 1) (by omega)
    rw [ha']
    have d1 := Nat.div_add_mod i m.events.toNat
    have d2 := Nat.div_add_mod (i - 1) m.events.toNat
    have d3 : (i - 1) / m.events.toNat ≤ i / m.events.toNat := Nat.div_le_div_right (by omega)
    generalize i / m.events.toNat = a at *
    generalize (i - 1) / m.events.toNat = b at *
    generalize i % m.events.toNat = c at *
    generalize (i - 1) % m.events.toNat = e at *
    rcases Nat.lt_or_ge b a with hb | hb
    · exact .inl (by show (b : Int) < (a : Int); omega)
    · obtain rfl : b = a := by omega
      exact .inr ⟨rfl, .inl (by show (e : Int) < (c : Int); omega)⟩
/-- One step: from one place to one. -/
theorem Det.step (h : Det m L ar) {p : Nat} {s : List Int} (hp : L[p]? = some s) {e : Int} (h0 : 0 ≤ e) (h1 : e < m.events) : ∃ j : Nat, L[j]? = some (stepL m s e) ∧ stepL (detOf m L ar) [(p : Int)] e = [(j : Int)] := by
  have he := h.ev
  have hpl := getElem?_lt hp
  obtain ⟨e', rfl⟩ : ∃ e' : Nat, e = (e' : Int) := ⟨e.toNat, by omega⟩
  have he' : e' < m.events.toNat := by omega
  have hi : p * m.events.toNat + e' < ar.length := by
    rw [h.len]
    have : (p + 1) * m.events.toNat ≤ L.length * m.events.toNat := Nat.mul_le_mul_right _ hpl
    rw [Nat.succ_mul] at this
    omega
  have hnp : 0 < m.events.toNat := by omega
  have e1 : (p * m.events.toNat + e') / m.events.toNat = p := by rw [Nat.mul_comm, Nat.mul_add_div hnp, Nat.div_eq_of_lt he']; rfl
  have e2 : (p * m.events.toNat + e') % m.events.toNat = e' := by rw [Nat.mul_comm, Nat.mul_add_mod, Nat.mod_eq_of_lt he']
  obtain ⟨j, s', ha, hs, hj⟩ := h.at_ hi
  rw [e1, e2] at ha
  rw [e1, hp] at hs
  obtain rfl := Option.some.inj hs
  rw [e2] at hj
  refine ⟨j, hj, ?_⟩
  refine Strict.ext (sortedL_spec _).1 (List.pairwise_singleton _ _) fun x => ?_
  unfold stepL
  rw [(sortedL_spec _).2, List.mem_singleton]
  unfold stepT
  constructor
  · intro hx
    obtain ⟨a, hm, rfl⟩ := List.mem_map.1 hx
    obtain ⟨hm, hc⟩ := List.mem_filter.1 hm
    rw [Bool.and_eq_true, decide_eq_true_eq, decide_eq_true_eq, List.mem_singleton] at hc
    obtain ⟨i', j', s', f1, f2, f3, f4⟩ := h.arrows.2 a hm
    obtain rfl : i' = p := by have := hc.2; rw [f1] at this; exact Int.ofNat.inj this
    rw [hp] at f3
    obtain rfl := Option.some.inj f3
    rw [hc.1] at f4
    rw [f2, h.inj f4 hj]
  · rintro rfl
    refine List.mem_map.2 ⟨ar.getD (p * m.events.toNat + e') default, List.mem_filter.2 ⟨getD_mem ar default _ hi, ?_⟩, by rw [ha]⟩
    rw [ha]
    simp
theorem Det.after (h : Det m L ar) : ∀ (word : List Int) {p : Nat} {s : List Int}, L[p]? = some s → (∀ x ∈ word, 0 ≤ x ∧ x < m.events) → ∃ j : Nat, L[j]? = some (afterL m s word) ∧ afterL (detOf m L ar) [(p : Int)] word = [(j : Int)]
  | [], p, s, hp, _ => ⟨p, hp, rfl⟩
  | e :: word, p, s, hp, hw => by
    obtain ⟨j, hj, hs⟩ := h.step hp (hw e (List.mem_cons_self ..)).1 (hw e (List.mem_cons_self ..)).2
    obtain ⟨j', hj', hs'⟩ := Det.after h word hj fun x hx => hw x (List.mem_cons_of_mem _ hx)
    refine ⟨j', hj', ?_⟩
    show afterL (detOf m L ar) (stepL (detOf m L ar) [(p : Int)] e) word = _
    rw [hs, hs']
theorem isWord_iff (m : Mach) (l : List Int) : IsWord m l ↔ ∀ x ∈ l, 0 ≤ x ∧ x < m.events := ⟨fun h x hx => by
    obtain ⟨i, hi, rfl⟩ := (mem_iff_getD l 0 x).1 hx
    exact h i hi, fun h i hi => h _ (getD_mem l 0 i hi)⟩
theorem Det.accepts (h : Det m L ar) {word : List Int} (hw : IsWord m word) : ∃ j : Nat, L[j]? = some (afterL m m.starts word) ∧ afterL (detOf m L ar) [0] word = [(j : Int)] ∧ (AcceptsL (detOf m L ar) word ↔ AcceptsL m word) := by
  obtain ⟨j, hj, hs⟩ := h.after word h.first ((isWord_iff m word).1 hw)
  refine ⟨j, hj, hs, ?_⟩
  have hjl := getElem?_lt hj
  have hgd : L.getD j [] = afterL m m.starts word := by rw [List.getD_eq_getElem?_getD, hj]; rfl
  unfold AcceptsL
  rw [show afterL (detOf m L ar) (detOf m L ar).starts word = [(j : Int)] from hs]
  show MeetL [(j : Int)] (endsUpto m L L.length) ↔ _
  constructor
  · rintro ⟨x, hx, hx2⟩
    rw [List.mem_singleton.1 hx] at hx2
    obtain ⟨i, hi, _, hM⟩ := endsUpto_mem.1 hx2
    obtain rfl : j = i := Int.ofNat.inj hi
    rwa [hgd] at hM
  · intro hM
    exact ⟨j, by simp, endsUpto_mem.2 ⟨j, rfl, hjl, by rwa [hgd]⟩⟩
end
/-- A machine that is determined, as the program asks for it. -/
def IsDet (m : Mach) : Prop := m.May ∧ m.starts.length = 1 ∧ (m.arrows.length : Int) = m.states * m.events ∧ ∀ i, i < m.arrows.length → (m.arrows.getD i default).frm = ((i / m.events.toNat : Nat) : Int) ∧ (m.arrows.getD i default).evt = ((i % m.events.toNat : Nat) : Int)
noncomputable instance (m : Mach) : Decidable (IsDet m) := Classical.propDecidable _
end

section
open Go.RowKit

section
variable {P : Program} {K : Fr → World → Prop} {u w : World} {f : Fr} {d : Option Nat} {t : TypeId} {xo yo : Operand}
theorem bin_quoE {k n q : Nat} {x : Int} (hx : (n : Int) = x) (h : k / n = q) (hn : 0 < n) (hk : k ≤ 9223372036854775807) : Val1 P K (binS .quo t xo yo (.int .i64 k) (.int .i64 x)) u f d w = K (updO f d (.int .i64 q)) w := by
  subst hx; subst h; exact bin_quo k n hn hk
theorem bin_remE {k n q : Nat} {x : Int} (hx : (n : Int) = x) (h : k % n = q) (hn : 0 < n) : Val1 P K (binS .rem t xo yo (.int .i64 k) (.int .i64 x)) u f d w = K (updO f d (.int .i64 q)) w := by
  subst hx; subst h; exact bin_rem k n hn
end
end

section
open Go.RowKit

def cod (m : Mach) (a : Arr) : Int := a.frm * m.events + a.evt
def codes (m : Mach) : List Int := m.arrows.map (cod m)
def manyAt (l : List Arr) (s e : Int) : Nat := l.countP fun a => decide (a.frm = s) && decide (a.evt = e)
def IsDet2 (m : Mach) : Prop := m.May ∧ m.starts.length = 1 ∧ ∀ s e : Nat, (s : Int) < m.states → (e : Int) < m.events → manyAt m.arrows s e = 1
noncomputable instance (m : Mach) : Decidable (IsDet2 m) := Classical.propDecidable _
theorem Strict.nodup {l : List Int} (h : Strict l) : l.Nodup := List.Pairwise.imp (fun h => by omega) h
section
variable {m : Mach}
end
end
end Go.Proofs.YtcjinmgieiebbaaDoor
