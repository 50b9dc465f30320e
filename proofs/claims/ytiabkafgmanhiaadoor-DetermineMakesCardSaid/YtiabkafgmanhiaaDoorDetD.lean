/-
  Chapter 6: what is determined, by counting: in plain Lean; the reference's Is, by its contract.
-/
import Derived.Test.YtiabkafgmanhiaaDoorDetC
namespace Go.Proofs.YtiabkafgmanhiaaDoor
set_option linter.unusedSimpArgs false
set_option linter.unusedVariables false
set_option linter.unusedSectionVars false
open Go.RowKit

def cod (m : Mach) (a : Arr) : Int := a.frm * m.events + a.evt
def codes (m : Mach) : List Int := m.arrows.map (cod m)
def manyAt (l : List Arr) (s e : Int) : Nat := l.countP fun a => decide (a.frm = s) && decide (a.evt = e)
def IsDet2 (m : Mach) : Prop := m.May ∧ m.starts.length = 1 ∧ ∀ s e : Nat, (s : Int) < m.states → (e : Int) < m.events → manyAt m.arrows s e = 1
noncomputable instance (m : Mach) : Decidable (IsDet2 m) := Classical.propDecidable _
theorem cod_inj {E x y s e : Int} (h0 : 0 ≤ e) (h1 : e < E) (h2 : 0 ≤ y) (h3 : y < E) : x * E + y = s * E + e ↔ x = s ∧ y = e := by
  constructor
  · intro h
    rcases Int.lt_trichotomy x s with c | c | c
    · have := Int.mul_le_mul_of_nonneg_right (show x + 1 ≤ s by omega) (show 0 ≤ E by omega)
      rw [Int.add_mul, Int.one_mul] at this; omega
    · subst c; omega
    · have := Int.mul_le_mul_of_nonneg_right (show s + 1 ≤ x by omega) (show 0 ≤ E by omega)
      rw [Int.add_mul, Int.one_mul] at this; omega
  · rintro ⟨rfl, rfl⟩; rfl
theorem evs_strict (n : Nat) : Strict (evs n) := by
  unfold evs Strict
  rw [List.pairwise_map]
  exact List.pairwise_lt_range.imp fun h => by omega
theorem Strict.nodup {l : List Int} (h : Strict l) : l.Nodup := List.Pairwise.imp (fun h => by omega) h
section
variable {m : Mach}
theorem cod_range (hm : m.May) {a : Arr} (ha : a ∈ m.arrows) : 0 ≤ cod m a ∧ cod m a < m.states * m.events := by
  obtain ⟨⟨h1, h2⟩, _, h3, h4⟩ := May.arr hm ha
  have e0 := hm.2.2.1
  have p0 := Int.mul_nonneg h1 e0
  have p1 := Int.mul_le_mul_of_nonneg_right (show a.frm + 1 ≤ m.states by omega) e0
  rw [Int.add_mul, Int.one_mul] at p1
  unfold cod
  omega
theorem many_count (hm : m.May) {s e : Int} (h0 : 0 ≤ e) (h1 : e < m.events) : manyAt m.arrows s e = (codes m).count (s * m.events + e) := by
  unfold manyAt codes List.count
  rw [List.countP_map]
  refine List.countP_congr fun a ha => ?_
  obtain ⟨_, _, h3, h4⟩ := May.arr hm ha
  simp only [Function.comp, Bool.and_eq_true, decide_eq_true_eq, beq_iff_eq, cod]
  exact (cod_inj h0 h1 h3 h4).symm
theorem arrows_le (hm : m.May) : (codes m).Pairwise (· ≤ ·) := by
  have key : ∀ j i : Nat, i < j → j < m.arrows.length → (m.arrows.getD i default).lt (m.arrows.getD j default) := by
    intro j
    induction j with
    | zero => intro i hi; omega
    | succ j ih =>
      intro i hi hj
      have h1 := (hm.2.2.2.2.2.2.2 (j + 1) hj).2 (by omega)
      simp only [Nat.add_sub_cancel] at h1
      rcases Nat.lt_or_ge i j with hij | hij
      · have := ih i hij (by omega)
        unfold Arr.lt at *; omega
      · rw [show i = j by omega]; exact h1
  unfold codes
  rw [List.pairwise_map]
  refine List.pairwise_iff_getElem.2 fun i j hi hj hij => ?_
  have hk := key j i hij hj
  have ei : m.arrows.getD i default = m.arrows[i] := by simp [List.getD_eq_getElem?_getD, hi]
  have ej : m.arrows.getD j default = m.arrows[j] := by simp [List.getD_eq_getElem?_getD, hj]
  rw [ei, ej] at hk
  obtain ⟨_, _, a3, a4⟩ := May.arr hm (List.getElem_mem hi)
  obtain ⟨_, _, b3, b4⟩ := May.arr hm (List.getElem_mem hj)
  generalize m.arrows[i] = a at *
  generalize m.arrows[j] = b at *
  unfold cod
  unfold Arr.lt at hk
  rcases hk with c | ⟨c, d⟩
  · have := Int.mul_le_mul_of_nonneg_right (show a.frm + 1 ≤ b.frm by omega) hm.2.2.1
    rw [Int.add_mul, Int.one_mul] at this; omega
  · rw [c]; omega
theorem codes_of_det2 (hm : m.May) (h : ∀ s e : Nat, (s : Int) < m.states → (e : Int) < m.events → manyAt m.arrows s e = 1) : codes m = evs (m.states * m.events).toNat := by
  have e0 := hm.2.2.1
  have x0 : 0 ≤ m.states * m.events := Int.mul_nonneg (by have := hm.1; omega) e0
  have hcode : ∀ c : Int, 0 ≤ c → c < m.states * m.events → (codes m).count c = 1 := fun c h0 h1 => by
    have ep : 0 < m.events := by
      rcases Int.lt_trichotomy 0 m.events with q | q | q
      · exact q
      · rw [← q, Int.mul_zero] at h1; omega
      · omega
    have d := Int.mul_ediv_add_emod c m.events
    have r0 := Int.emod_nonneg c (show m.events ≠ 0 by omega)
    have r1 := Int.emod_lt_of_pos c ep
    have q0 := Int.ediv_nonneg h0 (show 0 ≤ m.events by omega)
    have q1 := Int.ediv_lt_of_lt_mul ep h1
    generalize c / m.events = q at *
    generalize c % m.events = r at *
    have := h q.toNat r.toNat (by omega) (by omega)
    rw [many_count hm (by omega) (by omega)] at this
    rw [show ((q.toNat : Nat) : Int) = q by omega, show ((r.toNat : Nat) : Int) = r by omega] at this
    rw [← d, Int.mul_comm]; exact this
  have hmem : ∀ c, c ∈ codes m ↔ 0 ≤ c ∧ c < m.states * m.events := fun c => ⟨fun hc => by
    obtain ⟨a, ha, rfl⟩ := List.mem_map.1 hc
    exact cod_range hm ha, fun hc => List.count_pos_iff.1 (by rw [hcode c hc.1 hc.2]; decide)⟩
  have hnd : (codes m).Nodup := List.nodup_iff_count.2 fun c => by
    by_cases hc : c ∈ codes m
    · obtain ⟨h0, h1⟩ := (hmem c).1 hc
      rw [hcode c h0 h1]; exact Nat.le_refl _
    · rw [List.count_eq_zero.2 hc]; exact Nat.zero_le _
  refine Strict.ext (((arrows_le hm).and hnd).imp fun h => by have := h.1; have := h.2; omega) (evs_strict _) fun c => ?_
  rw [hmem, evs_mem]; omega
theorem det2_of_codes (hm : m.May) (h : codes m = evs (m.states * m.events).toNat) : ∀ s e : Nat, (s : Int) < m.states → (e : Int) < m.events → manyAt m.arrows s e = 1 := fun s e hs he => by
  rw [many_count hm (by omega) he, h, (evs_strict _).nodup.count, if_pos]
  rw [evs_mem]
  have e0 := hm.2.2.1
  have p0 := Int.mul_nonneg (show (0 : Int) ≤ s by omega) e0
  have p1 := Int.mul_le_mul_of_nonneg_right (show (s : Int) + 1 ≤ m.states by omega) e0
  rw [Int.add_mul, Int.one_mul] at p1
  omega
theorem codes_of_det (hm : m.May) (hl : (m.arrows.length : Int) = m.states * m.events) (h : ∀ i, i < m.arrows.length → (m.arrows.getD i default).frm = ((i / m.events.toNat : Nat) : Int) ∧ (m.arrows.getD i default).evt = ((i % m.events.toNat : Nat) : Int)) : codes m = evs (m.states * m.events).toNat := by
  have e0 := hm.2.2.1
  refine ext_getD 0 (by unfold codes; rw [List.length_map, evs_len]; omega) fun i hi => ?_
  have hi' : i < m.arrows.length := by simpa [codes] using hi
  rw [evs_at _ _ (by omega)]
  unfold codes
  rw [getD_map (cod m) m.arrows default 0 i hi']
  obtain ⟨h1, h2⟩ := h i hi'
  unfold cod
  rw [h1, h2]
  have d := Nat.div_add_mod i m.events.toNat
  have ee : ((m.events.toNat : Nat) : Int) = m.events := by omega
  generalize i / m.events.toNat = q at *
  generalize i % m.events.toNat = r at *
  rw [← ee, ← Int.natCast_mul, Nat.mul_comm, ← Int.natCast_add, d]
theorem det_of_codes (hm : m.May) (h : codes m = evs (m.states * m.events).toNat) : (m.arrows.length : Int) = m.states * m.events ∧ ∀ i, i < m.arrows.length → (m.arrows.getD i default).frm = ((i / m.events.toNat : Nat) : Int) ∧ (m.arrows.getD i default).evt = ((i % m.events.toNat : Nat) : Int) := by
  have e0 := hm.2.2.1
  have x0 : 0 ≤ m.states * m.events := Int.mul_nonneg (by have := hm.1; omega) e0
  have hl : (m.arrows.length : Int) = m.states * m.events := by
    have := congrArg List.length h
    unfold codes at this
    rw [List.length_map, evs_len] at this; omega
  refine ⟨hl, fun i hi => ?_⟩
  have h1 : (codes m).getD i 0 = (i : Int) := by rw [h, evs_at _ _ (by omega)]
  unfold codes at h1
  rw [getD_map (cod m) m.arrows default 0 i hi] at h1
  obtain ⟨_, _, a3, a4⟩ := May.arr hm (getD_mem m.arrows default i hi)
  generalize m.arrows.getD i default = a at *
  have d := Nat.div_add_mod i m.events.toNat
  have ee : ((m.events.toNat : Nat) : Int) = m.events := by omega
  have rl := Nat.mod_lt i (show 0 < m.events.toNat by omega)
  generalize i / m.events.toNat = q at *
  generalize i % m.events.toNat = r at *
  unfold cod at h1
  have d' : (i : Int) = (q : Int) * m.events + r := by rw [← ee, ← d]; push_cast; rw [Int.mul_comm]
  rw [d'] at h1
  exact (cod_inj (by omega) (by omega) a3 a4).1 h1
theorem det_iff : IsDet m ↔ IsDet2 m := by
  constructor
  · rintro ⟨hm, h1, h2, h3⟩
    exact ⟨hm, h1, det2_of_codes hm (codes_of_det hm h2 h3)⟩
  · rintro ⟨hm, h1, h2⟩
    have := det_of_codes hm (codes_of_det2 hm h2)
    exact ⟨hm, h1, this.1, this.2⟩
end
end Go.Proofs.YtiabkafgmanhiaaDoor
