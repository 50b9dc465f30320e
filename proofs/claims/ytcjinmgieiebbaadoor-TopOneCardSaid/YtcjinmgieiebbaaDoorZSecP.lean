/-
  Chapter 12, in plain Lean: places by their numbers: a set of numbers is what the reference's places are. No program in sight.
-/
import Derived.Test.YtcjinmgieiebbaaDoorZToldP
import Derived.Test.YtcjinmgieiebbaaDoorZDetP
namespace Go.Proofs.YtcjinmgieiebbaaDoor
set_option linter.unusedSimpArgs false
set_option linter.unusedVariables false
set_option linter.unusedSectionVars false
open Go.RowKit

theorem snoc_ind {α : Type} {P : List α → Prop} (h0 : P []) (h1 : ∀ v e, P v → P (v ++ [e])) : ∀ v, P v := by
  have key : ∀ (n : Nat) (v : List α), v.length = n → P v := by
    intro n
    induction n with
    | zero => intro v hv; rw [List.eq_nil_of_length_eq_zero hv]; exact h0
    | succ n ih =>
      intro v hv
      have hne : v ≠ [] := by rintro rfl; simp at hv
      rw [← List.dropLast_concat_getLast hne]
      exact h1 _ _ (ih _ (by simp [hv]))
  exact fun v => key _ v rfl

def nmb (D : Nat) (x : Int) (t : Nat) : Int := x * D + t
theorem nmb_nat (D x t : Nat) : nmb D (x : Int) t = ((x * D + t : Nat) : Int) := by unfold nmb; rw [Int.natCast_add, Int.natCast_mul]
theorem nmb_dm {D t : Nat} (ht : t < D) (x : Nat) : (x * D + t) / D = x ∧ (x * D + t) % D = t := by
  have hD : 0 < D := by omega
  refine ⟨?_, ?_⟩
  · rw [Nat.mul_comm, Nat.mul_add_div hD, Nat.div_eq_of_lt ht]; rfl
  · rw [Nat.mul_comm, Nat.mul_add_mod, Nat.mod_eq_of_lt ht]
theorem nmb_inj {D t u : Nat} (ht : t < D) (hu : u < D) {x y : Int} (hx : 0 ≤ x) (hy : 0 ≤ y) (h : nmb D x t = nmb D y u) : x = y ∧ t = u := by
  obtain ⟨a, rfl⟩ : ∃ a : Nat, x = a := ⟨x.toNat, by omega⟩
  obtain ⟨b, rfl⟩ : ∃ b : Nat, y = b := ⟨y.toNat, by omega⟩
  rw [nmb_nat, nmb_nat] at h
  have h' : a * D + t = b * D + u := by omega
  have h1 := nmb_dm ht a
  have h2 := nmb_dm hu b
  rw [h'] at h1
  omega
theorem nmb_rng {D t : Nat} (ht : t < D) (hD : D ≤ 16) {x : Int} (h0 : 0 ≤ x) (h6 : x < 6) : 0 ≤ nmb D x t ∧ nmb D x t < 96 := by
  obtain ⟨a, rfl⟩ : ∃ a : Nat, x = a := ⟨x.toNat, by omega⟩
  rw [nmb_nat]
  have : (a + 1) * D ≤ 6 * 16 := Nat.mul_le_mul (by omega) hD
  rw [Nat.succ_mul] at this
  omega
/-- Where a state of the secret leads to, at an event. -/
def dto (n : Nat) (ar : List Arr) (t : Nat) (e : Int) : Nat := (ar.getD (t * n + e.toNat) default).to_.toNat
theorem Det.dto {s : Mach} {L : List (List Int)} {ar : List Arr} (h : Det s L ar) {t : Nat} (ht : t < L.length) {e : Int} (h0 : 0 ≤ e) (h1 : e < s.events) :
    t * s.events.toNat + e.toNat < ar.length ∧ (ar.getD (t * s.events.toNat + e.toNat) default).to_ = (dto s.events.toNat ar t e : Nat) ∧ ∃ S, L[t]? = some S ∧ L[dto s.events.toNat ar t e]? = some (stepL s S e) := by
  have hev := h.ev
  have hn : e.toNat < s.events.toNat := by omega
  have hl : t * s.events.toNat + e.toNat < ar.length := by
    rw [h.len]
    have : (t + 1) * s.events.toNat ≤ L.length * s.events.toNat := Nat.mul_le_mul_right _ ht
    rw [Nat.succ_mul] at this
    omega
  obtain ⟨j, S, h2, h3, h4⟩ := h.at_ hl
  have hd := nmb_dm hn t
  rw [hd.1] at h3
  rw [hd.2] at h4
  have he : ((e.toNat : Nat) : Int) = e := by omega
  rw [he] at h4
  have hto : (ar.getD (t * s.events.toNat + e.toNat) default).to_ = (j : Int) := by rw [h2]
  have hj : Go.Proofs.YtcjinmgieiebbaaDoor.dto s.events.toNat ar t e = j := by unfold Go.Proofs.YtcjinmgieiebbaaDoor.dto; rw [hto]; rfl
  refine ⟨hl, by rw [hj, hto], S, h3, by rw [hj]; exact h4⟩
theorem codeR4 {l : List Int} (h : IsRow l 4) : codeR l < 16 := by
  unfold codeR
  refine Nat.lt_pow_two_of_testBit (n := 4) _ fun i hi => ?_
  rcases Nat.lt_or_ge i 64 with h1 | h1
  · have h2 := wordsOf_has l i (by omega)
    unfold setHas at h2
    rw [show i / 64 = 0 by omega, show i % 64 = i by omega] at h2
    rw [h2]
    exact decide_eq_false fun hx => by have := h.mem hx; omega
  · have h3 := (wordsOf_words l).2 0
    exact Nat.testBit_lt_two_pow (Nat.lt_of_lt_of_le h3 (Nat.pow_le_pow_right (by decide) h1))
theorem Det.l16 {s : Mach} {L : List (List Int)} {ar : List Arr} (h : Det s L ar) (h4 : s.states ≤ 4) : L.length ≤ 16 := by
  have hr : ∀ l ∈ L, IsRow l 4 := fun l hl => (h.row l hl).more h4
  have : (L.map codeR).length ≤ 16 := nodup_nat_len 16 _ (List.Pairwise.map _ (fun a b hab => hab) (List.Pairwise.imp_of_mem (fun {x y} hx hy hxy e => hxy (codeR_inj ((hr x hx).more (by decide)) ((hr y hy).more (by decide)) e)) h.nodup)) fun n hn => by
    obtain ⟨l, hl, rfl⟩ := List.mem_map.1 hn
    exact codeR4 (hr l hl)
  simpa using this
structure SecD (m s : Mach) (L : List (List Int)) (ar : List Arr) : Prop where
  pm : m.May
  ps : s.May
  h6 : m.states ≤ 6
  h4 : s.states ≤ 4
  det : Det s L ar
  ev : m.events = s.events
section
variable {m s : Mach} {L : List (List Int)} {ar : List Arr}
/-- What leads from number to number, at the events that are asked for. -/
def secE (m : Mach) (n D : Nat) (ar : List Arr) (p : Arr → Bool) : List (Int × Int) := (m.arrows.filter p).flatMap fun a => (List.range D).map fun t => (nmb D a.frm t, nmb D a.to_ (dto n ar t a.evt))
theorem secE_mem {n D : Nat} {p : Arr → Bool} {x : Int × Int} : x ∈ secE m n D ar p ↔ ∃ a ∈ m.arrows, p a = true ∧ ∃ t, t < D ∧ x = (nmb D a.frm t, nmb D a.to_ (dto n ar t a.evt)) := by
  unfold secE
  simp only [List.mem_flatMap, List.mem_filter, List.mem_map, List.mem_range]
  constructor
  · rintro ⟨a, ⟨ha, hp⟩, t, ht, rfl⟩; exact ⟨a, ha, hp, t, ht, rfl⟩
  · rintro ⟨a, ha, hp, t, ht, rfl⟩; exact ⟨a, ⟨ha, hp⟩, t, ht, rfl⟩
def unB (seen : List Int) (a : Arr) : Bool := decide (a.evt ∉ seen)
def atB (e : Int) (a : Arr) : Bool := decide (a.evt = e)
noncomputable def sWide (m s : Mach) (L : List (List Int)) (ar : List Arr) (seen S : List Int) : List Int := pick (Clos (secE m s.events.toNat L.length ar (unB seen)) S)
/-- Where numbers lead to, in the order in which the program comes to it. -/
def sPart (m : Mach) (n D : Nat) (ar : List Arr) (S : List Int) (e : Int) (as_ : List Arr) : List Int := (as_.filter (atB e)).flatMap fun a => ((List.range D).filter fun t => decide (nmb D a.frm t ∈ S)).map fun t => nmb D a.to_ (dto n ar t e)
def sStep (m s : Mach) (L : List (List Int)) (ar : List Arr) (S : List Int) (e : Int) : List Int := sortedL (sPart m s.events.toNat L.length ar S e m.arrows)
noncomputable def sNext (m s : Mach) (L : List (List Int)) (ar : List Arr) (seen S : List Int) (e : Int) : List Int := sWide m s L ar seen (sStep m s L ar S e)
def sFst (m : Mach) (D : Nat) : List Int := m.starts.map fun x => nmb D x 0
noncomputable def sFirst (m s : Mach) (L : List (List Int)) (ar : List Arr) (seen : List Int) : List Int := sWide m s L ar seen (sFst m L.length)
noncomputable def sEst (m s : Mach) (L : List (List Int)) (ar : List Arr) (seen v : List Int) : List Int := v.foldl (sNext m s L ar seen) (sFirst m s L ar seen)
theorem sEst_snoc (seen v : List Int) (e : Int) : sEst m s L ar seen (v ++ [e]) = sNext m s L ar seen (sEst m s L ar seen v) e := by unfold sEst; rw [List.foldl_append]; rfl
theorem sPart_mem {n D : Nat} {S : List Int} {e x : Int} {as_ : List Arr} : x ∈ sPart m n D ar S e as_ ↔ ∃ a ∈ as_, a.evt = e ∧ ∃ t, t < D ∧ nmb D a.frm t ∈ S ∧ x = nmb D a.to_ (dto n ar t e) := by
  unfold sPart atB
  simp only [List.mem_flatMap, List.mem_filter, List.mem_map, List.mem_range, decide_eq_true_eq]
  constructor
  · rintro ⟨a, ⟨ha, hp⟩, t, ⟨ht, h2⟩, rfl⟩; exact ⟨a, ha, hp, t, ht, h2, rfl⟩
  · rintro ⟨a, ha, hp, t, ht, h2, rfl⟩; exact ⟨a, ⟨ha, hp⟩, t, ⟨ht, h2⟩, rfl⟩
theorem sWide_base {seen S : List Int} {x : Int} (hx : x ∈ S) (h0 : 0 ≤ x ∧ x < 256) : x ∈ sWide m s L ar seen S := mem_pick.2 ⟨h0, .base x hx⟩
def NumOf (L : List (List Int)) (p : Pl) (x : Int) : Prop := ∃ t : Nat, L[t]? = some p.2 ∧ x = nmb L.length p.1 t
variable (h : SecD m s L ar)
include h
theorem SecD.dto {t : Nat} (ht : t < L.length) {e : Int} (h0 : 0 ≤ e) (h1 : e < m.events) : ∃ S, L[t]? = some S ∧ L[dto s.events.toNat ar t e]? = some (stepL s S e) := (h.det.dto ht h0 (h.ev ▸ h1)).2.2
theorem SecD.arr {a : Arr} (ha : a ∈ m.arrows) : (0 ≤ a.frm ∧ a.frm < 6) ∧ (0 ≤ a.to_ ∧ a.to_ < 6) ∧ 0 ≤ a.evt ∧ a.evt < m.events := by
  have := May.arr h.pm ha
  have h6 := h.h6
  obtain ⟨⟨a1, a2⟩, ⟨a3, a4⟩, a5⟩ := this
  exact ⟨⟨a1, by omega⟩, ⟨a3, by omega⟩, a5⟩
theorem SecD.l16 : L.length ≤ 16 := h.det.l16 h.h4
theorem SecD.pos : 0 < L.length := h.det.pos
theorem SecD.edge {p : Arr → Bool} : ∀ x ∈ secE m s.events.toNat L.length ar p, (0 ≤ x.1 ∧ x.1 < 96) ∧ 0 ≤ x.2 ∧ x.2 < 96 := fun x hx => by
  obtain ⟨a, ha, _, t, ht, rfl⟩ := secE_mem.1 hx
  have := h.arr ha
  obtain ⟨S, h1, h2⟩ := h.dto ht this.2.2.1 this.2.2.2
  exact ⟨nmb_rng ht h.l16 this.1.1 this.1.2, nmb_rng (getElem?_lt h2) h.l16 this.2.1.1 this.2.1.2⟩
theorem SecD.fst_rng : ∀ x ∈ sFst m L.length, 0 ≤ x ∧ x < 96 := fun x hx => by
  obtain ⟨y, hy, rfl⟩ := List.mem_map.1 hx
  have := (may_starts h.pm).mem hy
  have h6 := h.h6
  exact nmb_rng h.pos h.l16 this.1 (by omega)
theorem SecD.part_rng {S : List Int} {e : Int} : ∀ x ∈ sPart m s.events.toNat L.length ar S e m.arrows, 0 ≤ x ∧ x < 96 := fun x hx => by
  obtain ⟨a, ha, he, t, ht, _, rfl⟩ := sPart_mem.1 hx
  have := h.arr ha
  rw [he] at this
  obtain ⟨S, h1, h2⟩ := h.dto ht this.2.2.1 this.2.2.2
  exact nmb_rng (getElem?_lt h2) h.l16 this.2.1.1 this.2.1.2
theorem SecD.step_row (S : List Int) (e : Int) : IsRow (sStep m s L ar S e) 96 := IsRow.of_strict (sortedL_spec _).1 fun x hx => by
  have := h.part_rng x ((sortedL_spec _).2 x |>.1 hx)
  omega
theorem SecD.wide_row {seen S : List Int} (hS : ∀ x ∈ S, 0 ≤ x ∧ x < 96) : IsRow (sWide m s L ar seen S) 96 := pick_row fun x hx => Clos.all (p := fun x => x < 96) (fun x hx => (hS x hx).2) (fun e he _ => (h.edge e he).2.2) hx
theorem SecD.next_row (seen S : List Int) (e : Int) : IsRow (sNext m s L ar seen S e) 96 := h.wide_row fun x hx => by have := (h.step_row S e).mem hx; omega
theorem SecD.est_row (seen v : List Int) : IsRow (sEst m s L ar seen v) 96 := by
  refine snoc_ind (P := fun v => IsRow (sEst m s L ar seen v) 96) ?_ ?_ v
  · exact h.wide_row h.fst_rng
  · intro v e _; rw [sEst_snoc]; exact h.next_row _ _ _
theorem SecD.rel {seen v : List Int} {p : Pl} (hp : RelP m s seen v p) : (0 ≤ p.1 ∧ p.1 < 6) ∧ ∃ t : Nat, L[t]? = some p.2 := by
  have h6 := h.h6
  induction hp with
  | start hx => have := (may_starts h.pm).mem hx; exact ⟨⟨this.1, by omega⟩, 0, h.det.first⟩
  | quiet _ ha _ _ ih =>
    obtain ⟨_, t, ht⟩ := ih
    have hh := h.arr ha
    obtain ⟨S, h1, h2⟩ := h.dto (getElem?_lt ht) hh.2.2.1 hh.2.2.2
    rw [ht] at h1
    injection h1 with h1
    exact ⟨hh.2.1, _, by rw [h2, ← h1]⟩
  | event _ ha _ he ih =>
    obtain ⟨_, t, ht⟩ := ih
    have hh := h.arr ha
    rw [he] at hh
    obtain ⟨S, h1, h2⟩ := h.dto (getElem?_lt ht) hh.2.2.1 hh.2.2.2
    rw [ht] at h1
    injection h1 with h1
    exact ⟨hh.2.1, _, by rw [h2, ← h1]⟩
theorem SecD.closed {seen S : List Int} {x : Int × Int} (hx : x ∈ secE m s.events.toNat L.length ar (unB seen)) (h1 : x.1 ∈ sWide m s L ar seen S) : x.2 ∈ sWide m s L ar seen S := by
  have := h.edge x hx
  exact mem_pick.2 ⟨⟨this.2.1, by omega⟩, .step x hx (mem_pick.1 h1).2⟩
theorem SecD.est_wide (seen v : List Int) : ∃ S, sEst m s L ar seen v = sWide m s L ar seen S := by
  refine snoc_ind (P := fun v => ∃ S, sEst m s L ar seen v = sWide m s L ar seen S) ?_ ?_ v
  · exact ⟨_, rfl⟩
  · intro v e _; exact ⟨_, sEst_snoc ..⟩
theorem SecD.est_of {seen v : List Int} {p : Pl} (hp : RelP m s seen v p) : ∀ x, NumOf L p x → x ∈ sEst m s L ar seen v := by
  induction hp with
  | start hx =>
    rintro x ⟨t, ht, rfl⟩
    have := h.det.inj ht h.det.first
    subst this
    have hm : nmb L.length _ 0 ∈ sFst m L.length := List.mem_map.2 ⟨_, hx, rfl⟩
    have hr := h.fst_rng _ hm
    exact sWide_base hm ⟨hr.1, Int.lt_trans hr.2 (by decide)⟩
  | @quiet v y a hy ha hf he ih =>
    rintro x ⟨t, ht, rfl⟩
    obtain ⟨_, u, hu⟩ := h.rel hy
    have hh := h.arr ha
    have h0 := ih _ ⟨u, hu, rfl⟩
    obtain ⟨S, h1, h2⟩ := h.dto (getElem?_lt hu) hh.2.2.1 hh.2.2.2
    rw [hu] at h1
    injection h1 with h1
    subst h1
    have e := h.det.inj ht h2
    obtain ⟨S', hS⟩ := h.est_wide seen v
    rw [hS] at h0 ⊢
    rw [e]
    exact h.closed (x := (nmb L.length a.frm u, nmb L.length a.to_ (Go.Proofs.YtcjinmgieiebbaaDoor.dto s.events.toNat ar u a.evt))) (secE_mem.2 ⟨a, ha, decide_eq_true he, u, getElem?_lt hu, rfl⟩) (by show nmb L.length a.frm u ∈ _; rw [hf]; exact h0)
  | @event v e y a hy ha hf he ih =>
    rintro x ⟨t, ht, rfl⟩
    obtain ⟨_, u, hu⟩ := h.rel hy
    have hh := h.arr ha
    have h0 := ih _ ⟨u, hu, rfl⟩
    rw [he] at hh
    obtain ⟨S, h1, h2⟩ := h.dto (getElem?_lt hu) hh.2.2.1 hh.2.2.2
    rw [hu] at h1
    injection h1 with h1
    subst h1
    have e2 := h.det.inj ht h2
    rw [sEst_snoc, e2]
    have hm : nmb L.length a.to_ (Go.Proofs.YtcjinmgieiebbaaDoor.dto s.events.toNat ar u e) ∈ sStep m s L ar (sEst m s L ar seen v) e := (sortedL_spec _).2 _ |>.2 (sPart_mem.2 ⟨a, ha, he, u, getElem?_lt hu, by rw [hf]; exact h0, rfl⟩)
    have hr := (h.step_row _ e).mem hm
    exact sWide_base hm ⟨hr.1, Int.lt_of_lt_of_le hr.2.1 (by decide)⟩
theorem SecD.wide_all {seen S : List Int} {v : List Int} (h0 : ∀ x ∈ S, ∃ p, RelP m s seen v p ∧ NumOf L p x) : ∀ x ∈ sWide m s L ar seen S, ∃ p, RelP m s seen v p ∧ NumOf L p x := fun x hx => by
  refine Clos.all (p := fun x => ∃ p, RelP m s seen v p ∧ NumOf L p x) h0 ?_ (mem_pick.1 hx).2
  rintro e he ⟨p, hp, u, hu, e1⟩
  obtain ⟨a, ha, hq, t, ht, rfl⟩ := secE_mem.1 he
  have hh := h.arr ha
  have hr := h.rel hp
  have := nmb_inj ht (getElem?_lt hu) hh.1.1 hr.1.1 e1
  obtain ⟨e2, rfl⟩ := this
  obtain ⟨S, h1, h2⟩ := h.dto ht hh.2.2.1 hh.2.2.2
  rw [hu] at h1
  injection h1 with h1
  subst h1
  exact ⟨_, .quiet hp ha e2 (of_decide_eq_true hq), _, h2, rfl⟩
/-- The set of numbers, by what it has. -/
theorem SecD.est_mem (seen v : List Int) : ∀ x, x ∈ sEst m s L ar seen v ↔ ∃ p, RelP m s seen v p ∧ NumOf L p x := by
  intro x
  refine ⟨fun hx => ?_, fun ⟨p, hp, hn⟩ => h.est_of hp x hn⟩
  revert x
  refine snoc_ind (P := fun v => ∀ x, x ∈ sEst m s L ar seen v → ∃ p, RelP m s seen v p ∧ NumOf L p x) ?_ ?_ v
  · intro x hx
    refine h.wide_all (v := []) ?_ x hx
    intro y hy
    obtain ⟨z, hz, rfl⟩ := List.mem_map.1 hy
    exact ⟨_, .start hz, 0, h.det.first, rfl⟩
  · intro v e ih x hx
    rw [sEst_snoc] at hx
    refine h.wide_all ?_ x hx
    intro y hy
    obtain ⟨a, ha, he, t, ht, hin, rfl⟩ := sPart_mem.1 ((sortedL_spec _).2 _ |>.1 hy)
    obtain ⟨p, hp, u, hu, e1⟩ := ih _ hin
    have hh := h.arr ha
    have hr := h.rel hp
    obtain ⟨e2, rfl⟩ := nmb_inj ht (getElem?_lt hu) hh.1.1 hr.1.1 e1
    rw [he] at hh
    obtain ⟨S, h1, h2⟩ := h.dto ht hh.2.2.1 hh.2.2.2
    rw [hu] at h1
    injection h1 with h1
    subst h1
    exact ⟨_, .event hp ha e2 he, _, h2, rfl⟩
end
def isM (m : Mach) (D : Nat) (x : Int) : Prop := ((x.toNat / D : Nat) : Int) ∈ m.ends
def isD (s : Mach) (L : List (List Int)) (x : Int) : Prop := ((x.toNat % L.length : Nat) : Int) ∈ endsUpto s L L.length
instance (m : Mach) (D : Nat) (x : Int) : Decidable (isM m D x) := by unfold isM; exact inferInstance
instance (s : Mach) (L : List (List Int)) (x : Int) : Decidable (isD s L x) := by unfold isD; exact inferInstance
def sHid (m s : Mach) (L : List (List Int)) (S : List Int) : Prop := ∃ x ∈ S, isM m L.length x ∧ isD s L x
def sOpn (m s : Mach) (L : List (List Int)) (S : List Int) : Prop := ∃ x ∈ S, isM m L.length x ∧ ¬ isD s L x
instance (m s : Mach) (L : List (List Int)) (S : List Int) : Decidable (sHid m s L S) := inferInstanceAs (Decidable (∃ x ∈ S, _))
instance (m s : Mach) (L : List (List Int)) (S : List Int) : Decidable (sOpn m s L S) := inferInstanceAs (Decidable (∃ x ∈ S, _))
def sLeak (m s : Mach) (L : List (List Int)) (S : List Int) : Bool := decide (sHid m s L S) && !decide (sOpn m s L S)
section
variable {m s : Mach} {L : List (List Int)} {ar : List Arr} (h : SecD m s L ar)
include h
theorem SecD.ends {p : Pl} {t : Nat} (hp : 0 ≤ p.1) (ht : L[t]? = some p.2) : (isM m L.length (nmb L.length p.1 t) ↔ p.1 ∈ m.ends) ∧ (isD s L (nmb L.length p.1 t) ↔ 0 < (onlyL p.2 s.ends true).length) := by
  obtain ⟨a, ha⟩ : ∃ a : Nat, p.1 = a := ⟨p.1.toNat, by omega⟩
  have hl := getElem?_lt ht
  have hd := nmb_dm hl a
  unfold isM isD
  rw [ha, nmb_nat, Int.toNat_natCast, hd.1, hd.2]
  refine ⟨Iff.rfl, ?_⟩
  rw [endsUpto_mem, only_pos]
  have hg : L.getD t [] = p.2 := by rw [List.getD_eq_getElem?_getD, ht]; rfl
  constructor
  · rintro ⟨i, e, _, h3⟩
    have : i = t := by omega
    subst this
    rwa [hg] at h3
  · intro h3; exact ⟨t, rfl, hl, by rw [hg]; exact h3⟩
theorem SecD.same {seen v u : List Int} {l l' : List Pl} (hl : AftP m s seen v l) (hl' : AftP m s seen u l') (n : l.Nodup) (n' : l'.Nodup) : SameP l l' ↔ sEst m s L ar seen v = sEst m s L ar seen u := by
  constructor
  · rintro ⟨hlen, hsub⟩
    have hp : ∀ x, x ∈ l ↔ x ∈ l' := fun x => ⟨hsub x, fun hx => Classical.byContradiction fun hn => by
      have := nodup_subP (x :: l) l' (List.nodup_cons.2 ⟨hn, n⟩) fun y hy => by
        rcases List.mem_cons.1 hy with rfl | hy
        · exact hx
        · exact hsub y hy
      rw [List.length_cons] at this; omega⟩
    refine Strict.ext (h.est_row seen v).strict (h.est_row seen u).strict fun c => ?_
    rw [h.est_mem, h.est_mem]
    constructor
    · rintro ⟨p, hR, hn⟩; exact ⟨p, (hl'.mem p).1 ((hp p).1 ((hl.mem p).2 hR)), hn⟩
    · rintro ⟨p, hR, hn⟩; exact ⟨p, (hl.mem p).1 ((hp p).2 ((hl'.mem p).2 hR)), hn⟩
  · intro he
    have key : ∀ {v u : List Int}, sEst m s L ar seen v = sEst m s L ar seen u → ∀ p, RelP m s seen v p → RelP m s seen u p := fun {v u} he p hR => by
      obtain ⟨hr, t, ht⟩ := h.rel hR
      have hx := (h.est_mem seen v _).2 ⟨p, hR, t, ht, rfl⟩
      rw [he] at hx
      obtain ⟨q, hQ, t', ht', e⟩ := (h.est_mem seen u _).1 hx
      obtain ⟨e1, rfl⟩ := nmb_inj (getElem?_lt ht) (getElem?_lt ht') hr.1 (h.rel hQ).1.1 e
      rw [ht] at ht'
      injection ht' with ht'
      have : p = q := Prod.ext e1 ht'
      rw [this]; exact hQ
    have hp : ∀ x, x ∈ l ↔ x ∈ l' := fun x => by rw [hl.mem, hl'.mem]; exact ⟨key he x, key he.symm x⟩
    exact ⟨((List.perm_ext_iff_of_nodup n n').2 hp).length_eq, fun x hx => (hp x).1 hx⟩
end
end Go.Proofs.YtcjinmgieiebbaaDoor
