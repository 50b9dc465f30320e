/-
  Chapter 10, in plain Lean: from where a plant goes on; that is the same by the reference's way. No program in sight.
-/
import Derived.Test.YtcjinmgieiebbaaDoorZCur
import Derived.Test.YtcjinmgieiebbaaDoorZLay
namespace Go.Proofs.YtcjinmgieiebbaaDoor
set_option linter.unusedSimpArgs false
set_option linter.unusedVariables false
set_option linter.unusedSectionVars false
open Go.RowKit

/-- From where an event leads into some states, arrow by arrow. -/
def preT (ar : List Arr) (l : List Int) (e : Int) : List Int := (ar.filter fun a => decide (a.evt = e) && decide (a.to_ ∈ l)).map (·.frm)
theorem preT_snoc (ar : List Arr) (l : List Int) (e : Int) (k : Nat) (h : k < ar.length) :
    preT (ar.take (k + 1)) l e = if (ar.getD k default).evt = e ∧ (ar.getD k default).to_ ∈ l then preT (ar.take k) l e ++ [(ar.getD k default).frm] else preT (ar.take k) l e := by
  unfold preT
  rw [take_snoc ar default k h, List.filter_append, List.map_append]
  by_cases c : (ar.getD k default).evt = e ∧ (ar.getD k default).to_ ∈ l
  · rw [if_pos c, List.filter_cons, if_pos (by rw [Bool.and_eq_true, decide_eq_true_eq, decide_eq_true_eq]; exact c)]; rfl
  · rw [if_neg c, List.filter_cons, if_neg (by rw [Bool.and_eq_true, decide_eq_true_eq, decide_eq_true_eq]; exact c)]; simp
theorem mem_preT {ar : List Arr} {l : List Int} {e x : Int} : x ∈ preT ar l e ↔ ∃ a ∈ ar, a.evt = e ∧ a.to_ ∈ l ∧ a.frm = x := by
  unfold preT
  simp only [List.mem_map, List.mem_filter, Bool.and_eq_true, decide_eq_true_eq]
  exact ⟨fun ⟨a, ⟨h1, h2, h3⟩, h4⟩ => ⟨a, h1, h2, h3, h4⟩, fun ⟨a, h1, h2, h3, h4⟩ => ⟨a, ⟨h1, h2, h3⟩, h4⟩⟩
/-- The unseen edges, the other way round. -/
abbrev unR (m : Mach) (seen : List Int) : List (Int × Int) := eds (unA seen) true m.arrows
noncomputable def backL (m : Mach) (seen l : List Int) (e : Int) : List Int := pick (Clos (unR m seen) (preT m.arrows l e))
theorem unR_small {m : Mach} (hm : m.May) {seen : List Int} : ∀ p ∈ unR m seen, 0 ≤ p.2 ∧ p.2 < m.states := fun p hp => by
  obtain ⟨a, ha, _, rfl⟩ := mem_eds.1 hp
  exact (May.arr hm ha).1
theorem preT_range {m : Mach} (hm : m.May) (l : List Int) (e : Int) : ∀ x ∈ preT m.arrows l e, 0 ≤ x ∧ x < m.states := fun x hx => by
  obtain ⟨a, ha, _, _, rfl⟩ := mem_preT.1 hx
  exact (May.arr hm ha).1
theorem closR_range {m : Mach} (hm : m.May) {seen l : List Int} (hl : ∀ x ∈ l, 0 ≤ x ∧ x < m.states) {x : Int} (h : Clos (unR m seen) l x) : 0 ≤ x ∧ x < m.states :=
  Clos.all (p := fun x => 0 ≤ x ∧ x < m.states) hl (fun p hp _ => unR_small hm p hp) h
theorem mem_backL {m : Mach} (hm : m.May) {seen l : List Int} {e x : Int} : x ∈ backL m seen l e ↔ Clos (unR m seen) (preT m.arrows l e) x := by
  unfold backL
  rw [mem_pick]
  exact ⟨fun h => h.2, fun h => ⟨by have := closR_range hm (preT_range hm l e) h; have := hm.2.1; omega, h⟩⟩
theorem backL_row {m : Mach} (hm : m.May) (seen l : List Int) (e : Int) : IsRow (backL m seen l e) m.states := pick_row fun x hx => (closR_range hm (preT_range hm l e) hx).2
/-- Where unseen events lead from a state that is in it, back. -/
def BackClosed (m : Mach) (seen l : List Int) : Prop := ∀ a ∈ m.arrows, a.evt ∉ seen → a.to_ ∈ l → a.frm ∈ l
theorem backL_closed {m : Mach} (hm : m.May) (seen l : List Int) (e : Int) : BackClosed m seen (backL m seen l e) := fun a ha hs ht => by
  rw [mem_backL hm] at ht ⊢
  exact Clos.step (a.to_, a.frm) (mem_eds.2 ⟨a, ha, by simpa [unA] using hs, rfl⟩) ht
theorem all_row (n : Int) (h : 0 ≤ n) (h1 : n ≤ 256) : IsRow (evs n.toNat) n := IsRow.of_strict (evs_strict _) fun x hx => by
  have := evs_mem.1 hx; omega
theorem all_closed {m : Mach} (hm : m.May) (seen : List Int) : BackClosed m seen (evs m.states.toNat) := fun a ha _ _ => by
  have := (May.arr hm ha).1
  exact evs_mem.2 ⟨this.1, by omega⟩
theorem clos_swap1 {p : Arr → Bool} {ar : List Arr} {x y : Int} (h : Clos (eds p false ar) [x] y) : ∀ {l : List Int}, Clos (eds p true ar) l y → Clos (eds p true ar) l x := by
  intro l
  induction h with
  | base z hz => intro hy; rw [← List.mem_singleton.1 hz]; exact hy
  | step q hq _ ih =>
    intro hy
    obtain ⟨a, ha, hpa, rfl⟩ := mem_eds.1 hq
    exact ih (Clos.step (a.to_, a.frm) (mem_eds.2 ⟨a, ha, hpa, rfl⟩) hy)
theorem clos_swap2 {p : Arr → Bool} {ar : List Arr} {l : List Int} {x : Int} (h : Clos (eds p true ar) l x) : ∃ y ∈ l, Clos (eds p false ar) [x] y := by
  induction h with
  | base z hz => exact ⟨z, hz, .base z (by simp)⟩
  | step q hq _ ih =>
    obtain ⟨y, hy, hc⟩ := ih
    obtain ⟨a, ha, hpa, rfl⟩ := mem_eds.1 hq
    exact ⟨y, hy, Clos.trans (fun z hz => by
      rw [List.mem_singleton.1 hz]
      exact Clos.step (a.frm, a.to_) (mem_eds.2 ⟨a, ha, hpa, rfl⟩) (.base _ (by simp))) hc⟩
theorem closed_back {m : Mach} {seen l : List Int} (h : BackClosed m seen l) {x y : Int} (hc : Clos (unE m seen) [x] y) (hy : y ∈ l) : x ∈ l := by
  have := clos_swap1 hc (l := l) (.base y hy)
  exact Clos.within (fun _ h => h) (fun p hp h1 => by
    obtain ⟨a, ha, hpa, rfl⟩ := mem_eds.1 hp
    exact h a ha (by simpa [unA] using hpa) h1) this
/-- One event: the states of which unseen events lead to it, and it into the states. -/
theorem back_iff {m : Mach} (hm : m.May) {seen l : List Int} (hl : BackClosed m seen l) {e x : Int} (hx : 0 ≤ x ∧ x < m.states) :
    x ∈ backL m seen l e ↔ MeetL (seeL m seen (wideL m seen [x]) e) l := by
  have hxr : ∀ z ∈ [x], 0 ≤ z ∧ z < m.states := fun z hz => by rw [List.mem_singleton.1 hz]; exact hx
  rw [mem_backL hm]
  constructor
  · intro h
    obtain ⟨y, hy, hc⟩ := clos_swap2 h
    obtain ⟨a, ha, hae, hat, rfl⟩ := mem_preT.1 hy
    refine ⟨a.to_, ?_, hat⟩
    unfold seeL
    rw [mem_wideL hm (stepL_range hm _ _)]
    exact .base _ (mem_stepL.2 ⟨a, ha, hae, (mem_wideL hm hxr).2 hc, rfl⟩)
  · rintro ⟨t, ht, htl⟩
    unfold seeL at ht
    rw [mem_wideL hm (stepL_range hm _ _)] at ht
    obtain ⟨z, hz, hzt⟩ : ∃ z ∈ stepL m (wideL m seen [x]) e, Clos (unE m seen) [z] t := by
      have : ∀ {l : List Int} {t : Int}, Clos (unE m seen) l t → ∃ z ∈ l, Clos (unE m seen) [z] t := by
        intro l t h
        induction h with
        | base z hz => exact ⟨z, hz, .base z (by simp)⟩
        | step q hq _ ih =>
          obtain ⟨z, hz, hc⟩ := ih
          exact ⟨z, hz, .step q hq hc⟩
      exact this ht
    have hzl := closed_back hl hzt htl
    obtain ⟨a, ha, hae, haf, rfl⟩ := mem_stepL.1 hz
    rw [mem_wideL hm hxr] at haf
    exact clos_swap1 haf (.base _ (mem_preT.2 ⟨a, ha, hae, hzl, rfl⟩))
/-- The reference's way. -/
noncomputable def intoL (m : Mach) (seen l : List Int) (e : Int) : List Int := (evs m.states.toNat).filter fun s => decide (0 < (onlyL (seeL m seen (wideL m seen [s]) e) l true).length)
theorem into_eq {m : Mach} (hm : m.May) {seen l : List Int} (hl : BackClosed m seen l) (e : Int) : intoL m seen l e = backL m seen l e := by
  refine Strict.ext ((evs_strict _).filter _) (backL_row hm _ _ _).strict fun x => ?_
  unfold intoL
  rw [List.mem_filter, evs_mem, decide_eq_true_eq]
  have hlen : ∀ s : Int, 0 < (onlyL (seeL m seen (wideL m seen [s]) e) l true).length ↔ MeetL (seeL m seen (wideL m seen [s]) e) l := fun s => by
    rw [List.length_pos_iff_exists_mem]
    unfold MeetL onlyL
    simp [List.mem_filter]
  rw [hlen]
  constructor
  · rintro ⟨h1, h2⟩
    exact (back_iff hm hl ⟨h1.1, by omega⟩).2 h2
  · intro h
    have hr := (backL_row hm seen l e).mem h
    exact ⟨⟨hr.1, by omega⟩, (back_iff hm hl ⟨hr.1, hr.2.1⟩).1 h⟩
noncomputable abbrev backP (p : Plt) : List Int → Int → List Int := backL p.m p.seen
noncomputable abbrev allP (p : Plt) : List Int := evs p.m.states.toNat
noncomputable def backsL (p : Plt) (word : List Int) : List Int := word.foldr (fun e s => backP p s e) (allP p)
/-- What the places keep to. -/
def UB (p : Plt) (s : List Int) : Prop := IsRow s p.m.states ∧ BackClosed p.m p.seen s
theorem UB.all {p : Plt} (h : p.m.May) : UB p (allP p) := ⟨all_row _ (by have := h.1; omega) h.2.1, all_closed h _⟩
theorem UB.back {p : Plt} (h : p.m.May) (s : List Int) (e : Int) : UB p (backP p s e) := ⟨backL_row h _ _ _, backL_closed h _ _ _⟩
theorem backsL_UB {p : Plt} (h : p.m.May) : ∀ word, UB p (backsL p word)
  | [] => UB.all h
  | e :: word => UB.back h (backsL p word) e
theorem mem_seeL_back {p : Plt} (h : p.m.May) {S l : List Int} (hS : ∀ x ∈ S, 0 ≤ x ∧ x < p.m.states) (hl : BackClosed p.m p.seen l) (e : Int) : MeetL (seeL p.m p.seen S e) l ↔ MeetL (stepL p.m S e) l := by
  constructor
  · rintro ⟨t, ht, htl⟩
    unfold seeL at ht
    rw [mem_wideL h (stepL_range h _ _)] at ht
    have : ∀ {l' : List Int} {t : Int}, Clos (unE p.m p.seen) l' t → ∃ z ∈ l', Clos (unE p.m p.seen) [z] t := by
      intro l t h
      induction h with
      | base z hz => exact ⟨z, hz, .base z (by simp)⟩
      | step q hq _ ih =>
        obtain ⟨z, hz, hc⟩ := ih
        exact ⟨z, hz, .step q hq hc⟩
    obtain ⟨z, hz, hc⟩ := this ht
    exact ⟨z, hz, closed_back hl hc htl⟩
  · rintro ⟨z, hz, hzl⟩
    refine ⟨z, ?_, hzl⟩
    unfold seeL
    rw [mem_wideL h (stepL_range h _ _)]
    exact .base z hz
/-- A list can be seen on from some states (wide already), just if it can be from one of them. -/
theorem from_iff {p : Plt} (h : p.m.May) : ∀ (word S : List Int), (∀ x ∈ S, 0 ≤ x ∧ x < p.m.states) → (∀ a ∈ p.m.arrows, a.evt ∉ p.seen → a.frm ∈ S → a.to_ ∈ S) → (word.foldl (nextP p) S ≠ [] ↔ MeetL S (backsL p word))
  | [], S, hS, _ => by
    constructor
    · intro hne
      obtain ⟨x, hx⟩ := List.exists_mem_of_ne_nil _ hne
      have := hS x hx
      exact ⟨x, hx, evs_mem.2 ⟨this.1, by omega⟩⟩
    · rintro ⟨x, hx, _⟩ hn
      rw [show S = [] from hn] at hx
      simp at hx
  | e :: word, S, hS, hc => by
    rw [List.foldl_cons]
    have hrow := seeL_row h p.seen S e
    rw [from_iff h word _ (row_range hrow) (fun a ha hs hf => by
      show a.to_ ∈ seeL p.m p.seen S e
      have hf : a.frm ∈ seeL p.m p.seen S e := hf
      unfold seeL at hf ⊢
      rw [mem_wideL h (stepL_range h _ _)] at hf ⊢
      exact Clos.step (a.frm, a.to_) (mem_eds.2 ⟨a, ha, by simpa [unA] using hs, rfl⟩) hf)]
    have hb := (backsL_UB h word).2
    show MeetL (seeL p.m p.seen S e) (backsL p word) ↔ MeetL S (backP p (backsL p word) e)
    rw [mem_seeL_back h hS hb]
    constructor
    · rintro ⟨t, ht, htb⟩
      obtain ⟨a, ha, hae, haf, rfl⟩ := mem_stepL.1 ht
      exact ⟨a.frm, haf, (mem_backL h).2 (.base _ (mem_preT.2 ⟨a, ha, hae, htb, rfl⟩))⟩
    · rintro ⟨z, hz, hzb⟩
      rw [mem_backL h] at hzb
      obtain ⟨y, hy, hzy⟩ := clos_swap2 hzb
      have hyS : y ∈ S := Clos.within (m := S) (fun x hx => by rw [List.mem_singleton.1 hx]; exact hz) (fun q hq h1 => by
        obtain ⟨a, ha, hpa, rfl⟩ := mem_eds.1 hq
        exact hc a ha (by simpa [unA] using hpa) h1) hzy
      obtain ⟨a, ha, hae, hat, rfl⟩ := mem_preT.1 hy
      exact ⟨a.to_, mem_stepL.2 ⟨a, ha, hae, hyS, rfl⟩, hat⟩
theorem wide_closed {m : Mach} (hm : m.May) {seen l : List Int} (hl : ∀ x ∈ l, 0 ≤ x ∧ x < m.states) : ∀ a ∈ m.arrows, a.evt ∉ seen → a.frm ∈ wideL m seen l → a.to_ ∈ wideL m seen l := fun a ha hs hf => by
  rw [mem_wideL hm hl] at hf ⊢
  exact Clos.step (a.frm, a.to_) (mem_eds.2 ⟨a, ha, by simpa [unA] using hs, rfl⟩) hf
/-- From one state on: just if it is among those from which the list can be seen. -/
theorem from_one {p : Plt} (h : p.m.May) (word : List Int) {x : Int} (hx : 0 ≤ x ∧ x < p.m.states) : word.foldl (nextP p) (wideL p.m p.seen [x]) ≠ [] ↔ x ∈ backsL p word := by
  have hxr : ∀ z ∈ [x], 0 ≤ z ∧ z < p.m.states := fun z hz => by rw [List.mem_singleton.1 hz]; exact hx
  rw [from_iff h word _ (row_range (wideL_row h hxr)) (wide_closed h hxr)]
  constructor
  · rintro ⟨z, hz, hzb⟩
    rw [mem_wideL h hxr] at hz
    exact closed_back (backsL_UB h word).2 hz hzb
  · intro hb
    exact ⟨x, (mem_wideL h hxr).2 (.base x (by simp)), hb⟩
end Go.Proofs.YtcjinmgieiebbaaDoor
