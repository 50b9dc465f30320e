/-
  What edges lead to: sets that are picked by a property, closures, passes over edges; equality of sets of states. Plain but for the last part.
  Chapter 3, in plain Lean: the machine of some states alone; it accepts what the machine accepts, if the states are those of use. No program in sight.
  Chapters 5 and 9, in plain Lean: what unseen events lead to; the machine of what is seen; what is seen of a word that is accepted is accepted by it. No program in sight.
-/
import Derived.Test.YtcjedgiglimipaaDoorZSetAll
import Derived.Test.YtcjedgiglimipaaDoorZOwn
import Derived.ChangeKeysEq
namespace Go.Proofs.YtcjedgiglimipaaDoor
set_option linter.unusedSimpArgs false
set_option linter.unusedVariables false
set_option linter.unusedSectionVars false
section
open Go.RowKit

/-- The row of the numbers below 256 with a property. -/
noncomputable def pick (p : Int → Prop) : List Int := ((List.range 256).filter fun (n : Nat) => @decide (p (n : Int)) (Classical.propDecidable _)).map fun (n : Nat) => (n : Int)
theorem mem_pick {p : Int → Prop} {x : Int} : x ∈ pick p ↔ (0 ≤ x ∧ x < 256) ∧ p x := by
  unfold pick
  simp only [List.mem_map, List.mem_filter, List.mem_range, decide_eq_true_eq]
  constructor
  · rintro ⟨n, ⟨hn, h⟩, rfl⟩; exact ⟨⟨by omega, by omega⟩, h⟩
  · rintro ⟨⟨h0, h1⟩, h⟩
    exact ⟨x.toNat, ⟨by omega, by rw [show ((x.toNat : Nat) : Int) = x by omega]; exact h⟩, by omega⟩
theorem pick_strict (p : Int → Prop) : Strict (pick p) := by
  unfold pick Strict
  rw [List.pairwise_map]
  exact List.Pairwise.imp (fun h => Int.ofNat_lt.2 h) (List.Pairwise.filter _ List.pairwise_lt_range)
theorem pick_small (p : Int → Prop) : Small (pick p) := fun _ hx => (mem_pick.1 hx).1
theorem pick_eq {p : Int → Prop} {l : List Int} (h : Strict l) (hs : Small l) (hp : ∀ x, x ∈ l ↔ p x) : l = pick p :=
  h.ext (pick_strict p) fun x => ⟨fun hx => mem_pick.2 ⟨hs x hx, (hp x).1 hx⟩, fun hx => (hp x).2 (mem_pick.1 hx).2⟩
theorem words_pick {p : Int → Prop} {l : List Int} (h : ∀ x, 0 ≤ x → x < 256 → (x ∈ l ↔ p x)) : wordsOf l = wordsOf (pick p) :=
  wordsOf_ext fun x h0 h1 => by rw [h x h0 h1, mem_pick]; exact ⟨fun hp => ⟨⟨h0, h1⟩, hp⟩, fun hp => hp.2⟩
theorem setV_pick {p : Int → Prop} {l : List Int} (h : ∀ x, 0 ≤ x → x < 256 → (x ∈ l ↔ p x)) : setV l = setV (pick p) := by unfold setV; rw [words_pick h]
theorem pick_row {p : Int → Prop} {b : Int} (h : ∀ x, p x → x < b) : IsRow (pick p) b :=
  IsRow.of_strict (pick_strict p) fun x hx => by have := mem_pick.1 hx; have := h x this.2; omega

/-- How many of the states are not in the list. -/
def miss (l : List Int) : Nat := (List.range 256).countP fun (n : Nat) => !decide ((n : Int) ∈ l)
/-- What edges lead to. -/
inductive Clos (es : List (Int × Int)) (l : List Int) : Int → Prop
  | base (x : Int) (h : x ∈ l) : Clos es l x
  | step (p : Int × Int) (hp : p ∈ es) (h : Clos es l p.1) : Clos es l p.2
theorem Clos.trans {es : List (Int × Int)} {l m : List Int} (h : ∀ x ∈ m, Clos es l x) {x : Int} (hx : Clos es m x) : Clos es l x := by
  induction hx with
  | base x hm => exact h x hm
  | step p hp _ ih => exact .step p hp ih
theorem Clos.mono {es : List (Int × Int)} {l m : List Int} (h : ∀ x ∈ l, x ∈ m) {x : Int} (hx : Clos es l x) : Clos es m x := Clos.trans (fun x hx => .base x (h x hx)) hx
theorem Clos.within {es : List (Int × Int)} {l m : List Int} (h0 : ∀ x ∈ l, x ∈ m) (h : ∀ p ∈ es, p.1 ∈ m → p.2 ∈ m) {x : Int} (hx : Clos es l x) : x ∈ m := by
  induction hx with
  | base x hl => exact h0 x hl
  | step p hp _ ih => exact h p hp ih
theorem Clos.all {es : List (Int × Int)} {l : List Int} {p : Int → Prop} (h0 : ∀ x ∈ l, p x) (h : ∀ e ∈ es, p e.1 → p e.2) {x : Int} (hx : Clos es l x) : p x := by
  induction hx with
  | base x hl => exact h0 x hl
  | step e he _ ih => exact h e he ih
/-- One pass over the edges. -/
def passL (es : List (Int × Int)) (l : List Int) : List Int := es.foldl (fun l p => if p.1 ∈ l then l ++ [p.2] else l) l
theorem passL_append (es fs : List (Int × Int)) (l : List Int) : passL (es ++ fs) l = passL fs (passL es l) := by unfold passL; rw [List.foldl_append]
theorem passL_sub : ∀ (es : List (Int × Int)) (l : List Int), ∀ x ∈ l, x ∈ passL es l
  | [], _, _, h => h
  | p :: es, l, x, h => by
    show x ∈ passL es (if p.1 ∈ l then l ++ [p.2] else l)
    refine passL_sub es _ x ?_
    split
    · exact List.mem_append_left _ h
    · exact h
theorem passL_clos : ∀ (es : List (Int × Int)) (l : List Int), ∀ x ∈ passL es l, Clos es l x
  | [], _, x, h => .base x h
  | p :: es, l, x, h => by
    have ih := passL_clos es _ x h
    have hm : ∀ {l : List Int} {y : Int}, Clos es l y → Clos (p :: es) l y := fun {l y} hy => by
      induction hy with
      | base x h => exact .base x h
      | step q hq _ ih => exact .step q (List.mem_cons_of_mem _ hq) ih
    refine Clos.trans (fun y hy => ?_) (hm ih)
    replace hy : y ∈ (if p.1 ∈ l then l ++ [p.2] else l) := hy
    split at hy
    · rename_i h1
      rcases List.mem_append.1 hy with hy | hy
      · exact .base y hy
      · rw [List.mem_singleton.1 hy]; exact .step p (List.mem_cons_self ..) (.base _ h1)
    · exact .base y hy
theorem passL_closed {es : List (Int × Int)} {l : List Int} (h : ∀ x ∈ passL es l, x ∈ l) : ∀ p ∈ es, p.1 ∈ l → p.2 ∈ l := by
  intro p hp h1
  obtain ⟨a, b, rfl⟩ := List.append_of_mem hp
  refine h _ ?_
  rw [passL_append]
  show p.2 ∈ passL b (if p.1 ∈ passL a l then passL a l ++ [p.2] else passL a l)
  rw [if_pos (passL_sub a l _ h1)]
  exact passL_sub b _ _ (by simp)
theorem passL_small {es : List (Int × Int)} (he : ∀ p ∈ es, 0 ≤ p.2 ∧ p.2 < 256) : ∀ {l : List Int}, Small l → Small (passL es l) := by
  intro l hl x hx
  exact (passL_clos es l x hx).all hl fun e h _ => he e h
/-- The edges of some arrows, forward or backward. -/
def eds (p : Arr → Bool) (rev : Bool) (ar : List Arr) : List (Int × Int) := (ar.filter p).map fun a => if rev then (a.to_, a.frm) else (a.frm, a.to_)
theorem mem_eds {p : Arr → Bool} {rev : Bool} {ar : List Arr} {e : Int × Int} : e ∈ eds p rev ar ↔ ∃ a ∈ ar, p a = true ∧ e = (if rev then (a.to_, a.frm) else (a.frm, a.to_)) := by
  unfold eds
  simp only [List.mem_map, List.mem_filter]
  exact ⟨fun ⟨a, ⟨h1, h2⟩, h3⟩ => ⟨a, h1, h2, h3.symm⟩, fun ⟨a, h1, h2, h3⟩ => ⟨a, ⟨h1, h2⟩, h3.symm⟩⟩
/-- What passes come to: the state of the loops 'until nothing new comes'. -/
structure Spread (es : List (Int × Int)) (l0 was l : List Int) : Prop where
  small : Small l
  sub : ∀ x ∈ l0, x ∈ l
  clos : ∀ x ∈ l, Clos es l0 x
  closed : wordsOf was = wordsOf l → ∀ p ∈ es, p.1 ∈ l → p.2 ∈ l
theorem small_sub {was l : List Int} (h : wordsOf was = wordsOf l) (hl : Small l) : ∀ x ∈ l, x ∈ was := fun x hx => (wordsOf_mem h (hl x hx).1 (hl x hx).2).2 hx
theorem Spread.start (es : List (Int × Int)) {l : List Int} (hl : Small l) : Spread es l [] l :=
  ⟨hl, fun _ h => h, fun x h => .base x h, fun h p _ hp => absurd (small_sub h hl _ hp) (by simp)⟩
theorem Spread.next {es : List (Int × Int)} {l0 was l : List Int} (h : Spread es l0 was l) (he : ∀ p ∈ es, 0 ≤ p.2 ∧ p.2 < 256) : Spread es l0 l (passL es l) := by
  have hs := passL_small he h.small
  refine ⟨hs, fun x hx => passL_sub es l x (h.sub x hx), fun x hx => Clos.trans h.clos (passL_clos es l x hx), fun hw p hp h1 => ?_⟩
  have hsub := small_sub hw hs
  exact passL_sub es l _ (passL_closed hsub p hp (hsub _ h1))
theorem Spread.done {es : List (Int × Int)} {l0 was l : List Int} (h : Spread es l0 was l) (hw : wordsOf was = wordsOf l) : setV l = setV (pick (Clos es l0)) :=
  setV_pick fun x _ _ => ⟨h.clos x, fun hc => Clos.within h.sub (h.closed hw) hc⟩
/-- How many rounds are left, at most. -/
def left (was l : List Int) : Nat := 2 * miss l + if wordsOf was = wordsOf l then 0 else 1
section
variable {K : Fr → World → Prop} {u w : World} {f : Fr} {d : Option Nat} {xo yo : Operand}
end
end

section
open Go.RowKit

theorem Strict.getD_lt {l : List Int} (h : Strict l) {i j : Nat} (hij : i < j) (hj : j < l.length) : l.getD i 0 < l.getD j 0 := by
  have := List.pairwise_iff_getElem.1 h i j (by omega) hj hij
  simpa [List.getD_eq_getElem?_getD, hj, show i < l.length by omega] using this
/-- A number's place in a list. -/
def ix (x : Int) : List Int → Nat
  | [] => 0
  | y :: l => if y = x then 0 else ix x l + 1
theorem ix_lt {x : Int} : ∀ {l : List Int}, x ∈ l → ix x l < l.length
  | [], h => absurd h (by simp)
  | y :: l, h => by
    unfold ix
    by_cases e : y = x
    · rw [if_pos e]; simp
    · rw [if_neg e]
      have := ix_lt (l := l) ((List.mem_cons.1 h).resolve_left fun h => e h.symm)
      simp; omega
theorem ix_at {x : Int} : ∀ {l : List Int}, x ∈ l → l.getD (ix x l) 0 = x
  | [], h => absurd h (by simp)
  | y :: l, h => by
    unfold ix
    by_cases e : y = x
    · rw [if_pos e]; exact e
    · rw [if_neg e, List.getD_cons_succ]
      exact ix_at (l := l) ((List.mem_cons.1 h).resolve_left fun h => e h.symm)
theorem ix_first {x : Int} : ∀ {l : List Int} {k : Nat}, k < l.length → l.getD k 0 = x → (∀ i, i < k → l.getD i 0 ≠ x) → ix x l = k
  | [], k, hk, _, _ => absurd hk (by simp)
  | y :: l, 0, _, h, _ => by
    unfold ix
    rw [if_pos (show y = x from h)]
  | y :: l, k + 1, hk, h, hn => by
    unfold ix
    have h0 := hn 0 (by omega)
    rw [List.getD_cons_zero] at h0
    rw [if_neg h0, ix_first (l := l) (k := k) (by simpa using hk) (by simpa using h) fun i hi => by have := hn (i + 1) (by omega); simpa using this]
theorem ix_inj {l : List Int} {x y : Int} (hx : x ∈ l) (hy : y ∈ l) (h : ix x l = ix y l) : x = y := by rw [← ix_at hx, ← ix_at hy, h]
/-- Those of a list's numbers that stand in a row, by their places. -/
def numL (B l : List Int) : List Int := (l.filter fun x => decide (x ∈ B)).map fun x => (ix x B : Int)
/-- The arrows between some states, by their places. -/
def trimA (B : List Int) (ar : List Arr) : List Arr := (ar.filter fun a => decide (a.frm ∈ B) && decide (a.to_ ∈ B)).map fun a => ⟨ix a.frm B, a.evt, ix a.to_ B⟩
theorem mem_trimA {B : List Int} {ar : List Arr} {b : Arr} : b ∈ trimA B ar ↔ ∃ a ∈ ar, a.frm ∈ B ∧ a.to_ ∈ B ∧ b = ⟨ix a.frm B, a.evt, ix a.to_ B⟩ := by
  unfold trimA
  simp only [List.mem_map, List.mem_filter, Bool.and_eq_true, decide_eq_true_eq]
  exact ⟨fun ⟨a, ⟨h1, h2, h3⟩, h4⟩ => ⟨a, h1, h2, h3, h4.symm⟩, fun ⟨a, h1, h2, h3, h4⟩ => ⟨a, ⟨h1, h2, h3⟩, h4.symm⟩⟩
/-- Arrows in order. -/
def OrdA (l : List Arr) : Prop := l.Pairwise Arr.lt
theorem OrdA.at_ {l : List Arr} (h : OrdA l) {i j : Nat} (hij : i < j) (hj : j < l.length) : (l.getD i default).lt (l.getD j default) := by
  have := List.pairwise_iff_getElem.1 h i j (by omega) hj hij
  simpa [List.getD_eq_getElem?_getD, hj, show i < l.length by omega] using this
/-- The machine of some states alone. -/
def trimM (m : Mach) (B : List Int) : Mach := ⟨max (B.length : Int) 1, m.events, numL B m.starts, trimA B m.arrows, numL B m.ends⟩
theorem small_len {B : List Int} (hB : Strict B) (hs : Small B) : B.length ≤ 256 := by
  have := rowS_row hB hs
  rw [← this]; exact rowUpto_le B 256
abbrev allA : Arr → Bool := fun _ => true
def ReachP (m : Mach) (x : Int) : Prop := Clos (eds allA false m.arrows) m.starts x
def LiveP (m : Mach) (x : Int) : Prop := Clos (eds allA true m.arrows) m.ends x
theorem ReachP.step {m : Mach} {a : Arr} (ha : a ∈ m.arrows) (h : ReachP m a.frm) : ReachP m a.to_ := Clos.step (a.frm, a.to_) (mem_eds.2 ⟨a, ha, rfl, rfl⟩) h
theorem LiveP.step {m : Mach} {a : Arr} (ha : a ∈ m.arrows) (h : LiveP m a.to_) : LiveP m a.frm := Clos.step (a.to_, a.frm) (mem_eds.2 ⟨a, ha, rfl, rfl⟩) h
theorem ReachP.lt {m : Mach} (hm : m.May) {x : Int} (h : ReachP m x) : 0 ≤ x ∧ x < m.states := by
  refine Clos.all (p := fun x => 0 ≤ x ∧ x < m.states) (fun x hx => by have := (may_starts hm).mem hx; exact ⟨this.1, this.2.1⟩) (fun e he _ => ?_) h
  obtain ⟨a, ha, _, rfl⟩ := mem_eds.1 he
  exact (May.arr hm ha).2.1
theorem LiveP.lt {m : Mach} (hm : m.May) {x : Int} (h : LiveP m x) : 0 ≤ x ∧ x < m.states := by
  refine Clos.all (p := fun x => 0 ≤ x ∧ x < m.states) (fun x hx => by have := (may_ends hm).mem hx; exact ⟨this.1, this.2.1⟩) (fun e he _ => ?_) h
  obtain ⟨a, ha, _, rfl⟩ := mem_eds.1 he
  exact (May.arr hm ha).1
noncomputable def reachL (m : Mach) : List Int := pick (ReachP m)
noncomputable def liveL (m : Mach) : List Int := pick (LiveP m)
noncomputable def bothL (m : Mach) : List Int := onlyL (reachL m) (liveL m) true
theorem mem_onlyT {l k : List Int} {x : Int} : x ∈ onlyL l k true ↔ x ∈ l ∧ x ∈ k := by unfold onlyL; simp [List.mem_filter]
theorem mem_both {m : Mach} (hm : m.May) {x : Int} : x ∈ bothL m ↔ ReachP m x ∧ LiveP m x := by
  have h256 : m.states ≤ 256 := hm.2.1
  unfold bothL
  rw [mem_onlyT, reachL, liveL, mem_pick, mem_pick]
  exact ⟨fun h => ⟨h.1.2, h.2.2⟩, fun h => by have := h.1.lt hm; exact ⟨⟨⟨by omega, by omega⟩, h.1⟩, ⟨⟨by omega, by omega⟩, h.2⟩⟩⟩
theorem mem_stepL {m : Mach} {l : List Int} {e x : Int} : x ∈ stepL m l e ↔ ∃ a ∈ m.arrows, a.evt = e ∧ a.frm ∈ l ∧ a.to_ = x := by
  unfold stepL stepT
  rw [(sortedL_spec _).2]
  simp only [List.mem_map, List.mem_filter, Bool.and_eq_true, decide_eq_true_eq]
  exact ⟨fun ⟨a, ⟨h1, h2, h3⟩, h4⟩ => ⟨a, h1, h2, h3, h4⟩, fun ⟨a, h1, h2, h3, h4⟩ => ⟨a, ⟨h1, h2, h3⟩, h4⟩⟩
/-- Two places of the two machines. -/
def TrimR (m : Mach) (l l' : List Int) : Prop := (∀ x ∈ l, ReachP m x) ∧ ∀ i, i ∈ l' ↔ ∃ x ∈ l, x ∈ bothL m ∧ (ix x (bothL m) : Int) = i
theorem TrimR.step {m : Mach} (hm : m.May) {l l' : List Int} (h : TrimR m l l') (e : Int) : TrimR m (stepL m l e) (stepL (trimM m (bothL m)) l' e) := by
  refine ⟨fun x hx => ?_, fun i => ?_⟩
  · obtain ⟨a, ha, _, hf, rfl⟩ := mem_stepL.1 hx
    exact (h.1 _ hf).step ha
  · rw [mem_stepL]
    constructor
    · rintro ⟨b, hb, he, hf, rfl⟩
      obtain ⟨a, ha, h1, h2, rfl⟩ := mem_trimA.1 hb
      obtain ⟨x, hx, hxb, hix⟩ := (h.2 _).1 hf
      obtain rfl := ix_inj hxb h1 (Int.ofNat.inj hix)
      exact ⟨a.to_, mem_stepL.2 ⟨a, ha, he, hx, rfl⟩, h2, rfl⟩
    · rintro ⟨x, hx, hxb, rfl⟩
      obtain ⟨a, ha, he, hf, rfl⟩ := mem_stepL.1 hx
      have hfb : a.frm ∈ bothL m := (mem_both hm).2 ⟨h.1 _ hf, ((mem_both hm).1 hxb).2.step ha⟩
      exact ⟨_, mem_trimA.2 ⟨a, ha, hfb, hxb, rfl⟩, he, (h.2 _).2 ⟨_, hf, hfb, rfl⟩, rfl⟩
theorem TrimR.after {m : Mach} (hm : m.May) : ∀ (word : List Int) {l l' : List Int}, TrimR m l l' → TrimR m (afterL m l word) (afterL (trimM m (bothL m)) l' word)
  | [], _, _, h => h
  | e :: word, _, _, h => TrimR.after hm word (h.step hm e)
end

section
open Go.RowKit

def unA (seen : List Int) : Arr → Bool := fun a => !decide (a.evt ∈ seen)
abbrev unE (m : Mach) (seen : List Int) : List (Int × Int) := eds (unA seen) false m.arrows
/-- States, and what unseen events lead to from them. -/
noncomputable def wideL (m : Mach) (seen l : List Int) : List Int := pick (Clos (unE m seen) l)
theorem unE_lt {m : Mach} (hm : m.May) {seen : List Int} : ∀ p ∈ unE m seen, 0 ≤ p.2 ∧ p.2 < m.states := fun p hp => by
  obtain ⟨a, ha, _, rfl⟩ := mem_eds.1 hp
  exact (May.arr hm ha).2.1
theorem mem_wideL {m : Mach} (hm : m.May) {seen l : List Int} (hl : ∀ x ∈ l, 0 ≤ x ∧ x < m.states) {x : Int} : x ∈ wideL m seen l ↔ Clos (unE m seen) l x := by
  unfold wideL
  rw [mem_pick]
  refine ⟨fun h => h.2, fun h => ⟨?_, h⟩⟩
  have := Clos.all (p := fun x => 0 ≤ x ∧ x < m.states) hl (fun e he _ => unE_lt hm e he) h
  have : m.states ≤ 256 := hm.2.1
  omega
theorem wideL_row {m : Mach} (hm : m.May) {seen l : List Int} (hl : ∀ x ∈ l, 0 ≤ x ∧ x < m.states) : IsRow (wideL m seen l) m.states :=
  pick_row fun x hx => (Clos.all (p := fun x => 0 ≤ x ∧ x < m.states) hl (fun e he _ => unE_lt hm e he) hx).2
theorem wideL_strict (m : Mach) (seen l : List Int) : Strict (wideL m seen l) := pick_strict _
theorem wideL_small (m : Mach) (seen l : List Int) : Small (wideL m seen l) := pick_small _
theorem row_range {l : List Int} {b : Int} (h : IsRow l b) : ∀ x ∈ l, 0 ≤ x ∧ x < b := fun x hx => by have := h.mem hx; exact ⟨this.1, this.2.1⟩
theorem stepL_range {m : Mach} (hm : m.May) (l : List Int) (e : Int) : ∀ x ∈ stepL m l e, 0 ≤ x ∧ x < m.states := row_range (stepL_row hm l e)
/-- Where a machine may be when one more event was seen. -/
noncomputable def seeL (m : Mach) (seen l : List Int) (e : Int) : List Int := wideL m seen (stepL m l e)
theorem seeL_row {m : Mach} (hm : m.May) (seen l : List Int) (e : Int) : IsRow (seeL m seen l e) m.states := wideL_row hm (stepL_range hm l e)

noncomputable def hideFK (m : Mach) (seen : List Int) (f : Int) (k : Nat) : List Arr := (seeL m seen (wideL m seen [f]) (seen.getD k 0)).map fun t => ⟨f, k, t⟩
noncomputable def hideF (m : Mach) (seen : List Int) (f : Int) (K : Nat) : List Arr := (List.range K).flatMap (hideFK m seen f)
/-- The arrows from the states below n. -/
noncomputable def hideA (m : Mach) (seen : List Int) (n : Nat) : List Arr := (List.range n).flatMap fun (f : Nat) => hideF m seen f seen.length
theorem hideA_succ (m : Mach) (seen : List Int) (n : Nat) : hideA m seen (n + 1) = hideA m seen n ++ hideF m seen n seen.length := by unfold hideA; rw [List.range_succ, List.flatMap_append]; simp
theorem hideF_succ (m : Mach) (seen : List Int) (f : Int) (k : Nat) : hideF m seen f (k + 1) = hideF m seen f k ++ hideFK m seen f k := by unfold hideF; rw [List.range_succ, List.flatMap_append]; simp
theorem hideFK_len {m : Mach} (seen : List Int) (f : Int) (k : Nat) : (hideFK m seen f k).length ≤ 256 := by
  unfold hideFK
  rw [List.length_map]
  exact small_len (wideL_strict _ _ _) (wideL_small _ _ _)
theorem hideF_len {m : Mach} (seen : List Int) (f : Int) : ∀ K : Nat, (hideF m seen f K).length ≤ 256 * K
  | 0 => by simp [hideF]
  | K + 1 => by rw [hideF_succ, List.length_append]; have := hideF_len seen f (m := m) K; have := hideFK_len (m := m) seen f K; omega
theorem hideA_le (m : Mach) (seen : List Int) {n k : Nat} (h : n ≤ k) : (hideA m seen n).length ≤ (hideA m seen k).length := by
  obtain ⟨d, rfl⟩ := Nat.le.dest h
  clear h
  induction d with
  | zero => exact Nat.le_refl _
  | succ d ih => rw [← Nat.add_assoc, hideA_succ, List.length_append]; omega
theorem mem_hideA {m : Mach} {seen : List Int} {n : Nat} {a : Arr} : a ∈ hideA m seen n ↔ ∃ f k : Nat, f < n ∧ k < seen.length ∧ ∃ t ∈ seeL m seen (wideL m seen [(f : Int)]) (seen.getD k 0), a = ⟨f, k, t⟩ := by
  unfold hideA hideF hideFK
  simp only [List.mem_flatMap, List.mem_range, List.mem_map]
  constructor
  · rintro ⟨f, hf, k, hk, t, ht, rfl⟩; exact ⟨f, k, hf, hk, t, ht, rfl⟩
  · rintro ⟨f, k, hf, hk, t, ht, rfl⟩; exact ⟨f, hf, k, hk, t, ht, rfl⟩
noncomputable def hideM (m : Mach) (seen : List Int) : Mach := ⟨m.states, seen.length, wideL m seen m.starts, hideA m seen m.states.toNat, m.ends⟩
theorem ord_flat {α : Type} (g : α → List Arr) (r : α → α → Prop) : ∀ {l : List α}, l.Pairwise r → (∀ x ∈ l, OrdA (g x)) → (∀ x ∈ l, ∀ y ∈ l, r x y → ∀ a ∈ g x, ∀ b ∈ g y, a.lt b) → OrdA (l.flatMap g)
  | [], _, _, _ => List.Pairwise.nil
  | x :: l, h, h1, h2 => by
    rw [List.flatMap_cons]
    have hp := List.pairwise_cons.1 h
    refine List.pairwise_append.2 ⟨h1 x (List.mem_cons_self ..), ord_flat g r hp.2 (fun y hy => h1 y (List.mem_cons_of_mem _ hy)) (fun y hy z hz => h2 y (List.mem_cons_of_mem _ hy) z (List.mem_cons_of_mem _ hz)), fun a ha b hb => ?_⟩
    obtain ⟨y, hy, hb⟩ := List.mem_flatMap.1 hb
    exact h2 x (List.mem_cons_self ..) y (List.mem_cons_of_mem _ hy) (hp.1 y hy) a ha b hb
theorem hideF_mem {m : Mach} {seen : List Int} {f : Int} {K : Nat} {a : Arr} (h : a ∈ hideF m seen f K) : a.frm = f ∧ ∃ k : Nat, k < K ∧ a.evt = k ∧ a.to_ ∈ seeL m seen (wideL m seen [f]) (seen.getD k 0) := by
  unfold hideF hideFK at h
  simp only [List.mem_flatMap, List.mem_range, List.mem_map] at h
  obtain ⟨k, hk, t, ht, rfl⟩ := h
  exact ⟨rfl, k, hk, rfl, ht⟩
theorem hideA_ord (m : Mach) (seen : List Int) (n : Nat) : OrdA (hideA m seen n) := by
  refine ord_flat _ (· < ·) List.pairwise_lt_range (fun f _ => ?_) fun f _ f' _ hlt a ha b hb => ?_
  · refine ord_flat _ (· < ·) List.pairwise_lt_range (fun k _ => ?_) fun k _ k' _ hlt a ha b hb => ?_
    · unfold hideFK OrdA
      rw [List.pairwise_map]
      exact List.Pairwise.imp (fun h => .inr ⟨rfl, .inr ⟨rfl, h⟩⟩) (wideL_strict _ _ _)
    · unfold hideFK at ha hb
      obtain ⟨t, _, rfl⟩ := List.mem_map.1 ha
      obtain ⟨t', _, rfl⟩ := List.mem_map.1 hb
      exact .inr ⟨rfl, .inl (Int.ofNat_lt.2 hlt)⟩
  · have h1 := (hideF_mem ha).1
    have h2 := (hideF_mem hb).1
    exact .inl (by rw [h1, h2]; exact Int.ofNat_lt.2 hlt)
theorem hideM_may {m : Mach} (hm : m.May) {seen : List Int} (hs : IsRow seen m.events) (hl : (hideA m seen m.states.toNat).length ≤ 4096) : (hideM m seen).May := by
  have mm : 1 ≤ m.states ∧ m.states ≤ 256 ∧ 0 ≤ m.events ∧ m.events ≤ 8 ∧ m.arrows.length ≤ 4096 ∧ IsRow m.starts m.states ∧ IsRow m.ends m.states ∧ ∀ i, i < m.arrows.length → m.At i := hm
  obtain ⟨h1, h2, h3, h4, h5, h6, h7, _⟩ := mm
  have hsl : seen.length ≤ 8 := by
    have := rowUpto_le seen m.events.toNat
    have e : rowUpto seen m.events.toNat = seen := by
      have hr := rowS_row hs.strict (hs.small (by omega))
      have hg := rowUpto_gap seen m.events.toNat 256 (by omega) fun j hj _ hin => by have := hs.mem hin; omega
      unfold rowS at hr
      rw [← hg, hr]
    rw [e] at this; omega
  refine ⟨h1, h2, by show (0 : Int) ≤ (seen.length : Int); omega, by show (seen.length : Int) ≤ 8; omega, hl, wideL_row hm (row_range h6), h7, fun i hi => ⟨?_, fun h0 => (hideA_ord ..).at_ (by omega) hi⟩⟩
  have hmem : (hideA m seen m.states.toNat).getD i default ∈ hideA m seen m.states.toNat := getD_mem _ _ _ hi
  obtain ⟨f, k, hf, hk, t, ht, he⟩ := mem_hideA.1 hmem
  have htr := row_range (seeL_row hm _ _ _) t ht
  show Mach.ArrOk (hideM m seen) ((hideA m seen m.states.toNat).getD i default)
  rw [he]
  exact ⟨⟨by show (0 : Int) ≤ (f : Int); omega, by show (f : Int) < m.states; omega⟩, htr, by show (0 : Int) ≤ (k : Int); omega, by show (k : Int) < (seen.length : Int); omega⟩
/-- What is seen of a word, by the events' places. -/
def seesL (seen word : List Int) : List Int := (word.filter fun e => decide (e ∈ seen)).map fun e => (ix e seen : Int)
/-- Closed under what is not seen. -/
def UnClosed (m : Mach) (seen l : List Int) : Prop := ∀ a ∈ m.arrows, a.evt ∉ seen → a.frm ∈ l → a.to_ ∈ l
theorem hide_step {m : Mach} (hm : m.May) {seen : List Int} {l S : List Int} (hl : ∀ x ∈ l, 0 ≤ x ∧ x < m.states) (hS : ∀ x ∈ l, x ∈ S) {e : Int} (he : e ∈ seen) :
    (∀ x ∈ stepL m l e, x ∈ stepL (hideM m seen) S (ix e seen : Int)) ∧ UnClosed m seen (stepL (hideM m seen) S (ix e seen : Int)) := by
  have hk := ix_lt he
  have hat := ix_at he
  constructor
  · intro y hy
    obtain ⟨a, ha, hae, haf, rfl⟩ := mem_stepL.1 hy
    have hf := hl _ haf
    have hin : a.to_ ∈ seeL m seen (wideL m seen [a.frm]) e := by
      have hsing : ∀ x ∈ [a.frm], 0 ≤ x ∧ x < m.states := fun x hx => by rw [List.mem_singleton.1 hx]; exact hf
      refine (mem_wideL hm (stepL_range hm _ _)).2 (.base _ (mem_stepL.2 ⟨a, ha, hae, (mem_wideL hm hsing).2 (.base _ (by simp)), rfl⟩))
    refine mem_stepL.2 ⟨⟨((a.frm.toNat : Nat) : Int), (ix e seen : Nat), a.to_⟩, mem_hideA.2 ⟨a.frm.toNat, ix e seen, by omega, hk, a.to_, ?_, rfl⟩, rfl, ?_, rfl⟩
    · rw [hat, show ((a.frm.toNat : Nat) : Int) = a.frm by omega]; exact hin
    · show ((a.frm.toNat : Nat) : Int) ∈ S
      rw [show ((a.frm.toNat : Nat) : Int) = a.frm by omega]; exact hS _ haf
  · intro a ha hne haf
    obtain ⟨b, hb, hbe, hbf, hbt⟩ := mem_stepL.1 haf
    obtain ⟨f, k, hf, hk', t, ht, rfl⟩ := mem_hideA.1 hb
    have ht' : t = a.frm := hbt
    subst ht'
    refine mem_stepL.2 ⟨⟨f, k, a.to_⟩, mem_hideA.2 ⟨f, k, hf, hk', a.to_, ?_, rfl⟩, hbe, hbf, rfl⟩
    refine (mem_wideL hm (stepL_range hm _ _)).2 (Clos.step (a.frm, a.to_) (mem_eds.2 ⟨a, ha, by simp [unA, hne], rfl⟩) ((mem_wideL hm (stepL_range hm _ _)).1 ht))
theorem hide_after {m : Mach} (hm : m.May) {seen : List Int} : ∀ (word : List Int) {l S : List Int}, (∀ x ∈ l, 0 ≤ x ∧ x < m.states) → (∀ x ∈ l, x ∈ S) → UnClosed m seen S →
    ∀ x ∈ afterL m l word, x ∈ afterL (hideM m seen) S (seesL seen word)
  | [], _, _, _, hS, _, x, hx => hS x hx
  | e :: word, l, S, hl, hS, hc, x, hx => by
    have hr := stepL_range hm l e
    by_cases he : e ∈ seen
    · have h := hide_step hm hl hS he
      have e1 : seesL seen (e :: word) = (ix e seen : Int) :: seesL seen word := by unfold seesL; simp [List.filter_cons, he]
      rw [e1]
      exact hide_after hm word hr h.1 h.2 x hx
    · have e1 : seesL seen (e :: word) = seesL seen word := by unfold seesL; simp [List.filter_cons, he]
      rw [e1]
      refine hide_after hm word hr (fun y hy => ?_) hc x hx
      obtain ⟨a, ha, hae, haf, rfl⟩ := mem_stepL.1 hy
      exact hc a ha (by rw [hae]; exact he) (hS _ haf)
theorem hide_accepts {m : Mach} (hm : m.May) (seen : List Int) {word : List Int} (h : AcceptsL m word) : AcceptsL (hideM m seen) (seesL seen word) := by
  obtain ⟨x, hx, hxe⟩ := h
  have hs := row_range (may_starts hm)
  refine ⟨x, hide_after hm word (S := wideL m seen m.starts) hs (fun x hx => (mem_wideL hm hs).2 (.base x hx)) (fun a ha hne haf => ?_) x hx, hxe⟩
  exact (mem_wideL hm hs).2 (Clos.step (a.frm, a.to_) (mem_eds.2 ⟨a, ha, by simp [unA, hne], rfl⟩) ((mem_wideL hm hs).1 haf))
theorem seesL_word (m : Mach) (seen word : List Int) : IsWord (hideM m seen) (seesL seen word) := fun i hi => by
  have := getD_mem (seesL seen word) 0 i hi
  unfold seesL at this
  obtain ⟨e, he, h2⟩ := List.mem_map.1 this
  have := ix_lt (of_decide_eq_true (List.mem_filter.1 he).2)
  show 0 ≤ (seesL seen word).getD i 0 ∧ (seesL seen word).getD i 0 < (seen.length : Int)
  have h3 : (seesL seen word).getD i 0 = (ix e seen : Int) := h2.symm
  omega
end
end Go.Proofs.YtcjedgiglimipaaDoor
