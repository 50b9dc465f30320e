/-
  What edges lead to: sets that are picked by a property, closures, passes over edges; equality of sets of states. Plain but for the last part.
  Chapter 3, in plain Lean: the machine of some states alone; it accepts what the machine accepts, if the states are those of use. No program in sight.
  Chapters 5 and 9, in plain Lean: what unseen events lead to; the machine of what is seen; what is seen of a word that is accepted is accepted by it. No program in sight.
-/
import Derived.Test.YtcjinmgieiebbaaDoorZSetAll
import Derived.Test.YtcjinmgieiebbaaDoorZOwn
import Derived.ChangeKeysEq
namespace Go.Proofs.YtcjinmgieiebbaaDoor
set_option linter.unusedSimpArgs false
set_option linter.unusedVariables false
set_option linter.unusedSectionVars false
section
open Go.RowKit

/-- The row of the numbers below 256 with a property. -/
noncomputable def pick (p : Int → Prop) : List Int := ((List.range 256).filter fun (n : Nat) => @decide (p (n : Int)) (Classical.propDecidable _)).map fun (n : Nat) => (n : Int)
theorem mem_pick {p : Int → Prop} {x : Int} : x ∈ pick p ↔ (0 ≤ x ∧ x < 256) ∧ p x := by
  unfold pick
  simp only [List.mem_map, List.mem_filter, List.mem_range, decide_eq_true_eq]
  constructor
  · rintro ⟨n, ⟨hn, h⟩, rfl⟩; exact ⟨⟨by omega, by omega⟩, h⟩
  · rintro ⟨⟨h0, h1⟩, h⟩
    exact ⟨x.toNat, ⟨by omega, by rw [show ((x.toNat : Nat) : Int) = x by omega]; exact h⟩, by omega⟩
theorem pick_strict (p : Int → Prop) : Strict (pick p) := by
  unfold pick Strict
  rw [List.pairwise_map]
  exact List.Pairwise.imp (fun h => Int.ofNat_lt.2 h) (List.Pairwise.filter _ List.pairwise_lt_range)
theorem pick_eq {p : Int → Prop} {l : List Int} (h : Strict l) (hs : Small l) (hp : ∀ x, x ∈ l ↔ p x) : l = pick p :=
  h.ext (pick_strict p) fun x => ⟨fun hx => mem_pick.2 ⟨hs x hx, (hp x).1 hx⟩, fun hx => (hp x).2 (mem_pick.1 hx).2⟩
theorem words_pick {p : Int → Prop} {l : List Int} (h : ∀ x, 0 ≤ x → x < 256 → (x ∈ l ↔ p x)) : wordsOf l = wordsOf (pick p) :=
  wordsOf_ext fun x h0 h1 => by rw [h x h0 h1, mem_pick]; exact ⟨fun hp => ⟨⟨h0, h1⟩, hp⟩, fun hp => hp.2⟩
theorem setV_pick {p : Int → Prop} {l : List Int} (h : ∀ x, 0 ≤ x → x < 256 → (x ∈ l ↔ p x)) : setV l = setV (pick p) := by unfold setV; rw [words_pick h]
theorem pick_row {p : Int → Prop} {b : Int} (h : ∀ x, p x → x < b) : IsRow (pick p) b :=
  IsRow.of_strict (pick_strict p) fun x hx => by have := mem_pick.1 hx; have := h x this.2; omega

/-- How many of the states are not in the list. -/
def miss (l : List Int) : Nat := (List.range 256).countP fun (n : Nat) => !decide ((n : Int) ∈ l)
theorem countP_lt {α : Type} {p q : α → Bool} : ∀ {l : List α}, (∀ x ∈ l, q x = true → p x = true) → (∃ x ∈ l, p x = true ∧ q x = false) → l.countP q < l.countP p
  | [], _, ⟨x, hx, _⟩ => absurd hx (by simp)
  | a :: l, h, ⟨x, hx, h1, h2⟩ => by
    have hle : l.countP q ≤ l.countP p := List.countP_mono_left fun y hy => h y (List.mem_cons_of_mem _ hy)
    rw [List.countP_cons, List.countP_cons]
    rcases List.mem_cons.1 hx with rfl | hx
    · rw [h1, h2]; simp; omega
    · have ih := countP_lt (l := l) (fun y hy => h y (List.mem_cons_of_mem _ hy)) ⟨x, hx, h1, h2⟩
      have ha := h a (List.mem_cons_self ..)
      cases hq : q a <;> cases hp : p a <;> simp_all <;> omega
theorem miss_lt {l l' : List Int} (hs : ∀ x ∈ l, x ∈ l') {x : Int} (h0 : 0 ≤ x) (h1 : x < 256) (hx : x ∈ l') (hn : x ∉ l) : miss l' < miss l := by
  unfold miss
  refine countP_lt (fun n _ hn => ?_) ⟨x.toNat, List.mem_range.2 (by omega), ?_, ?_⟩
  · simp only [Bool.not_eq_true', decide_eq_false_iff_not] at hn ⊢
    exact fun h => hn (hs _ h)
  · rw [show ((x.toNat : Nat) : Int) = x by omega]; simpa using hn
  · rw [show ((x.toNat : Nat) : Int) = x by omega]; simpa using hx

/-- What edges lead to. -/
inductive Clos (es : List (Int × Int)) (l : List Int) : Int → Prop
  | base (x : Int) (h : x ∈ l) : Clos es l x
  | step (p : Int × Int) (hp : p ∈ es) (h : Clos es l p.1) : Clos es l p.2
theorem Clos.trans {es : List (Int × Int)} {l m : List Int} (h : ∀ x ∈ m, Clos es l x) {x : Int} (hx : Clos es m x) : Clos es l x := by
  induction hx with
  | base x hm => exact h x hm
  | step p hp _ ih => exact .step p hp ih
theorem Clos.mono {es : List (Int × Int)} {l m : List Int} (h : ∀ x ∈ l, x ∈ m) {x : Int} (hx : Clos es l x) : Clos es m x := Clos.trans (fun x hx => .base x (h x hx)) hx
theorem Clos.within {es : List (Int × Int)} {l m : List Int} (h0 : ∀ x ∈ l, x ∈ m) (h : ∀ p ∈ es, p.1 ∈ m → p.2 ∈ m) {x : Int} (hx : Clos es l x) : x ∈ m := by
  induction hx with
  | base x hl => exact h0 x hl
  | step p hp _ ih => exact h p hp ih
theorem Clos.all {es : List (Int × Int)} {l : List Int} {p : Int → Prop} (h0 : ∀ x ∈ l, p x) (h : ∀ e ∈ es, p e.1 → p e.2) {x : Int} (hx : Clos es l x) : p x := by
  induction hx with
  | base x hl => exact h0 x hl
  | step e he _ ih => exact h e he ih
/-- One pass over the edges. -/
def passL (es : List (Int × Int)) (l : List Int) : List Int := es.foldl (fun l p => if p.1 ∈ l then l ++ [p.2] else l) l
theorem passL_append (es fs : List (Int × Int)) (l : List Int) : passL (es ++ fs) l = passL fs (passL es l) := by unfold passL; rw [List.foldl_append]
theorem passL_sub : ∀ (es : List (Int × Int)) (l : List Int), ∀ x ∈ l, x ∈ passL es l
  | [], _, _, h => h
  | p :: es, l, x, h => by
    show x ∈ passL es (if p.1 ∈ l then l ++ [p.2] else l)
    refine passL_sub es _ x ?_
    split
    · exact List.mem_append_left _ h
    · exact h
theorem passL_clos : ∀ (es : List (Int × Int)) (l : List Int), ∀ x ∈ passL es l, Clos es l x
  | [], _, x, h => .base x h
  | p :: es, l, x, h => by
    have ih := passL_clos es _ x h
    have hm : ∀ {l : List Int} {y : Int}, Clos es l y → Clos (p :: es) l y := fun {l y} hy => by
      induction hy with
      | base x h => exact .base x h
      | step q hq _ ih => exact .step q (List.mem_cons_of_mem _ hq) ih
    refine Clos.trans (fun y hy => ?_) (hm ih)
    replace hy : y ∈ (if p.1 ∈ l then l ++ [p.2] else l) := hy
    split at hy
    · rename_i h1
      rcases List.mem_append.1 hy with hy | hy
      · exact .base y hy
      · rw [List.mem_singleton.1 hy]; exact .step p (List.mem_cons_self ..) (.base _ h1)
    · exact .base y hy
theorem passL_closed {es : List (Int × Int)} {l : List Int} (h : ∀ x ∈ passL es l, x ∈ l) : ∀ p ∈ es, p.1 ∈ l → p.2 ∈ l := by
  intro p hp h1
  obtain ⟨a, b, rfl⟩ := List.append_of_mem hp
  refine h _ ?_
  rw [passL_append]
  show p.2 ∈ passL b (if p.1 ∈ passL a l then passL a l ++ [p.2] else passL a l)
  rw [if_pos (passL_sub a l _ h1)]
  exact passL_sub b _ _ (by simp)
theorem passL_small {es : List (Int × Int)} (he : ∀ p ∈ es, 0 ≤ p.2 ∧ p.2 < 256) : ∀ {l : List Int}, Small l → Small (passL es l) := by
  intro l hl x hx
  exact (passL_clos es l x hx).all hl fun e h _ => he e h
/-- The edges of some arrows, forward or backward. -/
def eds (p : Arr → Bool) (rev : Bool) (ar : List Arr) : List (Int × Int) := (ar.filter p).map fun a => if rev then (a.to_, a.frm) else (a.frm, a.to_)
theorem eds_snoc (p : Arr → Bool) (rev : Bool) (ar : List Arr) (k : Nat) (h : k < ar.length) :
    eds p rev (ar.take (k + 1)) = eds p rev (ar.take k) ++ (if p (ar.getD k default) = true then [if rev then ((ar.getD k default).to_, (ar.getD k default).frm) else ((ar.getD k default).frm, (ar.getD k default).to_)] else []) := by
  unfold eds
  rw [take_snoc _ default k h, List.filter_append, List.map_append]
  congr 1
  generalize ar.getD k default = y
  by_cases h1 : p y = true <;> simp [h1]
theorem mem_eds {p : Arr → Bool} {rev : Bool} {ar : List Arr} {e : Int × Int} : e ∈ eds p rev ar ↔ ∃ a ∈ ar, p a = true ∧ e = (if rev then (a.to_, a.frm) else (a.frm, a.to_)) := by
  unfold eds
  simp only [List.mem_map, List.mem_filter]
  exact ⟨fun ⟨a, ⟨h1, h2⟩, h3⟩ => ⟨a, h1, h2, h3.symm⟩, fun ⟨a, h1, h2, h3⟩ => ⟨a, ⟨h1, h2⟩, h3.symm⟩⟩
/-- One pass, as far as the k-th arrow. -/
def passK (p : Arr → Bool) (rev : Bool) (ar : List Arr) (l : List Int) (k : Nat) : List Int := passL (eds p rev (ar.take k)) l
theorem passK_all (p : Arr → Bool) (rev : Bool) (ar : List Arr) (l : List Int) : passK p rev ar l ar.length = passL (eds p rev ar) l := by unfold passK; rw [List.take_length]
theorem passK_succ (p : Arr → Bool) (rev : Bool) (ar : List Arr) (l : List Int) (k : Nat) (h : k < ar.length) :
    passK p rev ar l (k + 1) = if p (ar.getD k default) = true ∧ (if rev then (ar.getD k default).to_ else (ar.getD k default).frm) ∈ passK p rev ar l k then passK p rev ar l k ++ [if rev then (ar.getD k default).frm else (ar.getD k default).to_] else passK p rev ar l k := by
  unfold passK
  rw [eds_snoc p rev ar k h, passL_append]
  generalize passL (eds p rev (ar.take k)) l = m
  generalize ar.getD k default = y
  by_cases h1 : p y = true
  · rw [if_pos h1]
    cases rev
    · show (if y.frm ∈ m then m ++ [y.to_] else m) = _
      simp [h1]
    · show (if y.to_ ∈ m then m ++ [y.frm] else m) = _
      simp [h1]
  · rw [if_neg h1, if_neg fun hh => h1 hh.1]; rfl
/-- What passes come to: the state of the loops 'until nothing new comes'. -/
structure Spread (es : List (Int × Int)) (l0 was l : List Int) : Prop where
  small : Small l
  sub : ∀ x ∈ l0, x ∈ l
  clos : ∀ x ∈ l, Clos es l0 x
  closed : wordsOf was = wordsOf l → ∀ p ∈ es, p.1 ∈ l → p.2 ∈ l
theorem small_sub {was l : List Int} (h : wordsOf was = wordsOf l) (hl : Small l) : ∀ x ∈ l, x ∈ was := fun x hx => (wordsOf_mem h (hl x hx).1 (hl x hx).2).2 hx
theorem Spread.start (es : List (Int × Int)) {l : List Int} (hl : Small l) : Spread es l [] l :=
  ⟨hl, fun _ h => h, fun x h => .base x h, fun h p _ hp => absurd (small_sub h hl _ hp) (by simp)⟩
theorem Spread.next {es : List (Int × Int)} {l0 was l : List Int} (h : Spread es l0 was l) (he : ∀ p ∈ es, 0 ≤ p.2 ∧ p.2 < 256) : Spread es l0 l (passL es l) := by
  have hs := passL_small he h.small
  refine ⟨hs, fun x hx => passL_sub es l x (h.sub x hx), fun x hx => Clos.trans h.clos (passL_clos es l x hx), fun hw p hp h1 => ?_⟩
  have hsub := small_sub hw hs
  exact passL_sub es l _ (passL_closed hsub p hp (hsub _ h1))
theorem Spread.done {es : List (Int × Int)} {l0 was l : List Int} (h : Spread es l0 was l) (hw : wordsOf was = wordsOf l) : setV l = setV (pick (Clos es l0)) :=
  setV_pick fun x _ _ => ⟨h.clos x, fun hc => Clos.within h.sub (h.closed hw) hc⟩
/-- How many rounds are left, at most. -/
def left (was l : List Int) : Nat := 2 * miss l + if wordsOf was = wordsOf l then 0 else 1
theorem left_lt {es : List (Int × Int)} {was l : List Int} (hl : Small l) (he : ∀ p ∈ es, 0 ≤ p.2 ∧ p.2 < 256) (hw : wordsOf was ≠ wordsOf l) : left l (passL es l) < left was l := by
  unfold left
  rw [if_neg hw]
  by_cases h : wordsOf l = wordsOf (passL es l)
  · rw [if_pos h]
    have : miss (passL es l) ≤ miss l := by
      unfold miss
      refine List.countP_mono_left fun n _ hn => ?_
      simp only [Bool.not_eq_true', decide_eq_false_iff_not] at hn ⊢
      exact fun hh => hn (passL_sub es l _ hh)
    omega
  · rw [if_neg h]
    have hs := passL_small he hl
    have hx : ∃ x ∈ passL es l, x ∉ l := by
      refine Classical.byContradiction fun hno => h (wordsOf_ext fun x _ _ => ⟨passL_sub es l x, fun hx => Classical.byContradiction fun hn => hno ⟨x, hx, hn⟩⟩)
    obtain ⟨x, hx, hn⟩ := hx
    have := miss_lt (passL_sub es l) (hs x hx).1 (hs x hx).2 hx hn
    omega

theorem wordsOf_iff (a b : List Int) : wordsOf a = wordsOf b ↔ ∀ i, i < 4 → (wordsOf a).getD i 0 = (wordsOf b).getD i 0 := by
  refine ⟨fun h i _ => by rw [h], fun h => ext_getD 0 ((wordsOf_words a).1.trans (wordsOf_words b).1.symm) fun k hk => h k (by rw [(wordsOf_words a).1] at hk; exact hk)⟩
theorem run_part_word (w : World) (l : List Int) (i : Nat) (hi : i < 4) : (part 62 (setCells (wordsOf l)).toArray (i * 1)).run Tryd.prog w = .ok (.int .u64 (((wordsOf l).getD i 0 : Nat) : Int)) w :=
  run_part_plain w (by kernel_rfl) (by
    have hl : i < (wordsOf l).length := by rw [(wordsOf_words l).1]; exact hi
    simp [setCells, List.getD_eq_getElem?_getD, hl])
theorem equal_set (w : World) (a b : List Int) : (Op.equalIn 10000 64 (setV a) (setV b)).run Tryd.prog w = .ok (decide (wordsOf a = wordsOf b)) w := by
  have hu : Tryd.prog.underlying 64 = some (.array 4 62) := Tryd.underlying64
  have hc1 : Tryd.prog.cellsOf 62 = 1 := by kernel_rfl
  have hi : ∃ i, Tryd.prog.info? 62 = some i := by
    have := ty_sz_u64
    unfold tySize at this
    cases h : Tryd.prog.info? 62 with
    | none => simp [h] at this
    | some i => exact ⟨i, rfl⟩
  obtain ⟨i, hi⟩ := hi
  have key : ∀ is : List Nat, (∀ i ∈ is, i < 4) → (Op.eqItems 9999 62 1 (setCells (wordsOf a)).toArray (setCells (wordsOf b)).toArray is).run Tryd.prog w = .ok (decide (∀ i ∈ is, (wordsOf a).getD i 0 = (wordsOf b).getD i 0)) w := by
    intro is
    induction is with
    | nil => intro _; simp [Op.eqItems]
    | cons j is ih =>
      intro hj
      have ih := ih fun i hi => hj i (List.mem_cons_of_mem _ hi)
      have hj4 := hj j (List.mem_cons_self ..)
      unfold Op.eqItems
      simp only [Sem.run_bind, run_part_word w a j hj4, run_part_word w b j hj4, Result.andThen_ok, run_equalIn_int w 9998 62 .u64 .u64 _ _ Tryd.underlying62]
      by_cases e : (wordsOf a).getD j 0 = (wordsOf b).getD j 0
      · rw [e]
        simp only [beq_self_eq_true, Bool.not_true, Bool.false_eq_true, if_false, ih]
        rw [show decide (∀ i ∈ j :: is, (wordsOf a).getD i 0 = (wordsOf b).getD i 0) = decide (∀ i ∈ is, (wordsOf a).getD i 0 = (wordsOf b).getD i 0) from decide_eq_decide.2 ⟨fun h i hi => h i (List.mem_cons_of_mem _ hi), fun h i hi => (List.mem_cons.1 hi).elim (fun q => by rw [q]; exact e) (h i)⟩]
      · have e' : ((((wordsOf a).getD j 0 : Nat) : Int) == (((wordsOf b).getD j 0 : Nat) : Int)) = false := by simpa using (by omega : ¬ (((wordsOf a).getD j 0 : Nat) : Int) = (((wordsOf b).getD j 0 : Nat) : Int))
        rw [e']
        simp only [Bool.not_false, if_true, Sem.run_pure]
        rw [decide_eq_false fun h => e (h j (List.mem_cons_self ..))]
  rw [run_equalIn_array (P := Tryd.prog) w 9999 _ _ hu hi, hc1, key _ fun i hi => List.mem_range.1 hi]
  rw [show decide (wordsOf a = wordsOf b) = decide (∀ i ∈ List.range 4, (wordsOf a).getD i 0 = (wordsOf b).getD i 0) from decide_eq_decide.2 ((wordsOf_iff a b).trans ⟨fun h i hi => h i (List.mem_range.1 hi), fun h i hi => h i (List.mem_range.2 hi)⟩)]
theorem eqg_set (w : World) (op : BinOp) (xo yo : Operand) (xs ys : Array Value) : (eqGuard op 64 xo yo (.agg xs) (.agg ys)).run Tryd.prog w = .ok () w := run_eqGuard_agg w op 64 xo yo _ _ (by kernel_rfl)
theorem neq_run (w : World) (xo yo : Operand) (xs ys : Array Value) (b : Bool) (h : (Op.equalIn 10000 64 (.agg xs) (.agg ys)).run Tryd.prog w = .ok b w) : (binS .neq 64 xo yo (.agg xs) (.agg ys)).run Tryd.prog w = .ok (.bool (!b)) w := by
  unfold binS
  rw [Sem.run_bind, eqg_set, Result.andThen_ok, run_neq_struct w, h]; rfl
section
variable {K : Fr → World → Prop} {u w : World} {f : Fr} {d : Option Nat} {xo yo : Operand}
theorem neq_set (a b : List Int) : Val1 Tryd.prog K (binS .neq 64 xo yo (setV a) (setV b)) u f d w = K (updO f d (.bool (!decide (wordsOf a = wordsOf b)))) w :=
  val1_of u f d w fun w' _ => neq_run w' xo yo _ _ _ (equal_set w' a b)
end
end

section
open Go.RowKit

/-- A number's place in a list. -/
def ix (x : Int) : List Int → Nat
  | [] => 0
  | y :: l => if y = x then 0 else ix x l + 1
theorem ix_at {x : Int} : ∀ {l : List Int}, x ∈ l → l.getD (ix x l) 0 = x
  | [], h => absurd h (by simp)
  | y :: l, h => by
    unfold ix
    by_cases e : y = x
    · rw [if_pos e]; exact e
    · rw [if_neg e, List.getD_cons_succ]
      exact ix_at (l := l) ((List.mem_cons.1 h).resolve_left fun h => e h.symm)
theorem ix_inj {l : List Int} {x y : Int} (hx : x ∈ l) (hy : y ∈ l) (h : ix x l = ix y l) : x = y := by rw [← ix_at hx, ← ix_at hy, h]
/-- Those of a list's numbers that stand in a row, by their places. -/
def numL (B l : List Int) : List Int := (l.filter fun x => decide (x ∈ B)).map fun x => (ix x B : Int)
/-- The arrows between some states, by their places. -/
def trimA (B : List Int) (ar : List Arr) : List Arr := (ar.filter fun a => decide (a.frm ∈ B) && decide (a.to_ ∈ B)).map fun a => ⟨ix a.frm B, a.evt, ix a.to_ B⟩
theorem mem_trimA {B : List Int} {ar : List Arr} {b : Arr} : b ∈ trimA B ar ↔ ∃ a ∈ ar, a.frm ∈ B ∧ a.to_ ∈ B ∧ b = ⟨ix a.frm B, a.evt, ix a.to_ B⟩ := by
  unfold trimA
  simp only [List.mem_map, List.mem_filter, Bool.and_eq_true, decide_eq_true_eq]
  exact ⟨fun ⟨a, ⟨h1, h2, h3⟩, h4⟩ => ⟨a, h1, h2, h3, h4.symm⟩, fun ⟨a, h1, h2, h3, h4⟩ => ⟨a, ⟨h1, h2, h3⟩, h4.symm⟩⟩
/-- Arrows in order. -/
def OrdA (l : List Arr) : Prop := l.Pairwise Arr.lt
theorem Arr.lt_trans {a b c : Arr} (h : a.lt b) (k : b.lt c) : a.lt c := by unfold Arr.lt at *; omega
theorem OrdA.at_ {l : List Arr} (h : OrdA l) {i j : Nat} (hij : i < j) (hj : j < l.length) : (l.getD i default).lt (l.getD j default) := by
  have := List.pairwise_iff_getElem.1 h i j (by omega) hj hij
  simpa [List.getD_eq_getElem?_getD, hj, show i < l.length by omega] using this
/-- The machine of some states alone. -/
def trimM (m : Mach) (B : List Int) : Mach := ⟨max (B.length : Int) 1, m.events, numL B m.starts, trimA B m.arrows, numL B m.ends⟩
theorem small_len {B : List Int} (hB : Strict B) (hs : Small B) : B.length ≤ 256 := by
  have := rowS_row hB hs
  rw [← this]; exact rowUpto_le B 256
abbrev allA : Arr → Bool := fun _ => true
def ReachP (m : Mach) (x : Int) : Prop := Clos (eds allA false m.arrows) m.starts x
def LiveP (m : Mach) (x : Int) : Prop := Clos (eds allA true m.arrows) m.ends x
theorem ReachP.step {m : Mach} {a : Arr} (ha : a ∈ m.arrows) (h : ReachP m a.frm) : ReachP m a.to_ := Clos.step (a.frm, a.to_) (mem_eds.2 ⟨a, ha, rfl, rfl⟩) h
theorem LiveP.step {m : Mach} {a : Arr} (ha : a ∈ m.arrows) (h : LiveP m a.to_) : LiveP m a.frm := Clos.step (a.to_, a.frm) (mem_eds.2 ⟨a, ha, rfl, rfl⟩) h
theorem ReachP.lt {m : Mach} (hm : m.May) {x : Int} (h : ReachP m x) : 0 ≤ x ∧ x < m.states := by
  refine Clos.all (p := fun x => 0 ≤ x ∧ x < m.states) (fun x hx => by have := (may_starts hm).mem hx; exact ⟨this.1, this.2.1⟩) (fun e he _ => ?_) h
  obtain ⟨a, ha, _, rfl⟩ := mem_eds.1 he
  exact (May.arr hm ha).2.1
theorem LiveP.lt {m : Mach} (hm : m.May) {x : Int} (h : LiveP m x) : 0 ≤ x ∧ x < m.states := by
  refine Clos.all (p := fun x => 0 ≤ x ∧ x < m.states) (fun x hx => by have := (may_ends hm).mem hx; exact ⟨this.1, this.2.1⟩) (fun e he _ => ?_) h
  obtain ⟨a, ha, _, rfl⟩ := mem_eds.1 he
  exact (May.arr hm ha).1
noncomputable def reachL (m : Mach) : List Int := pick (ReachP m)
noncomputable def liveL (m : Mach) : List Int := pick (LiveP m)
noncomputable def bothL (m : Mach) : List Int := onlyL (reachL m) (liveL m) true
theorem mem_onlyT {l k : List Int} {x : Int} : x ∈ onlyL l k true ↔ x ∈ l ∧ x ∈ k := by unfold onlyL; simp [List.mem_filter]
theorem mem_both {m : Mach} (hm : m.May) {x : Int} : x ∈ bothL m ↔ ReachP m x ∧ LiveP m x := by
  have h256 : m.states ≤ 256 := hm.2.1
  unfold bothL
  rw [mem_onlyT, reachL, liveL, mem_pick, mem_pick]
  exact ⟨fun h => ⟨h.1.2, h.2.2⟩, fun h => by have := h.1.lt hm; exact ⟨⟨⟨by omega, by omega⟩, h.1⟩, ⟨⟨by omega, by omega⟩, h.2⟩⟩⟩
theorem mem_stepL {m : Mach} {l : List Int} {e x : Int} : x ∈ stepL m l e ↔ ∃ a ∈ m.arrows, a.evt = e ∧ a.frm ∈ l ∧ a.to_ = x := by
  unfold stepL stepT
  rw [(sortedL_spec _).2]
  simp only [List.mem_map, List.mem_filter, Bool.and_eq_true, decide_eq_true_eq]
  exact ⟨fun ⟨a, ⟨h1, h2, h3⟩, h4⟩ => ⟨a, h1, h2, h3, h4⟩, fun ⟨a, h1, h2, h3, h4⟩ => ⟨a, ⟨h1, h2, h3⟩, h4⟩⟩
/-- Two places of the two machines. -/
def TrimR (m : Mach) (l l' : List Int) : Prop := (∀ x ∈ l, ReachP m x) ∧ ∀ i, i ∈ l' ↔ ∃ x ∈ l, x ∈ bothL m ∧ (ix x (bothL m) : Int) = i
theorem TrimR.step {m : Mach} (hm : m.May) {l l' : List Int} (h : TrimR m l l') (e : Int) : TrimR m (stepL m l e) (stepL (trimM m (bothL m)) l' e) := by
  refine ⟨fun x hx => ?_, fun i => ?_⟩
  · obtain ⟨a, ha, _, hf, rfl⟩ := mem_stepL.1 hx
    exact (h.1 _ hf).step ha
  · rw [mem_stepL]
    constructor
    · rintro ⟨b, hb, he, hf, rfl⟩
      obtain ⟨a, ha, h1, h2, rfl⟩ := mem_trimA.1 hb
      obtain ⟨x, hx, hxb, hix⟩ := (h.2 _).1 hf
      obtain rfl := ix_inj hxb h1 (Int.ofNat.inj hix)
      exact ⟨a.to_, mem_stepL.2 ⟨a, ha, he, hx, rfl⟩, h2, rfl⟩
    · rintro ⟨x, hx, hxb, rfl⟩
      obtain ⟨a, ha, he, hf, rfl⟩ := mem_stepL.1 hx
      have hfb : a.frm ∈ bothL m := (mem_both hm).2 ⟨h.1 _ hf, ((mem_both hm).1 hxb).2.step ha⟩
      exact ⟨_, mem_trimA.2 ⟨a, ha, hfb, hxb, rfl⟩, he, (h.2 _).2 ⟨_, hf, hfb, rfl⟩, rfl⟩
theorem TrimR.after {m : Mach} (hm : m.May) : ∀ (word : List Int) {l l' : List Int}, TrimR m l l' → TrimR m (afterL m l word) (afterL (trimM m (bothL m)) l' word)
  | [], _, _, h => h
  | e :: word, _, _, h => TrimR.after hm word (h.step hm e)
end

section
open Go.RowKit

def unA (seen : List Int) : Arr → Bool := fun a => !decide (a.evt ∈ seen)
abbrev unE (m : Mach) (seen : List Int) : List (Int × Int) := eds (unA seen) false m.arrows
/-- States, and what unseen events lead to from them. -/
noncomputable def wideL (m : Mach) (seen l : List Int) : List Int := pick (Clos (unE m seen) l)
theorem unE_lt {m : Mach} (hm : m.May) {seen : List Int} : ∀ p ∈ unE m seen, 0 ≤ p.2 ∧ p.2 < m.states := fun p hp => by
  obtain ⟨a, ha, _, rfl⟩ := mem_eds.1 hp
  exact (May.arr hm ha).2.1
theorem mem_wideL {m : Mach} (hm : m.May) {seen l : List Int} (hl : ∀ x ∈ l, 0 ≤ x ∧ x < m.states) {x : Int} : x ∈ wideL m seen l ↔ Clos (unE m seen) l x := by
  unfold wideL
  rw [mem_pick]
  refine ⟨fun h => h.2, fun h => ⟨?_, h⟩⟩
  have := Clos.all (p := fun x => 0 ≤ x ∧ x < m.states) hl (fun e he _ => unE_lt hm e he) h
  have : m.states ≤ 256 := hm.2.1
  omega
theorem wideL_row {m : Mach} (hm : m.May) {seen l : List Int} (hl : ∀ x ∈ l, 0 ≤ x ∧ x < m.states) : IsRow (wideL m seen l) m.states :=
  pick_row fun x hx => (Clos.all (p := fun x => 0 ≤ x ∧ x < m.states) hl (fun e he _ => unE_lt hm e he) hx).2
theorem row_range {l : List Int} {b : Int} (h : IsRow l b) : ∀ x ∈ l, 0 ≤ x ∧ x < b := fun x hx => by have := h.mem hx; exact ⟨this.1, this.2.1⟩
theorem stepL_range {m : Mach} (hm : m.May) (l : List Int) (e : Int) : ∀ x ∈ stepL m l e, 0 ≤ x ∧ x < m.states := row_range (stepL_row hm l e)
/-- Where a machine may be when one more event was seen. -/
noncomputable def seeL (m : Mach) (seen l : List Int) (e : Int) : List Int := wideL m seen (stepL m l e)
theorem seeL_row {m : Mach} (hm : m.May) (seen l : List Int) (e : Int) : IsRow (seeL m seen l e) m.states := wideL_row hm (stepL_range hm l e)

end
end Go.Proofs.YtcjinmgieiebbaaDoor
