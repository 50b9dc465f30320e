/-
  Chapter 9: the program's Leak; the laws CurrentTells, CurrentKeeps: by their contracts.
-/
import Derived.Test.YtcjinmgieiebbaaDoorZRef9
namespace Go.Proofs.YtcjinmgieiebbaaDoor
set_option linter.unusedSimpArgs false
set_option linter.unusedVariables false
set_option linter.unusedSectionVars false
open Go.RowKit

theorem row_len {l : List Int} {b : Int} (h : IsRow l b) : l.length ≤ b.toNat := by
  have := nodup_nat_len b.toNat (l.map Int.toNat) (by
    rw [List.nodup_iff_pairwise_ne, List.pairwise_map]
    exact (List.nodup_iff_pairwise_ne.1 (Strict.nodup h.strict)).imp_of_mem fun {x y} hx hy hxy e => hxy (by have := h.mem hx; have := h.mem hy; omega)) fun x hx => by
    obtain ⟨y, hy, rfl⟩ := List.mem_map.1 hx
    have := h.mem hy; omega
  simpa using this
theorem Plt.May.seen8 {p : Plt} (h : p.May) : p.seen.length ≤ 8 := by
  have := row_len h.2.2.1
  have := h.1.2.2.2.1
  omega
theorem bestF_none {S : Type} [DecidableEq S] {t : S → Bool} {l : List (S × List Int)} (h : ∀ x ∈ l, t x.1 = false) : bestF t l = none := by
  rcases bestF_spec t l with ⟨h', _⟩ | ⟨x, hx, ht, _⟩
  · exact h'
  · rw [h x hx] at ht; cases ht
noncomputable def tellB (secret s : List Int) : Bool := decide (TellsL s secret)
/-- What the program's Leak tells. -/
def LkIs (p : Plt) (b : Bool) (o : List Int) (e : Int) : Prop :=
  (¬ p.May ∧ b = false ∧ o = [] ∧ e = 2) ∨ (p.May ∧ e = 0 ∧ ∃ k, (bIter (nextP p) p.seen (firstP p) k).length = k ∧ OptIs (bestF (tellB p.secret) (bIter (nextP p) p.seen (firstP p) k)) b o)
def LkRes (p : Plt) (w : World) (v : Value) (w' : World) : Prop :=
  ∃ (b : Bool) (O : Option Addr) (co : Nat) (o : List Int) (e : Int), v = .tuple #[.bool b, .slice O o.length co, .int .i64 e] ∧ Ints (fun x => w.heap.size ≤ x ∧ x < w'.heap.size) w' O o ∧ o.length ≤ 100000 ∧ Below w.heap.size w w' ∧ LkIs p b o e
theorem current_Leak {w : World} {a : PV} {p : Plt} (ha : IsP (· < w.heap.size) w a p) (hf : p.Fits) : Cal Tryd.prog 14 [a.val p] w (LkRes p w) := by
  refine cal_current_Leak (by simp) 100000 fun Q hQ => ?_
  simp (disch := first | with_reducible assumption | omega) only [push_cast, x_blk, x_cd, ↓reduceIte, Nat.reduceEqDiff, List.map_cons, List.map_nil, Int.reduceEq, Int.lt_irrefl, F_current_Leak]
  refine blk_of (box_agg _ (a.cells p)) ?_
  intro w1 k1 b1 z1
  simp (disch := first | with_reducible assumption | omega) only [push_cast, x_blk, x_cd, ↓reduceIte, Nat.reduceEqDiff, List.map_cons, List.map_nil, Int.reduceEq, Int.lt_irrefl, k1.pA']
  refine call_of (current_May (ha.up b1) hf) ?_
  rintro v w2 ⟨rfl, b2⟩
  replace k1 := k1.below b2 k1.lt
  have bb := b1.trans (b2.mono b1.size)
  by_cases p1 : p.May
  case neg =>
    simp (disch := first | with_reducible assumption | omega) only [push_cast, x_blk, x_cd, ↓reduceIte, Nat.reduceEqDiff, List.map_cons, List.map_nil, Int.reduceEq, Int.lt_irrefl, decide_eq_false p1]
    exact fin_3 (hQ _ _ ⟨false, none, 0, [], 2, (by simp only [push_cast, ↓reduceIte, Nat.reduceEqDiff, Int.reduceEq, List.length_nil]), Ints.nil _ _ _, by simp, bb, .inl ⟨p1, rfl, rfl, rfl⟩⟩)
  have hm := p1.1
  have hst : p.m.states ≤ 256 := hm.2.1
  have nP := p1.seen8
  have nQ := hf.lenQ
  have sd : Same w2 w2.drew := (Same.refl w2).drew
  replace k1 := k1.same sd
  replace bb := bb.trans (sd.below _)
  generalize hu : w2.drew = u at *
  simp (disch := first | with_reducible assumption | omega) only [push_cast, x_blk, x_cd, ↓reduceIte, Nat.reduceEqDiff, List.map_cons, List.map_nil, Int.reduceEq, Int.lt_irrefl, decide_eq_true p1, hu, k1.pA', k1.p5]
  refine call_of (current_First (ha.up bb) hf hm) ?_
  rintro v w3 ⟨rfl, b3⟩
  have bb3 := bb.trans (b3.mono bb.size)
  have k3 := k1.below b3 k1.lt
  simp (disch := first | with_reducible assumption | omega) only [push_cast, x_blk, x_cd, ↓reduceIte, Nat.reduceEqDiff, List.map_cons, List.map_nil, Int.reduceEq, Int.lt_irrefl]
  refine ⟨b3, ?_⟩
  refine call_of (current_Places (step := nextP p) (U := fun s => IsRow s 6) (fun s hs => ⟨hs.strict, hs.small (by decide)⟩) (firstP_row6 p1) (ha.up bb3).seen nP (fun s _ e _ => nextP_row6 p1 s e)
    (fun w' hw s hs e he => current_Leak_1 (k3.below hw k3.lt) (ha.up (bb3.trans (hw.mono bb3.size))) hf hm s e)) ?_
  rintro v w4 ⟨A, c, ps, k, rfl, hR, hro, b4, habs, hkl, h264, hend⟩
  have bb4 := bb3.trans (b4.mono bb3.size)
  have b34 := b3.trans (b4.mono b3.size)
  have k4 := k3.below b4 k3.lt
  have few := row6_few (step := nextP p) (es := p.seen) (firstP_row6 p1) (fun s _ e _ => nextP_row6 p1 s e) k 0
  rw [bPart_zero] at few
  have hpl : ps.length = (bIter (nextP p) p.seen (firstP p) k).length := by rw [← habs, List.length_map]
  have hke : ps.length = k := by omega
  have hsorted := (bIter_ordered (step := nextP p) p1.2.2.1.strict (firstP p) k).sorted
  have hrow : ∀ x ∈ ps, IsRow x.s 6 := fun x hx => by
    have hmem : (x.s, x.w) ∈ bIter (nextP p) p.seen (firstP p) k := by rw [← habs]; exact List.mem_map.2 ⟨x, hx, rfl⟩
    exact (bIter_good (step := nextP p) (es := p.seen) (U := fun s => IsRow s 6) (fun s _ e _ => nextP_row6 p1 s e) (firstP_row6 p1) k).univ _ hmem
  have hword : ∀ (i : Nat) (x : Pc), ps[i]? = some x → x.w.length ≤ i := fun i x hx => by
    have : (bIter (nextP p) p.seen (firstP p) k)[i]? = some x.abs := by rw [← habs, List.getElem?_map, hx]; rfl
    exact bIter_word _ _ _ _ this
  simp (disch := first | with_reducible assumption | omega) only [push_cast, x_blk, x_cd, ↓reduceIte, Nat.reduceEqDiff, List.map_cons, List.map_nil, Int.reduceEq, Int.lt_irrefl]
  refine ⟨b34, ?_⟩
  refine loop_rule (fun f w' => ∃ (i : Nat), i ≤ ps.length ∧ (f 1 = .pointer (some ⟨w.heap.size, 0, none⟩) ∧ f 15 = .slice A ps.length c ∧ f 16 = .int .i64 ps.length ∧ f 17 = .int .i64 i) ∧
      (∀ (j : Nat) (x : Pc), j < i → ps[j]? = some x → ¬ TellsL x.s p.secret) ∧ Below w4.heap.size w4 w')
    (fun f _ => ps.length - (intOf (f 17)).toNat) ⟨0, Nat.zero_le _, ⟨rfl, rfl, rfl, rfl⟩, fun j x hj => absurd hj (by omega), Below.refl _ _⟩ ?_
  rintro f w5 ⟨i, hi, fr, hno, b5⟩ J hJ
  have bb5 := bb4.trans (b5.mono bb4.size)
  have z34 := b4.size
  have z23 := b3.size
  have hz := bb.size
  by_cases hlt : i < ps.length
  case neg =>
    obtain rfl : i = ps.length := by omega
    simp (disch := first | with_reducible assumption | omega) only [push_cast, x_blk, x_cd, ↓reduceIte, Nat.reduceEqDiff, List.map_cons, List.map_nil, Int.reduceEq, Int.lt_irrefl, L_current_Leak_0, fr, Nat.lt_irrefl]
    refine fin_3 (hQ _ _ ⟨false, none, 0, [], 0, (by simp only [push_cast, ↓reduceIte, Nat.reduceEqDiff, Int.reduceEq, List.length_nil]), Ints.nil _ _ _, by simp, bb5, .inr ⟨p1, rfl, k, by omega, ?_⟩⟩)
    rw [bestF_none fun x hx => ?_]
    · exact ⟨rfl, rfl⟩
    · rw [← habs] at hx
      obtain ⟨y, hy, rfl⟩ := List.mem_map.1 hx
      obtain ⟨j, hj⟩ := List.mem_iff_getElem?.1 hy
      exact decide_eq_false (hno j y (getElem?_lt hj) hj)
  have hpk : ps[i]? = some (ps[i]'hlt) := List.getElem?_eq_getElem hlt
  have hmem : ps[i]'hlt ∈ ps := List.getElem_mem hlt
  generalize ps[i]'hlt = x at *
  have hR5 : Recs Pc.cells 5 (fun b => w3.heap.size ≤ b ∧ b < w4.heap.size) w5 A ps := hR.keep fun b hb => b5.block b hb.2
  have hA := hR5.isSome (by omega)
  have hldx := fun {K : Fr → World → Prop} {f : Fr} {d : Option Nat} {w' : World} => hR5.ldAll (P := Tryd.prog) (K := K) (f := f) (d := d) (w := w') pcEnc ty_ag_72 hpk ty_sz_72
  simp (disch := first | with_reducible assumption | omega) only [push_cast, x_blk, x_cd, ↓reduceIte, Nat.reduceEqDiff, List.map_cons, List.map_nil, Int.reduceEq, Int.lt_irrefl, L_current_Leak_0, fr, hlt, hldx]
  refine blk_of (cs := Pc.cells ⟨[], none, 0, []⟩) al_72 ?_
  intro w6 k6 b6 z6
  simp (disch := first | with_reducible assumption | omega) only [push_cast, x_blk, x_cd, ↓reduceIte, Nat.reduceEqDiff, List.map_cons, List.map_nil, Int.reduceEq, Int.lt_irrefl]
  refine sto_blk k6 (cs := Pc.cells x) (by rw [pcEnc.len]; exact ty_sz_72) (by rw [pcEnc.len, pcEnc.len]) (List.all_eq_true.2 (pcEnc.one x)) ?_
  intro w7 k7 g7 z7
  have b57 := g7.below b6 b6.size (by intro a ha; injection ha with ha; subst ha; exact Nat.le_refl _)
  have b7 := b5.trans (b57.mono b5.size)
  have bb7 := bb4.trans (b7.mono bb4.size)
  have k17 := k4.below b7 k4.lt
  have hlds := fun {K : Fr → World → Prop} {f : Fr} {d : Option Nat} {w' : World} => k7.ldSub (P := Tryd.prog) (K := K) (f := f) (d := d) (w := w') ty_ag_64 0 (vs := setCells (wordsOf x.s)) (e4_set _) x.cell0
  simp (disch := first | with_reducible assumption | omega) only [push_cast, x_blk, x_cd, ↓reduceIte, Nat.reduceEqDiff, List.map_cons, List.map_nil, Int.reduceEq, Int.lt_irrefl, fr, k17.p6, hlds]
  refine call_of (current_Tells ((hrow x hmem).small (by decide)) (ha.up bb7).secret (by omega) (p1.2.2.2.small hst)) ?_
  rintro v w8 ⟨rfl, b8⟩
  have b48 := b7.trans (b8.mono b7.size)
  by_cases ht : TellsL x.s p.secret
  · have sd8 : Same w8 w8.drew := (Same.refl w8).drew
    have k8 := (k7.below b8 k7.lt).same sd8
    have hldw := fun {K : Fr → World → Prop} {f : Fr} {d : Option Nat} {w' : World} => k8.ld (P := Tryd.prog) (K := K) (f := f) (d := d) (w := w') ty_ag_22 4 (by rw [pcEnc.len]; omega)
    have hc4 : (Pc.cells x).getD 4 undef = .slice x.W x.w.length x.cw := by rw [List.getD_eq_getElem?_getD, x.cell4]; rfl
    rw [hc4] at hldw
    have bx := (b48.trans (sd8.below _))
    generalize hu8 : w8.drew = u8 at *
    simp (disch := first | with_reducible assumption | omega) only [push_cast, x_blk, x_cd, ↓reduceIte, Nat.reduceEqDiff, List.map_cons, List.map_nil, Int.reduceEq, Int.lt_irrefl, decide_eq_true ht, fr, hu8, hldw]
    have hw := hword i x hpk
    refine fin_3 (hQ _ _ ⟨true, x.W, x.cw, x.w, 0, (by simp only [push_cast, ↓reduceIte, Nat.reduceEqDiff, Int.reduceEq]), ((hro x hmem).keep fun b hb => bx.block b hb.2).mono fun b hb => ⟨by have := hb.1; omega, by have := hb.2; have := bx.size; omega⟩, by omega, bb4.trans (bx.mono bb4.size), .inr ⟨p1, rfl, k, by omega, ?_⟩⟩)
    rw [bestF_first hsorted (k := i) (x := x.abs) (by rw [← habs, List.getElem?_map, hpk]; rfl) (decide_eq_true ht) fun j hj y hy => ?_]
    · exact ⟨rfl, rfl⟩
    · rw [← habs, List.getElem?_map] at hy
      obtain ⟨z, hz, rfl⟩ := Option.map_eq_some_iff.1 hy
      exact decide_eq_false (hno j z hj hz)
  · simp (disch := first | with_reducible assumption | omega) only [push_cast, x_blk, x_cd, ↓reduceIte, Nat.reduceEqDiff, List.map_cons, List.map_nil, Int.reduceEq, Int.lt_irrefl, decide_eq_false ht, fr]
    exact hJ _ _ ⟨i + 1, hlt, (by simp only [push_cast, ↓reduceIte, Nat.reduceEqDiff, true_and, and_true, and_self, eq_self, fr]), fun j y hj hy => by
      by_cases e : j = i
      · subst e; rw [hpk] at hy; rw [← Option.some.inj hy]; exact ht
      · exact hno j y (by omega) hy, b48⟩ (by simp only [push_cast, ↓reduceIte, Nat.reduceEqDiff, intOf, fr]; omega)

end Go.Proofs.YtcjinmgieiebbaaDoor
