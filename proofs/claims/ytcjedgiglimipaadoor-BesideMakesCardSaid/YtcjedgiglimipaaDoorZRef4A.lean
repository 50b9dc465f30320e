/-
  Chapter 4's reference: find, leads: by their contracts.
-/
import Derived.Test.YtcjedgiglimipaaDoorZBesC
namespace Go.Proofs.YtcjedgiglimipaaDoor
set_option linter.unusedSimpArgs false
set_option linter.unusedVariables false
set_option linter.unusedSectionVars false
open Go.RowKit

theorem rows_at {hs : List Hd} {ps : List Pr} (hv : hs.map (·.l) = ps.map prL) {i : Nat} {h : Hd} (hi : hs[i]? = some h) : ∃ q, ps[i]? = some q ∧ h.l = prL q := by
  have h1 : (hs.map (·.l))[i]? = some h.l := by rw [List.getElem?_map, hi]; rfl
  rw [hv, List.getElem?_map] at h1
  cases hq : ps[i]? with
  | none => rw [hq] at h1; cases h1
  | some q => rw [hq] at h1; injection h1 with h1; exact ⟨q, rfl, h1.symm⟩
theorem rows_len {hs : List Hd} {ps : List Pr} (hv : hs.map (·.l) = ps.map prL) : hs.length = ps.length := by
  have := congrArg List.length hv
  simpa using this
theorem ref4_find {w : World} {R : Option Addr} {c : Nat} {hs : List Hd} {ps : List Pr} (hR : Recs Hd.cells 1 (· < w.heap.size) w R hs) (hr : RowsAt (· < w.heap.size) w hs) (hv : hs.map (·.l) = ps.map prL) (hl : hs.length ≤ 100000000) (p : Pr) :
    Cal Tryd.prog 88 [.slice R hs.length c, .int .i64 p.1, .int .i64 p.2] w fun v w' => v = .int .i64 (fnd p ps : Nat) ∧ Same w w' := by
  have hlp := rows_len hv
  refine cal_ref4_find (by simp) 100000 fun Q hQ => ?_
  simp (disch := first | with_reducible assumption | omega) only [push_cast, x_blk, x_cd, ↓reduceIte, Nat.reduceEqDiff, List.map_cons, List.map_nil, Int.reduceEq, Int.lt_irrefl, F_ref4_find]
  refine loop_rule (fun f w' => ∃ i : Nat, i ≤ hs.length ∧ (f 0 = .slice R hs.length c ∧ f 1 = .int .i64 p.1 ∧ f 2 = .int .i64 p.2 ∧ f 7 = .int .i64 i) ∧ (∀ j, j < i → ps[j]? ≠ some p) ∧ Same w w')
    (fun f _ => hs.length - (intOf (f 7)).toNat) ⟨0, Nat.zero_le _, ⟨rfl, rfl, rfl, rfl⟩, fun j hj => absurd hj (by omega), Same.refl _⟩ ?_
  rintro f w1 ⟨i, hi, fr, hno, s1⟩ J hJ
  by_cases hlt : i < hs.length
  case neg =>
    obtain rfl : i = hs.length := by omega
    have hf : fnd p ps = hs.length := by rw [hlp]; exact fnd_no fun j hj => hno j (by omega)
    simp (disch := first | with_reducible assumption | omega) only [push_cast, x_blk, x_cd, ↓reduceIte, Nat.reduceEqDiff, List.map_cons, List.map_nil, Int.reduceEq, Int.lt_irrefl, L_ref4_find_0, fr, Nat.lt_irrefl, Int.lt_irrefl]
    exact fin_1 (hQ _ _ ⟨(by simp only [push_cast, ↓reduceIte, Nat.reduceEqDiff, Int.reduceEq, fr, hf]), s1⟩)
  obtain ⟨h, hh⟩ : ∃ h, hs[i]? = some h := ⟨_, List.getElem?_eq_getElem hlt⟩
  obtain ⟨q, hq, hql⟩ := rows_at hv hh
  have hRs := hR.same s1
  have hAr := hRs.isSome (by omega)
  have l0 := fun {K : Fr → World → Prop} {f : Fr} {d : Option Nat} {w : World} => hRs.ld0 (P := Tryd.prog) (K := K) (f := f) (d := d) (w := w) ty_ag_22 hh rfl
  simp only [Nat.mul_one] at l0
  have hI := (hr h (List.mem_of_getElem? hh)).same s1
  rw [hql] at hI l0
  have hAh := hI.isSome (show 0 < 2 by decide)
  have q0 : ∀ {K : Fr → World → Prop} {f : Fr} {d : Option Nat} {w : World}, Val1 Tryd.prog K (Instr.loadAt 3 (.pointer (some (eA h.A 0)))) w1 f d w = K (updO f d (.int .i64 q.1)) w := fun {K f d w} => hI.ld ty_ag_3 0 (show 0 < 2 by decide)
  have q1 : ∀ {K : Fr → World → Prop} {f : Fr} {d : Option Nat} {w : World}, Val1 Tryd.prog K (Instr.loadAt 3 (.pointer (some (eA h.A 1)))) w1 f d w = K (updO f d (.int .i64 q.2)) w := fun {K f d w} => hI.ld ty_ag_3 1 (show 1 < 2 by decide)
  have hl2 : (prL q).length = 2 := rfl
  have hne : ∀ (x : Pr), ps[i]? = some x → x ≠ p → ∀ j, j < i + 1 → ps[j]? ≠ some p := fun x hx hxp j hj e => by
    by_cases hji : j = i
    · subst hji; rw [hx] at e; injection e with e; exact hxp e
    · exact hno j (by omega) e
  by_cases c0 : q.1 = p.1
  · by_cases c1 : q.2 = p.2
    · have hqp : q = p := Prod.ext c0 c1
      have hf : fnd p ps = i := fnd_is (by rw [hq, hqp]) hno
      simp (disch := first | with_reducible assumption | omega) only [push_cast, x_blk, x_cd, ↓reduceIte, Nat.reduceEqDiff, List.map_cons, List.map_nil, Int.reduceEq, Int.lt_irrefl, L_ref4_find_0, fr, hlt, hAr, l0, hAh, hl2, q0, q1, c0, c1, eq_self, decide_true, Nat.zero_mul, Int.toNat_zero, Int.toNat_one, Nat.one_mul, Nat.reduceMul, Nat.reduceLT, Int.reduceLT, Int.reduceLE, Int.reduceToNat]
      exact fin_1 (hQ _ _ ⟨(by simp only [push_cast, ↓reduceIte, Nat.reduceEqDiff, Int.reduceEq, fr, hf]), s1⟩)
    · simp (disch := first | with_reducible assumption | omega) only [push_cast, x_blk, x_cd, ↓reduceIte, Nat.reduceEqDiff, List.map_cons, List.map_nil, Int.reduceEq, Int.lt_irrefl, L_ref4_find_0, fr, hlt, hAr, l0, hAh, hl2, q0, q1, c0, eq_self, decide_true, decide_eq_false c1, Nat.zero_mul, Int.toNat_zero, Int.toNat_one, Nat.one_mul, Nat.reduceMul, Nat.reduceLT, Int.reduceLT, Int.reduceLE, Int.reduceToNat]
      exact hJ _ _ ⟨i + 1, hlt, (by simp only [push_cast, ↓reduceIte, Nat.reduceEqDiff, true_and, and_true, and_self, eq_self, fr]), hne q hq (fun e => c1 (by rw [e])), s1⟩ (by simp only [push_cast, ↓reduceIte, Nat.reduceEqDiff, intOf, fr]; omega)
  · simp (disch := first | with_reducible assumption | omega) only [push_cast, x_blk, x_cd, ↓reduceIte, Nat.reduceEqDiff, List.map_cons, List.map_nil, Int.reduceEq, Int.lt_irrefl, L_ref4_find_0, fr, hlt, hAr, l0, hAh, hl2, q0, decide_eq_false c0, Nat.zero_mul, Int.toNat_zero, Int.toNat_one, Nat.one_mul, Nat.reduceMul, Nat.reduceLT, Int.reduceLT, Int.reduceLE, Int.reduceToNat]
    exact hJ _ _ ⟨i + 1, hlt, (by simp only [push_cast, ↓reduceIte, Nat.reduceEqDiff, true_and, and_true, and_self, eq_self, fr]), hne q hq (fun e => c0 (by rw [e])), s1⟩ (by simp only [push_cast, ↓reduceIte, Nat.reduceEqDiff, intOf, fr]; omega)

/-- Fresh rows. -/
abbrev FrB (B : Nat) (w : World) (b : Nat) : Prop := B ≤ b ∧ TyB [3] 0 w b
theorem frb_keep {B : Nat} {w w' : World} {hs : List Hd} (h : RowsAt (FrB B w) w hs) (k : KeepT [3] 0 w w') : RowsAt (FrB B w') w' hs := h.keep fun b hb => ⟨k.at_ b hb.2, hb.1, k.tyb hb.2⟩
theorem bsl2_ty {P : Program} {K : Fr → World → Prop} {f : Fr} {d : Option Nat} {w : World} {t e bytes : Nat} (hT : SlT P t e 1 bytes) (a b : Int)
    (h : ∀ w1, Ints (fun x => x = w.heap.size ∧ TyB [e] 0 w1 x) w1 (some ⟨w.heap.size, 0, none⟩) [a, b] → Below w.heap.size w w1 → w1.heap.size = w.heap.size + 1 → K (updO f d (.slice (some ⟨w.heap.size, 0, none⟩) 2 2)) w1) :
    Eff1 P K (Instr.buildSlice t 2 #[(0, .int .i64 a), (1, .int .i64 b)]) f d w := by
  rw [bsl2_eq hT]
  refine h _ ?_ ((Below.refl _ _).alloc (Nat.le_refl _) _) (by simp)
  have := ints_new2 w a b e
  exact ⟨this.isSome, fun _ => ⟨rfl, ⟨by show w.heap.size < _; simp, .inr ⟨e, List.mem_singleton.2 rfl, _, _, heap_alloc_new w _⟩⟩⟩, this.cell⟩

set_option maxHeartbeats 1000000 in
theorem ref4_leads {w : World} {a b : MV} {ma mb : Mach} (ha : IsM (· < w.heap.size) w a ma) (hfa : ma.Fits) (pa : ma.May) (hb : IsM (· < w.heap.size) w b mb) (hfb : mb.Fits) (pb : mb.May) {p : Pr} (hpin : InPr ma mb p) {Ap : Option Addr} {cp : Nat} (hp : Ints (· < w.heap.size) w Ap (prL p)) (e : Int) (inA inB : Bool) :
    Cal Tryd.prog 87 [a.val ma, b.val mb, .slice Ap (prL p).length cp, .int .i64 e, .bool inA, .bool inB] w fun v w' => ∃ (R : Option Addr) (cr : Nat) (hs : List Hd), v = .slice R hs.length cr ∧ OwnR Hd.cells w.heap.size 22 1 w' R cr hs ∧ RowsAt (FrB w.heap.size w') w' hs ∧
      hs.map (·.l) = (if inA || inB then (bsTo ma p.1 e inA).flatMap fun s => (bsTo mb p.2 e inB).map fun t => ((s, t) : Pr) else []).map prL ∧ Below w.heap.size w w' := by
  have hl2 : (prL p).length = 2 := rfl
  have hAp := hp.isSome (show 0 < 2 by decide)
  have nA := row_256 pa (bsTo_row pa hpin.1 e inA)
  have nB := row_256 pb (bsTo_row pb hpin.2 e inB)
  have rowA := bsTo_row pa hpin.1 e inA
  have rowB := bsTo_row pb hpin.2 e inB
  refine cal_ref4_leads (by simp) 100000 fun Q hQ => ?_
  simp (disch := first | with_reducible assumption | omega) only [push_cast, x_blk, x_cd, ↓reduceIte, Nat.reduceEqDiff, List.map_cons, List.map_nil, Int.reduceEq, Int.lt_irrefl, F_ref4_leads]
  refine blk_of (box_agg _ (a.cells ma)) ?_
  intro w1 k1 b1 z1
  simp (disch := first | with_reducible assumption | omega) only [push_cast, x_blk, x_cd, ↓reduceIte, Nat.reduceEqDiff, List.map_cons, List.map_nil, Int.reduceEq, Int.lt_irrefl]
  refine blk_of (box_agg _ (b.cells mb)) ?_
  intro w2 k2 b2 z2
  replace k1 := k1.below b2 k1.lt
  have bb := b1.trans (b2.mono b1.size)
  have hp2 := hp.up bb
  have q0 : ∀ {K : Fr → World → Prop} {f : Fr} {d : Option Nat} {w : World}, Val1 Tryd.prog K (Instr.loadAt 3 (.pointer (some (eA Ap 0)))) w2 f d w = K (updO f d (.int .i64 p.1)) w := fun {K f d w} => hp2.ld ty_ag_3 0 (show 0 < 2 by decide)
  simp (disch := first | with_reducible assumption | omega) only [push_cast, x_blk, x_cd, ↓reduceIte, Nat.reduceEqDiff, List.map_cons, List.map_nil, Int.reduceEq, Int.lt_irrefl, hAp, hl2, q0, bs_22, Nat.zero_mul, Int.toNat_zero, Int.toNat_one, Nat.one_mul, Nat.reduceMul, Nat.reduceLT, Int.reduceLT, Int.reduceLE, Int.reduceToNat]
  have o3 := own_int1 w2 p.1 3
  have b3 : Below w2.heap.size w2 (w2.alloc (.cells [.int .i64 p.1].toArray 3)) := (Below.refl _ _).alloc (Nat.le_refl _) _
  generalize w2.alloc (.cells [.int .i64 p.1].toArray 3) = w3 at *
  replace k1 := k1.below b3 k1.lt
  replace k2 := k2.below b3 k2.lt
  have bb3 := bb.trans (b3.mono bb.size)
  have hp3 := hp.up bb3
  have q1 : ∀ {K : Fr → World → Prop} {f : Fr} {d : Option Nat} {w : World}, Val1 Tryd.prog K (Instr.loadAt 3 (.pointer (some (eA Ap 1)))) w3 f d w = K (updO f d (.int .i64 p.2)) w := fun {K f d w} => hp3.ld ty_ag_3 1 (show 1 < 2 by decide)
  simp (disch := first | with_reducible assumption | omega) only [push_cast, x_blk, ↓reduceIte, Nat.reduceEqDiff, hAp, hl2, q1, bs_22, Nat.zero_mul, Int.toNat_zero, Int.toNat_one, Nat.one_mul, Nat.reduceMul, Nat.reduceLT, Int.reduceLT, Int.reduceLE, Int.reduceToNat]
  have o4 := own_int1 w3 p.2 3
  have b4 : Below w3.heap.size w3 (w3.alloc (.cells [.int .i64 p.2].toArray 3)) := (Below.refl _ _).alloc (Nat.le_refl _) _
  generalize w3.alloc (.cells [.int .i64 p.2].toArray 3) = w4 at *
  replace k1 := k1.below b4 k1.lt
  replace k2 := k2.below b4 k2.lt
  have bb4 := bb3.trans (b4.mono bb3.size)
  have i3 : Ints (TyB [3] w.heap.size w3) w3 (some ⟨w2.heap.size, 0, none⟩) [p.1] := OwnI.tyb o3 (by simp)
  replace i3 := i3.keepT (KeepT.below b4)
  have i4 : Ints (TyB [3] w.heap.size w4) w4 (some ⟨w3.heap.size, 0, none⟩) [p.2] := OwnI.tyb o4 (by simp)
  clear o3 o4 q0 q1 hp2 hp3 bb bb3 b1 b2 b3 b4 z1 z2
  -- the first row
  refine cut (fun f' w' => ∃ (Aa : Option Addr) (ca : Nat), (f' 3 = .int .i64 e ∧ f' 4 = .bool inA ∧ f' 5 = .bool inB ∧ f' 7 = .pointer (some ⟨w1.heap.size, 0, none⟩) ∧ f' 13 = .slice Aa (bsTo ma p.1 e inA).length ca ∧ f' 14 = .slice (some ⟨w3.heap.size, 0, none⟩) 1 1) ∧
      Blk w' w1.heap.size 25 (b.cells mb) ∧ Ints (TyB [3] w.heap.size w') w' Aa (bsTo ma p.1 e inA) ∧ Ints (TyB [3] w.heap.size w') w' (some ⟨w3.heap.size, 0, none⟩) [p.2] ∧ Below w.heap.size w w') 1000 90000 (by omega) ?_ ?_
  · intro E' hE
    cases inA
    case false =>
      simp (disch := first | with_reducible assumption | omega) only [push_cast, x_blk, x_cd, ↓reduceIte, Nat.reduceEqDiff, List.map_cons, List.map_nil, Int.reduceEq, Int.lt_irrefl]
      exact hE _ _ ⟨some ⟨w2.heap.size, 0, none⟩, 1, ⟨rfl, rfl, rfl, rfl, rfl, rfl⟩, k2, by simpa [bsTo] using i3, i4, bb4⟩
    simp (disch := first | with_reducible assumption | omega) only [push_cast, x_blk, x_cd, ↓reduceIte, Nat.reduceEqDiff, List.map_cons, List.map_nil, Int.reduceEq, Int.lt_irrefl, k1.mA ty_ag_25 ty_sz_25]
    refine call_of (ref2_Step (l := [p.1]) (ha.up bb4) hfa i3.tlt (by simp) e) ?_
    rintro r w5 ⟨A5, c5, rfl, o5, b5⟩
    simp (disch := first | with_reducible assumption | omega) only [push_cast, x_blk, x_cd, ↓reduceIte, Nat.reduceEqDiff, List.map_cons, List.map_nil, Int.reduceEq, Int.lt_irrefl]
    exact hE _ _ ⟨A5, c5, ⟨rfl, rfl, rfl, rfl, rfl, rfl⟩, k2.below b5 k2.lt, by have := OwnI.tyb (es := [3]) (B := w.heap.size) o5 (by simp); simpa [bsTo] using this, i4.keepT (KeepT.below b5), bb4.trans (b5.mono bb4.size)⟩
  clear i3 i4 k1 k2 bb4
  rintro f w5 ⟨Aa, ca, fr, k2, i3, i4, bb⟩
  simp (disch := first | with_reducible assumption | omega) only [push_cast, x_blk, ↓reduceIte, Nat.reduceEqDiff, fr]
  refine cut (fun f' w' => ∃ (Ab : Option Addr) (cb : Nat), (f' 3 = .int .i64 e ∧ f' 4 = .bool inA ∧ f' 5 = .bool inB ∧ f' 13 = .slice Aa (bsTo ma p.1 e inA).length ca ∧ f' 14 = .slice Ab (bsTo mb p.2 e inB).length cb) ∧
      Ints (TyB [3] w.heap.size w') w' Aa (bsTo ma p.1 e inA) ∧ Ints (TyB [3] w.heap.size w') w' Ab (bsTo mb p.2 e inB) ∧ Below w.heap.size w w') 1000 80000 (by omega) ?_ ?_
  · intro E' hE
    cases inB
    case false =>
      simp (disch := first | with_reducible assumption | omega) only [push_cast, x_blk, x_cd, ↓reduceIte, Nat.reduceEqDiff, List.map_cons, List.map_nil, Int.reduceEq, Int.lt_irrefl, fr]
      exact hE _ _ ⟨some ⟨w3.heap.size, 0, none⟩, 1, (by simp only [push_cast, ↓reduceIte, Nat.reduceEqDiff, true_and, and_true, and_self, eq_self, fr, bsTo, Bool.false_eq_true, List.length_cons, List.length_nil]), i3, by simpa [bsTo] using i4, bb⟩
    simp (disch := first | with_reducible assumption | omega) only [push_cast, x_blk, x_cd, ↓reduceIte, Nat.reduceEqDiff, List.map_cons, List.map_nil, Int.reduceEq, Int.lt_irrefl, fr, k2.mA ty_ag_25 ty_sz_25]
    refine call_of (ref2_Step (l := [p.2]) (hb.up bb) hfb i4.tlt (by simp) e) ?_
    rintro r w6 ⟨A5, c5, rfl, o5, b5⟩
    simp (disch := first | with_reducible assumption | omega) only [push_cast, x_blk, x_cd, ↓reduceIte, Nat.reduceEqDiff, List.map_cons, List.map_nil, Int.reduceEq, Int.lt_irrefl, fr]
    exact hE _ _ ⟨A5, c5, (by simp only [push_cast, ↓reduceIte, Nat.reduceEqDiff, true_and, and_true, and_self, eq_self, fr, bsTo]), i3.keepT (KeepT.below b5), by have := OwnI.tyb (es := [3]) (B := w.heap.size) o5 (by simp); simpa [bsTo] using this, bb.trans (b5.mono bb.size)⟩
  clear i3 i4 k2 bb fr
  rintro f w5 ⟨Ab, cb, fr, iA, iB, bb⟩
  generalize hsA : bsTo ma p.1 e inA = sA at *
  generalize hsB : bsTo mb p.2 e inB = sB at *
  simp (disch := first | with_reducible assumption | omega) only [push_cast, x_blk, x_cd, ↓reduceIte, Nat.reduceEqDiff, List.map_cons, List.map_nil, Int.reduceEq, Int.lt_irrefl, fr]
  refine loop_rule (fun f w' => ∃ (i : Nat) (R : Option Addr) (cr : Nat) (hs : List Hd), i ≤ sA.length ∧ (f 4 = .bool inA ∧ f 5 = .bool inB ∧ f 13 = .slice Aa sA.length ca ∧ f 14 = .slice Ab sB.length cb ∧ f 15 = .slice R hs.length cr ∧ f 16 = .int .i64 i) ∧ ((inA || inB) = false → i = 0) ∧
      OwnR Hd.cells w.heap.size 22 1 w' R cr hs ∧ RowsAt (FrB w.heap.size w') w' hs ∧ hs.map (·.l) = ((sA.take i).flatMap fun s => sB.map fun t => ((s, t) : Pr)).map prL ∧ Ints (TyB [3] w.heap.size w') w' Aa sA ∧ Ints (TyB [3] w.heap.size w') w' Ab sB ∧ Below w.heap.size w w')
    (fun f _ => sA.length - (intOf (f 16)).toNat) ⟨0, none, 0, [], Nat.zero_le _, (by simp only [push_cast, ↓reduceIte, Nat.reduceEqDiff, true_and, and_true, and_self, eq_self, fr, List.length_nil]), fun _ => rfl, Own.nil _ _ _ _, fun x hx => absurd hx (by simp), rfl, iA, iB, bb⟩ ?_
  clear iA iB bb fr
  rintro f w6 ⟨i, R, cr, hs, hi, fr, hio, o6, r6, hv, iA, iB, bb⟩ J hJ
  by_cases hor : (inA || inB) = true
  case neg =>
    have hor' : (inA || inB) = false := by simpa using hor
    obtain rfl := hio hor'
    have e1 : inA = false := by cases inA <;> simp_all
    have e2 : inB = false := by cases inB <;> simp_all
    have hv0 : hs.map (·.l) = ([] : List Pr).map prL := by rw [hv]; rfl
    by_cases c0 : (0 : Int) < (sA.length : Int)
    · simp (disch := first | with_reducible assumption | omega) only [push_cast, x_blk, x_cd, ↓reduceIte, Nat.reduceEqDiff, List.map_cons, List.map_nil, Int.reduceEq, Int.lt_irrefl, L_ref4_leads_1, fr, c0, e1, e2, decide_true, Int.natCast_zero]
      exact fin_1 (hQ _ _ ⟨R, cr, hs, (by simp only [push_cast, ↓reduceIte, Nat.reduceEqDiff, Int.reduceEq, fr]), o6, r6, by rw [if_neg hor]; exact hv0, bb⟩)
    · simp (disch := first | with_reducible assumption | omega) only [push_cast, x_blk, x_cd, ↓reduceIte, Nat.reduceEqDiff, List.map_cons, List.map_nil, Int.reduceEq, Int.lt_irrefl, L_ref4_leads_1, fr, c0, e1, e2, decide_false, Int.natCast_zero]
      exact fin_1 (hQ _ _ ⟨R, cr, hs, (by simp only [push_cast, ↓reduceIte, Nat.reduceEqDiff, Int.reduceEq, fr]), o6, r6, by rw [if_neg hor]; exact hv0, bb⟩)
  rw [if_pos hor] at hQ
  have hio' : ∀ {i : Nat}, (inA || inB) = false → i = 0 := fun h => by rw [hor] at h; cases h
  have hmuI : sA.length - (intOf (f 16)).toNat = sA.length - i := by rw [fr.2.2.2.2.2]; simp [intOf]
  rw [hmuI] at hJ
  by_cases hil : i < sA.length
  case neg =>
    obtain rfl : i = sA.length := by omega
    rw [List.take_length] at hv
    simp (disch := first | with_reducible assumption | omega) only [push_cast, x_blk, x_cd, ↓reduceIte, Nat.reduceEqDiff, List.map_cons, List.map_nil, Int.reduceEq, Int.lt_irrefl, L_ref4_leads_1, fr, Nat.lt_irrefl, Int.lt_irrefl]
    exact fin_1 (hQ _ _ ⟨R, cr, hs, (by simp only [push_cast, ↓reduceIte, Nat.reduceEqDiff, Int.reduceEq, fr]), o6, r6, hv, bb⟩)
  have hsp : (inA = true ∧ True) ∨ (inA = false ∧ inB = true) := by cases inA <;> cases inB <;> simp_all
  have hnI := prodK sA sB hil
  rcases hsp with ⟨e1, e2⟩ | ⟨e1, e2⟩
  case' inl => simp (disch := first | with_reducible assumption | omega) only [push_cast, x_blk, x_cd, ↓reduceIte, Nat.reduceEqDiff, List.map_cons, List.map_nil, Int.reduceEq, Int.lt_irrefl, L_ref4_leads_1, fr, hil, e1, decide_true]
  case' inr => simp (disch := first | with_reducible assumption | omega) only [push_cast, x_blk, x_cd, ↓reduceIte, Nat.reduceEqDiff, List.map_cons, List.map_nil, Int.reduceEq, Int.lt_irrefl, L_ref4_leads_1, fr, hil, e1, e2, decide_true]
  all_goals
    refine loop_rule (fun f w' => ∃ (n : Nat) (R : Option Addr) (cr : Nat) (hs : List Hd), n ≤ sB.length ∧ (f 4 = .bool inA ∧ f 5 = .bool inB ∧ f 13 = .slice Aa sA.length ca ∧ f 14 = .slice Ab sB.length cb ∧ f 15 = .slice R hs.length cr ∧ f 16 = .int .i64 i ∧ f 17 = .int .i64 n) ∧
        OwnR Hd.cells w.heap.size 22 1 w' R cr hs ∧ RowsAt (FrB w.heap.size w') w' hs ∧ hs.map (·.l) = (((sA.take i).flatMap fun s => sB.map fun t => ((s, t) : Pr)) ++ (sB.take n).map fun t => ((sA.getD i 0, t) : Pr)).map prL ∧ Ints (TyB [3] w.heap.size w') w' Aa sA ∧ Ints (TyB [3] w.heap.size w') w' Ab sB ∧ Below w.heap.size w w')
      (fun f _ => sB.length - (intOf (f 17)).toNat) ⟨0, R, cr, hs, Nat.zero_le _, (by simp only [push_cast, ↓reduceIte, Nat.reduceEqDiff, true_and, and_true, and_self, eq_self, fr, e1, e2]), o6, r6, by rw [hv]; simp, iA, iB, bb⟩ ?_
    clear o6 r6 hv iA iB bb fr hmuI
    rintro f w7 ⟨n, R, cr, hs, hn, fr, o6, r6, hv, iA, iB, bb⟩ J2 hJ2
    by_cases hnl : n < sB.length
    case neg =>
      obtain rfl : n = sB.length := by omega
      rw [List.take_length, ← hnI] at hv
      simp (disch := first | with_reducible assumption | omega) only [push_cast, x_blk, x_cd, ↓reduceIte, Nat.reduceEqDiff, List.map_cons, List.map_nil, Int.reduceEq, Int.lt_irrefl, L_ref4_leads_0, fr, Nat.lt_irrefl, Int.lt_irrefl]
      exact hJ _ _ ⟨i + 1, R, cr, hs, hil, (by simp only [push_cast, ↓reduceIte, Nat.reduceEqDiff, true_and, and_true, and_self, eq_self, fr]), hio', o6, r6, hv, iA, iB, bb⟩ (by simp only [push_cast, ↓reduceIte, Nat.reduceEqDiff, intOf, fr]; omega)
    have dd : Same w7 w7.drew := (Same.refl w7).drew
    replace o6 := o6.same dd
    replace r6 := frb_keep r6 (KeepT.same dd)
    replace iA := iA.keepT (KeepT.same dd)
    replace iB := iB.keepT (KeepT.same dd)
    replace bb := bb.trans (dd.below _)
    generalize hud : w7.drew = u at *
    have hAs := iA.isSome (by omega)
    have hBs := iB.isSome (by omega)
    have hlr := congrArg List.length hv
    rw [List.length_map, List.length_map] at hlr
    have hpl := (prod_prefix sA sB hil n).length_le
    rw [prod_len] at hpl
    have hmx : sA.length * sB.length ≤ 256 * 256 := Nat.mul_le_mul nA nB
    have hzu := bb.size
    simp (disch := first | with_reducible assumption | omega) only [push_cast, x_blk, x_cd, ↓reduceIte, Nat.reduceEqDiff, List.map_cons, List.map_nil, Int.reduceEq, Int.lt_irrefl, L_ref4_leads_0, fr, hnl, hil, hAs, hBs, hud, iA.ld ty_ag_3 i hil, iB.ld ty_ag_3 n hnl]
    refine bsl2_ty slT_22 _ _ ?_
    intro w8 i8 b8 z8
    simp (disch := first | with_reducible assumption | omega) only [push_cast, x_blk, x_cd, ↓reduceIte, Nat.reduceEqDiff, List.map_cons, List.map_nil, Int.reduceEq, Int.lt_irrefl, fr, bs_44]
    refine ⟨b8, ?_⟩
    refine ⟨b8.trans ((Below.refl _ _).alloc (by omega) _), ?_⟩
    have o8 := o6.below b8 (Nat.le_refl _)
    refine app_rec hdEnc slT_44 o8 ⟨some ⟨u.heap.size, 0, none⟩, 2, prL (sA.getD i 0, sB.getD n 0)⟩ (by omega) (by omega) (by have := b8.size; omega) ?_
    intro R' cr' w9 o9 g9 hA9 hs9 z9
    have kt8 : KeepT [3] 0 u w8 := KeepT.below b8
    have kt9 : KeepT [3] 0 w8 w9 := KeepT.grew o8 (Nat.zero_le _) (by decide) g9
    have kt8' : KeepT [3] w.heap.size u w8 := KeepT.below b8
    have kt9' : KeepT [3] w.heap.size w8 w9 := KeepT.grew o8 (Nat.le_refl _) (by decide) g9
    have r8 : RowsAt (FrB w.heap.size w9) w9 (hs ++ [⟨some ⟨u.heap.size, 0, none⟩, 2, prL (sA.getD i 0, sB.getD n 0)⟩]) := by
      intro x hx
      rcases List.mem_append.1 hx with hx | hx
      · exact frb_keep r6 (kt8.trans kt9) x hx
      · rw [List.mem_singleton.1 hx]
        exact i8.keep' fun y hy => ⟨kt9.at_ y hy.2, by have := hy.1; omega, kt9.tyb hy.2⟩
    have bb9 := g9.below (bb.trans (b8.mono hzu)) (by have := b8.size; omega) o8.geB
    simp (disch := first | with_reducible assumption | omega) only [push_cast, x_blk, x_cd, ↓reduceIte, Nat.reduceEqDiff, List.map_cons, List.map_nil, Int.reduceEq, Int.lt_irrefl, fr]
    exact hJ2 _ _ ⟨n + 1, R', cr', _, hnl, (by simp only [push_cast, ↓reduceIte, Nat.reduceEqDiff, true_and, and_true, and_self, eq_self, fr, List.length_append, List.length_cons, List.length_nil]), o9, r8, by rw [List.map_append, hv, take_snoc sB 0 n hnl, List.map_append (l₁ := sB.take n), ← List.append_assoc, List.map_append (l₂ := List.map _ [_])]; rfl, iA.keepT (kt8'.trans kt9'), iB.keepT (kt8'.trans kt9'), bb9⟩ (by simp only [push_cast, ↓reduceIte, Nat.reduceEqDiff, intOf, fr]; omega)
end Go.Proofs.YtcjedgiglimipaaDoor
