/-
  Chapter 15's reference: holds, sets, Keeps: by their contracts.
-/
import Derived.Test.YtcjedgiglimipaaDoorZM14
namespace Go.Proofs.YtcjedgiglimipaaDoor
set_option linter.unusedSimpArgs false
set_option linter.unusedVariables false
set_option linter.unusedSectionVars false
open Go.RowKit

set_option maxHeartbeats 2000000 in
theorem ref15_holds {w : World} {a : PV} {p : Plt} (ha : IsP (· < w.heap.size) w a p) (hf : p.Fits) (pm : p.May) {A1 : Option Addr} {c1 : Nat} {free : List Int} (h1 : Ints (· < w.heap.size) w A1 free) (n1 : free.length ≤ 17592186043904)
    {ov : MV} {o : Mach} (ho : IsM (· < w.heap.size) w ov o) (fo : o.Fits) (om : o.May) {L : Option Addr} {c : Nat} {ps : List Pt5} (hR : Recs Pt5.cells 2 (· < w.heap.size) w L ps) (hn : ps.length ≤ 100000) (hg : ∀ x ∈ ps, Ints (· < w.heap.size) w x.R x.s ∧ x.s.length ≤ 256) :
    Cal Tryd.prog 82 [a.val p, .slice A1 free.length c1, ov.val o, .slice L ps.length c] w fun v w' => (∃ b : Bool, v = .bool b ∧ (b = true → HoldsL p free o (ps.map Pt5.abs))) ∧ Below w.heap.size w w' := by
  have hm := pm.1
  have ev0 := hm.2.2.1
  have ev8 := hm.2.2.2.1
  have nQ := hf.lenQ
  refine cal_ref15_holds (by simp) 1000000 fun Q hQ => ?_
  simp (disch := first | with_reducible assumption | omega) only [push_cast, x_blk, x_cd, ↓reduceIte, Nat.reduceEqDiff, List.map_cons, List.map_nil, Int.reduceEq, Int.lt_irrefl, F_ref15_holds]
  refine blk_of (box_agg _ (a.cells p)) ?_
  intro w1 kP b1 z1
  simp (disch := first | with_reducible assumption | omega) only [push_cast, x_blk, x_cd, ↓reduceIte, Nat.reduceEqDiff, List.map_cons, List.map_nil, Int.reduceEq, Int.lt_irrefl]
  refine blk_of (box_agg _ (ov.cells o)) ?_
  intro w2 kO b2 z2
  replace kP := kP.below b2 kP.lt
  have bb2 := b1.trans (b2.mono b1.size)
  simp (disch := first | with_reducible assumption | omega) only [push_cast, x_blk, x_cd, ↓reduceIte, Nat.reduceEqDiff, List.map_cons, List.map_nil, Int.reduceEq, Int.lt_irrefl]
  refine loop_rule (fun f w' => ∃ (k : Nat) (op : Bool), k ≤ ps.length ∧ (f 1 = .slice A1 free.length c1 ∧ f 3 = .slice L ps.length c ∧ f 4 = .pointer (some ⟨w.heap.size, 0, none⟩) ∧ f 6 = .pointer (some ⟨w1.heap.size, 0, none⟩) ∧ f 9 = .bool op ∧ f 10 = .int .i64 k) ∧
      (∀ (i : Nat) (x : Pt5), i < k → ps[i]? = some x → ∀ e : Int, 0 ≤ e → e < p.m.events → (stepL p.m [x.M] e).length = 1 → onP p o x.abs e = none → e ∈ free) ∧ (op = true → ∃ x ∈ ps, x.M ∉ p.secret) ∧ Below w2.heap.size w2 w')
    (fun f _ => ps.length - (intOf (f 10)).toNat) ⟨0, false, Nat.zero_le _, ⟨rfl, rfl, rfl, rfl, rfl, rfl⟩, fun i x hi => absurd hi (by omega), fun h => (by cases h), Below.refl _ _⟩ ?_
  rintro f w3 ⟨k, op, hk, fr, hal, hop, b3⟩ J hJ
  have bb3 := bb2.trans (b3.mono bb2.size)
  have hmu : (intOf (f 10)).toNat = k := by rw [fr.2.2.2.2.2]; simp [intOf]
  have hdone : k = ps.length → (op = true ∨ ps = []) → HoldsL p free o (ps.map Pt5.abs) := fun hkl h => by
    refine ⟨fun x hx e e0 e1 hs ho' => ?_, ?_⟩
    · obtain ⟨y, hy, rfl⟩ := List.mem_map.1 hx
      obtain ⟨i, hi⟩ := List.mem_iff_getElem?.1 hy
      exact hal i y (by have := (List.getElem?_eq_some_iff.1 hi).1; omega) hi e e0 e1 hs ho'
    · rcases h with h | h
      · obtain ⟨x, hx, hs⟩ := hop h
        exact .inl ⟨x.abs, List.mem_map.2 ⟨x, hx, rfl⟩, hs⟩
      · right; rw [h]; rfl
  by_cases hlt : k < ps.length
  case neg =>
    have hkl : k = ps.length := by omega
    subst hkl
    cases op with
    | true =>
      simp (disch := first | with_reducible assumption | omega) only [push_cast, x_blk, x_cd, ↓reduceIte, Nat.reduceEqDiff, List.map_cons, List.map_nil, Int.reduceEq, Int.lt_irrefl, L_ref15_holds_1, fr, Nat.lt_irrefl]
      exact fin_1 (hQ _ _ ⟨⟨true, (by simp only [push_cast, ↓reduceIte, Nat.reduceEqDiff, Int.reduceEq]), fun _ => hdone rfl (.inl rfl)⟩, bb3⟩)
    | false =>
      simp (disch := first | with_reducible assumption | omega) only [push_cast, x_blk, x_cd, ↓reduceIte, Nat.reduceEqDiff, List.map_cons, List.map_nil, Int.reduceEq, Int.lt_irrefl, L_ref15_holds_1, fr, Nat.lt_irrefl]
      exact fin_1 (hQ _ _ ⟨⟨decide ((ps.length : Int) = 0), (by simp only [push_cast, ↓reduceIte, Nat.reduceEqDiff, Int.reduceEq]), fun h => hdone rfl (.inr (List.eq_nil_of_length_eq_zero (by have := of_decide_eq_true h; omega)))⟩, bb3⟩)
  have hyk : ps[k]? = some (ps[k]'hlt) := List.getElem?_eq_getElem hlt
  have hym : ps[k]'hlt ∈ ps := List.getElem_mem hlt
  generalize ps[k]'hlt = y at hyk hym
  have bd : Below w3.heap.size w3 w3.drew := (Same.refl w3).drew.below _
  have b3u := b3.trans (bd.mono b3.size)
  have bbu := bb2.trans (b3u.mono bb2.size)
  have kPu := kP.below b3u kP.lt
  generalize hu : w3.drew = u at *
  have hRu := (hR.below bbu)
  have sL := hRu.isSome (by omega)
  have l0 := fun {K : Fr → World → Prop} {f : Fr} {d : Option Nat} {w' : World} => hRu.ld (P := Tryd.prog) (K := K) (f := f) (d := d) (w := w') ty_ag_3 hyk (j := 0) (v := .int .i64 y.M) rfl
  simp (disch := first | with_reducible assumption | omega) only [push_cast, x_blk, x_cd, ↓reduceIte, Nat.reduceEqDiff, List.map_cons, List.map_nil, Int.reduceEq, Int.lt_irrefl, L_ref15_holds_1, fr, hlt, hu, kPu.p6, sL, l0]
  refine call_of (ref1_Has (ha.up bbu).secret a.cq y.M (by omega)) ?_
  rintro v w4 ⟨rfl, s4⟩
  have b24 := b3u.trans (s4.below _)
  by_cases qs : y.M ∈ p.secret
  · simp (disch := first | with_reducible assumption | omega) only [push_cast, x_blk, x_cd, ↓reduceIte, Nat.reduceEqDiff, List.map_cons, List.map_nil, Int.reduceEq, Int.lt_irrefl, fr, decide_eq_true qs]
    refine loop_rule (fun f' w' => ∃ e : Nat, (e : Int) ≤ p.m.events ∧ (f' 1 = .slice A1 free.length c1 ∧ f' 3 = .slice L ps.length c ∧ f' 4 = .pointer (some ⟨w.heap.size, 0, none⟩) ∧ f' 6 = .pointer (some ⟨w1.heap.size, 0, none⟩) ∧ f' 9 = .bool op ∧ f' 10 = .int .i64 k ∧ f' 11 = .int .i64 e) ∧
        (∀ e' : Int, 0 ≤ e' → e' < e → (stepL p.m [y.M] e').length = 1 → onP p o y.abs e' = none → e' ∈ free) ∧ Below w2.heap.size w2 w')
      (fun f' _ => p.m.events.toNat - (intOf (f' 11)).toNat) ⟨0, ev0, (by simp only [push_cast, ↓reduceIte, Nat.reduceEqDiff, true_and, and_true, and_self, eq_self, fr]), fun e' h0 h1 => absurd h1 (by omega), b24⟩ ?_
    clear fr b24 l0 hRu kPu bbu b3u b3 bb3
    rintro f w5 ⟨i, hi, fr, hal2, b5⟩ J2 hJ2
    have bb5 := bb2.trans (b5.mono bb2.size)
    have kP5 := kP.below b5 kP.lt
    have hmu2 : (intOf (f 11)).toNat = i := by rw [fr.2.2.2.2.2.2]; simp [intOf]
    by_cases hil : (i : Int) < p.m.events
    case neg =>
      simp (disch := first | with_reducible assumption | omega) only [push_cast, x_blk, x_cd, ↓reduceIte, Nat.reduceEqDiff, List.map_cons, List.map_nil, Int.reduceEq, Int.lt_irrefl, L_ref15_holds_0, fr, kP5.p1, hil]
      exact hJ _ _ ⟨k + 1, op, hlt, (by simp only [push_cast, ↓reduceIte, Nat.reduceEqDiff, true_and, and_true, and_self, eq_self, fr]), fun i' x hi' hx e0 h0 h1 => by
        by_cases c : i' = k
        · subst c; rw [hyk] at hx; injection hx with hx; subst hx; exact hal2 e0 h0 (by omega)
        · exact hal i' x (by omega) hx e0 h0 h1, hop, b5⟩ (by rw [hmu]; simp only [push_cast, ↓reduceIte, Nat.reduceEqDiff, intOf, fr]; omega)
    obtain ⟨e, he⟩ : ∃ e : Int, e = (i : Int) := ⟨_, rfl⟩
    have bd5 : Below w5.heap.size w5 w5.drew := (Same.refl w5).drew.below _
    have b6 := b5.trans (bd5.mono b5.size)
    have bb6 := bb2.trans (b6.mono bb2.size)
    have kP6 := kP.below b6 kP.lt
    generalize hu6 : w5.drew = u6 at *
    have hR6 := hR.below bb6
    have sL6 := hR6.isSome (by omega)
    have l06 := fun {K : Fr → World → Prop} {f : Fr} {d : Option Nat} {w' : World} => hR6.ld (P := Tryd.prog) (K := K) (f := f) (d := d) (w := w') ty_ag_3 hyk (j := 0) (v := .int .i64 y.M) rfl
    have oE := own_int1 u6 y.M 3
    have bE : Below u6.heap.size u6 (u6.alloc (.cells [.int .i64 y.M].toArray 3)) := (Below.refl _ _).alloc (Nat.le_refl _) _
    rw [← he] at fr
    simp (disch := first | with_reducible assumption | omega) only [push_cast, x_blk, x_cd, ↓reduceIte, Nat.reduceEqDiff, List.map_cons, List.map_nil, Int.reduceEq, Int.lt_irrefl, L_ref15_holds_0, fr, kP5.p1, he, hil, hu6, kP6.pM, hlt, sL6, l06, bs_22]
    refine ⟨bE, ?_⟩
    rw [← he]
    generalize u6.alloc (.cells [.int .i64 y.M].toArray 3) = w7 at *
    have bb7 := bb6.trans (bE.mono bb6.size)
    refine call_of (ref2_Step (c1 := 1) (ha.up bb7).m hf.m (OwnI.ints oE).lt (by simp) e) ?_
    rintro v w8 ⟨A8, c8, rfl, o8, b8⟩
    have b68 := bE.trans (b8.mono bE.size)
    have b28 := b6.trans (b68.mono b6.size)
    have bd8 : Below w8.heap.size w8 w8.drew := (Same.refl w8).drew.below _
    have b29 := b28.trans (bd8.mono b28.size)
    have bb9 := bb2.trans (b29.mono bb2.size)
    have kP9 := kP.below b29 kP.lt
    have kO9 := kO.below b29 kO.lt
    have r8 := row_lenV (stepL_row hm [y.M] e)
    generalize hu8 : w8.drew = u8 at *
    have hR9 := hR.below bb9
    have ly := fun {K : Fr → World → Prop} {f : Fr} {d : Option Nat} {w' : World} => hR9.ldAll (P := Tryd.prog) (K := K) (f := f) (d := d) (w := w') ptEnc ty_ag_126 hyk ty_sz_126
    have hon8 := fun (W : World) (bW : Below u8.heap.size u8 W) => ref15_on ((ha.up bb9).up bW) hf hm ((ho.up bb9).up bW) fo om (((hg y hym).1.up bb9).up bW) (hg y hym).2 e
    obtain ⟨Bz, hBze⟩ : ∃ b : Nat, b = 0 := ⟨_, rfl⟩
    have hBz : Bz ≤ u8.heap.size := by omega
    simp (disch := first | with_reducible assumption | omega) only [push_cast, x_blk, x_cd, ↓reduceIte, Nat.reduceEqDiff, List.map_cons, List.map_nil, Int.reduceEq, Int.lt_irrefl, fr]
    refine ⟨b68, ?_⟩
    simp (disch := first | with_reducible assumption | omega) only [push_cast, x_blk, x_cd, ↓reduceIte, Nat.reduceEqDiff, List.map_cons, List.map_nil, Int.reduceEq, Int.lt_irrefl, fr, hu8, kP9.pA', kO9.mA ty_ag_25 ty_sz_25, hlt, sL6, ly]
    refine cutT (fun f' w' => ∃ (g : Nat) (z : Pt5) (b : Bool), (f' 1 = .slice A1 free.length c1 ∧ f' 3 = .slice L ps.length c ∧ f' 4 = .pointer (some ⟨w.heap.size, 0, none⟩) ∧ f' 6 = .pointer (some ⟨w1.heap.size, 0, none⟩) ∧ f' 9 = .bool op ∧ f' 10 = .int .i64 k ∧ f' 11 = .int .i64 e ∧ f' 12 = .slice A8 (stepL p.m [y.M] e).length c8 ∧ f' 13 = .pointer (some ⟨g, 0, none⟩) ∧ f' 14 = .bool b) ∧ Blk w' g 126 z.cells ∧ OnZ (onP p o y.abs e) Bz w' z b ∧ u8.heap.size ≤ g ∧ Below u8.heap.size u8 w') 20000 40000 (by decide) ?_ ?_
    · intro E hE
      rw [x_t_two]
      refine ⟨?_, ?_⟩
      · simp (disch := first | with_reducible assumption | omega) only [push_cast, x_blk, x_cd, ↓reduceIte, Nat.reduceEqDiff, List.map_cons, List.map_nil, Int.reduceEq, Int.lt_irrefl, fr]
        refine call_of (hon8 u8 (Below.refl _ _)) ?_
        rintro v w9 ⟨hmo, b9⟩
        obtain ⟨z, b, rfl, hz⟩ := hmo.split Bz om
        simp (disch := first | with_reducible assumption | omega) only [push_cast, x_blk, x_cd, ↓reduceIte, Nat.reduceEqDiff, List.map_cons, List.map_nil, Int.reduceEq, Int.lt_irrefl, fr]
        refine ⟨b9, ?_⟩
        refine blk_of (cs := Pt5.cells ⟨0, none, 0, []⟩) al_126 ?_
        intro w10 k10 b10 z10
        have b810 := b9.trans (b10.mono b9.size)
        simp (disch := first | with_reducible assumption | omega) only [push_cast, x_blk, x_cd, ↓reduceIte, Nat.reduceEqDiff, List.map_cons, List.map_nil, Int.reduceEq, Int.lt_irrefl, fr]
        refine ⟨b810, ?_⟩
        refine sto_blk k10 (cs := z.cells) (e2_pt z) rfl (pt_one z) ?_
        intro w11 k11 g11 z11
        have b811 := g11.below b810 b810.size (by intro a ha; injection ha with ha; subst ha; exact b9.size)
        have hz11 := (hz.keep (.below b10)).keep (KeepT.grewB k10 (Nat.le_trans hBz b9.size) (by decide) g11)
        simp (disch := first | with_reducible assumption | omega) only [push_cast, x_blk, x_cd, ↓reduceIte, Nat.reduceEqDiff, List.map_cons, List.map_nil, Int.reduceEq, Int.lt_irrefl, fr]
        refine ⟨b811, ?_⟩
        first | exact hE _ _ ⟨_, z, b, (by simp only [push_cast, ↓reduceIte, Nat.reduceEqDiff, true_and, and_true, and_self, eq_self, fr]), k11, hz11, b9.size, b811⟩ | (simp (disch := first | with_reducible assumption | omega) only [push_cast, x_blk, x_cd, ↓reduceIte, Nat.reduceEqDiff, List.map_cons, List.map_nil, Int.reduceEq, Int.lt_irrefl, fr]; exact hE _ _ ⟨_, z, b, (by simp only [push_cast, ↓reduceIte, Nat.reduceEqDiff, true_and, and_true, and_self, eq_self, fr]), k11, hz11, b9.size, b811⟩)
      · simp (disch := first | with_reducible assumption | omega) only [push_cast, x_blk, x_cd, ↓reduceIte, Nat.reduceEqDiff, List.map_cons, List.map_nil, Int.reduceEq, Int.lt_irrefl, fr]
        refine blk_of (cs := Pt5.cells ⟨0, none, 0, []⟩) al_126 ?_
        intro w10 k10 b10 z10
        simp (disch := first | with_reducible assumption | omega) only [push_cast, x_blk, x_cd, ↓reduceIte, Nat.reduceEqDiff, List.map_cons, List.map_nil, Int.reduceEq, Int.lt_irrefl, fr]
        refine ⟨b10, ?_⟩
        refine call_of (hon8 w10 b10) ?_
        rintro v w9 ⟨hmo, b9⟩
        obtain ⟨z, b, rfl, hz⟩ := hmo.split Bz om
        have b810 := b10.trans (b9.mono b10.size)
        replace k10 := k10.below b9 k10.lt
        simp (disch := first | with_reducible assumption | omega) only [push_cast, x_blk, x_cd, ↓reduceIte, Nat.reduceEqDiff, List.map_cons, List.map_nil, Int.reduceEq, Int.lt_irrefl, fr]
        refine ⟨b810, ?_⟩
        refine sto_blk k10 (cs := z.cells) (e2_pt z) rfl (pt_one z) ?_
        intro w11 k11 g11 z11
        have b811 := g11.below b810 b810.size (by intro a ha; injection ha with ha; subst ha; exact Nat.le_refl _)
        have hz11 := hz.keep (KeepT.grewB k10 hBz (by decide) g11)
        simp (disch := first | with_reducible assumption | omega) only [push_cast, x_blk, x_cd, ↓reduceIte, Nat.reduceEqDiff, List.map_cons, List.map_nil, Int.reduceEq, Int.lt_irrefl, fr]
        refine ⟨b811, ?_⟩
        first | exact hE _ _ ⟨_, z, b, (by simp only [push_cast, ↓reduceIte, Nat.reduceEqDiff, true_and, and_true, and_self, eq_self, fr]), k11, hz11, Nat.le_refl _, b811⟩ | (simp (disch := first | with_reducible assumption | omega) only [push_cast, x_blk, x_cd, ↓reduceIte, Nat.reduceEqDiff, List.map_cons, List.map_nil, Int.reduceEq, Int.lt_irrefl, fr]; exact hE _ _ ⟨_, z, b, (by simp only [push_cast, ↓reduceIte, Nat.reduceEqDiff, true_and, and_true, and_self, eq_self, fr]), k11, hz11, Nat.le_refl _, b811⟩)
    clear fr
    rintro f w9 ⟨g, z, b, fr, kZ, hz, hg9, b9⟩
    subst he
    have b39 := b29.trans (b9.mono b29.size)
    have bb10 := bb2.trans (b39.mono bb2.size)
    have hext : ∀ (q : (stepL p.m [y.M] (i : Int)).length = 1 → onP p o y.abs (i : Int) = none → (i : Int) ∈ free), ∀ e' : Int, 0 ≤ e' → e' < ((i + 1 : Nat) : Int) → (stepL p.m [y.M] e').length = 1 → onP p o y.abs e' = none → e' ∈ free := fun q e' h0 h1' => by
      by_cases c : e' = (i : Int)
      · rw [c]; exact q
      · exact hal2 e' h0 (by omega)
    by_cases cl : ((stepL p.m [y.M] (i : Int)).length : Int) = 1
    case neg =>
      simp (disch := first | with_reducible assumption | omega) only [push_cast, x_blk, x_cd, ↓reduceIte, Nat.reduceEqDiff, List.map_cons, List.map_nil, Int.reduceEq, Int.lt_irrefl, fr, cl]
      exact hJ2 _ _ ⟨i + 1, by omega, (by simp only [push_cast, ↓reduceIte, Nat.reduceEqDiff, true_and, and_true, and_self, eq_self, fr]), hext fun h => absurd h (by omega), b39⟩ (by rw [hmu2]; simp only [push_cast, ↓reduceIte, Nat.reduceEqDiff, intOf, fr]; omega)
    rcases hz with ⟨rfl, ho1, _⟩ | ⟨rfl, ho1⟩
    · simp (disch := first | with_reducible assumption | omega) only [push_cast, x_blk, x_cd, ↓reduceIte, Nat.reduceEqDiff, List.map_cons, List.map_nil, Int.reduceEq, Int.lt_irrefl, fr, eq_true cl]
      exact hJ2 _ _ ⟨i + 1, by omega, (by simp only [push_cast, ↓reduceIte, Nat.reduceEqDiff, true_and, and_true, and_self, eq_self, fr]), hext fun _ h => by (rw [ho1] at h; cases h), b39⟩ (by rw [hmu2]; simp only [push_cast, ↓reduceIte, Nat.reduceEqDiff, intOf, fr]; omega)
    simp (disch := first | with_reducible assumption | omega) only [push_cast, x_blk, x_cd, ↓reduceIte, Nat.reduceEqDiff, List.map_cons, List.map_nil, Int.reduceEq, Int.lt_irrefl, fr, eq_true cl]
    refine call_of (ref1_Has (h1.up bb10) c1 (i : Int) (by omega)) ?_
    rintro v w10 ⟨rfl, s10⟩
    have b310 := b39.trans (s10.below _)
    by_cases qf : (i : Int) ∈ free
    · simp (disch := first | with_reducible assumption | omega) only [push_cast, x_blk, x_cd, ↓reduceIte, Nat.reduceEqDiff, List.map_cons, List.map_nil, Int.reduceEq, Int.lt_irrefl, fr, decide_eq_true qf]
      exact hJ2 _ _ ⟨i + 1, by omega, (by simp only [push_cast, ↓reduceIte, Nat.reduceEqDiff, true_and, and_true, and_self, eq_self, fr]), hext fun _ _ => qf, b310⟩ (by rw [hmu2]; simp only [push_cast, ↓reduceIte, Nat.reduceEqDiff, intOf, fr]; omega)
    simp (disch := first | with_reducible assumption | omega) only [push_cast, x_blk, x_cd, ↓reduceIte, Nat.reduceEqDiff, List.map_cons, List.map_nil, Int.reduceEq, Int.lt_irrefl, fr, decide_eq_false qf]
    exact fin_1 (hQ _ _ ⟨⟨false, (by simp only [push_cast, ↓reduceIte, Nat.reduceEqDiff, Int.reduceEq]), fun h => by cases h⟩, bb2.trans (b310.mono bb2.size)⟩)
  · have hop : true = true → ∃ x ∈ ps, x.M ∉ p.secret := fun _ => ⟨y, hym, qs⟩
    simp (disch := first | with_reducible assumption | omega) only [push_cast, x_blk, x_cd, ↓reduceIte, Nat.reduceEqDiff, List.map_cons, List.map_nil, Int.reduceEq, Int.lt_irrefl, fr, decide_eq_false qs]
    refine loop_rule (fun f' w' => ∃ e : Nat, (e : Int) ≤ p.m.events ∧ (f' 1 = .slice A1 free.length c1 ∧ f' 3 = .slice L ps.length c ∧ f' 4 = .pointer (some ⟨w.heap.size, 0, none⟩) ∧ f' 6 = .pointer (some ⟨w1.heap.size, 0, none⟩) ∧ f' 9 = .bool true ∧ f' 10 = .int .i64 k ∧ f' 11 = .int .i64 e) ∧
        (∀ e' : Int, 0 ≤ e' → e' < e → (stepL p.m [y.M] e').length = 1 → onP p o y.abs e' = none → e' ∈ free) ∧ Below w2.heap.size w2 w')
      (fun f' _ => p.m.events.toNat - (intOf (f' 11)).toNat) ⟨0, ev0, (by simp only [push_cast, ↓reduceIte, Nat.reduceEqDiff, true_and, and_true, and_self, eq_self, fr]), fun e' h0 h1 => absurd h1 (by omega), b24⟩ ?_
    clear fr b24 l0 hRu kPu bbu b3u b3 bb3
    rintro f w5 ⟨i, hi, fr, hal2, b5⟩ J2 hJ2
    have bb5 := bb2.trans (b5.mono bb2.size)
    have kP5 := kP.below b5 kP.lt
    have hmu2 : (intOf (f 11)).toNat = i := by rw [fr.2.2.2.2.2.2]; simp [intOf]
    by_cases hil : (i : Int) < p.m.events
    case neg =>
      simp (disch := first | with_reducible assumption | omega) only [push_cast, x_blk, x_cd, ↓reduceIte, Nat.reduceEqDiff, List.map_cons, List.map_nil, Int.reduceEq, Int.lt_irrefl, L_ref15_holds_0, fr, kP5.p1, hil]
      exact hJ _ _ ⟨k + 1, true, hlt, (by simp only [push_cast, ↓reduceIte, Nat.reduceEqDiff, true_and, and_true, and_self, eq_self, fr]), fun i' x hi' hx e0 h0 h1 => by
        by_cases c : i' = k
        · subst c; rw [hyk] at hx; injection hx with hx; subst hx; exact hal2 e0 h0 (by omega)
        · exact hal i' x (by omega) hx e0 h0 h1, hop, b5⟩ (by rw [hmu]; simp only [push_cast, ↓reduceIte, Nat.reduceEqDiff, intOf, fr]; omega)
    obtain ⟨e, he⟩ : ∃ e : Int, e = (i : Int) := ⟨_, rfl⟩
    have bd5 : Below w5.heap.size w5 w5.drew := (Same.refl w5).drew.below _
    have b6 := b5.trans (bd5.mono b5.size)
    have bb6 := bb2.trans (b6.mono bb2.size)
    have kP6 := kP.below b6 kP.lt
    generalize hu6 : w5.drew = u6 at *
    have hR6 := hR.below bb6
    have sL6 := hR6.isSome (by omega)
    have l06 := fun {K : Fr → World → Prop} {f : Fr} {d : Option Nat} {w' : World} => hR6.ld (P := Tryd.prog) (K := K) (f := f) (d := d) (w := w') ty_ag_3 hyk (j := 0) (v := .int .i64 y.M) rfl
    have oE := own_int1 u6 y.M 3
    have bE : Below u6.heap.size u6 (u6.alloc (.cells [.int .i64 y.M].toArray 3)) := (Below.refl _ _).alloc (Nat.le_refl _) _
    rw [← he] at fr
    simp (disch := first | with_reducible assumption | omega) only [push_cast, x_blk, x_cd, ↓reduceIte, Nat.reduceEqDiff, List.map_cons, List.map_nil, Int.reduceEq, Int.lt_irrefl, L_ref15_holds_0, fr, kP5.p1, he, hil, hu6, kP6.pM, hlt, sL6, l06, bs_22]
    refine ⟨bE, ?_⟩
    rw [← he]
    generalize u6.alloc (.cells [.int .i64 y.M].toArray 3) = w7 at *
    have bb7 := bb6.trans (bE.mono bb6.size)
    refine call_of (ref2_Step (c1 := 1) (ha.up bb7).m hf.m (OwnI.ints oE).lt (by simp) e) ?_
    rintro v w8 ⟨A8, c8, rfl, o8, b8⟩
    have b68 := bE.trans (b8.mono bE.size)
    have b28 := b6.trans (b68.mono b6.size)
    have bd8 : Below w8.heap.size w8 w8.drew := (Same.refl w8).drew.below _
    have b29 := b28.trans (bd8.mono b28.size)
    have bb9 := bb2.trans (b29.mono bb2.size)
    have kP9 := kP.below b29 kP.lt
    have kO9 := kO.below b29 kO.lt
    have r8 := row_lenV (stepL_row hm [y.M] e)
    generalize hu8 : w8.drew = u8 at *
    have hR9 := hR.below bb9
    have ly := fun {K : Fr → World → Prop} {f : Fr} {d : Option Nat} {w' : World} => hR9.ldAll (P := Tryd.prog) (K := K) (f := f) (d := d) (w := w') ptEnc ty_ag_126 hyk ty_sz_126
    have hon8 := fun (W : World) (bW : Below u8.heap.size u8 W) => ref15_on ((ha.up bb9).up bW) hf hm ((ho.up bb9).up bW) fo om (((hg y hym).1.up bb9).up bW) (hg y hym).2 e
    obtain ⟨Bz, hBze⟩ : ∃ b : Nat, b = 0 := ⟨_, rfl⟩
    have hBz : Bz ≤ u8.heap.size := by omega
    simp (disch := first | with_reducible assumption | omega) only [push_cast, x_blk, x_cd, ↓reduceIte, Nat.reduceEqDiff, List.map_cons, List.map_nil, Int.reduceEq, Int.lt_irrefl, fr]
    refine ⟨b68, ?_⟩
    simp (disch := first | with_reducible assumption | omega) only [push_cast, x_blk, x_cd, ↓reduceIte, Nat.reduceEqDiff, List.map_cons, List.map_nil, Int.reduceEq, Int.lt_irrefl, fr, hu8, kP9.pA', kO9.mA ty_ag_25 ty_sz_25, hlt, sL6, ly]
    refine cutT (fun f' w' => ∃ (g : Nat) (z : Pt5) (b : Bool), (f' 1 = .slice A1 free.length c1 ∧ f' 3 = .slice L ps.length c ∧ f' 4 = .pointer (some ⟨w.heap.size, 0, none⟩) ∧ f' 6 = .pointer (some ⟨w1.heap.size, 0, none⟩) ∧ f' 9 = .bool true ∧ f' 10 = .int .i64 k ∧ f' 11 = .int .i64 e ∧ f' 12 = .slice A8 (stepL p.m [y.M] e).length c8 ∧ f' 13 = .pointer (some ⟨g, 0, none⟩) ∧ f' 14 = .bool b) ∧ Blk w' g 126 z.cells ∧ OnZ (onP p o y.abs e) Bz w' z b ∧ u8.heap.size ≤ g ∧ Below u8.heap.size u8 w') 20000 40000 (by decide) ?_ ?_
    · intro E hE
      rw [x_t_two]
      refine ⟨?_, ?_⟩
      · simp (disch := first | with_reducible assumption | omega) only [push_cast, x_blk, x_cd, ↓reduceIte, Nat.reduceEqDiff, List.map_cons, List.map_nil, Int.reduceEq, Int.lt_irrefl, fr]
        refine call_of (hon8 u8 (Below.refl _ _)) ?_
        rintro v w9 ⟨hmo, b9⟩
        obtain ⟨z, b, rfl, hz⟩ := hmo.split Bz om
        simp (disch := first | with_reducible assumption | omega) only [push_cast, x_blk, x_cd, ↓reduceIte, Nat.reduceEqDiff, List.map_cons, List.map_nil, Int.reduceEq, Int.lt_irrefl, fr]
        refine ⟨b9, ?_⟩
        refine blk_of (cs := Pt5.cells ⟨0, none, 0, []⟩) al_126 ?_
        intro w10 k10 b10 z10
        have b810 := b9.trans (b10.mono b9.size)
        simp (disch := first | with_reducible assumption | omega) only [push_cast, x_blk, x_cd, ↓reduceIte, Nat.reduceEqDiff, List.map_cons, List.map_nil, Int.reduceEq, Int.lt_irrefl, fr]
        refine ⟨b810, ?_⟩
        refine sto_blk k10 (cs := z.cells) (e2_pt z) rfl (pt_one z) ?_
        intro w11 k11 g11 z11
        have b811 := g11.below b810 b810.size (by intro a ha; injection ha with ha; subst ha; exact b9.size)
        have hz11 := (hz.keep (.below b10)).keep (KeepT.grewB k10 (Nat.le_trans hBz b9.size) (by decide) g11)
        simp (disch := first | with_reducible assumption | omega) only [push_cast, x_blk, x_cd, ↓reduceIte, Nat.reduceEqDiff, List.map_cons, List.map_nil, Int.reduceEq, Int.lt_irrefl, fr]
        refine ⟨b811, ?_⟩
        first | exact hE _ _ ⟨_, z, b, (by simp only [push_cast, ↓reduceIte, Nat.reduceEqDiff, true_and, and_true, and_self, eq_self, fr]), k11, hz11, b9.size, b811⟩ | (simp (disch := first | with_reducible assumption | omega) only [push_cast, x_blk, x_cd, ↓reduceIte, Nat.reduceEqDiff, List.map_cons, List.map_nil, Int.reduceEq, Int.lt_irrefl, fr]; exact hE _ _ ⟨_, z, b, (by simp only [push_cast, ↓reduceIte, Nat.reduceEqDiff, true_and, and_true, and_self, eq_self, fr]), k11, hz11, b9.size, b811⟩)
      · simp (disch := first | with_reducible assumption | omega) only [push_cast, x_blk, x_cd, ↓reduceIte, Nat.reduceEqDiff, List.map_cons, List.map_nil, Int.reduceEq, Int.lt_irrefl, fr]
        refine blk_of (cs := Pt5.cells ⟨0, none, 0, []⟩) al_126 ?_
        intro w10 k10 b10 z10
        simp (disch := first | with_reducible assumption | omega) only [push_cast, x_blk, x_cd, ↓reduceIte, Nat.reduceEqDiff, List.map_cons, List.map_nil, Int.reduceEq, Int.lt_irrefl, fr]
        refine ⟨b10, ?_⟩
        refine call_of (hon8 w10 b10) ?_
        rintro v w9 ⟨hmo, b9⟩
        obtain ⟨z, b, rfl, hz⟩ := hmo.split Bz om
        have b810 := b10.trans (b9.mono b10.size)
        replace k10 := k10.below b9 k10.lt
        simp (disch := first | with_reducible assumption | omega) only [push_cast, x_blk, x_cd, ↓reduceIte, Nat.reduceEqDiff, List.map_cons, List.map_nil, Int.reduceEq, Int.lt_irrefl, fr]
        refine ⟨b810, ?_⟩
        refine sto_blk k10 (cs := z.cells) (e2_pt z) rfl (pt_one z) ?_
        intro w11 k11 g11 z11
        have b811 := g11.below b810 b810.size (by intro a ha; injection ha with ha; subst ha; exact Nat.le_refl _)
        have hz11 := hz.keep (KeepT.grewB k10 hBz (by decide) g11)
        simp (disch := first | with_reducible assumption | omega) only [push_cast, x_blk, x_cd, ↓reduceIte, Nat.reduceEqDiff, List.map_cons, List.map_nil, Int.reduceEq, Int.lt_irrefl, fr]
        refine ⟨b811, ?_⟩
        first | exact hE _ _ ⟨_, z, b, (by simp only [push_cast, ↓reduceIte, Nat.reduceEqDiff, true_and, and_true, and_self, eq_self, fr]), k11, hz11, Nat.le_refl _, b811⟩ | (simp (disch := first | with_reducible assumption | omega) only [push_cast, x_blk, x_cd, ↓reduceIte, Nat.reduceEqDiff, List.map_cons, List.map_nil, Int.reduceEq, Int.lt_irrefl, fr]; exact hE _ _ ⟨_, z, b, (by simp only [push_cast, ↓reduceIte, Nat.reduceEqDiff, true_and, and_true, and_self, eq_self, fr]), k11, hz11, Nat.le_refl _, b811⟩)
    clear fr
    rintro f w9 ⟨g, z, b, fr, kZ, hz, hg9, b9⟩
    subst he
    have b39 := b29.trans (b9.mono b29.size)
    have bb10 := bb2.trans (b39.mono bb2.size)
    have hext : ∀ (q : (stepL p.m [y.M] (i : Int)).length = 1 → onP p o y.abs (i : Int) = none → (i : Int) ∈ free), ∀ e' : Int, 0 ≤ e' → e' < ((i + 1 : Nat) : Int) → (stepL p.m [y.M] e').length = 1 → onP p o y.abs e' = none → e' ∈ free := fun q e' h0 h1' => by
      by_cases c : e' = (i : Int)
      · rw [c]; exact q
      · exact hal2 e' h0 (by omega)
    by_cases cl : ((stepL p.m [y.M] (i : Int)).length : Int) = 1
    case neg =>
      simp (disch := first | with_reducible assumption | omega) only [push_cast, x_blk, x_cd, ↓reduceIte, Nat.reduceEqDiff, List.map_cons, List.map_nil, Int.reduceEq, Int.lt_irrefl, fr, cl]
      exact hJ2 _ _ ⟨i + 1, by omega, (by simp only [push_cast, ↓reduceIte, Nat.reduceEqDiff, true_and, and_true, and_self, eq_self, fr]), hext fun h => absurd h (by omega), b39⟩ (by rw [hmu2]; simp only [push_cast, ↓reduceIte, Nat.reduceEqDiff, intOf, fr]; omega)
    rcases hz with ⟨rfl, ho1, _⟩ | ⟨rfl, ho1⟩
    · simp (disch := first | with_reducible assumption | omega) only [push_cast, x_blk, x_cd, ↓reduceIte, Nat.reduceEqDiff, List.map_cons, List.map_nil, Int.reduceEq, Int.lt_irrefl, fr, eq_true cl]
      exact hJ2 _ _ ⟨i + 1, by omega, (by simp only [push_cast, ↓reduceIte, Nat.reduceEqDiff, true_and, and_true, and_self, eq_self, fr]), hext fun _ h => by (rw [ho1] at h; cases h), b39⟩ (by rw [hmu2]; simp only [push_cast, ↓reduceIte, Nat.reduceEqDiff, intOf, fr]; omega)
    simp (disch := first | with_reducible assumption | omega) only [push_cast, x_blk, x_cd, ↓reduceIte, Nat.reduceEqDiff, List.map_cons, List.map_nil, Int.reduceEq, Int.lt_irrefl, fr, eq_true cl]
    refine call_of (ref1_Has (h1.up bb10) c1 (i : Int) (by omega)) ?_
    rintro v w10 ⟨rfl, s10⟩
    have b310 := b39.trans (s10.below _)
    by_cases qf : (i : Int) ∈ free
    · simp (disch := first | with_reducible assumption | omega) only [push_cast, x_blk, x_cd, ↓reduceIte, Nat.reduceEqDiff, List.map_cons, List.map_nil, Int.reduceEq, Int.lt_irrefl, fr, decide_eq_true qf]
      exact hJ2 _ _ ⟨i + 1, by omega, (by simp only [push_cast, ↓reduceIte, Nat.reduceEqDiff, true_and, and_true, and_self, eq_self, fr]), hext fun _ _ => qf, b310⟩ (by rw [hmu2]; simp only [push_cast, ↓reduceIte, Nat.reduceEqDiff, intOf, fr]; omega)
    simp (disch := first | with_reducible assumption | omega) only [push_cast, x_blk, x_cd, ↓reduceIte, Nat.reduceEqDiff, List.map_cons, List.map_nil, Int.reduceEq, Int.lt_irrefl, fr, decide_eq_false qf]
    exact fin_1 (hQ _ _ ⟨⟨false, (by simp only [push_cast, ↓reduceIte, Nat.reduceEqDiff, Int.reduceEq]), fun h => by cases h⟩, bb2.trans (b310.mono bb2.size)⟩)
end Go.Proofs.YtcjedgiglimipaaDoor

/-
  Chapter 15's reference: sets: by its contract.
-/
namespace Go.Proofs.YtcjedgiglimipaaDoor
set_option linter.unusedSimpArgs false
set_option linter.unusedVariables false
set_option linter.unusedSectionVars false
open Go.RowKit

theorem nodup_subC : ∀ (l m : List Plc), l.Nodup → (∀ x ∈ l, x ∈ m) → l.length ≤ m.length
  | [], _, _, _ => Nat.zero_le _
  | x :: l, m, hn, hs => by
      have hx := hs x List.mem_cons_self
      have h1 := nodup_subC l (m.erase x) (List.nodup_cons.1 hn).2 fun y hy => by
        have hne : y ≠ x := fun e => (List.nodup_cons.1 hn).1 (e ▸ hy)
        exact (List.mem_erase_of_ne hne).2 (hs y (List.mem_cons_of_mem _ hy))
      rw [List.length_erase_of_mem hx] at h1
      have h2 := List.length_pos_of_mem hx
      rw [List.length_cons]; omega
theorem OR.congr {p : Plt} {o : Mach} {a b : List Plc} (h : ∀ x, x ∈ a ↔ x ∈ b) {y : Plc} : OR p o a y ↔ OR p o b y := by
  constructor
  · intro hy
    induction hy with
    | base x hx => exact .base x ((h x).1 hx)
    | step x e y _ he h0 h1 hy ih => exact .step x e y ih he h0 h1 hy
  · intro hy
    induction hy with
    | base x hx => exact .base x ((h x).2 hx)
    | step x e y _ he h0 h1 hy ih => exact .step x e y ih he h0 h1 hy
theorem same_mem {a b : List Plc} (h : SameC a b) (na : a.Nodup) (_nb : b.Nodup) : ∀ y, y ∈ a ↔ y ∈ b := fun y => ⟨h.2 y, fun hy => Classical.byContradiction fun hn => by
  have := nodup_subC (y :: a) b (List.nodup_cons.2 ⟨hn, na⟩) fun z hz => by
    rcases List.mem_cons.1 hz with rfl | hz
    · exact hy
    · exact h.2 z hz
  have := h.1
  rw [List.length_cons] at *
  omega⟩
/-- What has been gone through. -/
structure SG (p : Plt) (o : Mach) (S : List (List Plc)) (k i : Nat) : Prop where
  first : ∀ s, p.m.starts = [s] → ∃ l ∈ S, ∀ y, y ∈ l ↔ OR p o [(s, o.starts)] y
  wide : ∀ l ∈ S, ∃ l0, (∀ x ∈ l0, 0 ≤ x.1 ∧ x.1 < p.m.states) ∧ ∀ y, y ∈ l ↔ OR p o l0 y
  good : ∀ l ∈ S, GoodC p o l
  next : ∀ j l, j < k → S[j]? = some l → ∀ e ∈ p.seen, ∃ l' ∈ S, ∀ y, y ∈ l' ↔ OR p o (onsL p o l e) y
  part : ∀ l, S[k]? = some l → ∀ e ∈ p.seen.take i, ∃ l' ∈ S, ∀ y, y ∈ l' ↔ OR p o (onsL p o l e) y
section
variable {p : Plt} {o : Mach} {S : List (List Plc)} {k i : Nat}
theorem SG.nextK (h : SG p o S k p.seen.length) : SG p o S (k + 1) 0 := by
  refine ⟨h.first, h.wide, h.good, fun j l hj hl e he => ?_, fun l _ e he => by simp at he⟩
  by_cases c : j = k
  · subst c
    exact h.part l hl e (by rw [List.take_length]; exact he)
  · exact h.next j l (by omega) hl e he
theorem SG.known (h : SG p o S k i) (hi : i < p.seen.length) {l nx : List Plc} (hl : S[k]? = some l) (hn : ∀ y, y ∈ nx ↔ OR p o (onsL p o l (p.seen.getD i 0)) y) {l' : List Plc} (hl' : l' ∈ S) (hs : ∀ y, y ∈ l' ↔ y ∈ nx) : SG p o S k (i + 1) := by
  refine ⟨h.first, h.wide, h.good, h.next, fun l2 hl2 e he => ?_⟩
  rw [hl] at hl2; injection hl2 with hl2; subst hl2
  rw [take_snoc p.seen 0 i hi] at he
  rcases List.mem_append.1 he with he | he
  · exact h.part l hl e he
  · rw [List.mem_singleton.1 he]
    exact ⟨l', hl', fun y => (hs y).trans (hn y)⟩
theorem SG.add (h : SG p o S k i) (hm : p.m.May) (hi : i < p.seen.length) (hk : k < S.length) {l nx : List Plc} (hl : S[k]? = some l) (hn : ∀ y, y ∈ nx ↔ OR p o (onsL p o l (p.seen.getD i 0)) y) (hg : GoodC p o nx) : SG p o (S ++ [nx]) k (i + 1) := by
  have up : ∀ {P : List Plc → Prop}, (∃ l' ∈ S, P l') → ∃ l' ∈ S ++ [nx], P l' := fun ⟨l', h1, h2⟩ => ⟨l', List.mem_append_left _ h1, h2⟩
  refine ⟨fun s hs => up (h.first s hs), fun l2 hl2 => ?_, fun l2 hl2 => ?_, fun j l2 hj hl2 e he => ?_, fun l2 hl2 e he => ?_⟩
  · rcases List.mem_append.1 hl2 with h2 | h2
    · exact h.wide l2 h2
    · rw [List.mem_singleton.1 h2]
      exact ⟨_, ons_range hm, hn⟩
  · rcases List.mem_append.1 hl2 with h2 | h2
    · exact h.good l2 h2
    · rw [List.mem_singleton.1 h2]; exact hg
  · rw [List.getElem?_append_left (by omega)] at hl2
    exact up (h.next j l2 hj hl2 e he)
  · rw [List.getElem?_append_left hk, hl] at hl2
    injection hl2 with hl2; subst hl2
    rw [take_snoc p.seen 0 i hi] at he
    rcases List.mem_append.1 he with he | he
    · exact up (h.part l hl e he)
    · rw [List.mem_singleton.1 he]
      exact ⟨nx, by simp, hn⟩
theorem SG.done (h : SG p o S S.length 0) : SetsOk p o S := ⟨h.wide, h.first, fun l hl e he => by
  obtain ⟨j, hj⟩ := List.mem_iff_getElem?.1 hl
  exact h.next j l (List.getElem?_eq_some_iff.1 hj).1 hj e he⟩
end
structure SE where
  A : Option Addr
  c : Nat
  ps : List Pt5
def SE.cells (x : SE) : List Value := [.slice x.A x.ps.length x.c]
theorem seEnc : Enc SE.cells 1 := ⟨fun _ => rfl, fun h u hu => by
  unfold SE.cells at hu
  rw [List.mem_singleton.1 hu]; rfl⟩
theorem SE.ld {K : Fr → World → Prop} {u : World} {f : Fr} {d : Option Nat} {w : World} {ty i : Nat} {ok : Nat → Prop} {A : Option Addr} {l : List SE} {x : SE} (h : Recs SE.cells 1 ok u A l) (ht : tyAgg Tryd.prog ty = some false) (hi : l[i]? = some x) :
    Val1 Tryd.prog K (Instr.loadAt ty (.pointer (some (eA A i)))) u f d w = K (updO f d (.slice x.A x.ps.length x.c)) w := by
  have := Recs.ld0 (P := Tryd.prog) (K := K) (f := f) (d := d) (w := w) h ht hi (v := .slice x.A x.ps.length x.c) rfl
  rwa [Nat.mul_one] at this
def SE.abs (x : SE) : List Plc := x.ps.map Pt5.abs
abbrev esJ : List Nat := [3, 126]
structure SeAt (B : Nat) (w : World) (x : SE) : Prop where
  recs : Recs Pt5.cells 2 (TyB esJ B w) w x.A x.ps
  row : ∀ y ∈ x.ps, Ints (TyB esJ B w) w y.R y.s ∧ y.s.length ≤ 256
theorem SeAt.keep {B : Nat} {w w' : World} {x : SE} (h : SeAt B w x) (k : KeepT esJ B w w') : SeAt B w' x := ⟨h.recs.keepT k, fun y hy => ⟨(h.row y hy).1.keepT k, (h.row y hy).2⟩⟩
theorem PtAt.j {B : Nat} {w : World} {x : Pt5} (h : PtAt B w x) : Ints (TyB esJ B w) w x.R x.s := h.r.mono fun b hb => ⟨hb.1, hb.2.imp id fun ⟨e, he, r⟩ => ⟨e, by
  rw [List.mem_singleton.1 he]; simp, r⟩⟩
theorem SeAt.of {B B' c : Nat} {w : World} {L : Option Addr} {ps : List Pt5} (h : OwnR Pt5.cells B' 126 2 w L c ps) (hg : ∀ x ∈ ps, PtAt B w x) : SeAt B w ⟨L, c, ps⟩ := ⟨OwnR.tyb h ptEnc (by decide) (by decide), fun y hy => ⟨(hg y hy).j, (hg y hy).n⟩⟩
def SetsR15 (p : Plt) (o : Mach) (w : World) (v : Value) (w' : World) : Prop := Below w.heap.size w w' ∧
  (v = .tuple #[.slice none 0 0, .bool false] ∨ ∃ (R : List SE) (L : Option Addr) (c : Nat), v = .tuple #[.slice L R.length c, .bool true] ∧ R.length ≤ 700 ∧ Recs SE.cells 1 (· < w'.heap.size) w' L R ∧ (∀ x ∈ R, SeAt w.heap.size w' x ∧ x.ps.length ≤ 384) ∧ SetsOk p o (R.map SE.abs))
set_option maxHeartbeats 4000000 in
theorem ref15_sets {w : World} {a : PV} {p : Plt} (ha : IsP (· < w.heap.size) w a p) (hf : p.Fits) (pm : p.May) {s0 : Int} (hst : p.m.starts = [s0])
    {ov : MV} {o : Mach} (ho : IsM (· < w.heap.size) w ov o) (fo : o.Fits) (om : o.May) (o6 : o.states ≤ 6) :
    Cal Tryd.prog 81 [a.val p, ov.val o] w (SetsR15 p o w) := by
  have hm := pm.1
  have h6 := pm.2.1
  have ev0 := hm.2.2.1
  have ev8 := hm.2.2.2.1
  have n8 : p.seen.length ≤ 8 := by have := row_lenV pm.2.2.1; omega
  have hs0r := row_range (may_starts hm) s0 (by rw [hst]; simp)
  have oS := may_starts om
  have noS := row_lenV oS
  refine cal_ref15_sets (by simp) 1000000 fun Q hQ => ?_
  simp (disch := first | with_reducible assumption | omega) only [push_cast, x_blk, x_cd, ↓reduceIte, Nat.reduceEqDiff, List.map_cons, List.map_nil, Int.reduceEq, Int.lt_irrefl, F_ref15_sets]
  refine blk_of (box_agg _ (a.cells p)) ?_
  intro w1 kP b1 z1
  simp (disch := first | with_reducible assumption | omega) only [push_cast, x_blk, x_cd, ↓reduceIte, Nat.reduceEqDiff, List.map_cons, List.map_nil, Int.reduceEq, Int.lt_irrefl]
  refine blk_of (box_agg _ (ov.cells o)) ?_
  intro w2 kO b2 z2
  replace kP := kP.below b2 kP.lt
  have bb2 := b1.trans (b2.mono b1.size)
  have bd : Below w2.heap.size w2 w2.drew := (Same.refl w2).drew.below _
  have bb3 := bb2.trans (bd.mono bb2.size)
  replace kP := kP.below bd kP.lt
  replace kO := kO.below bd kO.lt
  have lP := kP.lt
  have lO := kO.lt
  generalize hu3 : w2.drew = u3 at *
  have hI := (ha.up bb3).m.starts
  have sA := hI.isSome (by rw [hst]; simp)
  have hld := fun {K : Fr → World → Prop} {f : Fr} {d : Option Nat} {w : World} => hI.ld (P := Tryd.prog) (K := K) (f := f) (d := d) (w := w) ty_ag_3 0 (by rw [hst]; simp)
  have hg0 : p.m.starts.getD 0 0 = s0 := by rw [hst]; rfl
  rw [hg0] at hld
  have h01 : (0 : Int) < (p.m.starts.length : Int) := by rw [hst]; simp
  have oA := own_rec ptEnc u3 (⟨s0, ov.As, ov.cs, o.starts⟩ : Pt5) 126
  have bA : Below u3.heap.size u3 (u3.alloc (.cells (Pt5.cells ⟨s0, ov.As, ov.cs, o.starts⟩).toArray 126)) := (Below.refl _ _).alloc (Nat.le_refl _) _
  simp (disch := first | with_reducible assumption | omega) only [push_cast, x_blk, x_cd, ↓reduceIte, Nat.reduceEqDiff, List.map_cons, List.map_nil, Int.reduceEq, Int.lt_irrefl, hu3, kP.pA', kO.mA ty_ag_25 ty_sz_25, kP.p2, sA, h01, Int.le_refl, Int.toNat_zero, hld, kO.m2 ty_ag_22, bl_pt ⟨s0, ov.As, ov.cs, o.starts⟩, bs_rec ptEnc slT_124 _ (by decide)]
  refine ⟨bA, ?_⟩
  generalize u3.alloc (.cells (Pt5.cells ⟨s0, ov.As, ov.cs, o.starts⟩).toArray 126) = w4 at *
  have bb4 := bb3.trans (bA.mono bb3.size)
  have hz3 := bb3.size
  have g1 : GoodC p o (([⟨s0, ov.As, ov.cs, o.starts⟩] : List Pt5).map Pt5.abs) := ⟨by simp, fun x hx => by
    rw [List.mem_singleton.1 hx]; exact ⟨hs0r, oS⟩⟩
  refine call_of (ref15_wide (B := u3.heap.size) (B2 := w.heap.size) bA.size hz3 ((ha.below bb4).mono fun b hb => (Nat.lt_of_lt_of_le hb hz3 : b < u3.heap.size)) hf pm ((ho.below bb4).mono fun b hb => (Nat.lt_of_lt_of_le hb hz3 : b < u3.heap.size)) fo om o6 oA (fun x hx => by
    rw [List.mem_singleton.1 hx]
    exact ⟨Ints.of_arg (ho.below bb4).starts bb4.size, by have := om.2.1; show o.starts.length ≤ 256; omega⟩) g1) ?_
  rintro v w5 ⟨ps, L5, c5, rfl, habs, hl5, hg5, b5⟩
  simp (disch := first | with_reducible assumption | omega) only [push_cast, x_blk, x_cd, ↓reduceIte, Nat.reduceEqDiff, List.map_cons, List.map_nil, Int.reduceEq, Int.lt_irrefl]
  refine ⟨bA.trans b5, ?_⟩
  have gW := GoodC.iter (p := p) hm om g1
  have gps : GoodC p o (ps.map Pt5.abs) := by rw [habs]; exact gW _
  have nps : ps.length ≤ 384 := by have := gps.len h6 o6; rwa [List.length_map] at this
  have hor := oIter_done (p := p) (o := o) ev0 (l0 := ([⟨s0, ov.As, ov.cs, o.starts⟩] : List Pt5).map Pt5.abs) (l := ps.map Pt5.abs) (by rw [List.length_map]; exact habs)
  have sg0 : SG p o ([(⟨L5, c5, ps⟩ : SE)].map SE.abs) 0 0 := by
    refine ⟨fun s hs => ⟨_, List.mem_singleton.2 rfl, fun y => ?_⟩, fun l hl => ?_, fun l hl => ?_, fun j l hj => absurd hj (by omega), fun l _ e he => by simp at he⟩
    · have : s = s0 := by rw [hst] at hs; injection hs with hs; exact hs.symm
      subst this; exact hor y
    · rw [List.mem_singleton.1 hl]
      exact ⟨_, fun x hx => by rw [List.mem_singleton.1 hx]; exact hs0r, hor⟩
    · rw [List.mem_singleton.1 hl]; exact gps
  have bb5 := bb4.trans (b5.mono hz3)
  have kP5 := kP.below (bA.trans b5) kP.lt
  have kO5 := kO.below (bA.trans b5) kO.lt
  have sq5 : SeAt w.heap.size w5 ⟨L5, c5, ps⟩ := SeAt.of hl5 hg5
  have oB := own_rec seEnc w5 (⟨L5, c5, ps⟩ : SE) 124
  have bB : Below w5.heap.size w5 (w5.alloc (.cells (SE.cells ⟨L5, c5, ps⟩).toArray 124)) := (Below.refl _ _).alloc (Nat.le_refl _) _
  have bb6 := bb5.trans (bB.mono bb5.size)
  have kP6 := kP5.below bB kP5.lt
  have kO6 := kO5.below bB kO5.lt
  have sq6 := sq5.keep (.below bB)
  refine loop_rule (fun f w' => ∃ (k : Nat) (R : List SE) (L : Option Addr) (c : Nat), k ≤ R.length ∧ (f 2 = .pointer (some ⟨w.heap.size, 0, none⟩) ∧ f 3 = .pointer (some ⟨w1.heap.size, 0, none⟩) ∧ f 7 = .slice L R.length c ∧ f 8 = .int .i64 k) ∧ R.length ≤ 608 ∧ SG p o (R.map SE.abs) k 0 ∧
      OwnR SE.cells w.heap.size 124 1 w' L c R ∧ (∀ x ∈ R, SeAt w.heap.size w' x ∧ x.ps.length ≤ 384) ∧ Blk w' w.heap.size 43 (a.cells p) ∧ Blk w' w1.heap.size 25 (ov.cells o) ∧ Below w.heap.size w w')
    (fun f _ => 700 - (intOf (f 8)).toNat) ⟨0, [⟨L5, c5, ps⟩], _, _, Nat.zero_le _, ⟨rfl, rfl, rfl, rfl⟩, by simp, sg0, oB.base bb5.size, fun x hx => by rw [List.mem_singleton.1 hx]; exact ⟨sq6, nps⟩, kP6, kO6, bb6⟩ ?_
  clear kP6 kO6 bb6 sq6 bB oB sq5 kO5 kP5 bb5 sg0 hor nps gps gW g1 hl5 hg5 b5 habs bb4 bA oA hld hI sA bb3 bd kP kO lP lO hz3 hu3 hg0 h01 bb2
  rintro f w3 ⟨k, R, L, c, hk, fr, hR608, sg, hl, hg, kP, kO, bb⟩ J hJ
  have hmu : (intOf (f 8)).toNat = k := by rw [fr.2.2.2]; simp [intOf]
  by_cases hlt : k < R.length
  case neg =>
    obtain rfl : k = R.length := by omega
    simp (disch := first | with_reducible assumption | omega) only [push_cast, x_blk, x_cd, ↓reduceIte, Nat.reduceEqDiff, List.map_cons, List.map_nil, Int.reduceEq, Int.lt_irrefl, L_ref15_sets_3, fr, Nat.lt_irrefl]
    exact fin_2 (hQ _ _ ⟨bb, .inr ⟨R, L, c, (by simp only [push_cast, ↓reduceIte, Nat.reduceEqDiff, Int.reduceEq, fr]), by omega, Recs.lt seEnc (by decide) (OwnR.recs hl seEnc (by decide)), hg, SG.done (by rw [List.length_map]; exact sg)⟩⟩)
  by_cases hgt : (600 : Int) < (R.length : Int)
  case pos =>
    simp (disch := first | with_reducible assumption | omega) only [push_cast, x_blk, x_cd, ↓reduceIte, Nat.reduceEqDiff, List.map_cons, List.map_nil, Int.reduceEq, Int.lt_irrefl, L_ref15_sets_3, fr, hlt, hgt]
    exact fin_2 (hQ _ _ ⟨bb, .inl (by simp only [push_cast, ↓reduceIte, Nat.reduceEqDiff, Int.reduceEq])⟩)
  simp (disch := first | with_reducible assumption | omega) only [push_cast, x_blk, x_cd, ↓reduceIte, Nat.reduceEqDiff, List.map_cons, List.map_nil, Int.reduceEq, Int.lt_irrefl, L_ref15_sets_3, fr, hlt, hgt]
  refine loop_rule (fun f' w' => ∃ (i : Nat) (R : List SE) (L : Option Addr) (c : Nat), i ≤ p.seen.length ∧ (f' 2 = .pointer (some ⟨w.heap.size, 0, none⟩) ∧ f' 3 = .pointer (some ⟨w1.heap.size, 0, none⟩) ∧ f' 7 = .slice L R.length c ∧ f' 8 = .int .i64 k ∧ f' 9 = .int .i64 i) ∧ k < R.length ∧ R.length ≤ 600 + i ∧ SG p o (R.map SE.abs) k i ∧
      OwnR SE.cells w.heap.size 124 1 w' L c R ∧ (∀ x ∈ R, SeAt w.heap.size w' x ∧ x.ps.length ≤ 384) ∧ Blk w' w.heap.size 43 (a.cells p) ∧ Blk w' w1.heap.size 25 (ov.cells o) ∧ Below w.heap.size w w')
    (fun f' _ => p.seen.length - (intOf (f' 9)).toNat) ⟨0, R, L, c, Nat.zero_le _, (by simp only [push_cast, ↓reduceIte, Nat.reduceEqDiff, true_and, and_true, and_self, eq_self, fr, fr]), hlt, by omega, sg, hl, hg, kP, kO, bb⟩ ?_
  clear hl hg kP kO bb sg fr hlt hgt hk hR608
  clear R L c
  rintro f w4 ⟨i, R, L, c, hi, fr, hlt, hR6, sg, hl, hg, kP, kO, bb⟩ J2 hJ2
  have hmu2 : (intOf (f 9)).toNat = i := by rw [fr.2.2.2.2]; simp [intOf]
  by_cases hil : i < p.seen.length
  case neg =>
    obtain rfl : i = p.seen.length := by omega
    simp (disch := first | with_reducible assumption | omega) only [push_cast, x_blk, x_cd, ↓reduceIte, Nat.reduceEqDiff, List.map_cons, List.map_nil, Int.reduceEq, Int.lt_irrefl, L_ref15_sets_2, fr, kP.p5, Nat.lt_irrefl]
    exact hJ _ _ ⟨k + 1, R, L, c, hlt, (by simp only [push_cast, ↓reduceIte, Nat.reduceEqDiff, true_and, and_true, and_self, eq_self, fr]), by omega, sg.nextK, hl, hg, kP, kO, bb⟩ (by rw [hmu]; simp only [push_cast, ↓reduceIte, Nat.reduceEqDiff, intOf, fr]; omega)
  have hzB := bb.size
  have hxk : R[k]? = some (R[k]'hlt) := List.getElem?_eq_getElem hlt
  have hxm : R[k]'hlt ∈ R := List.getElem_mem hlt
  generalize R[k]'hlt = x at hxk hxm
  have hRw := Recs.lt seEnc (by decide) (OwnR.recs hl seEnc (by decide))
  have xq := (hg x hxm).1
  have xn := (hg x hxm).2
  have hxabs : (R.map SE.abs)[k]? = some x.abs := by rw [List.getElem?_map, hxk]; rfl
  have gx : GoodC p o x.abs := sg.good _ (List.mem_map.2 ⟨x, hxm, rfl⟩)
  obtain ⟨e, he⟩ : ∃ e : Int, e = p.seen.getD i 0 := ⟨_, rfl⟩
  simp (disch := first | with_reducible assumption | omega) only [push_cast, x_blk, x_cd, ↓reduceIte, Nat.reduceEqDiff, List.map_cons, List.map_nil, Int.reduceEq, Int.lt_irrefl, L_ref15_sets_2, fr, kP.p5, hil]
  refine loop_rule (fun f' w' => ∃ (n : Nat) (ps : List Pt5) (L' : Option Addr) (c' : Nat), n ≤ x.ps.length ∧ (f' 2 = .pointer (some ⟨w.heap.size, 0, none⟩) ∧ f' 3 = .pointer (some ⟨w1.heap.size, 0, none⟩) ∧ f' 7 = .slice L R.length c ∧ f' 8 = .int .i64 k ∧ f' 9 = .int .i64 i ∧ f' 10 = .slice L' ps.length c' ∧ f' 11 = .int .i64 n) ∧
      ps.map Pt5.abs = nUpto p o x.abs e n ∧ OwnR Pt5.cells w4.heap.size 126 2 w' L' c' ps ∧ (∀ y ∈ ps, PtAt w.heap.size w' y) ∧ Below w4.heap.size w4 w')
    (fun f' _ => x.ps.length - (intOf (f' 11)).toNat) ⟨0, [], none, 0, Nat.zero_le _, (by simp only [push_cast, ↓reduceIte, Nat.reduceEqDiff, true_and, and_true, and_self, eq_self, fr, fr, List.length_nil]), rfl, Own.nil _ _ _ _, fun y hy => absurd hy (by simp), Below.refl _ _⟩ ?_
  rintro f w5 ⟨n, ps, L', c', hn, fr, habs, hps, hpg, b5⟩ J3 hJ3
  have hmu3 : (intOf (f 11)).toNat = n := by rw [fr.2.2.2.2.2.2]; simp [intOf]
  have bb5 := bb.trans (b5.mono hzB)
  have kP5 := kP.below b5 kP.lt
  have kO5 := kO.below b5 kO.lt
  have hR5 := hRw.below b5
  have sL := hR5.isSome (by omega)
  have l0 := fun {K : Fr → World → Prop} {f : Fr} {d : Option Nat} {w' : World} => SE.ld (K := K) (f := f) (d := d) (w := w') hR5 ty_ag_124 hxk
  have hzB5 := bb5.size
  have hpl : ps.length = (nUpto p o x.abs e n).length := by rw [← habs, List.length_map]
  have hp384 := (nUpto_good (p := p) (o := o) hm om x.abs e n).len h6 o6
  by_cases hnl : n < x.ps.length
  case neg =>
    obtain rfl : n = x.ps.length := by omega
    have gN := nUpto_good (p := p) (o := o) hm om x.abs e x.ps.length
    rw [← habs] at gN
    simp (disch := first | with_reducible assumption | omega) only [push_cast, x_blk, x_cd, ↓reduceIte, Nat.reduceEqDiff, List.map_cons, List.map_nil, Int.reduceEq, Int.lt_irrefl, L_ref15_sets_1, fr, hlt, sL, l0, Nat.lt_irrefl, kP5.pA', kO5.mA ty_ag_25 ty_sz_25]
    refine call_of (ref15_wide (B := w4.heap.size) (B2 := w.heap.size) b5.size hzB ((ha.below bb5).mono fun b hb => (Nat.lt_of_lt_of_le hb hzB : b < w4.heap.size)) hf pm ((ho.below bb5).mono fun b hb => (Nat.lt_of_lt_of_le hb hzB : b < w4.heap.size)) fo om o6 hps hpg gN) ?_
    rintro v w6 ⟨qs, L6, c6, rfl, habs6, hl6, hg6, b6⟩
    have b46 := b5.trans b6
    have bb6 := bb.trans (b46.mono hzB)
    have gQ := gN.iter hm om qs.length
    rw [← habs6] at gQ
    have nq : qs.length ≤ 384 := by have := gQ.len h6 o6; rwa [List.length_map] at this
    have hor := oIter_done (p := p) (o := o) ev0 (l0 := ps.map Pt5.abs) (l := qs.map Pt5.abs) (by rw [List.length_map]; exact habs6)
    have hnx : ∀ y, y ∈ qs.map Pt5.abs ↔ OR p o (onsL p o x.abs (p.seen.getD i 0)) y := fun y => (hor y).trans (by
      rw [habs, ← he]
      exact OR.congr fun z => by rw [show x.ps.length = x.abs.length by simp [SE.abs]]; exact nUpto_mem)
    have sQ : SeAt w.heap.size w6 ⟨L6, c6, qs⟩ := SeAt.of hl6 hg6
    have hz46 := b46.size
    simp (disch := first | with_reducible assumption | omega) only [push_cast, x_blk, x_cd, ↓reduceIte, Nat.reduceEqDiff, List.map_cons, List.map_nil, Int.reduceEq, Int.lt_irrefl]
    refine loop_rule (fun f' w' => ∃ (n : Nat) (kn : Bool), n ≤ R.length ∧ (f' 2 = .pointer (some ⟨w.heap.size, 0, none⟩) ∧ f' 3 = .pointer (some ⟨w1.heap.size, 0, none⟩) ∧ f' 7 = .slice L R.length c ∧ f' 8 = .int .i64 k ∧ f' 9 = .int .i64 i ∧ f' 10 = .slice L6 qs.length c6 ∧ f' 14 = .bool kn ∧ f' 15 = .int .i64 n) ∧
        (kn = true → ∃ x ∈ R, SameC x.abs (qs.map Pt5.abs)) ∧ Below w6.heap.size w6 w')
      (fun f' _ => R.length - (intOf (f' 15)).toNat) ⟨0, false, Nat.zero_le _, (by simp only [push_cast, ↓reduceIte, Nat.reduceEqDiff, true_and, and_true, and_self, eq_self, fr, fr]), fun h => by (cases h), Below.refl _ _⟩ ?_
    clear fr hmu3 hJ3 J3 l0 sL
    rintro f w7 ⟨n, kn, hn, fr, hkn, b7⟩ J4 hJ4
    have hmu4 : (intOf (f 15)).toNat = n := by rw [fr.2.2.2.2.2.2.2]; simp [intOf]
    have b47 := b46.trans (b7.mono hz46)
    have bb7 := bb.trans (b47.mono hzB)
    have kP7 := kP.below b47 kP.lt
    have kO7 := kO.below b47 kO.lt
    have hl7 := hl.below b47 (Nat.le_refl _)
    have hg7 : ∀ x ∈ R, SeAt w.heap.size w7 x ∧ x.ps.length ≤ 384 := fun x hx => ⟨(hg x hx).1.keep (.below b47), (hg x hx).2⟩
    have sQ7 := sQ.keep (.below b7)
    have hz7 := bb7.size
    cases kn with
    | true =>
      obtain ⟨z, hzR, hsm⟩ := hkn rfl
      have hzS : z.abs ∈ R.map SE.abs := List.mem_map.2 ⟨z, hzR, rfl⟩
      have sgk := sg.known hil hxabs hnx hzS (same_mem hsm (sg.good _ hzS).nodup gQ.nodup)
      by_cases hnl : n < R.length
      · simp (disch := first | with_reducible assumption | omega) only [push_cast, x_blk, x_cd, ↓reduceIte, Nat.reduceEqDiff, List.map_cons, List.map_nil, Int.reduceEq, Int.lt_irrefl, L_ref15_sets_0, fr, hnl]
        exact hJ2 _ _ ⟨i + 1, R, L, c, hil, (by simp only [push_cast, ↓reduceIte, Nat.reduceEqDiff, true_and, and_true, and_self, eq_self, fr]), hlt, by omega, sgk, hl7, hg7, kP7, kO7, bb7⟩ (by rw [hmu2]; simp only [push_cast, ↓reduceIte, Nat.reduceEqDiff, intOf, fr]; omega)
      · simp (disch := first | with_reducible assumption | omega) only [push_cast, x_blk, x_cd, ↓reduceIte, Nat.reduceEqDiff, List.map_cons, List.map_nil, Int.reduceEq, Int.lt_irrefl, L_ref15_sets_0, fr, hnl]
        exact hJ2 _ _ ⟨i + 1, R, L, c, hil, (by simp only [push_cast, ↓reduceIte, Nat.reduceEqDiff, true_and, and_true, and_self, eq_self, fr]), hlt, by omega, sgk, hl7, hg7, kP7, kO7, bb7⟩ (by rw [hmu2]; simp only [push_cast, ↓reduceIte, Nat.reduceEqDiff, intOf, fr]; omega)
    | false =>
      by_cases hnl : n < R.length
      case neg =>
        simp (disch := first | with_reducible assumption | omega) only [push_cast, x_blk, x_cd, ↓reduceIte, Nat.reduceEqDiff, List.map_cons, List.map_nil, Int.reduceEq, Int.lt_irrefl, L_ref15_sets_0, fr, hnl, bs_120]
        refine app_rec seEnc slT_120 hl7 ⟨L6, c6, qs⟩ (by omega) (by omega) (by omega) ?_
        intro A15 c15 w15 oR g15 hA15 hs15 z15
        have kt := KeepT.grew (es := esJ) hl7 (Nat.le_refl _) (by decide) g15
        have sga := sg.add hm hil (by rw [List.length_map]; exact hlt) hxabs hnx gQ
        simp (disch := first | with_reducible assumption | omega) only [push_cast, x_blk, x_cd, ↓reduceIte, Nat.reduceEqDiff, List.map_cons, List.map_nil, Int.reduceEq, Int.lt_irrefl, fr]
        refine hJ2 _ _ ⟨i + 1, R ++ [⟨L6, c6, qs⟩], A15, c15, hil, (by simp only [push_cast, ↓reduceIte, Nat.reduceEqDiff, true_and, and_true, and_self, eq_self, fr, List.length_append, List.length_cons, List.length_nil]), by rw [List.length_append]; omega, by rw [List.length_append, List.length_singleton]; omega, by rw [List.map_append]; exact sga, oR, fun r hr => ?_, kP7.grown g15.by_ (hl7.ne_blk kP7 (by decide)).symm, kO7.grown g15.by_ (hl7.ne_blk kO7 (by decide)).symm, g15.below bb7 (by omega) hl7.geB⟩ (by rw [hmu2]; simp only [push_cast, ↓reduceIte, Nat.reduceEqDiff, intOf, fr]; omega)
        rcases List.mem_append.1 hr with hr | hr
        · exact ⟨(hg7 r hr).1.keep kt, (hg7 r hr).2⟩
        · rw [List.mem_singleton.1 hr]; exact ⟨sQ7.keep kt, nq⟩
      have hzk : R[n]? = some (R[n]'hnl) := List.getElem?_eq_getElem hnl
      have hzm : R[n]'hnl ∈ R := List.getElem_mem hnl
      generalize R[n]'hnl = z at hzk hzm
      have hR7 := hRw.below b47
      have sL7 := hR7.isSome (by omega)
      have l07 := fun {K : Fr → World → Prop} {f : Fr} {d : Option Nat} {w' : World} => SE.ld (K := K) (f := f) (d := d) (w := w') hR7 ty_ag_124 hzk
      have zq := (hg7 z hzm)
      simp (disch := first | with_reducible assumption | omega) only [push_cast, x_blk, x_cd, ↓reduceIte, Nat.reduceEqDiff, List.map_cons, List.map_nil, Int.reduceEq, Int.lt_irrefl, L_ref15_sets_0, fr, hnl, sL7, l07]
      refine call_of (ref15_same (ps := z.ps) (qs := qs) zq.1.recs.tlt (by omega) (fun r hr => ⟨(zq.1.row r hr).1.tlt, (zq.1.row r hr).2⟩) sQ7.recs.tlt (by omega) (fun r hr => ⟨(sQ7.row r hr).1.tlt, (sQ7.row r hr).2⟩)) ?_
      rintro v w8 ⟨rfl, b8⟩
      simp (disch := first | with_reducible assumption | omega) only [push_cast, x_blk, x_cd, ↓reduceIte, Nat.reduceEqDiff, List.map_cons, List.map_nil, Int.reduceEq, Int.lt_irrefl, fr]
      exact hJ4 _ _ ⟨n + 1, decide (SameC (z.ps.map Pt5.abs) (qs.map Pt5.abs)), hnl, (by simp only [push_cast, ↓reduceIte, Nat.reduceEqDiff, true_and, and_true, and_self, eq_self, fr]), fun h => ⟨z, hzm, of_decide_eq_true h⟩, b7.trans (b8.mono b7.size)⟩ (by rw [hmu4]; simp only [push_cast, ↓reduceIte, Nat.reduceEqDiff, intOf, fr]; omega)
  have hyk : x.ps[n]? = some (x.ps[n]'hnl) := List.getElem?_eq_getElem hnl
  have hym : x.ps[n]'hnl ∈ x.ps := List.getElem_mem hnl
  generalize x.ps[n]'hnl = y at hyk hym
  have hya : x.abs[n]? = some y.abs := by show (x.ps.map Pt5.abs)[n]? = _; rw [List.getElem?_map, hyk]; rfl
  have hsucc := nUpto_succ (p := p) (o := o) (e := e) hya
  have bd : Below w5.heap.size w5 w5.drew := (Same.refl w5).drew.below _
  have b8 := b5.trans (bd.mono b5.size)
  have bb8 := bb.trans (b8.mono hzB)
  have kP8 := kP.below b8 kP.lt
  have kO8 := kO.below b8 kO.lt
  have hR8 := hRw.below b8
  have hps8 := hps.below bd (Nat.le_refl _)
  have hpg8 : ∀ y ∈ ps, PtAt w.heap.size w5.drew y := fun y hy => (hpg y hy).keep (.below bd)
  have xq8 := (xq.keep (.below b8))
  generalize hu8 : w5.drew = u8 at *
  have sL8 := hR8.isSome (by omega)
  have l08 := fun {K : Fr → World → Prop} {f : Fr} {d : Option Nat} {w' : World} => SE.ld (K := K) (f := f) (d := d) (w := w') hR8 ty_ag_124 hxk
  have sX8 := xq8.recs.isSome (by omega)
  have ly := fun {K : Fr → World → Prop} {f : Fr} {d : Option Nat} {w' : World} => xq8.recs.ldAll (P := Tryd.prog) (K := K) (f := f) (d := d) (w := w') ptEnc ty_ag_126 hyk ty_sz_126
  have hI8 := (ha.up bb8).seen
  have sI8 := hI8.isSome (by omega)
  have lI8 := fun {K : Fr → World → Prop} {f : Fr} {d : Option Nat} {w' : World} => hI8.ld (P := Tryd.prog) (K := K) (f := f) (d := d) (w := w') ty_ag_3 i hil
  have hon8 := fun (W : World) (bW : Below u8.heap.size u8 W) => ref15_on ((ha.up bb8).up bW) hf hm ((ho.up bb8).up bW) fo om (((xq8.row y hym).1.tlt).up bW) (xq8.row y hym).2 e
  obtain ⟨Bz, hBze⟩ : ∃ b : Nat, b = w.heap.size := ⟨_, rfl⟩
  have hzB8 := bb8.size
  have hBz : Bz ≤ u8.heap.size := by omega
  rw [← he] at lI8
  simp (disch := first | with_reducible assumption | omega) only [push_cast, x_blk, x_cd, ↓reduceIte, Nat.reduceEqDiff, List.map_cons, List.map_nil, Int.reduceEq, Int.lt_irrefl, L_ref15_sets_1, fr, hlt, hnl, sL, l0, hu8, kP8.pA', kO8.mA ty_ag_25 ty_sz_25, sL8, l08, sX8, ly, kP8.p5, hil, sI8, lI8]
  refine cutT (fun f' w' => ∃ (g : Nat) (z : Pt5) (b : Bool), (f' 2 = .pointer (some ⟨w.heap.size, 0, none⟩) ∧ f' 3 = .pointer (some ⟨w1.heap.size, 0, none⟩) ∧ f' 7 = .slice L R.length c ∧ f' 8 = .int .i64 k ∧ f' 9 = .int .i64 i ∧ f' 10 = .slice L' ps.length c' ∧ f' 11 = .int .i64 n ∧ f' 12 = .pointer (some ⟨g, 0, none⟩) ∧ f' 13 = .bool b) ∧ Blk w' g 126 z.cells ∧ OnZ (onP p o y.abs e) Bz w' z b ∧ u8.heap.size ≤ g ∧ Below u8.heap.size u8 w') 20000 40000 (by decide) ?_ ?_
  · intro E hE
    rw [x_t_two]
    refine ⟨?_, ?_⟩
    · simp (disch := first | with_reducible assumption | omega) only [push_cast, x_blk, x_cd, ↓reduceIte, Nat.reduceEqDiff, List.map_cons, List.map_nil, Int.reduceEq, Int.lt_irrefl, fr]
      refine call_of (hon8 u8 (Below.refl _ _)) ?_
      rintro v w9 ⟨hmo, b9⟩
      obtain ⟨z, b, rfl, hz⟩ := hmo.split Bz om
      simp (disch := first | with_reducible assumption | omega) only [push_cast, x_blk, x_cd, ↓reduceIte, Nat.reduceEqDiff, List.map_cons, List.map_nil, Int.reduceEq, Int.lt_irrefl, fr]
      refine ⟨b9, ?_⟩
      refine blk_of (cs := Pt5.cells ⟨0, none, 0, []⟩) al_126 ?_
      intro w10 k10 b10 z10
      have b810 := b9.trans (b10.mono b9.size)
      simp (disch := first | with_reducible assumption | omega) only [push_cast, x_blk, x_cd, ↓reduceIte, Nat.reduceEqDiff, List.map_cons, List.map_nil, Int.reduceEq, Int.lt_irrefl, fr]
      refine ⟨b810, ?_⟩
      refine sto_blk k10 (cs := z.cells) (e2_pt z) rfl (pt_one z) ?_
      intro w11 k11 g11 z11
      have b811 := g11.below b810 b810.size (by intro a ha; injection ha with ha; subst ha; exact b9.size)
      have hz11 := (hz.keep (.below b10)).keep (KeepT.grewB k10 (Nat.le_trans hBz b9.size) (by decide) g11)
      simp (disch := first | with_reducible assumption | omega) only [push_cast, x_blk, x_cd, ↓reduceIte, Nat.reduceEqDiff, List.map_cons, List.map_nil, Int.reduceEq, Int.lt_irrefl, fr]
      refine ⟨b811, ?_⟩
      first | exact hE _ _ ⟨_, z, b, (by simp only [push_cast, ↓reduceIte, Nat.reduceEqDiff, true_and, and_true, and_self, eq_self, fr]), k11, hz11, b9.size, b811⟩ | (simp (disch := first | with_reducible assumption | omega) only [push_cast, x_blk, x_cd, ↓reduceIte, Nat.reduceEqDiff, List.map_cons, List.map_nil, Int.reduceEq, Int.lt_irrefl, fr]; exact hE _ _ ⟨_, z, b, (by simp only [push_cast, ↓reduceIte, Nat.reduceEqDiff, true_and, and_true, and_self, eq_self, fr]), k11, hz11, b9.size, b811⟩)
    · simp (disch := first | with_reducible assumption | omega) only [push_cast, x_blk, x_cd, ↓reduceIte, Nat.reduceEqDiff, List.map_cons, List.map_nil, Int.reduceEq, Int.lt_irrefl, fr]
      refine blk_of (cs := Pt5.cells ⟨0, none, 0, []⟩) al_126 ?_
      intro w10 k10 b10 z10
      simp (disch := first | with_reducible assumption | omega) only [push_cast, x_blk, x_cd, ↓reduceIte, Nat.reduceEqDiff, List.map_cons, List.map_nil, Int.reduceEq, Int.lt_irrefl, fr]
      refine ⟨b10, ?_⟩
      refine call_of (hon8 w10 b10) ?_
      rintro v w9 ⟨hmo, b9⟩
      obtain ⟨z, b, rfl, hz⟩ := hmo.split Bz om
      have b810 := b10.trans (b9.mono b10.size)
      replace k10 := k10.below b9 k10.lt
      simp (disch := first | with_reducible assumption | omega) only [push_cast, x_blk, x_cd, ↓reduceIte, Nat.reduceEqDiff, List.map_cons, List.map_nil, Int.reduceEq, Int.lt_irrefl, fr]
      refine ⟨b810, ?_⟩
      refine sto_blk k10 (cs := z.cells) (e2_pt z) rfl (pt_one z) ?_
      intro w11 k11 g11 z11
      have b811 := g11.below b810 b810.size (by intro a ha; injection ha with ha; subst ha; exact Nat.le_refl _)
      have hz11 := hz.keep (KeepT.grewB k10 hBz (by decide) g11)
      simp (disch := first | with_reducible assumption | omega) only [push_cast, x_blk, x_cd, ↓reduceIte, Nat.reduceEqDiff, List.map_cons, List.map_nil, Int.reduceEq, Int.lt_irrefl, fr]
      refine ⟨b811, ?_⟩
      first | exact hE _ _ ⟨_, z, b, (by simp only [push_cast, ↓reduceIte, Nat.reduceEqDiff, true_and, and_true, and_self, eq_self, fr]), k11, hz11, Nat.le_refl _, b811⟩ | (simp (disch := first | with_reducible assumption | omega) only [push_cast, x_blk, x_cd, ↓reduceIte, Nat.reduceEqDiff, List.map_cons, List.map_nil, Int.reduceEq, Int.lt_irrefl, fr]; exact hE _ _ ⟨_, z, b, (by simp only [push_cast, ↓reduceIte, Nat.reduceEqDiff, true_and, and_true, and_self, eq_self, fr]), k11, hz11, Nat.le_refl _, b811⟩)
  clear fr
  rintro f w9 ⟨g, z, b, fr, kZ, hz, hg9, b9⟩
  subst hBze
  have b49 := b8.trans (b9.mono b8.size)
  have hps9 := hps8.below b9 (Nat.le_refl _)
  have hpg9 : ∀ y ∈ ps, PtAt w.heap.size w9 y := fun y hy => (hpg8 y hy).keep (.below b9)
  rcases hz with ⟨rfl, ho1, hz1⟩ | ⟨rfl, ho1⟩
  case inr =>
    rw [ho1] at hsucc
    simp (disch := first | with_reducible assumption | omega) only [push_cast, x_blk, x_cd, ↓reduceIte, Nat.reduceEqDiff, List.map_cons, List.map_nil, Int.reduceEq, Int.lt_irrefl, fr]
    exact hJ3 _ _ ⟨n + 1, ps, L', c', by omega, (by simp only [push_cast, ↓reduceIte, Nat.reduceEqDiff, true_and, and_true, and_self, eq_self, fr]), by rw [hsucc]; exact habs, hps9, hpg9, b49⟩ (by rw [hmu3]; simp only [push_cast, ↓reduceIte, Nat.reduceEqDiff, intOf, fr]; omega)
  rw [ho1] at hsucc
  have hlZ := fun {w' : World} (h : Blk w' g 126 z.cells) {K : Fr → World → Prop} {f : Fr} {d : Option Nat} {w : World} => h.ldAll (P := Tryd.prog) (K := K) (f := f) (d := d) (w := w) ty_ag_126 (e2_pt z)
  simp (disch := first | with_reducible assumption | omega) only [push_cast, x_blk, x_cd, ↓reduceIte, Nat.reduceEqDiff, List.map_cons, List.map_nil, Int.reduceEq, Int.lt_irrefl, fr, hlZ kZ]
  refine call_of (ref15_ats (x := z) (Recs.lt ptEnc (by decide) (OwnR.recs hps9 ptEnc (by decide))) (by omega) (fun q hq => ⟨(hpg9 q hq).lt, (hpg9 q hq).n⟩) hz1.lt) ?_
  rintro v w10 ⟨rfl, b10⟩
  have b410 := b49.trans (b10.mono b49.size)
  replace kZ := kZ.below b10 kZ.lt
  have hps10 := hps9.below b10 (Nat.le_refl _)
  have hpg10 : ∀ y ∈ ps, PtAt w.heap.size w10 y := fun y hy => (hpg9 y hy).keep (.below b10)
  replace hz1 := hz1.keep (.below b10)
  have hzB10 := b410.size
  rw [habs]
  by_cases q2 : z.abs ∈ nUpto p o x.abs e n
  · rw [show putO (nUpto p o x.abs e n) (some z.abs) = nUpto p o x.abs e n from if_pos q2] at hsucc
    simp (disch := first | with_reducible assumption | omega) only [push_cast, x_blk, x_cd, ↓reduceIte, Nat.reduceEqDiff, List.map_cons, List.map_nil, Int.reduceEq, Int.lt_irrefl, decide_eq_true q2, fr]
    exact hJ3 _ _ ⟨n + 1, ps, L', c', by omega, (by simp only [push_cast, ↓reduceIte, Nat.reduceEqDiff, true_and, and_true, and_self, eq_self, fr]), by rw [hsucc]; exact habs, hps10, hpg10, b410⟩ (by rw [hmu3]; simp only [push_cast, ↓reduceIte, Nat.reduceEqDiff, intOf, fr]; omega)
  · rw [show putO (nUpto p o x.abs e n) (some z.abs) = nUpto p o x.abs e n ++ [z.abs] from if_neg q2] at hsucc
    simp (disch := first | with_reducible assumption | omega) only [push_cast, x_blk, x_cd, ↓reduceIte, Nat.reduceEqDiff, List.map_cons, List.map_nil, Int.reduceEq, Int.lt_irrefl, decide_eq_false q2, fr, hlZ kZ, bs_rec ptEnc slT_124 _ (by decide)]
    refine app_rec ptEnc slT_124 hps10 z (by omega) (by omega) (by omega) ?_
    intro A15 c15 w15 oR g15 hA15 hs15 z15
    have kt := KeepT.grew (es := esI) hps10 hzB (by decide) g15
    simp (disch := first | with_reducible assumption | omega) only [push_cast, x_blk, x_cd, ↓reduceIte, Nat.reduceEqDiff, List.map_cons, List.map_nil, Int.reduceEq, Int.lt_irrefl, fr]
    refine hJ3 _ _ ⟨n + 1, ps ++ [z], A15, c15, by omega, (by simp only [push_cast, ↓reduceIte, Nat.reduceEqDiff, true_and, and_true, and_self, eq_self, fr, List.length_append, List.length_cons, List.length_nil]), by rw [hsucc, List.map_append, habs]; rfl, oR, fun r hr => ?_, g15.below b410 (by omega) hps10.geB⟩ (by rw [hmu3]; simp only [push_cast, ↓reduceIte, Nat.reduceEqDiff, intOf, fr]; omega)
    rcases List.mem_append.1 hr with hr | hr
    · exact (hpg10 r hr).keep kt
    · rw [List.mem_singleton.1 hr]; exact hz1.keep kt
end Go.Proofs.YtcjedgiglimipaaDoor

/-
  Chapter 15's reference: Keeps: by its contract.
-/
namespace Go.Proofs.YtcjedgiglimipaaDoor
set_option linter.unusedSimpArgs false
set_option linter.unusedVariables false
set_option linter.unusedSectionVars false
open Go.RowKit

theorem ref15_Keeps {w : World} {a : PV} {p : Plt} (ha : IsP (· < w.heap.size) w a p) (hf : p.Fits) (pm : p.May) {s0 : Int} (hst : p.m.starts = [s0]) {A1 : Option Addr} {c1 : Nat} {free : List Int} (h1 : Ints (· < w.heap.size) w A1 free) (n1 : free.length ≤ 17592186043904)
    {ov : MV} {o : Mach} (ho : IsM (· < w.heap.size) w ov o) (fo : o.Fits) (om : o.May) (o6 : o.states ≤ 6) :
    Cal Tryd.prog 39 [a.val p, .slice A1 free.length c1, ov.val o] w fun v w' => (∃ b : Bool, v = .bool b ∧ (b = true → KeepsL p free o)) ∧ Below w.heap.size w w' := by
  refine cal_ref15_Keeps (by simp) 1000000 fun Q hQ => ?_
  simp (disch := first | with_reducible assumption | omega) only [push_cast, x_blk, x_cd, ↓reduceIte, Nat.reduceEqDiff, List.map_cons, List.map_nil, Int.reduceEq, Int.lt_irrefl, F_ref15_Keeps]
  refine blk_of (box_agg _ (a.cells p)) ?_
  intro w1 kP b1 z1
  simp (disch := first | with_reducible assumption | omega) only [push_cast, x_blk, x_cd, ↓reduceIte, Nat.reduceEqDiff, List.map_cons, List.map_nil, Int.reduceEq, Int.lt_irrefl]
  refine blk_of (box_agg _ (ov.cells o)) ?_
  intro w2 kO b2 z2
  replace kP := kP.below b2 kP.lt
  have bb2 := b1.trans (b2.mono b1.size)
  simp (disch := first | with_reducible assumption | omega) only [push_cast, x_blk, x_cd, ↓reduceIte, Nat.reduceEqDiff, List.map_cons, List.map_nil, Int.reduceEq, Int.lt_irrefl, kP.pA', kO.mA ty_ag_25 ty_sz_25]
  refine call_of (ref15_sets (ha.up bb2) hf pm hst (ho.up bb2) fo om o6) ?_
  rintro v w3 ⟨b3, hv⟩
  replace kP := kP.below b3 kP.lt
  replace kO := kO.below b3 kO.lt
  have bb3 := bb2.trans (b3.mono bb2.size)
  rcases hv with rfl | ⟨R, L, c, rfl, n700, hR, hg, hS⟩
  · simp (disch := first | with_reducible assumption | omega) only [push_cast, x_blk, x_cd, ↓reduceIte, Nat.reduceEqDiff, List.map_cons, List.map_nil, Int.reduceEq, Int.lt_irrefl]
    exact fin_1 (hQ _ _ ⟨⟨false, (by simp only [push_cast, ↓reduceIte, Nat.reduceEqDiff, Int.reduceEq]), fun h => by cases h⟩, bb3⟩)
  simp (disch := first | with_reducible assumption | omega) only [push_cast, x_blk, x_cd, ↓reduceIte, Nat.reduceEqDiff, List.map_cons, List.map_nil, Int.reduceEq, Int.lt_irrefl]
  refine loop_rule (fun f w' => ∃ k : Nat, k ≤ R.length ∧ (f 1 = .slice A1 free.length c1 ∧ f 3 = .pointer (some ⟨w.heap.size, 0, none⟩) ∧ f 5 = .pointer (some ⟨w1.heap.size, 0, none⟩) ∧ f 7 = .slice L R.length c ∧ f 9 = .int .i64 k) ∧
      (∀ (i : Nat) (x : SE), i < k → R[i]? = some x → HoldsL p free o x.abs) ∧ Below w3.heap.size w3 w')
    (fun f _ => R.length - (intOf (f 9)).toNat) ⟨0, Nat.zero_le _, ⟨rfl, rfl, rfl, rfl, rfl⟩, fun i x hi => absurd hi (by omega), Below.refl _ _⟩ ?_
  rintro f w4 ⟨k, hk, fr, hal, b4⟩ J hJ
  have bb4 := bb3.trans (b4.mono bb3.size)
  have kP4 := kP.below b4 kP.lt
  have kO4 := kO.below b4 kO.lt
  have hmu : (intOf (f 9)).toNat = k := by rw [fr.2.2.2.2]; simp [intOf]
  by_cases hlt : k < R.length
  case neg =>
    obtain rfl : k = R.length := by omega
    simp (disch := first | with_reducible assumption | omega) only [push_cast, x_blk, x_cd, ↓reduceIte, Nat.reduceEqDiff, List.map_cons, List.map_nil, Int.reduceEq, Int.lt_irrefl, L_ref15_Keeps_0, fr, Nat.lt_irrefl]
    refine fin_1 (hQ _ _ ⟨⟨true, (by simp only [push_cast, ↓reduceIte, Nat.reduceEqDiff, Int.reduceEq]), fun _ => ⟨R.map SE.abs, hS, fun l hl => ?_⟩⟩, bb4⟩)
    obtain ⟨x, hx, rfl⟩ := List.mem_map.1 hl
    obtain ⟨i, hi⟩ := List.mem_iff_getElem?.1 hx
    exact hal i x (List.getElem?_eq_some_iff.1 hi).1 hi
  have hxk : R[k]? = some (R[k]'hlt) := List.getElem?_eq_getElem hlt
  have hxm : R[k]'hlt ∈ R := List.getElem_mem hlt
  generalize R[k]'hlt = x at hxk hxm
  have bd : Below w4.heap.size w4 w4.drew := (Same.refl w4).drew.below _
  have b5 := b4.trans (bd.mono b4.size)
  have bb5 := bb3.trans (b5.mono bb3.size)
  have kP5 := kP.below b5 kP.lt
  have kO5 := kO.below b5 kO.lt
  have hR5 := hR.below b5
  have xq := (hg x hxm).1.keep (.below b5)
  have xn := (hg x hxm).2
  generalize hu5 : w4.drew = u5 at *
  have sL := hR5.isSome (by omega)
  have l0 := fun {K : Fr → World → Prop} {f : Fr} {d : Option Nat} {w' : World} => SE.ld (K := K) (f := f) (d := d) (w := w') hR5 ty_ag_124 hxk
  simp (disch := first | with_reducible assumption | omega) only [push_cast, x_blk, x_cd, ↓reduceIte, Nat.reduceEqDiff, List.map_cons, List.map_nil, Int.reduceEq, Int.lt_irrefl, L_ref15_Keeps_0, fr, hlt, hu5, kP5.pA', kO5.mA ty_ag_25 ty_sz_25, sL, l0]
  refine call_of (ref15_holds (ps := x.ps) (ha.up bb5) hf pm (h1.up bb5) n1 (ho.up bb5) fo om xq.recs.tlt (by omega) fun y hy => ⟨(xq.row y hy).1.tlt, (xq.row y hy).2⟩) ?_
  rintro v w6 ⟨⟨b, rfl, hb⟩, b6⟩
  have b36 := b5.trans (b6.mono b5.size)
  cases b with
  | false =>
    simp (disch := first | with_reducible assumption | omega) only [push_cast, x_blk, x_cd, ↓reduceIte, Nat.reduceEqDiff, List.map_cons, List.map_nil, Int.reduceEq, Int.lt_irrefl, fr]
    exact fin_1 (hQ _ _ ⟨⟨false, (by simp only [push_cast, ↓reduceIte, Nat.reduceEqDiff, Int.reduceEq]), fun h => by cases h⟩, bb3.trans (b36.mono bb3.size)⟩)
  | true =>
    simp (disch := first | with_reducible assumption | omega) only [push_cast, x_blk, x_cd, ↓reduceIte, Nat.reduceEqDiff, List.map_cons, List.map_nil, Int.reduceEq, Int.lt_irrefl, fr]
    exact hJ _ _ ⟨k + 1, hlt, (by simp only [push_cast, ↓reduceIte, Nat.reduceEqDiff, true_and, and_true, and_self, eq_self, fr]), fun i y hi hy => by
      by_cases c : i = k
      · subst c; rw [hxk] at hy; injection hy with hy; subst hy; exact hb rfl
      · exact hal i y (by omega) hy, b36⟩ (by rw [hmu]; simp only [push_cast, ↓reduceIte, Nat.reduceEqDiff, intOf, fr]; omega)
end Go.Proofs.YtcjedgiglimipaaDoor

/-
  Chapter 15's reference: Covers: by its contract.
-/
namespace Go.Proofs.YtcjedgiglimipaaDoor
set_option linter.unusedSimpArgs false
set_option linter.unusedVariables false
set_option linter.unusedSectionVars false
open Go.RowKit

structure BtH where
  x : Pt5
  n : Nat
def BtH.cells (b : BtH) : List Value := [.int .i64 b.x.M, .slice b.x.R b.x.s.length b.x.cr, .int .i64 b.n]
theorem btEnc : Enc BtH.cells 3 := ⟨fun _ => rfl, fun p u hu => by
  unfold BtH.cells at hu
  simp only [List.mem_cons, List.not_mem_nil, or_false] at hu
  rcases hu with rfl | rfl | rfl <;> rfl⟩
def BtH.abs (b : BtH) : Plc × Nat := (b.x.abs, b.n)
theorem bl_bt {K : Fr → World → Prop} {u : World} {f : Fr} {d : Option Nat} {w : World} (x : Pt5) (n : Nat) : Val1 Tryd.prog K (Instr.build 128 #[(0, .agg x.cells.toArray), (1, .int .i64 n)]) u f d w = K (updO f d (.agg (BtH.cells ⟨x, n⟩).toArray)) w := bld_of (by kernel_rfl)
theorem bl_bt0 {K : Fr → World → Prop} {u : World} {f : Fr} {d : Option Nat} {w : World} (x : Pt5) : Val1 Tryd.prog K (Instr.build 128 #[(0, .agg x.cells.toArray), (1, .int .i64 0)]) u f d w = K (updO f d (.agg (BtH.cells ⟨x, 0⟩).toArray)) w := bl_bt x 0
theorem BtH.ldA {K : Fr → World → Prop} {u : World} {f : Fr} {d : Option Nat} {w : World} {i : Nat} {ok : Nat → Prop} {A : Option Addr} {l : List BtH} {b : BtH} (h : Recs BtH.cells 3 ok u A l) (hi : l[i]? = some b) :
    Val1 Tryd.prog K (Instr.loadAt 126 (.pointer (some (eA A (i * 3 + 0))))) u f d w = K (updO f d (.agg b.x.cells.toArray)) w :=
  Recs.ldA (P := Tryd.prog) (K := K) (f := f) (d := d) (w := w) h ty_ag_126 hi 0 (vs := b.x.cells) ty_sz_126 fun k v hk => by
    match k, hk with
    | 0, hk => exact hk
    | 1, hk => exact hk
    | k + 2, hk => simp [Pt5.cells] at hk
theorem BtH.ldM {K : Fr → World → Prop} {u : World} {f : Fr} {d : Option Nat} {w : World} {i : Nat} {ok : Nat → Prop} {A : Option Addr} {l : List BtH} {b : BtH} (h : Recs BtH.cells 3 ok u A l) (hi : l[i]? = some b) :
    Val1 Tryd.prog K (Instr.loadAt 3 (.pointer (some (eA A (i * 3 + 0 + 0))))) u f d w = K (updO f d (.int .i64 b.x.M)) w := Recs.ld (P := Tryd.prog) (K := K) (f := f) (d := d) (w := w) h ty_ag_3 hi (j := 0) rfl
theorem BtH.ldT {K : Fr → World → Prop} {u : World} {f : Fr} {d : Option Nat} {w : World} {i : Nat} {ok : Nat → Prop} {A : Option Addr} {l : List BtH} {b : BtH} (h : Recs BtH.cells 3 ok u A l) (hi : l[i]? = some b) :
    Val1 Tryd.prog K (Instr.loadAt 22 (.pointer (some (eA A (i * 3 + 0 + 1))))) u f d w = K (updO f d (.slice b.x.R b.x.s.length b.x.cr)) w := Recs.ld (P := Tryd.prog) (K := K) (f := f) (d := d) (w := w) h ty_ag_22 hi (j := 1) rfl
structure BtOk (p : Plt) (o : Mach) (C : Plc → Nat → Prop) (nN B : Nat) (w : World) (b : BtH) : Prop where
  pt : PtAt B w b.x
  c : C b.x.abs b.n
  u : UPc p o b.x.abs
  n : b.n < nN
theorem BtOk.keep {p : Plt} {o : Mach} {C : Plc → Nat → Prop} {nN B : Nat} {w w' : World} {b : BtH} (h : BtOk p o C nN B w b) (k : KeepT esI B w w') : BtOk p o C nN B w' b := ⟨h.pt.keep k, h.c, h.u, h.n⟩
theorem bt_len {p : Plt} {o : Mach} {nN : Nat} (h6 : p.m.states ≤ 6) (o6 : o.states ≤ 6) {l : List (Plc × Nat)} (hn : l.Nodup) (hu : ∀ b ∈ l, UPc p o b.1 ∧ b.2 < nN) : l.length ≤ nN * 384 := by
  have hc : ∀ b ∈ l, b.1.1.toNat * 64 + codeR b.1.2 < 384 := fun b hb => by
    have h1 := (hu b hb).1
    have := codeR_lt (h1.2.more o6)
    have := h1.1
    omega
  have := nodup_nat_len (nN * 384) (l.map fun b => b.2 * 384 + (b.1.1.toNat * 64 + codeR b.1.2)) (by
    rw [List.nodup_iff_pairwise_ne, List.pairwise_map]
    refine (List.nodup_iff_pairwise_ne.1 hn).imp_of_mem fun {x y} hx hy hxy e => hxy ?_
    have hx1 := (hu x hx).1
    have hy1 := (hu y hy).1
    have c1 := codeR_lt (hx1.2.more o6)
    have c2 := codeR_lt (hy1.2.more o6)
    have d1 := hc x hx
    have d2 := hc y hy
    have e0 : x.2 = y.2 := by omega
    have e1 : x.1.1.toNat = y.1.1.toNat := by omega
    have e2 : codeR x.1.2 = codeR y.1.2 := by omega
    exact Prod.ext (Prod.ext (by have := hx1.1; have := hy1.1; omega) (codeR_inj (hx1.2.more o6) (hy1.2.more o6) e2)) e0) fun n hn => by
    obtain ⟨x, hx, rfl⟩ := List.mem_map.1 hn
    have h1 := hc x hx
    have h2 := (hu x hx).2
    have h3 : x.2 * 384 + 384 ≤ nN * 384 := by have := Nat.mul_le_mul_right 384 (Nat.succ_le_of_lt h2); omega
    omega
  simpa using this
set_option maxHeartbeats 4000000 in
theorem ref15_Covers {w : World} {a : PV} {p : Plt} (ha : IsP (· < w.heap.size) w a p) (hf : p.Fits) (pm : p.May) {s0 : Int} (hst : p.m.starts = [s0])
    {An : Option Addr} {cn : Nat} {hs : List Hd} {Am : Option Addr} {cm : Nat} {ms : List MvH} {st : VS} (rV : VRd w An hs Am ms st) (hne : 0 < st.nodes.length) (nN6 : st.nodes.length ≤ 100000) (nM : ms.length ≤ 100000) (nS : ∀ x ∈ ms, x.st.length ≤ 100000)
    {ov : MV} {o : Mach} (ho : IsM (· < w.heap.size) w ov o) (fo : o.Fits) (om : o.May) (o6 : o.states ≤ 6) {C : Plc → Nat → Prop} (hC : CovOk p o C st) :
    Cal Tryd.prog 40 [a.val p, .agg (vlC An hs.length cn Am ms.length cm).toArray, ov.val o] w fun v w' => v = .bool true ∧ Below w.heap.size w w' := by
  have hm := pm.1
  have h6 := pm.2.1
  have ev0 := hm.2.2.1
  have ev8 := hm.2.2.2.1
  have nP := hf.lenP
  have hs0r := row_range (may_starts hm) s0 (by rw [hst]; simp)
  have oS := may_starts om
  have noS := row_lenV oS
  have hhl : hs.length = st.nodes.length := by have := congrArg List.length rV.2.2.1; simpa using this
  obtain ⟨nN, hnN⟩ : ∃ n, n = st.nodes.length := ⟨_, rfl⟩
  refine cal_ref15_Covers (by simp) 1000000 fun Q hQ => ?_
  simp (disch := first | with_reducible assumption | omega) only [push_cast, x_blk, x_cd, ↓reduceIte, Nat.reduceEqDiff, List.map_cons, List.map_nil, Int.reduceEq, Int.lt_irrefl, F_ref15_Covers]
  refine blk_of (box_agg _ (a.cells p)) ?_
  intro w1 kP b1 z1
  simp (disch := first | with_reducible assumption | omega) only [push_cast, x_blk, x_cd, ↓reduceIte, Nat.reduceEqDiff, List.map_cons, List.map_nil, Int.reduceEq, Int.lt_irrefl]
  refine blk_of (box_agg _ (vlC An hs.length cn Am ms.length cm)) ?_
  intro w2 kV b2 z2
  simp (disch := first | with_reducible assumption | omega) only [push_cast, x_blk, x_cd, ↓reduceIte, Nat.reduceEqDiff, List.map_cons, List.map_nil, Int.reduceEq, Int.lt_irrefl]
  refine blk_of (box_agg _ (ov.cells o)) ?_
  intro w3 kO b3 z3
  have b23 := b2.trans (b3.mono b2.size)
  replace kP := kP.below b23 kP.lt
  replace kV := kV.below b3 kV.lt
  have bb3 := b1.trans (b23.mono b1.size)
  have q0 : ¬ ((hs.length : Int) = 0) := by omega
  have bd : Below w3.heap.size w3 w3.drew := (Same.refl w3).drew.below _
  have bb4 := bb3.trans (bd.mono bb3.size)
  have kP4 := kP.below bd kP.lt
  have kV4 := kV.below bd kV.lt
  have kO4 := kO.below bd kO.lt
  generalize hu3 : w3.drew = u3 at *
  have hI := (ha.up bb4).m.starts
  have sA := hI.isSome (by rw [hst]; simp)
  have hld := fun {K : Fr → World → Prop} {f : Fr} {d : Option Nat} {w : World} => hI.ld (P := Tryd.prog) (K := K) (f := f) (d := d) (w := w) ty_ag_3 0 (by rw [hst]; simp)
  have hg0 : p.m.starts.getD 0 0 = s0 := by rw [hst]; rfl
  rw [hg0] at hld
  have h01 : (0 : Int) < (p.m.starts.length : Int) := by rw [hst]; simp
  have oB := own_rec btEnc u3 (⟨⟨s0, ov.As, ov.cs, o.starts⟩, 0⟩ : BtH) 128
  have bB : Below u3.heap.size u3 (u3.alloc (.cells (BtH.cells ⟨⟨s0, ov.As, ov.cs, o.starts⟩, 0⟩).toArray 128)) := (Below.refl _ _).alloc (Nat.le_refl _) _
  have bb5 := bb4.trans (bB.mono bb4.size)
  have kP5 := kP4.below bB kP4.lt
  have kV5 := kV4.below bB kV4.lt
  have kO5 := kO4.below bB kO4.lt
  have ok0 : BtOk p o C nN w.heap.size (u3.alloc (.cells (BtH.cells ⟨⟨s0, ov.As, ov.cs, o.starts⟩, 0⟩).toArray 128)) ⟨⟨s0, ov.As, ov.cs, o.starts⟩, 0⟩ := ⟨⟨Ints.of_arg (ho.below bb5).starts bb5.size, by have := om.2.1; show o.starts.length ≤ 256; omega⟩, hC.first s0 hst, ⟨hs0r, oS⟩, by show 0 < nN; omega⟩
  simp (disch := first | with_reducible assumption | omega) only [push_cast, x_blk, x_cd, ↓reduceIte, Nat.reduceEqDiff, List.map_cons, List.map_nil, Int.reduceEq, Int.lt_irrefl, kV.w0 ty_ag_44, eq_false q0, hu3, kP4.p2, sA, h01, Int.le_refl, Int.toNat_zero, hld, kO4.m2 ty_ag_22, bl_pt ⟨s0, ov.As, ov.cs, o.starts⟩, bl_bt0, bs_rec btEnc slT_129 _ (by decide)]
  refine loop_rule (fun f w' => ∃ (k : Nat) (R : List BtH) (L : Option Addr) (c : Nat), k ≤ R.length ∧ (f 3 = .pointer (some ⟨w.heap.size, 0, none⟩) ∧ f 4 = .pointer (some ⟨w1.heap.size, 0, none⟩) ∧ f 5 = .pointer (some ⟨w2.heap.size, 0, none⟩) ∧ f 7 = .slice L R.length c ∧ f 8 = .int .i64 k) ∧ (R.map BtH.abs).Nodup ∧
      OwnR BtH.cells w.heap.size 128 3 w' L c R ∧ (∀ x ∈ R, BtOk p o C nN w.heap.size w' x) ∧ Blk w' w.heap.size 43 (a.cells p) ∧ Blk w' w1.heap.size 47 (vlC An hs.length cn Am ms.length cm) ∧ Blk w' w2.heap.size 25 (ov.cells o) ∧ Below w.heap.size w w')
    (fun f _ => nN * 384 + 1 - (intOf (f 8)).toNat) ⟨0, [⟨⟨s0, ov.As, ov.cs, o.starts⟩, 0⟩], _, _, Nat.zero_le _, ⟨rfl, rfl, rfl, rfl, rfl⟩, by simp, oB.base bb4.size, fun x hx => by rw [List.mem_singleton.1 hx]; exact ok0, kP5, kV5, kO5, bb5⟩ ?_
  clear ok0 kP5 kV5 kO5 bb5 bB oB h01 hg0 hld sA hI hu3 kP4 kV4 kO4 bb4 bd bb3 kP kV kO b23
  rintro f w3 ⟨k, R, L, c, hk, fr, hnd, hl, hg, kP, kV, kO, bb⟩ J hJ
  have hmu : (intOf (f 8)).toNat = k := by rw [fr.2.2.2.2]; simp [intOf]
  have hRl : ∀ {R : List BtH} {w' : World}, (R.map BtH.abs).Nodup → (∀ x ∈ R, BtOk p o C nN w.heap.size w' x) → R.length ≤ nN * 384 := fun {R w'} h1 h2 => by
    have := bt_len (p := p) (o := o) (nN := nN) h6 o6 h1 fun b hb => by
      obtain ⟨x, hx, rfl⟩ := List.mem_map.1 hb
      exact ⟨(h2 x hx).u, (h2 x hx).n⟩
    rwa [List.length_map] at this
  have hRl0 := hRl hnd hg
  by_cases hlt : k < R.length
  case neg =>
    obtain rfl : k = R.length := by omega
    simp (disch := first | with_reducible assumption | omega) only [push_cast, x_blk, x_cd, ↓reduceIte, Nat.reduceEqDiff, List.map_cons, List.map_nil, Int.reduceEq, Int.lt_irrefl, L_ref15_Covers_2, fr, Nat.lt_irrefl]
    exact fin_1 (hQ _ _ ⟨(by simp only [push_cast, ↓reduceIte, Nat.reduceEqDiff, Int.reduceEq]), bb⟩)
  simp (disch := first | with_reducible assumption | omega) only [push_cast, x_blk, x_cd, ↓reduceIte, Nat.reduceEqDiff, List.map_cons, List.map_nil, Int.reduceEq, Int.lt_irrefl, L_ref15_Covers_2, fr, hlt]
  refine loop_rule (fun f' w' => ∃ (i : Nat) (R : List BtH) (L : Option Addr) (c : Nat), (i : Int) ≤ p.m.events ∧ (f' 3 = .pointer (some ⟨w.heap.size, 0, none⟩) ∧ f' 4 = .pointer (some ⟨w1.heap.size, 0, none⟩) ∧ f' 5 = .pointer (some ⟨w2.heap.size, 0, none⟩) ∧ f' 7 = .slice L R.length c ∧ f' 8 = .int .i64 k ∧ f' 9 = .int .i64 i) ∧ k < R.length ∧ (R.map BtH.abs).Nodup ∧
      OwnR BtH.cells w.heap.size 128 3 w' L c R ∧ (∀ x ∈ R, BtOk p o C nN w.heap.size w' x) ∧ Blk w' w.heap.size 43 (a.cells p) ∧ Blk w' w1.heap.size 47 (vlC An hs.length cn Am ms.length cm) ∧ Blk w' w2.heap.size 25 (ov.cells o) ∧ Below w.heap.size w w')
    (fun f' _ => p.m.events.toNat - (intOf (f' 9)).toNat) ⟨0, R, L, c, ev0, (by simp only [push_cast, ↓reduceIte, Nat.reduceEqDiff, true_and, and_true, and_self, eq_self, fr, fr]), hlt, hnd, hl, hg, kP, kV, kO, bb⟩ ?_
  clear hl hg kP kV kO bb hnd fr hlt hk
  clear hRl0
  clear R L c
  rintro f w4 ⟨i, R, L, c, hi, fr, hlt, hnd, hl, hg, kP, kV, kO, bb⟩ J2 hJ2
  have hmu2 : (intOf (f 9)).toNat = i := by rw [fr.2.2.2.2.2]; simp [intOf]
  have hRl0 := hRl hnd hg
  by_cases hil : (i : Int) < p.m.events
  case neg =>
    simp (disch := first | with_reducible assumption | omega) only [push_cast, x_blk, x_cd, ↓reduceIte, Nat.reduceEqDiff, List.map_cons, List.map_nil, Int.reduceEq, Int.lt_irrefl, L_ref15_Covers_1, fr, kP.p1, hil]
    exact hJ _ _ ⟨k + 1, R, L, c, hlt, (by simp only [push_cast, ↓reduceIte, Nat.reduceEqDiff, true_and, and_true, and_self, eq_self, fr]), hnd, hl, hg, kP, kV, kO, bb⟩ (by rw [hmu]; simp only [push_cast, ↓reduceIte, Nat.reduceEqDiff, intOf, fr]; omega)
  have hzB := bb.size
  have hbk : R[k]? = some (R[k]'hlt) := List.getElem?_eq_getElem hlt
  have hbm : R[k]'hlt ∈ R := List.getElem_mem hlt
  generalize R[k]'hlt = b0 at hbk hbm
  obtain ⟨y, n⟩ := b0
  have hRw := Recs.lt btEnc (by decide) (OwnR.recs hl btEnc (by decide))
  have yq := hg _ hbm
  have bd : Below w4.heap.size w4 w4.drew := (Same.refl w4).drew.below _
  have bb8 := bb.trans (bd.mono hzB)
  have kP8 := kP.below bd kP.lt
  have kO8 := kO.below bd kO.lt
  have hR8 := hRw.below bd
  have yq8 := yq.keep (.below bd)
  generalize hu8 : w4.drew = u8 at *
  have sL8 := hR8.isSome (by omega)
  have ly := fun {K : Fr → World → Prop} {f : Fr} {d : Option Nat} {w' : World} => BtH.ldA (K := K) (f := f) (d := d) (w := w') hR8 hbk
  obtain ⟨e, he⟩ : ∃ e : Int, e = (i : Int) := ⟨_, rfl⟩
  have hon8 := fun (W : World) (bW : Below u8.heap.size u8 W) => ref15_on ((ha.up bb8).up bW) hf hm ((ho.up bb8).up bW) fo om ((yq8.pt.lt).up bW) yq8.pt.n e
  obtain ⟨Bz, hBze⟩ : ∃ b : Nat, b = w.heap.size := ⟨_, rfl⟩
  have hzB8 := bb8.size
  have hBz : Bz ≤ u8.heap.size := by omega
  rw [← he] at fr
  simp (disch := first | with_reducible assumption | omega) only [push_cast, x_blk, x_cd, ↓reduceIte, Nat.reduceEqDiff, List.map_cons, List.map_nil, Int.reduceEq, Int.lt_irrefl, L_ref15_Covers_1, fr, kP.p1, he, hil, hu8, kP8.pA', kO8.mA ty_ag_25 ty_sz_25, hlt, sL8, ly]
  rw [← he]
  refine cutT (fun f' w' => ∃ (g : Nat) (z : Pt5) (b : Bool), (f' 3 = .pointer (some ⟨w.heap.size, 0, none⟩) ∧ f' 4 = .pointer (some ⟨w1.heap.size, 0, none⟩) ∧ f' 5 = .pointer (some ⟨w2.heap.size, 0, none⟩) ∧ f' 7 = .slice L R.length c ∧ f' 8 = .int .i64 k ∧ f' 9 = .int .i64 e ∧ f' 10 = .pointer (some ⟨g, 0, none⟩) ∧ f' 11 = .bool b) ∧ Blk w' g 126 z.cells ∧ OnZ (onP p o y.abs e) Bz w' z b ∧ u8.heap.size ≤ g ∧ Below u8.heap.size u8 w') 20000 40000 (by decide) ?_ ?_
  · intro E hE
    rw [x_t_two]
    refine ⟨?_, ?_⟩
    · simp (disch := first | with_reducible assumption | omega) only [push_cast, x_blk, x_cd, ↓reduceIte, Nat.reduceEqDiff, List.map_cons, List.map_nil, Int.reduceEq, Int.lt_irrefl, fr]
      refine call_of (hon8 u8 (Below.refl _ _)) ?_
      rintro v w9 ⟨hmo, b9⟩
      obtain ⟨z, b, rfl, hz⟩ := hmo.split Bz om
      simp (disch := first | with_reducible assumption | omega) only [push_cast, x_blk, x_cd, ↓reduceIte, Nat.reduceEqDiff, List.map_cons, List.map_nil, Int.reduceEq, Int.lt_irrefl, fr]
      refine ⟨b9, ?_⟩
      refine blk_of (cs := Pt5.cells ⟨0, none, 0, []⟩) al_126 ?_
      intro w10 k10 b10 z10
      have b810 := b9.trans (b10.mono b9.size)
      simp (disch := first | with_reducible assumption | omega) only [push_cast, x_blk, x_cd, ↓reduceIte, Nat.reduceEqDiff, List.map_cons, List.map_nil, Int.reduceEq, Int.lt_irrefl, fr]
      refine ⟨b810, ?_⟩
      refine sto_blk k10 (cs := z.cells) (e2_pt z) rfl (pt_one z) ?_
      intro w11 k11 g11 z11
      have b811 := g11.below b810 b810.size (by intro a ha; injection ha with ha; subst ha; exact b9.size)
      have hz11 := (hz.keep (.below b10)).keep (KeepT.grewB k10 (Nat.le_trans hBz b9.size) (by decide) g11)
      simp (disch := first | with_reducible assumption | omega) only [push_cast, x_blk, x_cd, ↓reduceIte, Nat.reduceEqDiff, List.map_cons, List.map_nil, Int.reduceEq, Int.lt_irrefl, fr]
      refine ⟨b811, ?_⟩
      first | exact hE _ _ ⟨_, z, b, (by simp only [push_cast, ↓reduceIte, Nat.reduceEqDiff, true_and, and_true, and_self, eq_self, fr]), k11, hz11, b9.size, b811⟩ | (simp (disch := first | with_reducible assumption | omega) only [push_cast, x_blk, x_cd, ↓reduceIte, Nat.reduceEqDiff, List.map_cons, List.map_nil, Int.reduceEq, Int.lt_irrefl, fr]; exact hE _ _ ⟨_, z, b, (by simp only [push_cast, ↓reduceIte, Nat.reduceEqDiff, true_and, and_true, and_self, eq_self, fr]), k11, hz11, b9.size, b811⟩)
    · simp (disch := first | with_reducible assumption | omega) only [push_cast, x_blk, x_cd, ↓reduceIte, Nat.reduceEqDiff, List.map_cons, List.map_nil, Int.reduceEq, Int.lt_irrefl, fr]
      refine blk_of (cs := Pt5.cells ⟨0, none, 0, []⟩) al_126 ?_
      intro w10 k10 b10 z10
      simp (disch := first | with_reducible assumption | omega) only [push_cast, x_blk, x_cd, ↓reduceIte, Nat.reduceEqDiff, List.map_cons, List.map_nil, Int.reduceEq, Int.lt_irrefl, fr]
      refine ⟨b10, ?_⟩
      refine call_of (hon8 w10 b10) ?_
      rintro v w9 ⟨hmo, b9⟩
      obtain ⟨z, b, rfl, hz⟩ := hmo.split Bz om
      have b810 := b10.trans (b9.mono b10.size)
      replace k10 := k10.below b9 k10.lt
      simp (disch := first | with_reducible assumption | omega) only [push_cast, x_blk, x_cd, ↓reduceIte, Nat.reduceEqDiff, List.map_cons, List.map_nil, Int.reduceEq, Int.lt_irrefl, fr]
      refine ⟨b810, ?_⟩
      refine sto_blk k10 (cs := z.cells) (e2_pt z) rfl (pt_one z) ?_
      intro w11 k11 g11 z11
      have b811 := g11.below b810 b810.size (by intro a ha; injection ha with ha; subst ha; exact Nat.le_refl _)
      have hz11 := hz.keep (KeepT.grewB k10 hBz (by decide) g11)
      simp (disch := first | with_reducible assumption | omega) only [push_cast, x_blk, x_cd, ↓reduceIte, Nat.reduceEqDiff, List.map_cons, List.map_nil, Int.reduceEq, Int.lt_irrefl, fr]
      refine ⟨b811, ?_⟩
      first | exact hE _ _ ⟨_, z, b, (by simp only [push_cast, ↓reduceIte, Nat.reduceEqDiff, true_and, and_true, and_self, eq_self, fr]), k11, hz11, Nat.le_refl _, b811⟩ | (simp (disch := first | with_reducible assumption | omega) only [push_cast, x_blk, x_cd, ↓reduceIte, Nat.reduceEqDiff, List.map_cons, List.map_nil, Int.reduceEq, Int.lt_irrefl, fr]; exact hE _ _ ⟨_, z, b, (by simp only [push_cast, ↓reduceIte, Nat.reduceEqDiff, true_and, and_true, and_self, eq_self, fr]), k11, hz11, Nat.le_refl _, b811⟩)
  clear fr
  rintro f w9 ⟨g, z, b, fr, kZ, hz, hg9, b9⟩
  subst he
  subst hBze
  have b49 := bd.trans (b9.mono bd.size)
  have bb9 := bb.trans (b49.mono hzB)
  have kP9 := kP.below b49 kP.lt
  have kV9 := kV.below b49 kV.lt
  have kO9 := kO.below b49 kO.lt
  have hR9 := hRw.below b49
  have sL9 := hR9.isSome (by omega)
  rcases hz with ⟨rfl, ho1, hz1⟩ | ⟨rfl, ho1⟩
  case inr =>
    simp (disch := first | with_reducible assumption | omega) only [push_cast, x_blk, x_cd, ↓reduceIte, Nat.reduceEqDiff, List.map_cons, List.map_nil, Int.reduceEq, Int.lt_irrefl, fr]
    exact hJ2 _ _ ⟨i + 1, R, L, c, by omega, (by simp only [push_cast, ↓reduceIte, Nat.reduceEqDiff, true_and, and_true, and_self, eq_self, fr]), hlt, hnd, hl.below b49 (Nat.le_refl _), fun x hx => (hg x hx).keep (.below b49), kP9, kV9, kO9, bb9⟩ (by rw [hmu2]; simp only [push_cast, ↓reduceIte, Nat.reduceEqDiff, intOf, fr]; omega)
  have ln9 := fun {K : Fr → World → Prop} {f : Fr} {d : Option Nat} {w' : World} => hR9.ld (P := Tryd.prog) (K := K) (f := f) (d := d) (w := w') ty_ag_3 hbk (j := 2) (v := .int .i64 n) rfl
  simp (disch := first | with_reducible assumption | omega) only [push_cast, x_blk, x_cd, ↓reduceIte, Nat.reduceEqDiff, List.map_cons, List.map_nil, Int.reduceEq, Int.lt_irrefl, fr, hlt, sL9, ln9, kP9.p5]
  refine call_of (ref1_Has (ha.up bb9).seen a.cp (i : Int) (by omega)) ?_
  rintro v w10 ⟨rfl, s10⟩
  have b410 := b49.trans ((s10.below w9.heap.size).mono b49.size)
  have kZ10 := kZ.below (s10.below w9.heap.size) kZ.lt
  have hz10 := hz1.keep (.below (s10.below w9.heap.size))
  have bb10 := bb.trans (b410.mono hzB)
  have kV10 := kV.below b410 kV.lt
  by_cases hes : (i : Int) ∈ p.seen
  case neg =>
    have hC' := hC.stay _ _ yq.c (i : Int) (by omega) hil hes _ ho1
    have hn' := yq.n
    obtain ⟨n', hne'⟩ : ∃ n', n' = n := ⟨_, rfl⟩
    subst hne'
    have b420 := b410
    have kZ20 := kZ10
    have hz20 := hz10
    generalize w10 = w20 at *
    simp (disch := first | with_reducible assumption | omega) only [push_cast, x_blk, x_cd, ↓reduceIte, Nat.reduceEqDiff, List.map_cons, List.map_nil, Int.reduceEq, Int.lt_irrefl, fr, decide_eq_false hes]
    refine loop_rule (fun f' w' => ∃ (j : Nat) (kn : Bool), j ≤ R.length ∧ (f' 3 = .pointer (some ⟨w.heap.size, 0, none⟩) ∧ f' 4 = .pointer (some ⟨w1.heap.size, 0, none⟩) ∧ f' 5 = .pointer (some ⟨w2.heap.size, 0, none⟩) ∧ f' 7 = .slice L R.length c ∧ f' 8 = .int .i64 k ∧ f' 9 = .int .i64 i ∧ f' 10 = .pointer (some ⟨g, 0, none⟩) ∧ f' 12 = .int .i64 n' ∧ f' 15 = .bool kn ∧ f' 16 = .int .i64 j) ∧
        (kn = true → (z.abs, n') ∈ R.map BtH.abs) ∧ (kn = false → (z.abs, n') ∉ (R.take j).map BtH.abs) ∧ Below w20.heap.size w20 w')
      (fun f' _ => R.length - (intOf (f' 16)).toNat) ⟨0, false, Nat.zero_le _, (by simp only [push_cast, ↓reduceIte, Nat.reduceEqDiff, true_and, and_true, and_self, eq_self, fr, fr]), fun h => by (cases h), fun _ => by simp, Below.refl _ _⟩ ?_
    clear fr
    rintro f w21 ⟨j, kn, hj, fr, hkt, hkf, b2021⟩ J4 hJ4
    have hmu4 : (intOf (f 16)).toNat = j := by rw [fr.2.2.2.2.2.2.2.2.2]; simp [intOf]
    have b421 := b420.trans (b2021.mono b420.size)
    have bb21 := bb.trans (b421.mono hzB)
    have kP21 := kP.below b421 kP.lt
    have kV21 := kV.below b421 kV.lt
    have kO21 := kO.below b421 kO.lt
    have kZ21 := kZ20.below b2021 kZ20.lt
    have hl21 := hl.below b421 (Nat.le_refl _)
    have hz21 := hz20.keep (.below b2021)
    have hg21 : ∀ x ∈ R, BtOk p o C nN w.heap.size w21 x := fun x hx => (hg x hx).keep (.below b421)
    have hzB21 := bb21.size
    cases kn with
    | true =>
      by_cases hjl : j < R.length
      · simp (disch := first | with_reducible assumption | omega) only [push_cast, x_blk, x_cd, ↓reduceIte, Nat.reduceEqDiff, List.map_cons, List.map_nil, Int.reduceEq, Int.lt_irrefl, L_ref15_Covers_0, fr, hjl]
        exact hJ2 _ _ ⟨i + 1, R, L, c, by omega, (by simp only [push_cast, ↓reduceIte, Nat.reduceEqDiff, true_and, and_true, and_self, eq_self, fr]), hlt, hnd, hl21, hg21, kP21, kV21, kO21, bb21⟩ (by rw [hmu2]; simp only [push_cast, ↓reduceIte, Nat.reduceEqDiff, intOf, fr]; omega)
      · simp (disch := first | with_reducible assumption | omega) only [push_cast, x_blk, x_cd, ↓reduceIte, Nat.reduceEqDiff, List.map_cons, List.map_nil, Int.reduceEq, Int.lt_irrefl, L_ref15_Covers_0, fr, hjl]
        exact hJ2 _ _ ⟨i + 1, R, L, c, by omega, (by simp only [push_cast, ↓reduceIte, Nat.reduceEqDiff, true_and, and_true, and_self, eq_self, fr]), hlt, hnd, hl21, hg21, kP21, kV21, kO21, bb21⟩ (by rw [hmu2]; simp only [push_cast, ↓reduceIte, Nat.reduceEqDiff, intOf, fr]; omega)
    | false =>
      have hlZ := fun {w' : World} (h : Blk w' g 126 z.cells) {K : Fr → World → Prop} {f : Fr} {d : Option Nat} {w : World} => h.ldAll (P := Tryd.prog) (K := K) (f := f) (d := d) (w := w) ty_ag_126 (e2_pt z)
      have hno := hkf rfl
      by_cases hjl : j < R.length
      case neg =>
        obtain rfl : j = R.length := by omega
        rw [List.take_length] at hno
        simp (disch := first | with_reducible assumption | omega) only [push_cast, x_blk, x_cd, ↓reduceIte, Nat.reduceEqDiff, List.map_cons, List.map_nil, Int.reduceEq, Int.lt_irrefl, L_ref15_Covers_0, fr, Nat.lt_irrefl, hlZ kZ21, bl_bt, bs_rec btEnc slT_129 _ (by decide)]
        refine app_rec btEnc slT_129 hl21 ⟨z, n'⟩ (by omega) (by omega) (by omega) ?_
        intro A15 c15 w15 oR g15 hA15 hs15 z15
        have kt := KeepT.grew (es := esI) hl21 (Nat.le_refl _) (by decide) g15
        simp (disch := first | with_reducible assumption | omega) only [push_cast, x_blk, x_cd, ↓reduceIte, Nat.reduceEqDiff, List.map_cons, List.map_nil, Int.reduceEq, Int.lt_irrefl, fr]
        refine hJ2 _ _ ⟨i + 1, R ++ [⟨z, n'⟩], A15, c15, by omega, (by simp only [push_cast, ↓reduceIte, Nat.reduceEqDiff, true_and, and_true, and_self, eq_self, fr, List.length_append, List.length_cons, List.length_nil]), by rw [List.length_append]; omega, ?_, oR, fun r hr => ?_, kP21.grown g15.by_ (hl21.ne_blk kP21 (by decide)).symm, kV21.grown g15.by_ (hl21.ne_blk kV21 (by decide)).symm, kO21.grown g15.by_ (hl21.ne_blk kO21 (by decide)).symm, g15.below bb21 (by omega) hl21.geB⟩ (by rw [hmu2]; simp only [push_cast, ↓reduceIte, Nat.reduceEqDiff, intOf, fr]; omega)
        · rw [List.map_append, List.nodup_append]
          refine ⟨hnd, by simp, fun u hu v hv huv => ?_⟩
          rw [List.mem_singleton.1 hv] at huv
          rw [huv] at hu; exact hno hu
        · rcases List.mem_append.1 hr with hr | hr
          · exact (hg21 r hr).keep kt
          · rw [List.mem_singleton.1 hr]; exact ⟨hz21.keep kt, hC', onP_univ hm om ho1, hn'⟩
      have hbk : R[j]? = some (R[j]'hjl) := List.getElem?_eq_getElem hjl
      have hbm : R[j]'hjl ∈ R := List.getElem_mem hjl
      have htk : R.take (j + 1) = R.take j ++ [R[j]'hjl] := List.take_succ_eq_append_getElem hjl
      generalize R[j]'hjl = b2 at hbk hbm htk
      have hdiff : b2.abs ≠ (z.abs, n') → (z.abs, n') ∉ (R.take (j + 1)).map BtH.abs := fun h => by
        rw [htk, List.map_append, List.mem_append]
        rintro (h1 | h1)
        · exact hno h1
        · exact h (List.mem_singleton.1 h1).symm
      have hsame : b2.abs = (z.abs, n') → (z.abs, n') ∈ R.map BtH.abs := fun h => by rw [← h]; exact List.mem_map.2 ⟨b2, hbm, rfl⟩
      have bd21 : Below w21.heap.size w21 w21.drew := (Same.refl w21).drew.below _
      have b2022 := b2021.trans (bd21.mono b2021.size)
      have hR22 := hRw.below (b421.trans (bd21.mono b421.size))
      have kZ22 := kZ21.below bd21 kZ21.lt
      have hz22 := hz21.keep (.below bd21)
      have hq2 := (hg21 b2 hbm).keep (.below bd21)
      generalize hu22 : w21.drew = u22 at *
      have sL22 := hR22.isSome (by omega)
      have ld2 := fun {K : Fr → World → Prop} {f : Fr} {d : Option Nat} {w' : World} => hR22.ld (P := Tryd.prog) (K := K) (f := f) (d := d) (w := w') ty_ag_3 hbk (j := 2) (v := .int .i64 b2.n) rfl
      have ld0 := fun {K : Fr → World → Prop} {f : Fr} {d : Option Nat} {w' : World} => BtH.ldM (K := K) (f := f) (d := d) (w := w') hR22 hbk
      have ld1 := fun {K : Fr → World → Prop} {f : Fr} {d : Option Nat} {w' : World} => BtH.ldT (K := K) (f := f) (d := d) (w := w') hR22 hbk
      by_cases q1 : (b2.n : Int) = (n' : Int)
      case neg =>
        simp (disch := first | with_reducible assumption | omega) only [push_cast, x_blk, x_cd, ↓reduceIte, Nat.reduceEqDiff, List.map_cons, List.map_nil, Int.reduceEq, Int.lt_irrefl, L_ref15_Covers_0, fr, hjl, hu22, sL22, ld2, q1]
        exact hJ4 _ _ ⟨j + 1, false, by omega, (by simp only [push_cast, ↓reduceIte, Nat.reduceEqDiff, true_and, and_true, and_self, eq_self, fr]), fun h => by (cases h), fun _ => hdiff fun h => q1 (by have := congrArg (·.2) h; have h3 : b2.n = n' := this; omega), b2022⟩ (by rw [hmu4]; simp only [push_cast, ↓reduceIte, Nat.reduceEqDiff, intOf, fr]; omega)
      by_cases q2 : b2.x.M = z.M
      case neg =>
        simp (disch := first | with_reducible assumption | omega) only [push_cast, x_blk, x_cd, ↓reduceIte, Nat.reduceEqDiff, List.map_cons, List.map_nil, Int.reduceEq, Int.lt_irrefl, L_ref15_Covers_0, fr, hjl, hu22, sL22, ld2, eq_true q1, ld0, kZ22.pt0 ty_ag_3, q2]
        exact hJ4 _ _ ⟨j + 1, false, by omega, (by simp only [push_cast, ↓reduceIte, Nat.reduceEqDiff, true_and, and_true, and_self, eq_self, fr]), fun h => by (cases h), fun _ => hdiff fun h => q2 (congrArg (·.1.1) h), b2022⟩ (by rw [hmu4]; simp only [push_cast, ↓reduceIte, Nat.reduceEqDiff, intOf, fr]; omega)
      simp (disch := first | with_reducible assumption | omega) only [push_cast, x_blk, x_cd, ↓reduceIte, Nat.reduceEqDiff, List.map_cons, List.map_nil, Int.reduceEq, Int.lt_irrefl, L_ref15_Covers_0, fr, hjl, hu22, sL22, ld2, eq_true q1, ld0, kZ22.pt0 ty_ag_3, eq_true q2, ld1, kZ22.pt1 ty_ag_22]
      refine call_of (ref1_Same hq2.pt.lt hz22.lt b2.x.cr z.cr (by have := hq2.pt.n; omega)) ?_
      rintro v w23 ⟨rfl, s23⟩
      have b2023 := b2022.trans ((s23.below u22.heap.size).mono b2022.size)
      simp (disch := first | with_reducible assumption | omega) only [push_cast, x_blk, x_cd, ↓reduceIte, Nat.reduceEqDiff, List.map_cons, List.map_nil, Int.reduceEq, Int.lt_irrefl, fr]
      refine hJ4 _ _ ⟨j + 1, decide (b2.x.s = z.s), by omega, (by simp only [push_cast, ↓reduceIte, Nat.reduceEqDiff, true_and, and_true, and_self, eq_self, fr]), fun h => hsame ?_, fun h => hdiff fun h' => ?_, b2023⟩ (by rw [hmu4]; simp only [push_cast, ↓reduceIte, Nat.reduceEqDiff, intOf, fr]; omega)
      · exact Prod.ext (Prod.ext q2 (of_decide_eq_true h)) (by show b2.n = n'; omega)
      · exact of_decide_eq_false h (congrArg (·.1.2) h')
  obtain ⟨mv, hmv, hst1, hto, hC'⟩ := hC.move _ _ yq.c (i : Int) hes _ ho1
  have hn' : mv.to_ < nN := by omega
  simp (disch := first | with_reducible assumption | omega) only [push_cast, x_blk, x_cd, ↓reduceIte, Nat.reduceEqDiff, List.map_cons, List.map_nil, Int.reduceEq, Int.lt_irrefl, fr, decide_eq_true hes, kV10.wA]
  refine call_of (ref15_Move (rV.below bb10) n (i : Int) nM) ?_
  rintro v w11 ⟨hmo, b11⟩
  rw [hmv] at hmo
  obtain ⟨xm, hxm, hxa, rfl⟩ := hmo
  have hx3 : xm.st = mv.stay := congrArg (·.2.2.1) hxa
  have hx4 : xm.to_ = (mv.to_ : Int) := congrArg (·.2.2.2) hxa
  have b411 := b410.trans (b11.mono b410.size)
  simp (disch := first | with_reducible assumption | omega) only [push_cast, x_blk, x_cd, ↓reduceIte, Nat.reduceEqDiff, List.map_cons, List.map_nil, Int.reduceEq, Int.lt_irrefl, fr]
  refine blk_of (cs := MvH.cells ⟨0, 0, none, 0, [], 0⟩) al_56 ?_
  intro w12 k12 b12 z12
  simp (disch := first | with_reducible assumption | omega) only [push_cast, x_blk, x_cd, ↓reduceIte, Nat.reduceEqDiff, List.map_cons, List.map_nil, Int.reduceEq, Int.lt_irrefl, fr]
  refine sto_blk k12 (cs := MvH.cells xm) (e4_mv xm) rfl (mv_one xm) ?_
  intro w13 kM g13 z13
  have b1113 := g13.below b12 b12.size (by intro a ha; injection ha with ha; subst ha; exact Nat.le_refl _)
  have b413 := b411.trans (b1113.mono b411.size)
  have bd13 : Below w13.heap.size w13 w13.drew := (Same.refl w13).drew.below _
  have b414 := b413.trans (bd13.mono b413.size)
  have b1014 := b11.trans ((b1113.trans (bd13.mono b1113.size)).mono b11.size)
  have kZ14 := kZ10.below b1014 kZ10.lt
  have hz14 := hz10.keep (.below b1014)
  have kM14 := kM.below bd13 kM.lt
  have bb14 := bb.trans (b414.mono hzB)
  have kV14 := kV.below b414 kV.lt
  have hR14 := hRw.below b414
  generalize hu14 : w13.drew = u14 at *
  have sL14 := hR14.isSome (by omega)
  have ld0 := fun {K : Fr → World → Prop} {f : Fr} {d : Option Nat} {w' : World} => BtH.ldM (K := K) (f := f) (d := d) (w := w') hR14 hbk
  have hq5 : ¬ ((mv.to_ : Int) < 0) := by omega
  have hq6 : ¬ ((hs.length : Int) ≤ (mv.to_ : Int)) := by omega
  have rV14 := rV.below bb14
  simp (disch := first | with_reducible assumption | omega) only [push_cast, x_blk, x_cd, ↓reduceIte, Nat.reduceEqDiff, List.map_cons, List.map_nil, Int.reduceEq, Int.lt_irrefl, fr, hu14, kM14.v2 ty_ag_22, hlt, sL14, ld0]
  refine call_of (ref1_Has (rV14.2.2.2.2.1 xm hxm) xm.c y.M (by have := nS xm hxm; omega)) ?_
  rintro v w15 ⟨rfl, s15⟩
  have b1415 := s15.below u14.heap.size
  have hst2 : y.M ∈ mv.stay := hst1
  simp (disch := first | with_reducible assumption | omega) only [push_cast, x_blk, x_cd, ↓reduceIte, Nat.reduceEqDiff, List.map_cons, List.map_nil, Int.reduceEq, Int.lt_irrefl, hx3, decide_eq_true hst2]
  refine ⟨b1415, ?_⟩
  have kM15 := kM14.below b1415 kM14.lt
  obtain ⟨n', hne'⟩ : ∃ n', n' = mv.to_ := ⟨_, rfl⟩
  rw [← hne'] at hn' hC' hx4 hq5 hq6
  have b420 := b414.trans (b1415.mono b414.size)
  have kZ20 := kZ14.below b1415 kZ14.lt
  have hz20 := hz14.keep (.below b1415)
  generalize w15 = w20 at *
  simp (disch := first | with_reducible assumption | omega) only [push_cast, x_blk, x_cd, ↓reduceIte, Nat.reduceEqDiff, List.map_cons, List.map_nil, Int.reduceEq, Int.lt_irrefl, fr, kM14.v3 ty_ag_3, hx4, hq5, kV14.w0 ty_ag_44, hq6, kM15.v3 ty_ag_3]
  refine loop_rule (fun f' w' => ∃ (j : Nat) (kn : Bool), j ≤ R.length ∧ (f' 3 = .pointer (some ⟨w.heap.size, 0, none⟩) ∧ f' 4 = .pointer (some ⟨w1.heap.size, 0, none⟩) ∧ f' 5 = .pointer (some ⟨w2.heap.size, 0, none⟩) ∧ f' 7 = .slice L R.length c ∧ f' 8 = .int .i64 k ∧ f' 9 = .int .i64 i ∧ f' 10 = .pointer (some ⟨g, 0, none⟩) ∧ f' 12 = .int .i64 n' ∧ f' 15 = .bool kn ∧ f' 16 = .int .i64 j) ∧
      (kn = true → (z.abs, n') ∈ R.map BtH.abs) ∧ (kn = false → (z.abs, n') ∉ (R.take j).map BtH.abs) ∧ Below w20.heap.size w20 w')
    (fun f' _ => R.length - (intOf (f' 16)).toNat) ⟨0, false, Nat.zero_le _, (by simp only [push_cast, ↓reduceIte, Nat.reduceEqDiff, true_and, and_true, and_self, eq_self, fr, fr]), fun h => by (cases h), fun _ => by simp, Below.refl _ _⟩ ?_
  clear fr
  rintro f w21 ⟨j, kn, hj, fr, hkt, hkf, b2021⟩ J4 hJ4
  have hmu4 : (intOf (f 16)).toNat = j := by rw [fr.2.2.2.2.2.2.2.2.2]; simp [intOf]
  have b421 := b420.trans (b2021.mono b420.size)
  have bb21 := bb.trans (b421.mono hzB)
  have kP21 := kP.below b421 kP.lt
  have kV21 := kV.below b421 kV.lt
  have kO21 := kO.below b421 kO.lt
  have kZ21 := kZ20.below b2021 kZ20.lt
  have hl21 := hl.below b421 (Nat.le_refl _)
  have hz21 := hz20.keep (.below b2021)
  have hg21 : ∀ x ∈ R, BtOk p o C nN w.heap.size w21 x := fun x hx => (hg x hx).keep (.below b421)
  have hzB21 := bb21.size
  cases kn with
  | true =>
    by_cases hjl : j < R.length
    · simp (disch := first | with_reducible assumption | omega) only [push_cast, x_blk, x_cd, ↓reduceIte, Nat.reduceEqDiff, List.map_cons, List.map_nil, Int.reduceEq, Int.lt_irrefl, L_ref15_Covers_0, fr, hjl]
      exact hJ2 _ _ ⟨i + 1, R, L, c, by omega, (by simp only [push_cast, ↓reduceIte, Nat.reduceEqDiff, true_and, and_true, and_self, eq_self, fr]), hlt, hnd, hl21, hg21, kP21, kV21, kO21, bb21⟩ (by rw [hmu2]; simp only [push_cast, ↓reduceIte, Nat.reduceEqDiff, intOf, fr]; omega)
    · simp (disch := first | with_reducible assumption | omega) only [push_cast, x_blk, x_cd, ↓reduceIte, Nat.reduceEqDiff, List.map_cons, List.map_nil, Int.reduceEq, Int.lt_irrefl, L_ref15_Covers_0, fr, hjl]
      exact hJ2 _ _ ⟨i + 1, R, L, c, by omega, (by simp only [push_cast, ↓reduceIte, Nat.reduceEqDiff, true_and, and_true, and_self, eq_self, fr]), hlt, hnd, hl21, hg21, kP21, kV21, kO21, bb21⟩ (by rw [hmu2]; simp only [push_cast, ↓reduceIte, Nat.reduceEqDiff, intOf, fr]; omega)
  | false =>
    have hlZ := fun {w' : World} (h : Blk w' g 126 z.cells) {K : Fr → World → Prop} {f : Fr} {d : Option Nat} {w : World} => h.ldAll (P := Tryd.prog) (K := K) (f := f) (d := d) (w := w) ty_ag_126 (e2_pt z)
    have hno := hkf rfl
    by_cases hjl : j < R.length
    case neg =>
      obtain rfl : j = R.length := by omega
      rw [List.take_length] at hno
      simp (disch := first | with_reducible assumption | omega) only [push_cast, x_blk, x_cd, ↓reduceIte, Nat.reduceEqDiff, List.map_cons, List.map_nil, Int.reduceEq, Int.lt_irrefl, L_ref15_Covers_0, fr, Nat.lt_irrefl, hlZ kZ21, bl_bt, bs_rec btEnc slT_129 _ (by decide)]
      refine app_rec btEnc slT_129 hl21 ⟨z, n'⟩ (by omega) (by omega) (by omega) ?_
      intro A15 c15 w15 oR g15 hA15 hs15 z15
      have kt := KeepT.grew (es := esI) hl21 (Nat.le_refl _) (by decide) g15
      simp (disch := first | with_reducible assumption | omega) only [push_cast, x_blk, x_cd, ↓reduceIte, Nat.reduceEqDiff, List.map_cons, List.map_nil, Int.reduceEq, Int.lt_irrefl, fr]
      refine hJ2 _ _ ⟨i + 1, R ++ [⟨z, n'⟩], A15, c15, by omega, (by simp only [push_cast, ↓reduceIte, Nat.reduceEqDiff, true_and, and_true, and_self, eq_self, fr, List.length_append, List.length_cons, List.length_nil]), by rw [List.length_append]; omega, ?_, oR, fun r hr => ?_, kP21.grown g15.by_ (hl21.ne_blk kP21 (by decide)).symm, kV21.grown g15.by_ (hl21.ne_blk kV21 (by decide)).symm, kO21.grown g15.by_ (hl21.ne_blk kO21 (by decide)).symm, g15.below bb21 (by omega) hl21.geB⟩ (by rw [hmu2]; simp only [push_cast, ↓reduceIte, Nat.reduceEqDiff, intOf, fr]; omega)
      · rw [List.map_append, List.nodup_append]
        refine ⟨hnd, by simp, fun u hu v hv huv => ?_⟩
        rw [List.mem_singleton.1 hv] at huv
        rw [huv] at hu; exact hno hu
      · rcases List.mem_append.1 hr with hr | hr
        · exact (hg21 r hr).keep kt
        · rw [List.mem_singleton.1 hr]; exact ⟨hz21.keep kt, hC', onP_univ hm om ho1, hn'⟩
    have hbk : R[j]? = some (R[j]'hjl) := List.getElem?_eq_getElem hjl
    have hbm : R[j]'hjl ∈ R := List.getElem_mem hjl
    have htk : R.take (j + 1) = R.take j ++ [R[j]'hjl] := List.take_succ_eq_append_getElem hjl
    generalize R[j]'hjl = b2 at hbk hbm htk
    have hdiff : b2.abs ≠ (z.abs, n') → (z.abs, n') ∉ (R.take (j + 1)).map BtH.abs := fun h => by
      rw [htk, List.map_append, List.mem_append]
      rintro (h1 | h1)
      · exact hno h1
      · exact h (List.mem_singleton.1 h1).symm
    have hsame : b2.abs = (z.abs, n') → (z.abs, n') ∈ R.map BtH.abs := fun h => by rw [← h]; exact List.mem_map.2 ⟨b2, hbm, rfl⟩
    have bd21 : Below w21.heap.size w21 w21.drew := (Same.refl w21).drew.below _
    have b2022 := b2021.trans (bd21.mono b2021.size)
    have hR22 := hRw.below (b421.trans (bd21.mono b421.size))
    have kZ22 := kZ21.below bd21 kZ21.lt
    have hz22 := hz21.keep (.below bd21)
    have hq2 := (hg21 b2 hbm).keep (.below bd21)
    generalize hu22 : w21.drew = u22 at *
    have sL22 := hR22.isSome (by omega)
    have ld2 := fun {K : Fr → World → Prop} {f : Fr} {d : Option Nat} {w' : World} => hR22.ld (P := Tryd.prog) (K := K) (f := f) (d := d) (w := w') ty_ag_3 hbk (j := 2) (v := .int .i64 b2.n) rfl
    have ld0 := fun {K : Fr → World → Prop} {f : Fr} {d : Option Nat} {w' : World} => BtH.ldM (K := K) (f := f) (d := d) (w := w') hR22 hbk
    have ld1 := fun {K : Fr → World → Prop} {f : Fr} {d : Option Nat} {w' : World} => BtH.ldT (K := K) (f := f) (d := d) (w := w') hR22 hbk
    by_cases q1 : (b2.n : Int) = (n' : Int)
    case neg =>
      simp (disch := first | with_reducible assumption | omega) only [push_cast, x_blk, x_cd, ↓reduceIte, Nat.reduceEqDiff, List.map_cons, List.map_nil, Int.reduceEq, Int.lt_irrefl, L_ref15_Covers_0, fr, hjl, hu22, sL22, ld2, q1]
      exact hJ4 _ _ ⟨j + 1, false, by omega, (by simp only [push_cast, ↓reduceIte, Nat.reduceEqDiff, true_and, and_true, and_self, eq_self, fr]), fun h => by (cases h), fun _ => hdiff fun h => q1 (by have := congrArg (·.2) h; have h3 : b2.n = n' := this; omega), b2022⟩ (by rw [hmu4]; simp only [push_cast, ↓reduceIte, Nat.reduceEqDiff, intOf, fr]; omega)
    by_cases q2 : b2.x.M = z.M
    case neg =>
      simp (disch := first | with_reducible assumption | omega) only [push_cast, x_blk, x_cd, ↓reduceIte, Nat.reduceEqDiff, List.map_cons, List.map_nil, Int.reduceEq, Int.lt_irrefl, L_ref15_Covers_0, fr, hjl, hu22, sL22, ld2, eq_true q1, ld0, kZ22.pt0 ty_ag_3, q2]
      exact hJ4 _ _ ⟨j + 1, false, by omega, (by simp only [push_cast, ↓reduceIte, Nat.reduceEqDiff, true_and, and_true, and_self, eq_self, fr]), fun h => by (cases h), fun _ => hdiff fun h => q2 (congrArg (·.1.1) h), b2022⟩ (by rw [hmu4]; simp only [push_cast, ↓reduceIte, Nat.reduceEqDiff, intOf, fr]; omega)
    simp (disch := first | with_reducible assumption | omega) only [push_cast, x_blk, x_cd, ↓reduceIte, Nat.reduceEqDiff, List.map_cons, List.map_nil, Int.reduceEq, Int.lt_irrefl, L_ref15_Covers_0, fr, hjl, hu22, sL22, ld2, eq_true q1, ld0, kZ22.pt0 ty_ag_3, eq_true q2, ld1, kZ22.pt1 ty_ag_22]
    refine call_of (ref1_Same hq2.pt.lt hz22.lt b2.x.cr z.cr (by have := hq2.pt.n; omega)) ?_
    rintro v w23 ⟨rfl, s23⟩
    have b2023 := b2022.trans ((s23.below u22.heap.size).mono b2022.size)
    simp (disch := first | with_reducible assumption | omega) only [push_cast, x_blk, x_cd, ↓reduceIte, Nat.reduceEqDiff, List.map_cons, List.map_nil, Int.reduceEq, Int.lt_irrefl, fr]
    refine hJ4 _ _ ⟨j + 1, decide (b2.x.s = z.s), by omega, (by simp only [push_cast, ↓reduceIte, Nat.reduceEqDiff, true_and, and_true, and_self, eq_self, fr]), fun h => hsame ?_, fun h => hdiff fun h' => ?_, b2023⟩ (by rw [hmu4]; simp only [push_cast, ↓reduceIte, Nat.reduceEqDiff, intOf, fr]; omega)
    · exact Prod.ext (Prod.ext q2 (of_decide_eq_true h)) (by show b2.n = n'; omega)
    · exact of_decide_eq_false h (congrArg (·.1.2) h')
end Go.Proofs.YtcjedgiglimipaaDoor

/-
  Chapter 15: the law VeilMost: by its contract.
-/
namespace Go.Proofs.YtcjedgiglimipaaDoor
set_option linter.unusedSimpArgs false
set_option linter.unusedVariables false
set_option linter.unusedSectionVars false
open Go.RowKit

set_option maxHeartbeats 4000000 in
theorem law_VeilMost {w : World} (hT : Tab w) {a : PV} {p : Plt} (ha : IsP (· < w.heap.size) w a p) (hf : p.Fits) (_hc : a.Caps p)
    {A1 : Option Addr} {c1 : Nat} {free : List Int} (h1 : Ints (· < w.heap.size) w A1 free) (_b1 : ∀ x ∈ free, I64 x) (n1 : free.length ≤ 17592186043904) (_k1 : free.length ≤ c1)
    {ov : MV} {o : Mach} (ho : IsM (· < w.heap.size) w ov o) (fo : o.Fits) :
    Cal Tryd.prog 11 [a.val p, .slice A1 free.length c1, ov.val o] w fun v w' => v = .bool true ∧ Below w.heap.size w w' := by
  refine cal_law_VeilMost (by simp) 1000000 fun Q hQ => ?_
  simp (disch := first | with_reducible assumption | omega) only [push_cast, x_blk, x_cd, ↓reduceIte, Nat.reduceEqDiff, List.map_cons, List.map_nil, Int.reduceEq, Int.lt_irrefl, F_law_VeilMost]
  refine blk_of (box_agg _ (a.cells p)) ?_
  intro w1 kP b1 z1
  simp (disch := first | with_reducible assumption | omega) only [push_cast, x_blk, x_cd, ↓reduceIte, Nat.reduceEqDiff, List.map_cons, List.map_nil, Int.reduceEq, Int.lt_irrefl]
  refine blk_of (box_agg _ (ov.cells o)) ?_
  intro w2 kO b2 z2
  replace kP := kP.below b2 kP.lt
  have bb2 := b1.trans (b2.mono b1.size)
  simp (disch := first | with_reducible assumption | omega) only [push_cast, x_blk, x_cd, ↓reduceIte, Nat.reduceEqDiff, List.map_cons, List.map_nil, Int.reduceEq, Int.lt_irrefl, kP.pA']
  refine call_of (law_veiled (ha.up bb2) hf (h1.up bb2) n1) ?_
  rintro v w3 ⟨⟨bv, rfl, hbv⟩, b3⟩
  have bb3 := bb2.trans (b3.mono bb2.size)
  replace kP := kP.below b3 kP.lt
  replace kO := kO.below b3 kO.lt
  cases bv with
  | false =>
    simp (disch := first | with_reducible assumption | omega) only [push_cast, x_blk, x_cd, ↓reduceIte, Nat.reduceEqDiff, List.map_cons, List.map_nil, Int.reduceEq, Int.lt_irrefl]
    exact fin_1 (hQ _ _ ⟨(by simp only [push_cast, ↓reduceIte, Nat.reduceEqDiff, Int.reduceEq]), bb3⟩)
  | true =>
  have hv := hbv.1 rfl
  obtain ⟨pm, pr⟩ := hv.1
  have hm := pm.1
  have ev8 := hm.2.2.2.1
  have hpl := hv.2.2
  simp (disch := first | with_reducible assumption | omega) only [push_cast, x_blk, x_cd, ↓reduceIte, Nat.reduceEqDiff, List.map_cons, List.map_nil, Int.reduceEq, Int.lt_irrefl, kO.mA ty_ag_25 ty_sz_25]
  refine call_of (ref2_May (ho.up bb3) fo) ?_
  rintro v w4 ⟨rfl, b4⟩
  have bb4 := bb3.trans (b4.mono bb3.size)
  replace kP := kP.below b4 kP.lt
  replace kO := kO.below b4 kO.lt
  by_cases om : o.May
  case neg =>
    simp (disch := first | with_reducible assumption | omega) only [push_cast, x_blk, x_cd, ↓reduceIte, Nat.reduceEqDiff, List.map_cons, List.map_nil, Int.reduceEq, Int.lt_irrefl, decide_eq_false om]
    exact fin_1 (hQ _ _ ⟨(by simp only [push_cast, ↓reduceIte, Nat.reduceEqDiff, Int.reduceEq]), bb4⟩)
  by_cases qe : o.events = p.m.events
  case neg =>
    simp (disch := first | with_reducible assumption | omega) only [push_cast, x_blk, x_cd, ↓reduceIte, Nat.reduceEqDiff, List.map_cons, List.map_nil, Int.reduceEq, Int.lt_irrefl, decide_eq_true om, kO.m1 ty_ag_3, kP.p1, qe]
    exact fin_1 (hQ _ _ ⟨(by simp only [push_cast, ↓reduceIte, Nat.reduceEqDiff, Int.reduceEq]), bb4⟩)
  by_cases o6' : (6 : Int) < o.states
  case pos =>
    simp (disch := first | with_reducible assumption | omega) only [push_cast, x_blk, x_cd, ↓reduceIte, Nat.reduceEqDiff, List.map_cons, List.map_nil, Int.reduceEq, Int.lt_irrefl, decide_eq_true om, kO.m1 ty_ag_3, kP.p1, eq_true qe, kO.m0 ty_ag_3, o6']
    exact fin_1 (hQ _ _ ⟨(by simp only [push_cast, ↓reduceIte, Nat.reduceEqDiff, Int.reduceEq]), bb4⟩)
  by_cases q1 : (o.starts.length : Int) = 0
  case pos =>
    simp (disch := first | with_reducible assumption | omega) only [push_cast, x_blk, x_cd, ↓reduceIte, Nat.reduceEqDiff, List.map_cons, List.map_nil, Int.reduceEq, Int.lt_irrefl, decide_eq_true om, kO.m1 ty_ag_3, kP.p1, eq_true qe, kO.m0 ty_ag_3, o6', kO.m2 ty_ag_22, eq_true q1]
    exact fin_1 (hQ _ _ ⟨(by simp only [push_cast, ↓reduceIte, Nat.reduceEqDiff, Int.reduceEq]), bb4⟩)
  by_cases q2 : (p.m.starts.length : Int) = 0
  case pos =>
    simp (disch := first | with_reducible assumption | omega) only [push_cast, x_blk, x_cd, ↓reduceIte, Nat.reduceEqDiff, List.map_cons, List.map_nil, Int.reduceEq, Int.lt_irrefl, decide_eq_true om, kO.m1 ty_ag_3, kP.p1, eq_true qe, kO.m0 ty_ag_3, o6', kO.m2 ty_ag_22, q1, kP.p2, eq_true q2]
    exact fin_1 (hQ _ _ ⟨(by simp only [push_cast, ↓reduceIte, Nat.reduceEqDiff, Int.reduceEq]), bb4⟩)
  have o6 : o.states ≤ 6 := by omega
  obtain ⟨s0, hst⟩ : ∃ s0, p.m.starts = [s0] := by
    have h1 := hpl.1
    generalize p.m.starts = l at *
    match l, h1, q2 with
    | [x], _, _ => exact ⟨x, rfl⟩
    | [], _, h => simp at h
    | _ :: _ :: _, h, _ => simp at h
  simp (disch := first | with_reducible assumption | omega) only [push_cast, x_blk, x_cd, ↓reduceIte, Nat.reduceEqDiff, List.map_cons, List.map_nil, Int.reduceEq, Int.lt_irrefl, decide_eq_true om, kO.m1 ty_ag_3, kP.p1, eq_true qe, kO.m0 ty_ag_3, o6', kO.m2 ty_ag_22, q1, kP.p2, q2, kP.pA', kO.mA ty_ag_25 ty_sz_25]
  refine call_of (ref15_Keeps (ha.up bb4) hf pm hst (h1.up bb4) n1 (ho.up bb4) fo om o6) ?_
  rintro v w5 ⟨⟨bk, rfl, hbk⟩, b5⟩
  have bb5 := bb4.trans (b5.mono bb4.size)
  replace kP := kP.below b5 kP.lt
  replace kO := kO.below b5 kO.lt
  cases bk with
  | false =>
    simp (disch := first | with_reducible assumption | omega) only [push_cast, x_blk, x_cd, ↓reduceIte, Nat.reduceEqDiff, List.map_cons, List.map_nil, Int.reduceEq, Int.lt_irrefl]
    exact fin_1 (hQ _ _ ⟨(by simp only [push_cast, ↓reduceIte, Nat.reduceEqDiff, Int.reduceEq]), bb5⟩)
  | true =>
  obtain ⟨hF, hcov⟩ := cov_all hm hpl hv.2.1 hst (hbk rfl)
  simp (disch := first | with_reducible assumption | omega) only [push_cast, x_blk, x_cd, ↓reduceIte, Nat.reduceEqDiff, List.map_cons, List.map_nil, Int.reduceEq, Int.lt_irrefl, kP.pA']
  refine call_of (veil_Make (ha.up bb5) hf (hT.on bb5) (h1.up bb5) n1) ?_
  intro v w6 h6
  obtain ⟨b6, V, is, st, rfl, hV, hO⟩ := h6.out hv
  obtain ⟨ln1, ln2, ln3, lst⟩ := hO.len pm
  obtain ⟨An, cn, hs, Am, cm, ms, rfl, rV⟩ := hV.rd
  clear hV h6
  have hms : ms.length = st.moves.length := by have := congrArg List.length rV.2.2.2.2.2; simpa using this
  have bb6 := bb5.trans (b6.mono bb5.size)
  replace kP := kP.below b6 kP.lt
  replace kO := kO.below b6 kO.lt
  obtain ⟨rfl, k, hk, hst'⟩ : is = true ∧ ∃ k, (vIter p free k).nodes.length = k ∧ st = vIter p free k := by
    rcases hO with ⟨h, _, _⟩ | ⟨_, h1, h2⟩
    · exact absurd ⟨hF.2, hF.1⟩ h
    · exact ⟨h1, h2⟩
  obtain ⟨C, hC⟩ := hcov k hk
  rw [← hst'] at hC
  have hpos : 0 < st.nodes.length := by rw [hst']; exact (vIter_good (p := p) (free := free) hm k).pos
  have nS : ∀ x ∈ ms, x.st.length ≤ 100000 := fun x hx => by
    obtain ⟨i, hi⟩ := List.mem_iff_getElem?.1 hx
    obtain ⟨mv, hmv, hxm⟩ := mv_at rV.2.2.2.2.2 hi
    have h3 := vIter_stay (p := p) (free := free) hm k mv (by rw [← hst']; exact List.mem_of_getElem? hmv)
    have := pm.2.1
    have hx3 : x.st = mv.stay := congrArg (·.2.2.1) hxm
    rw [hx3]; omega
  simp (disch := first | with_reducible assumption | omega) only [push_cast, x_blk, x_cd, ↓reduceIte, Nat.reduceEqDiff, List.map_cons, List.map_nil, Int.reduceEq, Int.lt_irrefl]
  refine blk_of (cs := veil0) al_47 ?_
  intro w7 k7 b7 z7
  simp (disch := first | with_reducible assumption | omega) only [push_cast, x_blk, x_cd, ↓reduceIte, Nat.reduceEqDiff, List.map_cons, List.map_nil, Int.reduceEq, Int.lt_irrefl]
  refine sto_blk k7 (cs := vlC An hs.length cn Am ms.length cm) (e2_vl _ _ _ _ _ _) rfl (vl_one _ _ _ _ _ _) ?_
  intro w8 k8 g8 z8
  have b68 := g8.below b7 b7.size (by intro a ha; injection ha with ha; subst ha; exact Nat.le_refl _)
  have rV8 := rV.below b68
  have bb8 := bb6.trans (b68.mono bb6.size)
  replace kP := kP.below b68 kP.lt
  replace kO := kO.below b68 kO.lt
  simp (disch := first | with_reducible assumption | omega) only [push_cast, x_blk, x_cd, ↓reduceIte, Nat.reduceEqDiff, List.map_cons, List.map_nil, Int.reduceEq, Int.lt_irrefl, eq_self, kP.pA', k8.wA, kO.mA ty_ag_25 ty_sz_25]
  refine call_of (ref15_Covers (cn := cn) (cm := cm) (ha.up bb8) hf pm hst rV8 hpos (by omega) (by omega) nS (ho.up bb8) fo om o6 hC) ?_
  rintro v w9 ⟨rfl, b9⟩
  simp (disch := first | with_reducible assumption | omega) only [push_cast, x_blk, x_cd, ↓reduceIte, Nat.reduceEqDiff, List.map_cons, List.map_nil, Int.reduceEq, Int.lt_irrefl]
  exact fin_1 (hQ _ _ ⟨(by simp only [push_cast, ↓reduceIte, Nat.reduceEqDiff, Int.reduceEq]), bb8.trans (b9.mono bb8.size)⟩)
end Go.Proofs.YtcjedgiglimipaaDoor
