/-
  Chapter 5's reference: what unseen events lead to; where a machine may be when an event was seen: by their contracts.
-/
import Derived.Test.YtcjedgiglimipaaDoorZReachD
import Derived.Test.YtcjedgiglimipaaDoorZArgs
namespace Go.Proofs.YtcjedgiglimipaaDoor
set_option linter.unusedSimpArgs false
set_option linter.unusedVariables false
set_option linter.unusedSectionVars false
open Go.RowKit

theorem wide_snoc {seen : List Int} {m : Mach} {l : List Int} {k j : Nat} (hk : k ≤ l.length) (q : Int) (h : ∀ j, j < k → ∀ p ∈ unE m seen, p.1 = l.getD j 0 → p.2 ∈ l) : ∀ j, j < k → ∀ p ∈ unE m seen, p.1 = (l ++ [q]).getD j 0 → p.2 ∈ l ++ [q] := fun j hj p hp e => by
  rw [getD_append_left _ _ _ _ (by omega)] at e
  exact List.mem_append_left _ (h j hj p hp e)
theorem ref5_Wide {w : World} {a : MV} {m : Mach} (h : IsM (· < w.heap.size) w a m) (hm : m.May) {A1 : Option Addr} {c1 : Nat} {l0 : List Int} (h1 : Ints (· < w.heap.size) w A1 l0) (hl0 : IsRow l0 m.states) {A2 : Option Addr} {c2 : Nat} {seen : List Int} (h2 : Ints (· < w.heap.size) w A2 seen) (n2 : seen.length ≤ 17592186043904) :
    Cal Tryd.prog 56 [a.val m, .slice A1 l0.length c1, .slice A2 seen.length c2] w fun v w' => ∃ O co, v = .slice O (wideL m seen l0).length co ∧ OwnI w.heap.size 3 w' O co (wideL m seen l0) ∧ Below w.heap.size w w' := by
  have hst : m.states ≤ 256 := hm.2.1
  have nA := hm.2.2.2.2.1
  have hlen0 := hl0.len
  refine cal_ref5_Wide (by simp) 100000 fun Q hQ => ?_
  simp (disch := first | with_reducible assumption | omega) only [push_cast, x_blk, x_cd, ↓reduceIte, Nat.reduceEqDiff, List.map_cons, List.map_nil, Int.reduceEq, Int.lt_irrefl, F_ref5_Wide]
  refine blk_of (box_agg _ (a.cells m)) ?_
  intro w1 k1 b1 z1
  have b0 : Below w1.heap.size w1 (w1.alloc (.cells [].toArray 3)) := (Below.refl _ _).alloc (Nat.le_refl _) _
  have o0 : OwnI w1.heap.size 3 (w1.alloc (.cells [].toArray 3)) (some ⟨w1.heap.size, 0, none⟩) 0 [] := ⟨World.ownsRow_made w1 #[] 0 (Nat.le_refl _) (by decide) (by simp)⟩
  simp (disch := first | with_reducible assumption | omega) only [push_cast, x_blk, x_cd, ↓reduceIte, Nat.reduceEqDiff, List.map_cons, List.map_nil, Int.reduceEq, Int.lt_irrefl, bs0_22]
  generalize w1.alloc (Obj.cells [].toArray 3) = w2 at *
  have k2 := k1.below b0 k1.lt
  refine app_ints (l := []) slT_22 o0 (h1.up (b1.trans (b0.mono b1.size))) (by simp; omega) b0.size ?_
  intro O3 c3 w3 o3 g3 _ z3
  have b3 := g3.below b0 b0.size o0.geB
  rw [List.nil_append] at o3
  rw [show ([] : List Int).length + l0.length = l0.length by simp]
  have hG0 : RG (unE m seen) l0 m.states l0 := ⟨Strict.nodup hl0.strict, row_range hl0, fun x hx => hx, fun x hx => .base x hx⟩
  simp (disch := first | with_reducible assumption | omega) only [push_cast, x_blk, x_cd, ↓reduceIte, Nat.reduceEqDiff, List.map_cons, List.map_nil, Int.reduceEq, Int.lt_irrefl]
  refine loop_rule (fun f' w' => ∃ (k : Nat) (l : List Int) (O : Option Addr) (co : Nat), k ≤ l.length ∧ (f' 2 = .slice A2 seen.length c2 ∧ f' 3 = .pointer (some ⟨w.heap.size, 0, none⟩) ∧ f' 7 = .slice O l.length co ∧ f' 8 = .int .i64 k) ∧ RG (unE m seen) l0 m.states l ∧ (∀ j, j < k → ∀ p ∈ unE m seen, p.1 = l.getD j 0 → p.2 ∈ l) ∧ OwnI w1.heap.size 3 w' O co l ∧ Below w1.heap.size w1 w')
    (fun f' _ => 257 - (intOf (f' 8)).toNat) ⟨0, l0, O3, c3, Nat.zero_le _, ⟨rfl, rfl, rfl, rfl⟩, hG0, fun j hj => absurd hj (by omega), o3, b3⟩ ?_
  clear o3 b3 g3 hG0 k2
  rintro f w4 ⟨k, l, O, co, hkl, fr, hG, hcl, ho, bb⟩ J hJ
  have hlen := hG.len
  have hmu : (intOf (f 8)).toNat = k := by rw [fr.2.2.2]; simp [intOf]
  by_cases hlt : k < l.length
  case neg =>
    have hke : k = l.length := by omega
    have hdone := hG.done hst fun p hp hin => by
      obtain ⟨j, hj, hje⟩ := (mem_iff_getD l 0 p.1).1 hin
      exact hcl j (by omega) p hp hje.symm
    simp (disch := first | with_reducible assumption | omega) only [push_cast, x_blk, x_cd, ↓reduceIte, Nat.reduceEqDiff, List.map_cons, List.map_nil, Int.reduceEq, Int.lt_irrefl, L_ref5_Wide_1, fr, hlt]
    refine call_of (ref1_Sorted (Ints.lt (OwnI.ints ho)) co (by omega)) ?_
    rintro v w5 ⟨A5, c5, rfl, o5, b5⟩
    rw [hdone] at o5 ⊢
    simp (disch := first | with_reducible assumption | omega) only [push_cast, x_blk, x_cd, ↓reduceIte, Nat.reduceEqDiff, List.map_cons, List.map_nil, Int.reduceEq, Int.lt_irrefl]
    exact fin_1 (hQ _ _ ⟨A5, c5, rfl, o5.base (by have := bb.size; omega), b1.trans ((bb.trans (b5.mono bb.size)).mono b1.size)⟩)
  simp (disch := first | with_reducible assumption | omega) only [push_cast, x_blk, x_cd, ↓reduceIte, Nat.reduceEqDiff, List.map_cons, List.map_nil, Int.reduceEq, Int.lt_irrefl, L_ref5_Wide_1, fr, hlt]
  refine loop_rule (fun f' w' => ∃ (j : Nat) (l : List Int) (O : Option Addr) (co : Nat), j ≤ m.arrows.length ∧ k < l.length ∧ (f' 2 = .slice A2 seen.length c2 ∧ f' 3 = .pointer (some ⟨w.heap.size, 0, none⟩) ∧ f' 7 = .slice O l.length co ∧ f' 8 = .int .i64 k ∧ f' 9 = .int .i64 j) ∧ RG (unE m seen) l0 m.states l ∧ (∀ j, j < k → ∀ p ∈ unE m seen, p.1 = l.getD j 0 → p.2 ∈ l) ∧
      (∀ i, i < j → (m.arrows.getD i default).evt ∉ seen → (m.arrows.getD i default).frm = l.getD k 0 → (m.arrows.getD i default).to_ ∈ l) ∧ OwnI w1.heap.size 3 w' O co l ∧ Below w1.heap.size w1 w')
    (fun f' _ => m.arrows.length - (intOf (f' 9)).toNat) ⟨0, l, O, co, Nat.zero_le _, hlt, (by simp only [push_cast, ↓reduceIte, Nat.reduceEqDiff, true_and, and_true, and_self, eq_self, fr]), hG, hcl, fun i hi => absurd hi (by omega), ho, bb⟩ ?_
  clear hG hcl ho bb fr hlt hkl hlen
  rintro f w5 ⟨j, l, O, co, hj, hkl, fr, hG, hcl, hp, ho, bb⟩ J2 hJ2
  have kM := k1.below bb k1.lt
  have hlen := hG.len
  have bw := b1.trans (bb.mono b1.size)
  by_cases hjt : j < m.arrows.length
  case neg =>
    have hjm : j = m.arrows.length := by omega
    have hcl2 : ∀ j, j < k + 1 → ∀ p ∈ unE m seen, p.1 = l.getD j 0 → p.2 ∈ l := fun j' hj' p hp' e => by
      by_cases ej : j' = k
      · subst ej
        obtain ⟨x, hx, hux, rfl⟩ := mem_eds.1 hp'
        obtain ⟨i, hi, rfl⟩ := (mem_iff_getD m.arrows default x).1 hx
        exact hp i (by omega) (by simpa [unA] using hux) e
      · exact hcl j' (by omega) p hp' e
    simp (disch := first | with_reducible assumption | omega) only [push_cast, x_blk, x_cd, ↓reduceIte, Nat.reduceEqDiff, List.map_cons, List.map_nil, Int.reduceEq, Int.lt_irrefl, L_ref5_Wide_0, fr, hjt, kM.m3 ty_ag_23]
    exact hJ _ _ ⟨k + 1, l, O, co, by omega, (by simp only [push_cast, ↓reduceIte, Nat.reduceEqDiff, true_and, and_true, and_self, eq_self, fr]), hG, hcl2, ho, bb⟩ (by rw [hmu]; simp only [push_cast, ↓reduceIte, Nat.reduceEqDiff, intOf, fr]; omega)
  have hA := ((h.up bw).arrows).isSome (by omega)
  have hldA := fun {K : Fr → World → Prop} {f : Fr} {d : Option Nat} {w : World} => ((h.up bw).arrows).ldA (K := K) (f := f) (d := d) (w := w) ty_ag_85 ty_sz_85 j hjt
  have hym := getD_mem m.arrows default j hjt
  have hyr := (May.arr hm hym).2.1
  have hnx : ∀ z : List Int, z.getD k 0 = l.getD k 0 → ((m.arrows.getD j default).evt ∉ seen → (m.arrows.getD j default).frm = l.getD k 0 → (m.arrows.getD j default).to_ ∈ z) → (∀ i, i < j → (m.arrows.getD i default).evt ∉ seen → (m.arrows.getD i default).frm = l.getD k 0 → (m.arrows.getD i default).to_ ∈ z) → ∀ i, i < j + 1 → (m.arrows.getD i default).evt ∉ seen → (m.arrows.getD i default).frm = z.getD k 0 → (m.arrows.getD i default).to_ ∈ z := fun z hz h1 h2 i hi => by
    rw [hz]
    exact if e : i = j then e ▸ h1 else h2 i (by omega)
  have hed : (m.arrows.getD j default).evt ∉ seen → ((m.arrows.getD j default).frm, (m.arrows.getD j default).to_) ∈ unE m seen := fun hs => mem_eds.2 ⟨_, hym, by simpa [unA] using hs, rfl⟩
  generalize m.arrows.getD j default = y at *
  have hxm := getD_mem l 0 k hkl
  simp (disch := first | with_reducible assumption | omega) only [push_cast, x_blk, x_cd, ↓reduceIte, Nat.reduceEqDiff, List.map_cons, List.map_nil, Int.reduceEq, Int.lt_irrefl, L_ref5_Wide_0, fr, hjt, kM.m3 ty_ag_23, hldA]
  refine blk_of al_85 ?_
  intro w6 k6 b6 z6
  simp (disch := first | with_reducible assumption | omega) only [push_cast, x_blk, x_cd, ↓reduceIte, Nat.reduceEqDiff, List.map_cons, List.map_nil, Int.reduceEq, Int.lt_irrefl]
  refine sto_blk k6 (cs := arrCells y) ty_sz_85 rfl (by simp [arrCells, Value.oneCell']) ?_
  intro w7 k7 g7 z7
  have b7 : Below w5.heap.size w5 w7 := g7.below b6 (by omega) (by intro a ha; injection ha with ha; subst ha; exact Nat.le_refl _)
  replace ho := ho.below b7 (Nat.le_refl _)
  replace bb := bb.trans (b7.mono bb.size)
  have sd : Same w7 w7.drew := (Same.refl w7).drew
  replace k7 := k7.same sd
  replace ho := ho.same sd
  replace bb := bb.trans (sd.below _)
  generalize hu : w7.drew = u at *
  have bw := b1.trans (bb.mono b1.size)
  have hI := Ints.lt (OwnI.ints ho)
  have hAo := hI.isSome (by omega)
  have hldx := fun {K : Fr → World → Prop} {f : Fr} {d : Option Nat} {w : World} => hI.ld (P := Tryd.prog) (K := K) (f := f) (d := d) (w := w) ty_ag_3 k hkl
  generalize hx : l.getD k 0 = x at *
  by_cases c1 : y.frm = x
  case neg =>
    simp (disch := first | with_reducible assumption | omega) only [push_cast, x_blk, x_cd, ↓reduceIte, Nat.reduceEqDiff, List.map_cons, List.map_nil, Int.reduceEq, Int.lt_irrefl, fr, hu, hkl, hldx, k7.a0 ty_ag_3, c1]
    refine ⟨Below.refl _ _, Below.refl _ _, ?_⟩
    exact hJ2 _ _ ⟨j + 1, l, O, co, hjt, hkl, (by simp only [push_cast, ↓reduceIte, Nat.reduceEqDiff, true_and, and_true, and_self, eq_self, fr]), hG, hcl, hnx l hx (fun _ e => absurd e c1) hp, ho, bb⟩ (by simp only [push_cast, ↓reduceIte, Nat.reduceEqDiff, intOf, fr]; omega)
  simp (disch := first | with_reducible assumption | omega) only [push_cast, x_blk, x_cd, ↓reduceIte, Nat.reduceEqDiff, List.map_cons, List.map_nil, Int.reduceEq, Int.lt_irrefl, fr, hu, hkl, hldx, k7.a0 ty_ag_3, c1, eq_self, k7.a1 ty_ag_3]
  refine call_of (ref1_Has (h2.up bw) c2 y.evt (by omega)) ?_
  rintro v w8 ⟨rfl, s8⟩
  replace ho := ho.same s8
  replace bb := bb.trans (s8.below _)
  by_cases c2' : y.evt ∈ seen
  · simp (disch := first | with_reducible assumption | omega) only [push_cast, x_blk, x_cd, ↓reduceIte, Nat.reduceEqDiff, List.map_cons, List.map_nil, Int.reduceEq, Int.lt_irrefl, decide_eq_true c2', fr]
    refine ⟨s8.below _, s8.below _, ?_⟩
    exact hJ2 _ _ ⟨j + 1, l, O, co, hjt, hkl, (by simp only [push_cast, ↓reduceIte, Nat.reduceEqDiff, true_and, and_true, and_self, eq_self, fr]), hG, hcl, hnx l hx (fun e => absurd c2' e) hp, ho, bb⟩ (by simp only [push_cast, ↓reduceIte, Nat.reduceEqDiff, intOf, fr]; omega)
  simp (disch := first | with_reducible assumption | omega) only [push_cast, x_blk, x_cd, ↓reduceIte, Nat.reduceEqDiff, List.map_cons, List.map_nil, Int.reduceEq, Int.lt_irrefl, decide_eq_false c2', fr, k7.a2 ty_ag_3]
  refine ⟨s8.below _, ?_⟩
  refine call_of (ref1_Has (Ints.lt (OwnI.ints ho)) co y.to_ (by omega)) ?_
  rintro v w9 ⟨rfl, s9⟩
  have k9 := (k7.same s8).same s9
  replace ho := ho.same s9
  replace bb := bb.trans (s9.below _)
  replace s8 := s8.trans s9
  by_cases c3 : y.to_ ∈ l
  · simp (disch := first | with_reducible assumption | omega) only [push_cast, x_blk, x_cd, ↓reduceIte, Nat.reduceEqDiff, List.map_cons, List.map_nil, Int.reduceEq, Int.lt_irrefl, decide_eq_true c3, fr]
    refine ⟨s8.below _, ?_⟩
    exact hJ2 _ _ ⟨j + 1, l, O, co, hjt, hkl, (by simp only [push_cast, ↓reduceIte, Nat.reduceEqDiff, true_and, and_true, and_self, eq_self, fr]), hG, hcl, hnx l hx (fun _ _ => c3) hp, ho, bb⟩ (by simp only [push_cast, ↓reduceIte, Nat.reduceEqDiff, intOf, fr]; omega)
  simp (disch := first | with_reducible assumption | omega) only [push_cast, x_blk, x_cd, ↓reduceIte, Nat.reduceEqDiff, List.map_cons, List.map_nil, Int.reduceEq, Int.lt_irrefl, decide_eq_false c3, fr, k9.a2 ty_ag_3, bs_22]
  refine ⟨s8.below _, ?_⟩
  refine app_int slT_22 ho _ (by omega) bb.size ?_
  intro A' c' w10 ho' hg' hA' hs' hz'
  simp (disch := first | with_reducible assumption | omega) only [push_cast, x_blk, x_cd, ↓reduceIte, Nat.reduceEqDiff, List.map_cons, List.map_nil, Int.reduceEq, Int.lt_irrefl, fr]
  exact hJ2 _ _ ⟨j + 1, l ++ [y.to_], A', c', hjt, by simp; omega, (by simp only [push_cast, ↓reduceIte, Nat.reduceEqDiff, true_and, and_true, and_self, eq_self, fr, List.length_append, List.length_cons, List.length_nil]), hG.snoc (hed c2') (by rw [c1]; exact hxm) c3 hyr, wide_snoc (j := 0) (by omega) _ hcl, hnx _ (by rw [getD_append_left _ _ _ _ hkl, hx]) (fun _ _ => by simp) (fun i hi h1 h2 => List.mem_append_left _ (hp i hi h1 h2)), ho', hg'.below bb bb.size ho.geB⟩ (by simp only [push_cast, ↓reduceIte, Nat.reduceEqDiff, intOf, fr]; omega)
theorem ref5_Seeing {w : World} {a : MV} {m : Mach} (h : IsM (· < w.heap.size) w a m) (hm : m.May) (hf : m.Fits) {A1 : Option Addr} {c1 : Nat} {l0 : List Int} (h1 : Ints (· < w.heap.size) w A1 l0) (n1 : l0.length ≤ 17592186043904) {A2 : Option Addr} {c2 : Nat} {seen : List Int} (h2 : Ints (· < w.heap.size) w A2 seen) (n2 : seen.length ≤ 17592186043904) (e : Int) :
    Cal Tryd.prog 57 [a.val m, .slice A1 l0.length c1, .slice A2 seen.length c2, .int .i64 e] w fun v w' => ∃ O co, v = .slice O (seeL m seen l0 e).length co ∧ OwnI w.heap.size 3 w' O co (seeL m seen l0 e) ∧ Below w.heap.size w w' := by
  refine cal_ref5_Seeing (by simp) 100000 fun Q hQ => ?_
  simp (disch := first | with_reducible assumption | omega) only [push_cast, x_blk, x_cd, ↓reduceIte, Nat.reduceEqDiff, List.map_cons, List.map_nil, Int.reduceEq, Int.lt_irrefl, F_ref5_Seeing]
  refine blk_of (box_agg _ (a.cells m)) ?_
  intro w1 k1 b1 z1
  simp (disch := first | with_reducible assumption | omega) only [push_cast, x_blk, x_cd, ↓reduceIte, Nat.reduceEqDiff, List.map_cons, List.map_nil, Int.reduceEq, Int.lt_irrefl, k1.mA ty_ag_25 ty_sz_25]
  refine call_of (ref2_Step (h.up b1) hf (h1.up b1) n1 e) ?_
  rintro v w2 ⟨A3, c3, rfl, o3, b3⟩
  replace k1 := k1.below b3 k1.lt
  have bb := b1.trans (b3.mono b1.size)
  simp (disch := first | with_reducible assumption | omega) only [push_cast, x_blk, x_cd, ↓reduceIte, Nat.reduceEqDiff, List.map_cons, List.map_nil, Int.reduceEq, Int.lt_irrefl, k1.mA ty_ag_25 ty_sz_25]
  refine call_of (ref5_Wide (h.up bb) hm (Ints.lt (OwnI.ints o3)) (stepL_row hm l0 e) (h2.up bb) n2) ?_
  rintro v w3 ⟨O, co, rfl, o4, b4⟩
  simp (disch := first | with_reducible assumption | omega) only [push_cast, x_blk, x_cd, ↓reduceIte, Nat.reduceEqDiff, List.map_cons, List.map_nil, Int.reduceEq, Int.lt_irrefl]
  exact fin_1 (hQ _ _ ⟨O, co, rfl, o4.base bb.size, bb.trans (b4.mono bb.size)⟩)
end Go.Proofs.YtcjedgiglimipaaDoor
