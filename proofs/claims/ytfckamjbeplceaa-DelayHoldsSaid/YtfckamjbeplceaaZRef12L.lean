/-
  Chapter 12's reference: Low: a machine without its arrows at high events.
-/
import Derived.Test.YtfckamjbeplceaaZRef12B
namespace Go.Proofs.Ytfckamjbeplceaa
set_option linter.unusedSimpArgs false
set_option linter.unusedVariables false
set_option linter.unusedSectionVars false
open Go.RowKit

def lowUp (m : Mach) (high : List Int) (k : Nat) : List Arr := (m.arrows.take k).filter fun a => decide (a.evt ∉ high)
def lowA (m : Mach) (as_ : List Arr) : Mach := ⟨m.states, m.events, m.starts, as_, m.ends⟩
def lowM (m : Mach) (high : List Int) : Mach := lowA m (lowUp m high m.arrows.length)
theorem lowUp_succ {m : Mach} {high : List Int} {k : Nat} (h : k < m.arrows.length) : lowUp m high (k + 1) = if (m.arrows.getD k default).evt ∈ high then lowUp m high k else lowUp m high k ++ [m.arrows.getD k default] := by
  unfold lowUp
  rw [take_snoc m.arrows default k h, List.filter_append, List.filter_cons]
  generalize m.arrows.getD k default = a
  by_cases q : a.evt ∈ high
  · rw [if_pos q]; simp [q]
  · rw [if_neg q]; simp [q]
theorem lowUp_le (m : Mach) (high : List Int) (k : Nat) : (lowUp m high k).length ≤ m.arrows.length :=
  Nat.le_trans (List.length_filter_le ..) (List.length_take_le' ..)

theorem ref12_Low {w : World} {am : MV} {m : Mach} (hm : IsM (· < w.heap.size) w am m) (fm : m.Fits) (hA : m.arrows.length ≤ 100000)
    {A1 : Option Addr} {c1 : Nat} {high : List Int} (h1 : Ints (· < w.heap.size) w A1 high) (n1 : high.length ≤ 17592186043904) :
    Cal Try.prog 13 [am.val m, .slice A1 high.length c1] w fun v w' => ∃ a' : MV, v = a'.val (lowM m high) ∧ IsM (· < w'.heap.size) w' a' (lowM m high) ∧ Below w.heap.size w w' := by
  refine cal_ref12_Low (by simp) 100000 fun Q hQ => ?_
  simp (disch := first | with_reducible assumption | omega) only [push_cast, x_blk, x_cd, ↓reduceIte, Nat.reduceEqDiff, List.map_cons, List.map_nil, Int.reduceEq, Int.lt_irrefl, F_ref12_Low]
  refine blk_of (box_agg _ (am.cells m)) ?_
  intro w1 k1 b1 z1
  have l1 := k1.lt
  simp (disch := first | with_reducible assumption | omega) only [push_cast, x_blk, x_cd, ↓reduceIte, Nat.reduceEqDiff, List.map_cons, List.map_nil, Int.reduceEq, Int.lt_irrefl]
  refine blk_of (cs := mv0.cells mach0) al_25 ?_
  intro w2 k2 b2 z2
  have l2 := k2.lt
  replace k1 := k1.below b2 k1.lt
  have bb := b1.trans (b2.mono b1.size)
  simp (disch := first | with_reducible assumption | omega) only [push_cast, x_blk, x_cd, ↓reduceIte, Nat.reduceEqDiff, List.map_cons, List.map_nil, Int.reduceEq, Int.lt_irrefl, k1.mA ty_ag_25 ty_sz_25]
  refine blk_of (cs := mv0.cells mach0) al_25 ?_
  intro w3 k3 b3 z3
  have l3 := k3.lt
  replace k1 := k1.below b3 k1.lt
  replace k2 := k2.below b3 k2.lt
  replace bb := bb.trans (b3.mono bb.size)
  simp (disch := first | with_reducible assumption | omega) only [push_cast, x_blk, x_cd, ↓reduceIte, Nat.reduceEqDiff, List.map_cons, List.map_nil, Int.reduceEq, Int.lt_irrefl]
  refine sto_mach k3 rfl am m ?_
  intro w4 k4 g4 z4
  have b4 := g4.below b3 b3.size (by intro a ha; injection ha with ha; subst ha; exact Nat.le_refl _)
  clear b1 b2 z1 z2
  replace k1 := k1.grown g4.by_ (by simp; omega)
  replace k2 := k2.grown g4.by_ (by simp; omega)
  replace bb := g4.below bb bb.size (by intro a ha; injection ha with ha; subst ha; show w.heap.size ≤ w2.heap.size; omega)
  simp (disch := first | with_reducible assumption | omega) only [push_cast, x_blk, x_cd, ↓reduceIte, Nat.reduceEqDiff, List.map_cons, List.map_nil, Int.reduceEq, Int.lt_irrefl]
  refine sto_slice k4 (by kernel_rfl) 3 (by simp) _ _ _ ?_
  intro w5 k5 g5 z5
  have k5' : Blk w5 w2.heap.size 25 (MV.cells ⟨am.As, am.cs, none, 0, am.Ae, am.ce⟩ (lowA m [])) := k5
  replace k1 := k1.grown g5.by_ (by simp; omega)
  replace k2 := k2.grown g5.by_ (by simp; omega)
  replace bb := g5.below bb bb.size (by intro a ha; injection ha with ha; subst ha; show w.heap.size ≤ w2.heap.size; omega)
  simp (disch := first | with_reducible assumption | omega) only [push_cast, x_blk, x_cd, ↓reduceIte, Nat.reduceEqDiff, List.map_cons, List.map_nil, Int.reduceEq, Int.lt_irrefl]
  refine loop_rule (fun f w' => ∃ (k : Nat) (as_ : List Arr) (Aa : Option Addr) (ca : Nat), k ≤ m.arrows.length ∧ (f 1 = .slice A1 high.length c1 ∧ f 2 = .pointer (some ⟨w.heap.size, 0, none⟩) ∧ f 4 = .pointer (some ⟨w1.heap.size, 0, none⟩) ∧ f 5 = .pointer (some ⟨w2.heap.size, 0, none⟩) ∧ f 6 = .int .i64 k) ∧ as_ = lowUp m high k ∧
      Blk w' w.heap.size 25 (am.cells m) ∧ Blk w' w1.heap.size 25 (mv0.cells mach0) ∧ Blk w' w2.heap.size 25 (MV.cells ⟨am.As, am.cs, Aa, ca, am.Ae, am.ce⟩ (lowA m as_)) ∧ OwnR arrCells w.heap.size 42 3 w' Aa ca as_ ∧ Below w.heap.size w w')
    (fun f _ => m.arrows.length - (intOf (f 6)).toNat) ⟨0, [], none, 0, Nat.zero_le _, ⟨rfl, rfl, rfl, rfl, rfl⟩, rfl, k1, k2, k5', Own.nil _ _ _ _, bb⟩ ?_
  clear k1 k2 k4 k5 k5' bb g4 g5 z3 z4 z5 b3 b4
  rintro f w6 ⟨k, as_, Aa, ca, hk, fr, has, k1, k2, k3, ho, bb⟩ J hJ
  by_cases hlt : k < m.arrows.length
  case neg =>
    obtain rfl : k = m.arrows.length := by omega
    simp (disch := first | with_reducible assumption | omega) only [push_cast, x_blk, x_cd, ↓reduceIte, Nat.reduceEqDiff, List.map_cons, List.map_nil, Int.reduceEq, Int.lt_irrefl, L_ref12_Low_0, fr, Nat.lt_irrefl, k1.m3 ty_ag_23, k3.mA ty_ag_25 ty_sz_25]
    refine sto_mach k2 rfl _ _ ?_
    intro w7 k7 g7 z7
    subst has
    have k7' : Blk w7 w1.heap.size 25 (MV.cells ⟨am.As, am.cs, Aa, ca, am.Ae, am.ce⟩ (lowM m high)) := k7
    have ho7 := ho.grew g7 (.inr (ho.ne_blk k2 (by decide)))
    have bb7 := g7.below bb bb.size (by intro a ha; injection ha with ha; subst ha; show w.heap.size ≤ w1.heap.size; omega)
    have hm7 := hm.up bb7
    simp (disch := first | with_reducible assumption | omega) only [push_cast, x_blk, x_cd, ↓reduceIte, Nat.reduceEqDiff, List.map_cons, List.map_nil, Int.reduceEq, Int.lt_irrefl]
    exact fin_cell k7' ty_ag_25 (e5_mach _ _) (by simp only [push_cast, ↓reduceIte, Nat.reduceEqDiff, Int.reduceEq, fr]) (hQ _ _ ⟨⟨am.As, am.cs, Aa, ca, am.Ae, am.ce⟩, rfl, ⟨hm7.starts, Arrs.of_recs (Recs.lt arrEnc (by decide) (OwnR.recs ho7 arrEnc (by decide))), hm7.ends⟩, bb7⟩)
  have hmu : (intOf (f 6)).toNat = k := by rw [fr.2.2.2.2]; simp [intOf]
  have hsucc := lowUp_succ (high := high) hlt
  have hle := lowUp_le m high k
  rw [← has] at hle
  have hArs := (hm.below bb).arrows
  have hAA := hArs.isSome (by omega)
  have hld1 := fun {K : Fr → World → Prop} {f : Fr} {d : Option Nat} {w : World} => hArs.ld1 (P := Try.prog) (K := K) (f := f) (d := d) (w := w) ty_ag_3 k hlt
  simp (disch := first | with_reducible assumption | omega) only [push_cast, x_blk, x_cd, ↓reduceIte, Nat.reduceEqDiff, List.map_cons, List.map_nil, Int.reduceEq, Int.lt_irrefl, L_ref12_Low_0, fr, hlt, k1.m3 ty_ag_23, hld1]
  refine call_of (ref1_Has (h1.below bb) c1 _ (by omega)) ?_
  rintro v w7 ⟨rfl, sm⟩
  replace k1 := k1.same sm
  replace k2 := k2.same sm
  replace k3 := k3.same sm
  replace ho := ho.same sm
  have bb7 := bb.trans (sm.below _)
  by_cases q : (m.arrows.getD k default).evt ∈ high
  · rw [if_pos q, ← has] at hsucc
    simp (disch := first | with_reducible assumption | omega) only [push_cast, x_blk, x_cd, ↓reduceIte, Nat.reduceEqDiff, List.map_cons, List.map_nil, Int.reduceEq, Int.lt_irrefl, decide_eq_true q, fr]
    exact hJ _ _ ⟨k + 1, as_, Aa, ca, hlt, (by simp only [push_cast, ↓reduceIte, Nat.reduceEqDiff, true_and, and_true, and_self, eq_self, fr]), hsucc.symm, k1, k2, k3, ho, bb7⟩ (by simp only [push_cast, ↓reduceIte, Nat.reduceEqDiff, intOf, fr]; omega)
  rw [if_neg q, ← has] at hsucc
  have sd : Same w7 w7.drew := (Same.refl w7).drew
  have k1c := k1.same sd
  have k2c := k2.same sd
  have k3c := k3.same sd
  have hoc := ho.same sd
  have bbd := bb7.trans (sd.below _)
  have hArd := (hm.below bbd).arrows
  have hlda := fun {K : Fr → World → Prop} {f : Fr} {d : Option Nat} {w : World} => hArd.ldA (P := Try.prog) (K := K) (f := f) (d := d) (w := w) ty_ag_42 ty_sz_42 k hlt
  generalize m.arrows.getD k default = a at *
  have m3 := fun {K : Fr → World → Prop} {f : Fr} {d : Option Nat} {w : World} => k3c.m3 (P := Try.prog) (K := K) (f := f) (d := d) (w := w) ty_ag_23
  simp only [lowA] at m3
  simp (disch := first | with_reducible assumption | omega) only [push_cast, x_blk, x_cd, ↓reduceIte, Nat.reduceEqDiff, List.map_cons, List.map_nil, Int.reduceEq, Int.lt_irrefl, decide_eq_false q, fr, hlt, k1c.m3 ty_ag_23, m3, hlda, bs_rec arrEnc slT_23 _ (by decide)]
  refine ⟨(Below.refl _ _).alloc (Nat.le_refl _) _, ?_⟩
  refine app_rec arrEnc slT_23 hoc a (by omega) (by omega) bbd.size ?_
  intro A8 ca8 w8 ho8 g8 hA8 hs8 hz8
  replace k1c := k1c.grown g8.by_ (fun e => hoc.ne_blk k1c (by decide) e.symm)
  replace k2c := k2c.grown g8.by_ (fun e => hoc.ne_blk k2c (by decide) e.symm)
  have k38 := k3c.grown g8.by_ (fun e => hoc.ne_blk k3c (by decide) e.symm)
  have bb8 := g8.below bbd bbd.size hoc.geB
  simp (disch := first | with_reducible assumption | omega) only [push_cast, x_blk, x_cd, ↓reduceIte, Nat.reduceEqDiff, List.map_cons, List.map_nil, Int.reduceEq, Int.lt_irrefl, fr]
  refine sto_slice k38 (by kernel_rfl) 3 (by simp) _ _ _ ?_
  intro w9 k9 g9 z9
  have k9' : Blk w9 w2.heap.size 25 (MV.cells ⟨am.As, am.cs, A8, ca8, am.Ae, am.ce⟩ (lowA m (as_ ++ [a]))) := by
    simp only [MV.cells, lowA, List.length_append, List.length_cons, List.length_nil, Nat.zero_add]
    exact k9
  have bb9 := g9.below bb8 bb8.size (by intro a ha; injection ha with ha; subst ha; show w.heap.size ≤ w2.heap.size; omega)
  replace k1c := k1c.grown g9.by_ (by simp; omega)
  replace k2c := k2c.grown g9.by_ (by simp; omega)
  have ho9 := ho8.grew g9 (.inr (ho8.ne_blk k38 (by decide)))
  simp (disch := first | with_reducible assumption | omega) only [push_cast, x_blk, x_cd, ↓reduceIte, Nat.reduceEqDiff, List.map_cons, List.map_nil, Int.reduceEq, Int.lt_irrefl, fr]
  exact hJ _ _ ⟨k + 1, as_ ++ [a], A8, ca8, hlt, (by simp only [push_cast, ↓reduceIte, Nat.reduceEqDiff, true_and, and_true, and_self, eq_self, fr]), hsucc.symm, k1c, k2c, k9', ho9, bb9⟩ (by simp only [push_cast, ↓reduceIte, Nat.reduceEqDiff, intOf, fr]; omega)
theorem may_at {m : Mach} (hm : m.May) {a : Arr} (ha : a ∈ m.arrows) : m.ArrOk a := by
  obtain ⟨i, hi, rfl⟩ := List.getElem_of_mem ha
  have := (hm.2.2.2.2.2.2.2 i hi).1
  rwa [List.getD_eq_getElem?_getD, List.getElem?_eq_getElem hi] at this
theorem low_may {m : Mach} (hm : m.May) (high : List Int) : (lowM m high).May := by
  have hA : (lowM m high).arrows = m.arrows.filter fun a => decide (a.evt ∉ high) := by
    show lowUp m high m.arrows.length = _
    unfold lowUp; rw [List.take_length]
  have ho : OrdA (lowM m high).arrows := by rw [hA]; exact List.Pairwise.filter _ (May.ord hm)
  refine ⟨hm.1, hm.2.1, hm.2.2.1, hm.2.2.2.1, ?_, hm.2.2.2.2.2.1, hm.2.2.2.2.2.2.1, fun i hi => ⟨?_, fun h0 => ho.at_ (by omega) hi⟩⟩
  · rw [hA]; exact Nat.le_trans (List.length_filter_le _ _) hm.2.2.2.2.1
  · have : (lowM m high).arrows.getD i default ∈ m.arrows := by
      have h1 := getD_mem (lowM m high).arrows default i hi
      generalize (lowM m high).arrows.getD i default = a at h1
      rw [hA] at h1
      exact (List.mem_filter.1 h1).1
    exact may_at hm this
end Go.Proofs.Ytfckamjbeplceaa
