/-
  The laws TopFound, DelayHolds: they return true.
-/
import Derived.Test.YtfckamjbeplceaaZDiaC
import Derived.Test.YtfckamjbeplceaaZDelL
import Derived.Test.YtfckamjbeplceaaZRef9
namespace Go.Proofs.Ytfckamjbeplceaa
set_option linter.unusedSimpArgs false
set_option linter.unusedVariables false
set_option linter.unusedSectionVars false
open Go.RowKit

theorem bl_arr0 {K : Fr → World → Prop} {u : World} {f : Fr} {d : Option Nat} {w : World} : Val1 Try.prog K (Instr.build 42 #[]) u f d w = K (updO f d (.agg (arrCells ⟨0, 0, 0⟩).toArray)) w := by
  refine bld_of ?_
  rw [built_of blt_arrow, fill_nil]; rfl
theorem loop_may : loopM.May := by decide
theorem loop_fits : loopM.Fits := by
  refine ⟨?_, ?_, ?_, ?_, ?_, ?_, ?_, ?_⟩
  · show I64 1; unfold I64; omega
  · show I64 1; unfold I64; omega
  · intro x hx; rw [List.mem_singleton.1 hx]; unfold I64; omega
  · intro x hx; exact absurd hx (by simp [loopM])
  · intro a ha; rw [List.mem_singleton.1 ha]; unfold I64; exact ⟨by decide, by decide, by decide⟩
  · decide
  · decide
  · decide
theorem law_TopFound {w : World} {a0 : MV} {m0 : Mach} (h : IsM (· < w.heap.size) w a0 m0) (hf : m0.Fits) {A1 : Option Addr} {c1 : Nat} {l1 : List Int} (h1 : Ints (· < w.heap.size) w A1 l1) (_ : ∀ x ∈ l1, I64 x) (n1 : l1.length ≤ 17592186043904) (_ : l1.length ≤ c1)
    {A2 : Option Addr} {c2 : Nat} {l2 : List Int} (h2 : Ints (· < w.heap.size) w A2 l2) (_ : ∀ x ∈ l2, I64 x) (n2 : l2.length ≤ 17592186043904) (_ : l2.length ≤ c2)
    {A3 : Option Addr} {c3 : Nat} {l3 : List Int} (h3 : Ints (· < w.heap.size) w A3 l3) (_ : ∀ x ∈ l3, I64 x) (n3 : l3.length ≤ 17592186043904) (_ : l3.length ≤ c3) :
    Cal Try.prog 5 [a0.val m0, .slice A1 l1.length c1, .slice A2 l2.length c2, .slice A3 l3.length c3] w fun v w' => v = .bool true ∧ Below w.heap.size w w' := by
  refine cal_top_TopFound (by simp) 100000 fun Q hQ => ?_
  simp (disch := first | with_reducible assumption | omega) only [push_cast, x_blk, x_cd, ↓reduceIte, Nat.reduceEqDiff, List.map_cons, List.map_nil, Int.reduceEq, Int.lt_irrefl, F_top_TopFound]
  refine blk_of (box_agg _ (a0.cells m0)) ?_
  intro w1 k1 b1 z1
  simp (disch := first | with_reducible assumption | omega) only [push_cast, x_blk, x_cd, ↓reduceIte, Nat.reduceEqDiff, List.map_cons, List.map_nil, Int.reduceEq, Int.lt_irrefl, k1.mA ty_ag_25 ty_sz_25]
  refine call_of (ref2_May (h.up b1) hf) ?_
  rintro v w2 ⟨rfl, b2⟩
  replace k1 := k1.below b2 k1.lt
  have bb := b1.trans (b2.mono b1.size)
  by_cases p1 : m0.May
  case neg =>
    simp (disch := first | with_reducible assumption | omega) only [push_cast, x_blk, x_cd, ↓reduceIte, Nat.reduceEqDiff, List.map_cons, List.map_nil, Int.reduceEq, Int.lt_irrefl, p1]
    refine fin_1 (hQ _ _ ⟨?_, bb⟩)
    first | rfl | (rw [upd_at, if_pos rfl])
  by_cases p4 : m0.states ≤ 6
  case neg =>
    have q4 : 6 < m0.states := by omega
    simp (disch := first | with_reducible assumption | omega) only [push_cast, x_blk, x_cd, ↓reduceIte, Nat.reduceEqDiff, List.map_cons, List.map_nil, Int.reduceEq, Int.lt_irrefl, p1, k1.m0 ty_ag_3, q4]
    refine fin_1 (hQ _ _ ⟨?_, bb⟩)
    first | rfl | (rw [upd_at, if_pos rfl])
  have q4 : ¬ 6 < m0.states := by omega
  simp (disch := first | with_reducible assumption | omega) only [push_cast, x_blk, x_cd, ↓reduceIte, Nat.reduceEqDiff, List.map_cons, List.map_nil, Int.reduceEq, Int.lt_irrefl, p1, k1.m0 ty_ag_3, q4, k1.m1 ty_ag_3]
  refine call_of (ref1_Is (h1.up bb) c1 m0.events (by omega)) ?_
  rintro v w3 ⟨rfl, s3⟩
  replace k1 := k1.same s3
  replace bb := bb.trans (s3.below _)
  by_cases p2 : IsRow l1 m0.events
  case neg =>
    simp (disch := first | with_reducible assumption | omega) only [push_cast, x_blk, x_cd, ↓reduceIte, Nat.reduceEqDiff, List.map_cons, List.map_nil, Int.reduceEq, Int.lt_irrefl, p2]
    refine fin_1 (hQ _ _ ⟨?_, bb⟩)
    first | rfl | (rw [upd_at, if_pos rfl])
  simp (disch := first | with_reducible assumption | omega) only [push_cast, x_blk, x_cd, ↓reduceIte, Nat.reduceEqDiff, List.map_cons, List.map_nil, Int.reduceEq, Int.lt_irrefl, p2, k1.m1 ty_ag_3]
  refine call_of (ref1_Is (h2.up bb) c2 m0.events (by omega)) ?_
  rintro v w4 ⟨rfl, s4⟩
  replace k1 := k1.same s4
  replace bb := bb.trans (s4.below _)
  by_cases p3 : IsRow l2 m0.events
  case neg =>
    simp (disch := first | with_reducible assumption | omega) only [push_cast, x_blk, x_cd, ↓reduceIte, Nat.reduceEqDiff, List.map_cons, List.map_nil, Int.reduceEq, Int.lt_irrefl, p3]
    refine fin_1 (hQ _ _ ⟨?_, bb⟩)
    first | rfl | (rw [upd_at, if_pos rfl])
  simp (disch := first | with_reducible assumption | omega) only [push_cast, x_blk, x_cd, ↓reduceIte, Nat.reduceEqDiff, List.map_cons, List.map_nil, Int.reduceEq, Int.lt_irrefl, p3, k1.m1 ty_ag_3]
  refine call_of (ref1_Is (h3.up bb) c3 m0.events (by omega)) ?_
  rintro v w5 ⟨rfl, s5⟩
  replace k1 := k1.same s5
  replace bb := bb.trans (s5.below _)
  by_cases p5 : IsRow l3 m0.events
  case neg =>
    simp (disch := first | with_reducible assumption | omega) only [push_cast, x_blk, x_cd, ↓reduceIte, Nat.reduceEqDiff, List.map_cons, List.map_nil, Int.reduceEq, Int.lt_irrefl, p5]
    refine fin_1 (hQ _ _ ⟨?_, bb⟩)
    first | rfl | (rw [upd_at, if_pos rfl])
  have hb23 := fun {K : Fr → World → Prop} {f : Fr} {d : Option Nat} {w : World} => bs_rec (P := Try.prog) (K := K) (f := f) (d := d) (w := w) arrEnc slT_23 (⟨0, 0, 0⟩ : Arr) (by decide)
  simp (disch := first | with_reducible assumption | omega) only [push_cast, x_blk, x_cd, ↓reduceIte, Nat.reduceEqDiff, List.map_cons, List.map_nil, Int.reduceEq, Int.lt_irrefl, p5, bs_22, bl_arr0, hb23]
  have o6 := own_int1 w5 0 3
  have b6 : Below w5.heap.size w5 (w5.alloc (.cells [.int .i64 0].toArray 3)) := (Below.refl _ _).alloc (Nat.le_refl _) _
  generalize w5.alloc (.cells [.int .i64 0].toArray 3) = w6 at *
  have o7 := own_rec arrEnc w6 (⟨0, 0, 0⟩ : Arr) 42
  have b7 : Below w6.heap.size w6 (w6.alloc (.cells (arrCells ⟨0, 0, 0⟩).toArray 42)) := (Below.refl _ _).alloc (Nat.le_refl _) _
  generalize w6.alloc (.cells (arrCells ⟨0, 0, 0⟩).toArray 42) = w7 at *
  simp (disch := first | with_reducible assumption | omega) only [push_cast, x_blk, x_cd, ↓reduceIte, Nat.reduceEqDiff, List.map_cons, List.map_nil, Int.reduceEq, Int.lt_irrefl, bl_mach4, bs_22]
  have o8 := own_int1 w7 0 3
  have b8 : Below w7.heap.size w7 (w7.alloc (.cells [.int .i64 0].toArray 3)) := (Below.refl _ _).alloc (Nat.le_refl _) _
  generalize w7.alloc (.cells [.int .i64 0].toArray 3) = w8 at *
  have b68 := b7.trans (b8.mono b7.size)
  have b58 := b6.trans (b68.mono b6.size)
  have hML : IsM (· < w8.heap.size) w8 ⟨some ⟨w5.heap.size, 0, none⟩, 1, some ⟨w6.heap.size, 0, none⟩, 1, none, 0⟩ loopM :=
    ⟨(Ints.lt (OwnI.ints o6)).up b68, Arrs.of_recs ((Recs.lt arrEnc (by decide) (OwnR.recs o7 arrEnc (by decide))).below b8 |>.mono fun b hb => Nat.lt_of_lt_of_le hb b8.size), Ints.nil _ _ _⟩
  have bb8 := bb.trans (b58.mono bb.size)
  have hv : (Value.agg #[.int .i64 1, .int .i64 1, .slice (some ⟨w5.heap.size, 0, none⟩) 1 1, .slice (some ⟨w6.heap.size, 0, none⟩) 1 1, .slice none 0 0]) = MV.val ⟨some ⟨w5.heap.size, 0, none⟩, 1, some ⟨w6.heap.size, 0, none⟩, 1, none, 0⟩ loopM := rfl
  refine call_of (diagnose_Delay (seen := []) hML loop_fits (Ints.nil _ _ none) (by simp) (c1 := 0) (faults := [0]) (Ints.lt (OwnI.ints o8)) (by simp) (c2 := 1)) ?_
  rintro v w9 ⟨d, e, rfl, hd, b9⟩
  have hdm : d = -1 := by
    rcases hd with ⟨h2, _⟩ | ⟨_, h2, _⟩ | ⟨_, _, _, hd⟩
    · exact absurd ⟨loop_may, fun i hi => absurd hi (by simp), by decide⟩ h2
    · exact absurd (by decide) h2
    · exact DelayIs.unique hd loop_delay
  subst hdm
  have bb9 := bb8.trans (b9.mono bb8.size)
  have k9 := (k1.below b58 k1.lt).below b9 (Nat.lt_of_lt_of_le k1.lt b58.size)
  clear k1 bb bb8 b9 b58 b68 b6 b7 b8 o6 o7 o8 hML
  simp (disch := first | with_reducible assumption | omega) only [push_cast, x_blk, x_cd, ↓reduceIte, Nat.reduceEqDiff, List.map_cons, List.map_nil, Int.reduceEq, Int.lt_irrefl]
  have e1 := p2.len
  have e2 := p3.len
  refine call_of (ref1_Join (h1.up bb9) (h2.up bb9) (by omega) (by omega)) ?_
  rintro v w10 ⟨AJ, cJ, rfl, oJ, b10⟩
  have hJl : (sortedL (l1 ++ l2)).length ≤ 17592186043904 := by
    have := sortedL_len (l1 ++ l2)
    rw [List.length_append] at this
    have e1 := p2.len
    have e2 := p3.len
    omega
  have hsub : ∀ e ∈ l1, e ∈ sortedL (l1 ++ l2) := fun e he => ((sortedL_spec _).2 e).2 (List.mem_append_left _ he)
  have hJr : IsRow (sortedL (l1 ++ l2)) m0.events := IsRow.of_strict (sortedL_spec _).1 fun x hx => by
    rcases List.mem_append.1 (((sortedL_spec _).2 x).1 hx) with hx | hx
    · exact p2.mem hx
    · exact p3.mem hx
  have k10 := k9.below b10 k9.lt
  have bb10 := bb9.trans (b10.mono bb9.size)
  have iJ := Ints.lt (OwnI.ints oJ)
  generalize sortedL (l1 ++ l2) = wide at *
  simp (disch := first | with_reducible assumption | omega) only [push_cast, x_blk, x_cd, ↓reduceIte, Nat.reduceEqDiff, List.map_cons, List.map_nil, Int.reduceEq, Int.lt_irrefl, k10.mA ty_ag_25 ty_sz_25]
  refine call_of (diagnose_Delay (h.up bb10) hf (h1.up bb10) n1 (h3.up bb10) n3) ?_
  rintro v w11 ⟨d, e, rfl, hd, b11⟩
  have k11 := k10.below b11 k10.lt
  have bb11 := bb10.trans (b11.mono bb10.size)
  rcases hd with ⟨h2, _⟩ | ⟨_, h2, _⟩ | ⟨_, _, rfl, hd⟩
  · exact absurd ⟨p1, p2, p5⟩ h2
  · exact absurd p4 h2
  simp (disch := first | with_reducible assumption | omega) only [push_cast, x_blk, x_cd, ↓reduceIte, Nat.reduceEqDiff, List.map_cons, List.map_nil, Int.reduceEq, Int.lt_irrefl, k11.mA ty_ag_25 ty_sz_25]
  refine call_of (diagnose_Delay (h.up bb11) hf (iJ.up b11) hJl (h3.up bb11) n3) ?_
  rintro v w12 ⟨d', e', rfl, hd', b12⟩
  have bb12 := bb11.trans (b12.mono bb11.size)
  rcases hd' with ⟨h2, _⟩ | ⟨_, h2, _⟩ | ⟨_, _, rfl, hd'⟩
  · exact absurd ⟨p1, hJr, p5⟩ h2
  · exact absurd p4 h2
  have hmd := more_delay p1 hsub hd hd'
  by_cases c : d < 0
  case pos =>
    simp (disch := first | with_reducible assumption | omega) only [push_cast, x_blk, x_cd, ↓reduceIte, Nat.reduceEqDiff, List.map_cons, List.map_nil, Int.reduceEq, Int.lt_irrefl, c, eq_self]
    refine fin_1 (hQ _ _ ⟨?_, bb12⟩)
    first | rfl | (rw [upd_at, if_pos rfl])
  case neg =>
    obtain ⟨c1, c2⟩ := hmd.resolve_left c
    simp (disch := first | with_reducible assumption | omega) only [push_cast, x_blk, x_cd, ↓reduceIte, Nat.reduceEqDiff, List.map_cons, List.map_nil, Int.reduceEq, Int.lt_irrefl, c, c1, c2, eq_self]
    refine fin_1 (hQ _ _ ⟨?_, bb12⟩)
    first | rfl | (rw [upd_at, if_pos rfl])
end Go.Proofs.Ytfckamjbeplceaa
