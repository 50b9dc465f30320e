/-
  Chapter 14: the reference's Keep: the walk.
-/
import Derived.Test.YtkemapljhmoafaaCtlC
namespace Go.Proofs.Ytkemapljhmoafaa
set_option linter.unusedSimpArgs false
set_option linter.unusedVariables false
open Go.RowKit

theorem ref14_Keep {w : World} {a : MV} {m : Mach} (h : IsM (· < w.heap.size) w a m) (hf : m.Fits) (hm : m.May)
    {A1 A2 : Option Addr} {c1 c2 : Nat} {free bad : List Int} (h1 : Ints (· < w.heap.size) w A1 free) (h2 : Ints (· < w.heap.size) w A2 bad)
    (n1 : free.length ≤ 17592186043904) (n2 : bad.length ≤ 17592186043904) :
    Cal Try.prog 27 [a.val m, .slice A1 free.length c1, .slice A2 bad.length c2] w fun v w' =>
      ∃ O co o, v = .slice O o.length co ∧ OwnI w.heap.size 3 w' O co o ∧ Below w.heap.size w w' ∧ Strict o ∧ ∀ x, x ∈ o ↔ (0 ≤ x ∧ x < m.states) ∧ ¬ Lost m free bad x := by
  have hst : m.states ≤ 256 := hm.2.1
  have nA := hf.lenA
  refine cal_ref14_Keep (by simp) 100000 fun Q hQ => ?_
  simp (disch := first | with_reducible assumption | omega) only [push_cast, x_blk, x_cd, ↓reduceIte, Nat.reduceEqDiff, F_ref14_Keep]
  refine blk_of (box_agg _ (a.cells m)) ?_
  intro w1 k1 b1 z1
  simp (disch := first | with_reducible assumption | omega) only [push_cast, x_blk, x_cd, ↓reduceIte, Nat.reduceEqDiff]
  refine loop_rule (fun f' w' => ∃ s : Nat, ∃ O co o, (s : Int) ≤ m.states ∧ f' 1 = .slice A1 free.length c1 ∧ f' 2 = .slice A2 bad.length c2 ∧ f' 3 = .pointer (some ⟨w.heap.size, 0, none⟩) ∧ f' 7 = .slice O o.length co ∧ f' 8 = .int .i64 s ∧
      Strict o ∧ (∀ x, x ∈ o ↔ (0 ≤ x ∧ x < s) ∧ ¬ Lost m free bad x) ∧ o.length ≤ s ∧ OwnI w.heap.size 3 w' O co o ∧ Blk w' w.heap.size 33 (a.cells m) ∧ Below w.heap.size w w')
    (fun f' _ => m.states.toNat - (intOf (f' 8)).toNat) ⟨0, none, 0, [], by have := hm.1; omega, rfl, rfl, rfl, rfl, rfl, List.Pairwise.nil, fun x => ⟨fun hx => absurd hx (by simp), fun hx => absurd hx.1 (by omega)⟩, Nat.le_refl _, Own.nil _ _ _ _, k1, b1⟩ ?_
  clear k1 b1 z1
  rintro f w2 ⟨s, O, co, o, hk, g1, g2, g3, g7, g8, ho1, ho2, hol, ho, kM, bb⟩ J hJ
  by_cases hlt : (s : Int) < m.states
  case neg =>
    have hke : (s : Int) = m.states := by omega
    simp (disch := first | with_reducible assumption | omega) only [push_cast, x_blk, x_cd, ↓reduceIte, Nat.reduceEqDiff, L_ref14_Keep_2, g1, g2, g3, g7, g8, hlt, kM.m0 ty_ag_3]
    exact fin_1 (hQ _ _ ⟨O, co, o, (by simp only [push_cast, ↓reduceIte, Nat.reduceEqDiff, g7]), ho, bb, ho1, fun x => by rw [ho2, hke]⟩)
  simp (disch := first | with_reducible assumption | omega) only [push_cast, x_cd, ↓reduceIte, Nat.reduceEqDiff, L_ref14_Keep_2, g1, g2, g3, g7, g8, hlt, kM.m0 ty_ag_3]
  rw [x_blk]
  simp (disch := first | with_reducible assumption | omega) only [push_cast, x_cd, ↓reduceIte, Nat.reduceEqDiff, g1, g2, g3, g7, g8]
  have hmu : (intOf (f 8)).toNat = s := by rw [g8]; simp [intOf]
  have hl0 := own_one w2 (s : Int) 3
  have b3 : Below w2.heap.size w2 (w2.alloc (.cells [.int .i64 (s : Int)].toArray 3)) := (Below.refl _ _).alloc (Nat.le_refl _) _
  generalize w2.alloc (.cells [.int .i64 (s : Int)].toArray 3) = w3 at *
  have kM3 := kM.below b3 kM.lt
  have bb3 := bb.trans (b3.mono bb.size)
  have ho3 := ho.below b3 (Nat.le_refl _)
  refine cut (fun f' w' => ∃ l L cl, f' 1 = .slice A1 free.length c1 ∧ f' 2 = .slice A2 bad.length c2 ∧ f' 3 = .pointer (some ⟨w.heap.size, 0, none⟩) ∧ f' 7 = .slice O o.length co ∧ f' 8 = .int .i64 s ∧ f' 9 = .slice L l.length cl ∧
      Walked m free bad s l ∧ ClosedTo m free l l.length 0 ∧ OwnI w2.heap.size 3 w' L cl l ∧ Below w2.heap.size w2 w') 40000 40000 (by decide) ?_ ?_
  · intro E hE
    simp (disch := first | with_reducible assumption | omega) only [push_cast, x_blk, x_cd, ↓reduceIte, Nat.reduceEqDiff, g1, g2, g3, g7, g8]
    refine loop_rule (fun f' w' => ∃ k : Nat, ∃ l L cl, k ≤ l.length ∧ f' 1 = .slice A1 free.length c1 ∧ f' 2 = .slice A2 bad.length c2 ∧ f' 3 = .pointer (some ⟨w.heap.size, 0, none⟩) ∧ f' 7 = .slice O o.length co ∧ f' 8 = .int .i64 s ∧ f' 9 = .slice L l.length cl ∧ f' 10 = .int .i64 k ∧
        Walked m free bad s l ∧ ClosedTo m free l k 0 ∧ OwnI w2.heap.size 3 w' L cl l ∧ Below w2.heap.size w2 w')
      (fun f' _ => 257 - (intOf (f' 10)).toNat) ⟨0, [(s : Int)], _, 1, Nat.zero_le _, (by simp only [push_cast, ↓reduceIte, Nat.reduceEqDiff, g1]), (by simp only [push_cast, ↓reduceIte, Nat.reduceEqDiff, g2]), (by simp only [push_cast, ↓reduceIte, Nat.reduceEqDiff, g3]), (by simp only [push_cast, ↓reduceIte, Nat.reduceEqDiff, g7]), (by simp only [push_cast, ↓reduceIte, Nat.reduceEqDiff, g8]), (by simp only [push_cast, ↓reduceIte, Nat.reduceEqDiff, List.length_cons, List.length_nil]), (by simp only [push_cast, ↓reduceIte, Nat.reduceEqDiff]),
        ⟨by simp, by simp, fun x hx => by have e : x = (s : Int) := by simpa using hx
                                          omega, fun x hx hl => by have e : x = (s : Int) := by simpa using hx
                                                                   exact e ▸ hl⟩, fun j e hj he hji => absurd hji (by omega), hl0, b3⟩ ?_
    rintro f w4 ⟨k, l, L, cl, hkl, g1, g2, g3, g7, g8, g9, g10, hwk, hcl, hl, b4⟩ J2 hJ2
    by_cases hkt : k < l.length
    case neg =>
      obtain rfl : k = l.length := by omega
      simp (disch := first | with_reducible assumption | omega) only [push_cast, x_blk, x_cd, ↓reduceIte, Nat.reduceEqDiff, L_ref14_Keep_1, g9, g10, Nat.lt_irrefl]
      exact hE _ _ ⟨l, L, cl, (by simp only [push_cast, ↓reduceIte, Nat.reduceEqDiff, g1]), (by simp only [push_cast, ↓reduceIte, Nat.reduceEqDiff, g2]), (by simp only [push_cast, ↓reduceIte, Nat.reduceEqDiff, g3]), (by simp only [push_cast, ↓reduceIte, Nat.reduceEqDiff, g7]), (by simp only [push_cast, ↓reduceIte, Nat.reduceEqDiff, g8]), (by simp only [push_cast, ↓reduceIte, Nat.reduceEqDiff, g9]), hwk, hcl, hl, b4⟩
    have hmu2 : (intOf (f 10)).toNat = k := by rw [g10]; simp [intOf]
    simp (disch := first | with_reducible assumption | omega) only [push_cast, x_blk, x_cd, ↓reduceIte, Nat.reduceEqDiff, L_ref14_Keep_1, g9, g10, hkt]
    refine loop_rule (fun f' w' => ∃ i : Nat, ∃ l L cl, i ≤ m.arrows.length ∧ k < l.length ∧ f' 1 = .slice A1 free.length c1 ∧ f' 2 = .slice A2 bad.length c2 ∧ f' 3 = .pointer (some ⟨w.heap.size, 0, none⟩) ∧ f' 7 = .slice O o.length co ∧ f' 8 = .int .i64 s ∧ f' 9 = .slice L l.length cl ∧ f' 10 = .int .i64 k ∧ f' 11 = .int .i64 i ∧
        Walked m free bad s l ∧ ClosedTo m free l k i ∧ OwnI w2.heap.size 3 w' L cl l ∧ Below w2.heap.size w2 w')
      (fun f' _ => m.arrows.length - (intOf (f' 11)).toNat) ⟨0, l, L, cl, Nat.zero_le _, hkt, (by simp only [push_cast, ↓reduceIte, Nat.reduceEqDiff, g1]), (by simp only [push_cast, ↓reduceIte, Nat.reduceEqDiff, g2]), (by simp only [push_cast, ↓reduceIte, Nat.reduceEqDiff, g3]), (by simp only [push_cast, ↓reduceIte, Nat.reduceEqDiff, g7]), (by simp only [push_cast, ↓reduceIte, Nat.reduceEqDiff, g8]), (by simp only [push_cast, ↓reduceIte, Nat.reduceEqDiff, g9]), (by simp only [push_cast, ↓reduceIte, Nat.reduceEqDiff, g10]), (by simp only [push_cast, ↓reduceIte, Nat.reduceEqDiff]), hwk, hcl, hl, b4⟩ ?_
    clear hl b4 hcl hwk hkl g1 g2 g3 g7 g8 g9 g10 hkt hl0
    rintro f w4 ⟨i, l, L, cl, hi, hkt, g1, g2, g3, g7, g8, g9, g10, g11, hwk, hcl, hl, b4⟩ J3 hJ3
    have hll := nodup_len hwk.nodup fun x hx => by have := hwk.range x hx; omega
    have kM4 := kM.below b4 kM.lt
    have bb4 := bb.trans (b4.mono bb.size)
    have i4 := (h.below bb4).arrows
    by_cases hit : i < m.arrows.length
    case neg =>
      obtain rfl : i = m.arrows.length := by omega
      simp (disch := first | with_reducible assumption | omega) only [push_cast, x_blk, x_cd, ↓reduceIte, Nat.reduceEqDiff, L_ref14_Keep_0, g3, g10, g11, Nat.lt_irrefl, kM4.m3 ty_ag_31]
      exact hJ2 _ _ ⟨k + 1, l, L, cl, hkt, (by simp only [push_cast, ↓reduceIte, Nat.reduceEqDiff, g1]), (by simp only [push_cast, ↓reduceIte, Nat.reduceEqDiff, g2]), (by simp only [push_cast, ↓reduceIte, Nat.reduceEqDiff, g3]), (by simp only [push_cast, ↓reduceIte, Nat.reduceEqDiff, g7]), (by simp only [push_cast, ↓reduceIte, Nat.reduceEqDiff, g8]), (by simp only [push_cast, ↓reduceIte, Nat.reduceEqDiff, g9]), (by simp only [push_cast, ↓reduceIte, Nat.reduceEqDiff]), hwk, hcl.line, hl, b4⟩ (by rw [hmu2]; simp only [push_cast, ↓reduceIte, Nat.reduceEqDiff, intOf]; omega)
    have hA := i4.isSome (by omega)
    have hLs := hl.isSome (by omega)
    simp (disch := first | with_reducible assumption | omega) only [push_cast, x_blk, x_cd, ↓reduceIte, Nat.reduceEqDiff, L_ref14_Keep_0, g1, g3, g9, g10, g11, hit, kM4.m3 ty_ag_31, i4.ldA ty_ag_54 ty_sz_54]
    refine blk_of al_54 ?_
    intro w5 k5 b5 z5
    simp (disch := first | with_reducible assumption | omega) only [push_cast, x_blk, x_cd, ↓reduceIte, Nat.reduceEqDiff]
    refine sto_blk k5 (cs := arrCells (m.arrows.getD i default)) ty_sz_54 rfl (by simp [arrCells, Value.oneCell']) ?_
    intro w6 k6 q6 z6
    have hym := getD_mem m.arrows default i hit
    have b46 : Below w4.heap.size w4 w6 := q6.below b5 (by omega) (by intro a ha; injection ha with ha; subst ha; exact Nat.le_refl _)
    have hl6 := hl.below b46 (Nat.le_refl _)
    have b6 := b4.trans (b46.mono b4.size)
    generalize hy : m.arrows.getD i default = y at *
    have hI := (OwnI.ints hl6).drew
    have k6' := k6.drew
    by_cases d1 : y.frm = l.getD k 0
    case neg =>
      have hnx : ClosedTo m free l k (i + 1) := hcl.next fun hh => absurd (hy ▸ hh) d1
      simp (disch := first | with_reducible assumption | omega) only [push_cast, x_blk, x_cd, ↓reduceIte, Nat.reduceEqDiff, g1, g3, g9, g10, g11, d1, hkt, k6'.a0 ty_ag_3, hI.ld ty_ag_3]
      refine ⟨Below.refl _ _, Below.refl _ _, ?_⟩
      exact hJ3 _ _ ⟨i + 1, l, L, cl, hit, hkt, (by simp only [push_cast, ↓reduceIte, Nat.reduceEqDiff, g1]), (by simp only [push_cast, ↓reduceIte, Nat.reduceEqDiff, g2]), (by simp only [push_cast, ↓reduceIte, Nat.reduceEqDiff, g3]), (by simp only [push_cast, ↓reduceIte, Nat.reduceEqDiff, g7]), (by simp only [push_cast, ↓reduceIte, Nat.reduceEqDiff, g8]), (by simp only [push_cast, ↓reduceIte, Nat.reduceEqDiff, g9]), (by simp only [push_cast, ↓reduceIte, Nat.reduceEqDiff, g10]), (by simp only [push_cast, ↓reduceIte, Nat.reduceEqDiff]), hwk, hnx, hl6.same (Same.refl _).drew, drawn b6⟩ (by simp only [push_cast, ↓reduceIte, Nat.reduceEqDiff, g11, intOf]; omega)
    have hr : 0 ≤ y.to_ ∧ y.to_ < m.states := by have := ((hm.2.2.2.2.2.2.2 i hit).1).2.1; rwa [hy] at this
    have bb6 := bb.trans (b6.mono bb.size)
    have hfl : y.frm ∈ l := d1 ▸ getD_mem l 0 k hkt
    simp (disch := first | with_reducible assumption | omega) only [push_cast, x_blk, x_cd, ↓reduceIte, Nat.reduceEqDiff, g1, g3, g9, g10, g11, d1, eq_self, hkt, k6'.a0 ty_ag_3, k6'.a1 ty_ag_3, hI.ld ty_ag_3]
    refine call_of (ref1_Has (h1.below (drawn bb6)) c1 _ (by omega)) ?_
    rintro v w7 ⟨rfl, s7⟩
    have q7 := s7.below w6.drew.heap.size
    have t7 : Same w6 w7 := (Same.refl w6).drew.trans s7
    by_cases d2 : y.evt ∈ free
    · have hnx : ClosedTo m free l k (i + 1) := hcl.next fun _ hh => absurd d2 (hy ▸ hh)
      simp (disch := first | with_reducible assumption | omega) only [push_cast, x_blk, x_cd, ↓reduceIte, Nat.reduceEqDiff, d2, g11]
      refine ⟨q7, q7, ?_⟩
      exact hJ3 _ _ ⟨i + 1, l, L, cl, hit, hkt, (by simp only [push_cast, ↓reduceIte, Nat.reduceEqDiff, g1]), (by simp only [push_cast, ↓reduceIte, Nat.reduceEqDiff, g2]), (by simp only [push_cast, ↓reduceIte, Nat.reduceEqDiff, g3]), (by simp only [push_cast, ↓reduceIte, Nat.reduceEqDiff, g7]), (by simp only [push_cast, ↓reduceIte, Nat.reduceEqDiff, g8]), (by simp only [push_cast, ↓reduceIte, Nat.reduceEqDiff, g9]), (by simp only [push_cast, ↓reduceIte, Nat.reduceEqDiff, g10]), (by simp only [push_cast, ↓reduceIte, Nat.reduceEqDiff]), hwk, hnx, hl6.same t7, b6.trans (t7.below _)⟩ (by simp only [push_cast, ↓reduceIte, Nat.reduceEqDiff, g11, intOf]; omega)
    simp (disch := first | with_reducible assumption | omega) only [push_cast, x_blk, x_cd, ↓reduceIte, Nat.reduceEqDiff, d2, g9, k6'.a2 ty_ag_3]
    refine ⟨q7, ?_⟩
    refine call_of (ref1_Has (OwnI.ints (hl6.same t7)) cl _ (by omega)) ?_
    rintro v w8 ⟨rfl, s8⟩
    have q8 := q7.trans (s8.below _)
    have t8 := t7.trans s8
    have hl8 := hl6.same t8
    have b8 := b6.trans (t8.below _)
    by_cases d3 : y.to_ ∈ l
    · have hnx : ClosedTo m free l k (i + 1) := hcl.next fun _ _ => hy ▸ d3
      simp (disch := first | with_reducible assumption | omega) only [push_cast, x_blk, x_cd, ↓reduceIte, Nat.reduceEqDiff, d3, g11]
      refine ⟨q8, ?_⟩
      exact hJ3 _ _ ⟨i + 1, l, L, cl, hit, hkt, (by simp only [push_cast, ↓reduceIte, Nat.reduceEqDiff, g1]), (by simp only [push_cast, ↓reduceIte, Nat.reduceEqDiff, g2]), (by simp only [push_cast, ↓reduceIte, Nat.reduceEqDiff, g3]), (by simp only [push_cast, ↓reduceIte, Nat.reduceEqDiff, g7]), (by simp only [push_cast, ↓reduceIte, Nat.reduceEqDiff, g8]), (by simp only [push_cast, ↓reduceIte, Nat.reduceEqDiff, g9]), (by simp only [push_cast, ↓reduceIte, Nat.reduceEqDiff, g10]), (by simp only [push_cast, ↓reduceIte, Nat.reduceEqDiff]), hwk, hnx, hl8, b8⟩ (by simp only [push_cast, ↓reduceIte, Nat.reduceEqDiff, g11, intOf]; omega)
    have k8 := k6.same t8
    have hnx : ClosedTo m free (l ++ [y.to_]) k (i + 1) := (hcl.snoc hkt y.to_).next fun _ _ => by rw [hy]; exact List.mem_append_right _ (by simp)
    simp (disch := first | with_reducible assumption | omega) only [push_cast, x_blk, x_cd, ↓reduceIte, Nat.reduceEqDiff, d3, g9, g11, k8.a2 ty_ag_3]
    refine ⟨q8, ?_⟩
    refine app_int slT_22 hl8 y.to_ (by omega) b8.size ?_
    intro A' c' w9 ho9 hg9 hA9 hs9 hz9
    simp (disch := first | with_reducible assumption | omega) only [push_cast, x_blk, x_cd, ↓reduceIte, Nat.reduceEqDiff, g11]
    exact hJ3 _ _ ⟨i + 1, l ++ [y.to_], A', c', hit, by simp; omega, (by simp only [push_cast, ↓reduceIte, Nat.reduceEqDiff, g1]), (by simp only [push_cast, ↓reduceIte, Nat.reduceEqDiff, g2]), (by simp only [push_cast, ↓reduceIte, Nat.reduceEqDiff, g3]), (by simp only [push_cast, ↓reduceIte, Nat.reduceEqDiff, g7]), (by simp only [push_cast, ↓reduceIte, Nat.reduceEqDiff, g8]), (by simp only [push_cast, ↓reduceIte, Nat.reduceEqDiff, List.length_append, List.length_cons, List.length_nil]), (by simp only [push_cast, ↓reduceIte, Nat.reduceEqDiff, g10]), (by simp only [push_cast, ↓reduceIte, Nat.reduceEqDiff]), hwk.snoc hym hfl d2 d3 hr, hnx, ho9, hg9.below b8 b8.size hl8.geB⟩ (by simp only [push_cast, ↓reduceIte, Nat.reduceEqDiff, g11, intOf]; omega)
  · clear b3 kM3 bb3 ho3 hl0
    rintro f w3 ⟨l, L, cl, g1, g2, g3, g7, g8, g9, hwk, hcl, hl, b3⟩
    have hne : 0 < l.length := List.length_pos_of_mem hwk.start
    have hll := nodup_len hwk.nodup fun x hx => by have := hwk.range x hx; omega
    have hli := lost_iff hwk hcl
    have kM3 := kM.below b3 kM.lt
    have bb3 := bb.trans (b3.mono bb.size)
    have ho3 := ho.below b3 (Nat.le_refl _)
    simp (disch := first | with_reducible assumption | omega) only [push_cast, x_blk, x_cd, ↓reduceIte, Nat.reduceEqDiff, g1, g2, g3, g7, g8, g9]
    refine call_of (ref1_Sorted (Ints.lt (OwnI.ints hl)) cl (by omega)) ?_
    rintro v w4 ⟨A4, c4, rfl, ho4, b4⟩
    have hl4 := hl.below b4 (Nat.le_refl _)
    have kM4 := kM3.below b4 kM3.lt
    have bb4 := bb3.trans (b4.mono bb3.size)
    have hA4 : A4.isSome = true := ho4.isSome (List.length_pos_of_mem (((sortedL_spec l).2 _).2 hwk.start))
    have ho5 := ho3.below b4 (Nat.le_refl _)
    simp (disch := first | with_reducible assumption | omega) only [push_cast, x_blk, x_cd, ↓reduceIte, Nat.reduceEqDiff, g1, g2, g3, g7, g8, g9, bin_nes Try.underlying22 A4 hA4]
    refine call_of (ref1_Only (Ints.lt (OwnI.ints hl4)) (h2.below bb4).lt cl c2 true (by omega) (by omega)) ?_
    rintro v w5 ⟨A5, c5, rfl, _, b5⟩
    have kM5 := kM4.below b5 kM4.lt
    have bb5 := bb4.trans (b5.mono bb4.size)
    have ho6 := ho5.below b5 (Nat.le_refl _)
    have hon : ∀ x, x ∈ onlyL l bad true ↔ x ∈ l ∧ x ∈ bad := fun x => by simp [onlyL]
    by_cases d : Lost m free bad s
    · obtain ⟨x, hx, hxb⟩ := hli.1 d
      have hp : ¬ (((onlyL l bad true).length : Int) = 0) := by have := List.length_pos_of_mem ((hon x).2 ⟨hx, hxb⟩); omega
      simp (disch := first | with_reducible assumption | omega) only [push_cast, x_blk, x_cd, ↓reduceIte, Nat.reduceEqDiff, hp, g8]
      refine hJ _ _ ⟨s + 1, O, co, o, by omega, (by simp only [push_cast, ↓reduceIte, Nat.reduceEqDiff, g1]), (by simp only [push_cast, ↓reduceIte, Nat.reduceEqDiff, g2]), (by simp only [push_cast, ↓reduceIte, Nat.reduceEqDiff, g3]), (by simp only [push_cast, ↓reduceIte, Nat.reduceEqDiff, g7]), (by simp only [push_cast, ↓reduceIte, Nat.reduceEqDiff]), ho1, fun x => ?_, by omega, ho6, kM5, bb5⟩ (by rw [hmu]; simp only [push_cast, ↓reduceIte, Nat.reduceEqDiff, intOf]; omega)
      rw [ho2]
      constructor
      · rintro ⟨⟨a1, a2⟩, a3⟩
        exact ⟨⟨a1, by omega⟩, a3⟩
      · rintro ⟨⟨a1, a2⟩, a3⟩
        by_cases e : x = (s : Int)
        · exact absurd d (e ▸ a3)
        · exact ⟨⟨a1, by omega⟩, a3⟩
    · have hp : ((onlyL l bad true).length : Int) = 0 := by
        have : onlyL l bad true = [] := List.eq_nil_iff_forall_not_mem.2 fun x hx => d (hli.2 ⟨x, (hon x).1 hx⟩)
        rw [this]; rfl
      simp (disch := first | with_reducible assumption | omega) only [push_cast, x_blk, x_cd, ↓reduceIte, Nat.reduceEqDiff, hp, eq_self, g7, g8]
      refine app_int slT_22 ho6 (s : Int) (by omega) bb5.size ?_
      intro A' c' w11 ho11 hg11 hA11 hs11 hz11
      simp (disch := first | with_reducible assumption | omega) only [push_cast, x_blk, x_cd, ↓reduceIte, Nat.reduceEqDiff, g8]
      refine hJ _ _ ⟨s + 1, A', c', o ++ [(s : Int)], by omega, (by simp only [push_cast, ↓reduceIte, Nat.reduceEqDiff, g1]), (by simp only [push_cast, ↓reduceIte, Nat.reduceEqDiff, g2]), (by simp only [push_cast, ↓reduceIte, Nat.reduceEqDiff, g3]), (by simp only [push_cast, ↓reduceIte, Nat.reduceEqDiff, List.length_append, List.length_cons, List.length_nil]), (by simp only [push_cast, ↓reduceIte, Nat.reduceEqDiff]), ?_, fun x => ?_, by simp; omega, ho11, kM5.grown hg11.by_ ?_, hg11.below bb5 bb5.size ho6.geB⟩ (by rw [hmu]; simp only [push_cast, ↓reduceIte, Nat.reduceEqDiff, intOf]; omega)
      · exact List.pairwise_append.2 ⟨ho1, by simp, fun x hx y hy => by
          have := ((ho2 x).1 hx).1
          have e : y = (s : Int) := by simpa using hy
          omega⟩
      · rw [List.mem_append, ho2, List.mem_singleton]
        constructor
        · rintro (⟨⟨a1, a2⟩, a3⟩ | rfl)
          · exact ⟨⟨a1, by omega⟩, a3⟩
          · exact ⟨⟨by omega, by omega⟩, d⟩
        · rintro ⟨⟨a1, a2⟩, a3⟩
          by_cases e : x = (s : Int)
          · exact .inr e
          · exact .inl ⟨⟨a1, by omega⟩, a3⟩
      · exact fun e => ho6.ne_blk kM5 (by decide) e.symm
end Go.Proofs.Ytkemapljhmoafaa
