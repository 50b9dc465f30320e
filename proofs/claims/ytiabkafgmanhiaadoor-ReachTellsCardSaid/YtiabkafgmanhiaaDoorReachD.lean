/-
  Chapter 3: the reference's Reach, Live: by their contracts.
  Chapter 3: the reference's Trim: by its contract; the laws ReachTells, ReachTrims.
  Chapter 3: the laws ReachTells, ReachTrims.
-/
import Derived.Test.YtiabkafgmanhiaaDoorReach
import Derived.Test.YtiabkafgmanhiaaDoorTrim
import Derived.Test.YtiabkafgmanhiaaDoorDetP
import Derived.Test.YtiabkafgmanhiaaDoorCtlA
import Derived.Test.YtiabkafgmanhiaaDoorLawMach
namespace Go.Proofs.YtiabkafgmanhiaaDoor
set_option linter.unusedSimpArgs false
set_option linter.unusedVariables false
set_option linter.unusedSectionVars false
/-! # ReachD -/
section
open Go.RowKit

/-- What the reference's rounds keep to. -/
structure RG (es : List (Int × Int)) (l0 : List Int) (N : Int) (l : List Int) : Prop where
  nodup : l.Nodup
  range : ∀ x ∈ l, 0 ≤ x ∧ x < N
  sub : ∀ x ∈ l0, x ∈ l
  clos : ∀ x ∈ l, Clos es l0 x
theorem RG.snoc {es : List (Int × Int)} {l0 : List Int} {N : Int} {l : List Int} (h : RG es l0 N l) {p : Int × Int} (hp : p ∈ es) (h1 : p.1 ∈ l) (h2 : p.2 ∉ l) (hr : 0 ≤ p.2 ∧ p.2 < N) : RG es l0 N (l ++ [p.2]) := by
  refine ⟨?_, fun x hx => ?_, fun x hx => List.mem_append_left _ (h.sub x hx), fun x hx => ?_⟩
  · exact List.nodup_append.2 ⟨h.nodup, by simp, fun a ha b hb e => by
      have e2 : b = p.2 := by simpa using hb
      exact h2 (e2 ▸ e ▸ ha)⟩
  · rcases List.mem_append.1 hx with hx | hx
    · exact h.range x hx
    · rw [List.mem_singleton.1 hx]; exact hr
  · rcases List.mem_append.1 hx with hx | hx
    · exact h.clos x hx
    · rw [List.mem_singleton.1 hx]; exact .step p hp (h.clos _ h1)
theorem RG.len {es : List (Int × Int)} {l0 : List Int} {N : Int} {l : List Int} (h : RG es l0 N l) : l.length ≤ N.toNat := by
  have h1 : (l.map Int.toNat).Nodup := by
    rw [List.nodup_iff_pairwise_ne, List.pairwise_map]
    exact (List.nodup_iff_pairwise_ne.1 h.nodup).imp_of_mem fun {a b} ha hb hab e => hab (by have := h.range a ha; have := h.range b hb; omega)
  have := nodup_nat_len N.toNat _ h1 fun x hx => by
    obtain ⟨y, hy, rfl⟩ := List.mem_map.1 hx
    have := h.range y hy; omega
  simpa using this
theorem RG.all {es : List (Int × Int)} {l0 : List Int} {N : Int} {l : List Int} (h : RG es l0 N l) (hl : N.toNat ≤ l.length) {x : Int} (h0 : 0 ≤ x) (h1 : x < N) : x ∈ l := by
  refine Classical.byContradiction fun hn => ?_
  have h2 : ((x :: l).map Int.toNat).Nodup := by
    rw [List.nodup_iff_pairwise_ne, List.pairwise_map]
    refine (List.nodup_iff_pairwise_ne.1 (List.nodup_cons.2 ⟨hn, h.nodup⟩)).imp_of_mem fun {a b} ha hb hab e => hab ?_
    have ra : 0 ≤ a := by rcases List.mem_cons.1 ha with rfl | ha; exact h0; exact (h.range a ha).1
    have rb : 0 ≤ b := by rcases List.mem_cons.1 hb with rfl | hb; exact h0; exact (h.range b hb).1
    omega
  have := nodup_nat_len N.toNat _ h2 fun z hz => by
    obtain ⟨y, hy, rfl⟩ := List.mem_map.1 hz
    rcases List.mem_cons.1 hy with rfl | hy
    · omega
    · have := h.range y hy; omega
  simp at this; omega
theorem RG.done {es : List (Int × Int)} {l0 : List Int} {N : Int} {l : List Int} (h : RG es l0 N l) (hN : N ≤ 256) (hc : ∀ p ∈ es, p.1 ∈ l → p.2 ∈ l) : sortedL l = pick (Clos es l0) := by
  have hs := sortedL_spec l
  refine pick_eq hs.1 (fun x hx => ?_) fun x => ?_
  · have := h.range x ((hs.2 x).1 hx); omega
  · rw [hs.2]
    exact ⟨h.clos x, fun hx => Clos.within h.sub hc hx⟩

theorem ref3_Reach {w : World} {a : MV} {m : Mach} (h : IsM (· < w.heap.size) w a m) (hf : m.Fits) (hm : m.May) :
    Cal Tryd.prog 40 [a.val m] w fun v w' => ∃ O co, v = .slice O (reachL m).length co ∧ OwnI w.heap.size 3 w' O co (reachL m) ∧ Below w.heap.size w w' := by
  have hst : m.states ≤ 256 := hm.2.1
  have hs1 : 1 ≤ m.states := hm.1
  have nA := hm.2.2.2.2.1
  have hes : ∀ i, i < m.arrows.length → ((m.arrows.getD i default).frm, (m.arrows.getD i default).to_) ∈ eds allA false m.arrows ∧ (0 ≤ (m.arrows.getD i default).to_ ∧ (m.arrows.getD i default).to_ < m.states) := fun i hi => by
    have hmem := getD_mem m.arrows default i hi
    exact ⟨mem_eds.2 ⟨_, hmem, rfl, rfl⟩, (May.arr hm hmem).2.1⟩
  have hclo : ∀ l : List Int, (∀ i, i < m.arrows.length → (m.arrows.getD i default).frm ∈ l → (m.arrows.getD i default).to_ ∈ l) → ∀ p ∈ eds allA false m.arrows, p.1 ∈ l → p.2 ∈ l := fun l hc p hp h1 => by
    obtain ⟨x, hx, _, rfl⟩ := mem_eds.1 hp
    obtain ⟨i, hi, rfl⟩ := (mem_iff_getD m.arrows default x).1 hx
    exact hc i hi h1
  refine cal_ref3_Reach (by simp) 100000 fun Q hQ => ?_
  simp (disch := first | with_reducible assumption | omega) only [push_cast, x_blk, x_cd, ↓reduceIte, Nat.reduceEqDiff, List.map_cons, List.map_nil, Int.reduceEq, Int.lt_irrefl, F_ref3_Reach]
  refine blk_of (box_agg _ (a.cells m)) ?_
  intro w1 k1 b1 z1
  have nS := hf.lenS
  have up : ∀ {w' : World}, Below w.heap.size w w' → IsM (· < w'.heap.size) w' a m := fun {w'} hb => (h.below hb).mono fun b hl => Nat.lt_of_lt_of_le hl hb.size
  have b0 : Below w1.heap.size w1 (w1.alloc (.cells [].toArray 3)) := (Below.refl _ _).alloc (Nat.le_refl _) _
  have o0 : OwnI w1.heap.size 3 (w1.alloc (.cells [].toArray 3)) (some ⟨w1.heap.size, 0, none⟩) 0 [] := ⟨World.ownsRow_made w1 #[] 0 (Nat.le_refl _) (by decide) (by simp)⟩
  simp (disch := first | with_reducible assumption | omega) only [push_cast, x_blk, x_cd, ↓reduceIte, Nat.reduceEqDiff, List.map_cons, List.map_nil, Int.reduceEq, Int.lt_irrefl, bs0_22, k1.m2 ty_ag_22]
  generalize w1.alloc (Obj.cells [].toArray 3) = w2 at *
  have k2 := k1.below b0 k1.lt
  simp (disch := first | with_reducible assumption | omega) only [push_cast, x_blk, x_cd, ↓reduceIte, Nat.reduceEqDiff, List.map_cons, List.map_nil, Int.reduceEq, Int.lt_irrefl, k2.m2 ty_ag_22]
  refine app_ints (l := []) slT_22 o0 (up (b1.trans (b0.mono b1.size))).starts (by simp; omega) b0.size ?_
  intro O3 c3 w3 o3 g3 _ z3
  have b3 := g3.below b0 b0.size o0.geB
  rw [List.nil_append] at o3
  rw [show ([] : List Int).length + m.starts.length = m.starts.length by simp]
  have hG0 : RG (eds allA false m.arrows) m.starts m.states m.starts := ⟨Strict.nodup (may_starts hm).strict, row_range (may_starts hm), fun x hx => hx, fun x hx => .base x hx⟩
  simp (disch := first | with_reducible assumption | omega) only [push_cast, x_cd, ↓reduceIte, Nat.reduceEqDiff]
  refine cut (fun f' w' => ∃ (l : List Int) (O : Option Addr) (co : Nat), f' 3 = .slice O l.length co ∧ RG (eds allA false m.arrows) m.starts m.states l ∧ (∀ p ∈ eds allA false m.arrows, p.1 ∈ l → p.2 ∈ l) ∧ OwnI w1.heap.size 3 w' O co l ∧ Below w1.heap.size w1 w') 40000 40000 (by decide) ?_ ?_
  case refine_2 =>
    rintro f w4 ⟨l, O, co, h3, hG, hc, ho, bb⟩
    have hlen := hG.len
    simp (disch := first | with_reducible assumption | omega) only [push_cast, x_blk, x_cd, ↓reduceIte, Nat.reduceEqDiff, List.map_cons, List.map_nil, Int.reduceEq, Int.lt_irrefl, h3]
    refine call_of (ref1_Sorted (Ints.lt (OwnI.ints ho)) co (by omega)) ?_
    rintro v w5 ⟨A5, c5, rfl, o5, b5⟩
    rw [hG.done hst hc] at o5 ⊢
    simp (disch := first | with_reducible assumption | omega) only [push_cast, x_blk, x_cd, ↓reduceIte, Nat.reduceEqDiff, List.map_cons, List.map_nil, Int.reduceEq, Int.lt_irrefl]
    exact fin_1 (hQ _ _ ⟨A5, c5, rfl, o5.base (by have := bb.size; omega), b1.trans ((bb.trans (b5.mono bb.size)).mono b1.size)⟩)
  intro E hE
  simp (disch := first | with_reducible assumption | omega) only [push_cast, x_blk, x_cd, ↓reduceIte, Nat.reduceEqDiff, List.map_cons, List.map_nil, Int.reduceEq, Int.lt_irrefl]
  refine loop_rule (fun f' w' => ∃ (k : Nat) (l : List Int) (O : Option Addr) (co : Nat), (k : Int) ≤ m.states ∧ k ≤ l.length ∧ (f' 1 = .pointer (some ⟨w.heap.size, 0, none⟩) ∧ f' 3 = .slice O l.length co ∧ f' 4 = .int .i64 k) ∧ RG (eds allA false m.arrows) m.starts m.states l ∧ OwnI w1.heap.size 3 w' O co l ∧ Below w1.heap.size w1 w')
    (fun f' _ => m.states.toNat - (intOf (f' 4)).toNat) ⟨0, m.starts, O3, c3, by omega, Nat.zero_le _, ⟨rfl, rfl, rfl⟩, hG0, o3, b3⟩ ?_
  clear o3 b3 g3 hG0
  rintro f w4 ⟨k, l, O, co, hks, hkl, fr, hG, ho, bb⟩ J hJ
  have kM := k1.below bb k1.lt
  have hlen := hG.len
  have hmu : (intOf (f 4)).toNat = k := by rw [fr.2.2]; simp [intOf]
  by_cases hlt : (k : Int) < m.states
  case neg =>
    simp (disch := first | with_reducible assumption | omega) only [push_cast, x_blk, x_cd, ↓reduceIte, Nat.reduceEqDiff, List.map_cons, List.map_nil, Int.reduceEq, Int.lt_irrefl, L_ref3_Reach_1, fr, hlt, kM.m0 ty_ag_3]
    exact hE _ _ ⟨l, O, co, (by simp only [push_cast, ↓reduceIte, Nat.reduceEqDiff, Int.reduceEq, fr]), hG, hclo l fun i hi _ => hG.all (by omega) (hes i hi).2.1 (hes i hi).2.2, ho, bb⟩
  simp (disch := first | with_reducible assumption | omega) only [push_cast, x_blk, x_cd, ↓reduceIte, Nat.reduceEqDiff, List.map_cons, List.map_nil, Int.reduceEq, Int.lt_irrefl, L_ref3_Reach_1, fr, hlt, kM.m0 ty_ag_3]
  refine loop_rule (fun f' w' => ∃ (j : Nat) (x : List Int) (O : Option Addr) (co : Nat), j ≤ m.arrows.length ∧ (f' 1 = .pointer (some ⟨w.heap.size, 0, none⟩) ∧ f' 3 = .slice O (l ++ x).length co ∧ f' 4 = .int .i64 k ∧ f' 5 = .int .i64 l.length ∧ f' 6 = .int .i64 j) ∧
      RG (eds allA false m.arrows) m.starts m.states (l ++ x) ∧ (∀ i, i < j → (m.arrows.getD i default).frm ∈ l → (m.arrows.getD i default).to_ ∈ l ++ x) ∧ OwnI w1.heap.size 3 w' O co (l ++ x) ∧ Below w1.heap.size w1 w')
    (fun f' _ => m.arrows.length - (intOf (f' 6)).toNat) ⟨0, [], O, co, Nat.zero_le _, (by simp only [push_cast, ↓reduceIte, Nat.reduceEqDiff, true_and, and_true, and_self, eq_self, fr, List.append_nil]), by rw [List.append_nil]; exact hG, fun i hi => absurd hi (by omega), by rw [List.append_nil]; exact ho, bb⟩ ?_
  clear ho bb fr kM
  rintro f w5 ⟨j, x, O, co, hj, fr, hG2, hp, ho, bb⟩ J2 hJ2
  have kM := k1.below bb k1.lt
  have hlen2 := hG2.len
  have hA' := (up (b1.trans (bb.mono b1.size))).arrows
  by_cases hjt : j < m.arrows.length
  case neg =>
    have hjm : j = m.arrows.length := by omega
    by_cases hx : (l ++ x).length = l.length
    · have hxn : x = [] := List.eq_nil_of_length_eq_zero (by rw [List.length_append] at hx; omega)
      subst hxn
      rw [List.append_nil] at fr hG2 ho hp
      simp (disch := first | with_reducible assumption | omega) only [push_cast, x_blk, x_cd, ↓reduceIte, Nat.reduceEqDiff, List.map_cons, List.map_nil, Int.reduceEq, Int.lt_irrefl, L_ref3_Reach_0, fr, hjt, kM.m3 ty_ag_23, eq_self]
      exact hE _ _ ⟨l, O, co, (by simp only [push_cast, ↓reduceIte, Nat.reduceEqDiff, Int.reduceEq, fr]), hG2, hclo l fun i hi => hp i (by omega), ho, bb⟩
    · have hx' : ¬ (((l ++ x).length : Int) = (l.length : Int)) := by omega
      have hx2 : l.length < (l ++ x).length := by rw [List.length_append] at hx ⊢; omega
      generalize l ++ x = y at *
      simp (disch := first | with_reducible assumption | omega) only [push_cast, x_blk, x_cd, ↓reduceIte, Nat.reduceEqDiff, List.map_cons, List.map_nil, Int.reduceEq, Int.lt_irrefl, L_ref3_Reach_0, fr, hjt, hx', kM.m3 ty_ag_23]
      exact hJ _ _ ⟨k + 1, y, O, co, by omega, by omega, (by simp only [push_cast, ↓reduceIte, Nat.reduceEqDiff, true_and, and_true, and_self, eq_self, fr]), hG2, ho, bb⟩ (by rw [hmu]; simp only [push_cast, ↓reduceIte, Nat.reduceEqDiff, intOf, fr]; omega)
  have hA := hA'.isSome (by omega)
  obtain ⟨he1, he2⟩ := hes j hjt
  have ldp := fun {K : Fr → World → Prop} {f : Fr} {d : Option Nat} {w : World} => hA'.ld0 (P := Tryd.prog) (K := K) (f := f) (d := d) (w := w) ty_ag_3 j hjt
  have ldq := fun {w' : World} (hs : Arrs (· < w'.heap.size) w' a.Aa m.arrows) {K : Fr → World → Prop} {f : Fr} {d : Option Nat} {w : World} => hs.ld2 (P := Tryd.prog) (K := K) (f := f) (d := d) (w := w) ty_ag_3 j hjt
  have hnx : ∀ z : List Int, ((m.arrows.getD j default).frm ∈ l → (m.arrows.getD j default).to_ ∈ z) → (∀ i, i < j → (m.arrows.getD i default).frm ∈ l → (m.arrows.getD i default).to_ ∈ z) → ∀ i, i < j + 1 → (m.arrows.getD i default).frm ∈ l → (m.arrows.getD i default).to_ ∈ z := fun z h1 h2 i hi => if e : i = j then e ▸ h1 else h2 i (by omega)
  generalize hpp : (m.arrows.getD j default).frm = p at *
  generalize hqq : (m.arrows.getD j default).to_ = q at *
  have hin : p ∈ l → p ∈ l ++ x := fun h => List.mem_append_left _ h
  generalize hy : l ++ x = y at *
  simp (disch := first | with_reducible assumption | omega) only [push_cast, x_blk, x_cd, ↓reduceIte, Nat.reduceEqDiff, List.map_cons, List.map_nil, Int.reduceEq, Int.lt_irrefl, L_ref3_Reach_0, fr, hjt, kM.m3 ty_ag_23, Nat.add_zero, ldp]
  refine call_of (ref1_Has (Ints.lt (OwnI.ints ho)) co p (by omega)) ?_
  rintro v w6 ⟨rfl, s6⟩
  have kM6 := kM.same s6
  have ho6 := ho.same s6
  have bb6 := bb.trans (s6.below _)
  have hA6 := (up (b1.trans (bb6.mono b1.size))).arrows
  by_cases c1 : p ∈ y
  case neg =>
    simp (disch := first | with_reducible assumption | omega) only [push_cast, x_blk, x_cd, ↓reduceIte, Nat.reduceEqDiff, List.map_cons, List.map_nil, Int.reduceEq, Int.lt_irrefl, fr, decide_eq_false c1]
    exact hJ2 _ _ ⟨j + 1, x, O, co, hjt, (by simp only [push_cast, ↓reduceIte, Nat.reduceEqDiff, true_and, and_true, and_self, eq_self, fr, hy]), by rw [hy]; exact hG2, by rw [hy]; exact hnx y (fun h => absurd (hin h) c1) hp, by rw [hy]; exact ho6, bb6⟩ (by simp only [push_cast, ↓reduceIte, Nat.reduceEqDiff, intOf, fr]; omega)
  simp (disch := first | with_reducible assumption | omega) only [push_cast, x_blk, x_cd, ↓reduceIte, Nat.reduceEqDiff, List.map_cons, List.map_nil, Int.reduceEq, Int.lt_irrefl, fr, hjt, decide_eq_true c1, kM6.m3 ty_ag_23, Nat.add_zero, ldq hA6]
  refine call_of (ref1_Has (Ints.lt (OwnI.ints ho6)) co q (by omega)) ?_
  rintro v w7 ⟨rfl, s7⟩
  have kM7 := kM6.same s7
  have ho7 := ho6.same s7
  have bb7 := bb6.trans (s7.below _)
  have hA7 := (up (b1.trans (bb7.mono b1.size))).arrows
  by_cases c2 : q ∈ y
  · simp (disch := first | with_reducible assumption | omega) only [push_cast, x_blk, x_cd, ↓reduceIte, Nat.reduceEqDiff, List.map_cons, List.map_nil, Int.reduceEq, Int.lt_irrefl, fr, decide_eq_true c2]
    exact hJ2 _ _ ⟨j + 1, x, O, co, hjt, (by simp only [push_cast, ↓reduceIte, Nat.reduceEqDiff, true_and, and_true, and_self, eq_self, fr, hy]), by rw [hy]; exact hG2, by rw [hy]; exact hnx y (fun _ => c2) hp, by rw [hy]; exact ho7, bb7⟩ (by simp only [push_cast, ↓reduceIte, Nat.reduceEqDiff, intOf, fr]; omega)
  simp (disch := first | with_reducible assumption | omega) only [push_cast, x_blk, x_cd, ↓reduceIte, Nat.reduceEqDiff, List.map_cons, List.map_nil, Int.reduceEq, Int.lt_irrefl, fr, hjt, decide_eq_false c2, kM7.m3 ty_ag_23, Nat.add_zero, ldq hA7, bs_22]
  refine app_int slT_22 ho7 _ (by omega) bb7.size ?_
  intro A' c' w8 ho8 hg8 hA8 hs8 hz8
  have hy' : l ++ (x ++ [q]) = y ++ [q] := by rw [← hy, List.append_assoc]
  simp (disch := first | with_reducible assumption | omega) only [push_cast, x_blk, x_cd, ↓reduceIte, Nat.reduceEqDiff, List.map_cons, List.map_nil, Int.reduceEq, Int.lt_irrefl, fr]
  exact hJ2 _ _ ⟨j + 1, x ++ [q], A', c', hjt, (by simp only [push_cast, ↓reduceIte, Nat.reduceEqDiff, true_and, and_true, and_self, eq_self, fr, hy', List.length_append, List.length_cons, List.length_nil]), by rw [hy']; exact hG2.snoc he1 c1 c2 he2, by rw [hy']; exact hnx _ (fun _ => by simp) (fun i hi h => List.mem_append_left _ (hp i hi h)), by rw [hy']; exact ho8, hg8.below bb7 bb7.size ho7.geB⟩ (by simp only [push_cast, ↓reduceIte, Nat.reduceEqDiff, intOf, fr]; omega)

theorem ref3_Live {w : World} {a : MV} {m : Mach} (h : IsM (· < w.heap.size) w a m) (hf : m.Fits) (hm : m.May) :
    Cal Tryd.prog 41 [a.val m] w fun v w' => ∃ O co, v = .slice O (liveL m).length co ∧ OwnI w.heap.size 3 w' O co (liveL m) ∧ Below w.heap.size w w' := by
  have hst : m.states ≤ 256 := hm.2.1
  have hs1 : 1 ≤ m.states := hm.1
  have nA := hm.2.2.2.2.1
  have hes : ∀ i, i < m.arrows.length → ((m.arrows.getD i default).to_, (m.arrows.getD i default).frm) ∈ eds allA true m.arrows ∧ (0 ≤ (m.arrows.getD i default).frm ∧ (m.arrows.getD i default).frm < m.states) := fun i hi => by
    have hmem := getD_mem m.arrows default i hi
    exact ⟨mem_eds.2 ⟨_, hmem, rfl, rfl⟩, (May.arr hm hmem).1⟩
  have hclo : ∀ l : List Int, (∀ i, i < m.arrows.length → (m.arrows.getD i default).to_ ∈ l → (m.arrows.getD i default).frm ∈ l) → ∀ p ∈ eds allA true m.arrows, p.1 ∈ l → p.2 ∈ l := fun l hc p hp h1 => by
    obtain ⟨x, hx, _, rfl⟩ := mem_eds.1 hp
    obtain ⟨i, hi, rfl⟩ := (mem_iff_getD m.arrows default x).1 hx
    exact hc i hi h1
  refine cal_ref3_Live (by simp) 100000 fun Q hQ => ?_
  simp (disch := first | with_reducible assumption | omega) only [push_cast, x_blk, x_cd, ↓reduceIte, Nat.reduceEqDiff, List.map_cons, List.map_nil, Int.reduceEq, Int.lt_irrefl, F_ref3_Live]
  refine blk_of (box_agg _ (a.cells m)) ?_
  intro w1 k1 b1 z1
  have nS := hf.lenE
  have up : ∀ {w' : World}, Below w.heap.size w w' → IsM (· < w'.heap.size) w' a m := fun {w'} hb => (h.below hb).mono fun b hl => Nat.lt_of_lt_of_le hl hb.size
  have b0 : Below w1.heap.size w1 (w1.alloc (.cells [].toArray 3)) := (Below.refl _ _).alloc (Nat.le_refl _) _
  have o0 : OwnI w1.heap.size 3 (w1.alloc (.cells [].toArray 3)) (some ⟨w1.heap.size, 0, none⟩) 0 [] := ⟨World.ownsRow_made w1 #[] 0 (Nat.le_refl _) (by decide) (by simp)⟩
  simp (disch := first | with_reducible assumption | omega) only [push_cast, x_blk, x_cd, ↓reduceIte, Nat.reduceEqDiff, List.map_cons, List.map_nil, Int.reduceEq, Int.lt_irrefl, bs0_22, k1.m4 ty_ag_22]
  generalize w1.alloc (Obj.cells [].toArray 3) = w2 at *
  have k2 := k1.below b0 k1.lt
  simp (disch := first | with_reducible assumption | omega) only [push_cast, x_blk, x_cd, ↓reduceIte, Nat.reduceEqDiff, List.map_cons, List.map_nil, Int.reduceEq, Int.lt_irrefl, k2.m4 ty_ag_22]
  refine app_ints (l := []) slT_22 o0 (up (b1.trans (b0.mono b1.size))).ends (by simp; omega) b0.size ?_
  intro O3 c3 w3 o3 g3 _ z3
  have b3 := g3.below b0 b0.size o0.geB
  rw [List.nil_append] at o3
  rw [show ([] : List Int).length + m.ends.length = m.ends.length by simp]
  have hG0 : RG (eds allA true m.arrows) m.ends m.states m.ends := ⟨Strict.nodup (may_ends hm).strict, row_range (may_ends hm), fun x hx => hx, fun x hx => .base x hx⟩
  simp (disch := first | with_reducible assumption | omega) only [push_cast, x_cd, ↓reduceIte, Nat.reduceEqDiff]
  refine cut (fun f' w' => ∃ (l : List Int) (O : Option Addr) (co : Nat), f' 3 = .slice O l.length co ∧ RG (eds allA true m.arrows) m.ends m.states l ∧ (∀ p ∈ eds allA true m.arrows, p.1 ∈ l → p.2 ∈ l) ∧ OwnI w1.heap.size 3 w' O co l ∧ Below w1.heap.size w1 w') 40000 40000 (by decide) ?_ ?_
  case refine_2 =>
    rintro f w4 ⟨l, O, co, h3, hG, hc, ho, bb⟩
    have hlen := hG.len
    simp (disch := first | with_reducible assumption | omega) only [push_cast, x_blk, x_cd, ↓reduceIte, Nat.reduceEqDiff, List.map_cons, List.map_nil, Int.reduceEq, Int.lt_irrefl, h3]
    refine call_of (ref1_Sorted (Ints.lt (OwnI.ints ho)) co (by omega)) ?_
    rintro v w5 ⟨A5, c5, rfl, o5, b5⟩
    rw [hG.done hst hc] at o5 ⊢
    simp (disch := first | with_reducible assumption | omega) only [push_cast, x_blk, x_cd, ↓reduceIte, Nat.reduceEqDiff, List.map_cons, List.map_nil, Int.reduceEq, Int.lt_irrefl]
    exact fin_1 (hQ _ _ ⟨A5, c5, rfl, o5.base (by have := bb.size; omega), b1.trans ((bb.trans (b5.mono bb.size)).mono b1.size)⟩)
  intro E hE
  simp (disch := first | with_reducible assumption | omega) only [push_cast, x_blk, x_cd, ↓reduceIte, Nat.reduceEqDiff, List.map_cons, List.map_nil, Int.reduceEq, Int.lt_irrefl]
  refine loop_rule (fun f' w' => ∃ (k : Nat) (l : List Int) (O : Option Addr) (co : Nat), (k : Int) ≤ m.states ∧ k ≤ l.length ∧ (f' 1 = .pointer (some ⟨w.heap.size, 0, none⟩) ∧ f' 3 = .slice O l.length co ∧ f' 4 = .int .i64 k) ∧ RG (eds allA true m.arrows) m.ends m.states l ∧ OwnI w1.heap.size 3 w' O co l ∧ Below w1.heap.size w1 w')
    (fun f' _ => m.states.toNat - (intOf (f' 4)).toNat) ⟨0, m.ends, O3, c3, by omega, Nat.zero_le _, ⟨rfl, rfl, rfl⟩, hG0, o3, b3⟩ ?_
  clear o3 b3 g3 hG0
  rintro f w4 ⟨k, l, O, co, hks, hkl, fr, hG, ho, bb⟩ J hJ
  have kM := k1.below bb k1.lt
  have hlen := hG.len
  have hmu : (intOf (f 4)).toNat = k := by rw [fr.2.2]; simp [intOf]
  by_cases hlt : (k : Int) < m.states
  case neg =>
    simp (disch := first | with_reducible assumption | omega) only [push_cast, x_blk, x_cd, ↓reduceIte, Nat.reduceEqDiff, List.map_cons, List.map_nil, Int.reduceEq, Int.lt_irrefl, L_ref3_Live_1, fr, hlt, kM.m0 ty_ag_3]
    exact hE _ _ ⟨l, O, co, (by simp only [push_cast, ↓reduceIte, Nat.reduceEqDiff, Int.reduceEq, fr]), hG, hclo l fun i hi _ => hG.all (by omega) (hes i hi).2.1 (hes i hi).2.2, ho, bb⟩
  simp (disch := first | with_reducible assumption | omega) only [push_cast, x_blk, x_cd, ↓reduceIte, Nat.reduceEqDiff, List.map_cons, List.map_nil, Int.reduceEq, Int.lt_irrefl, L_ref3_Live_1, fr, hlt, kM.m0 ty_ag_3]
  refine loop_rule (fun f' w' => ∃ (j : Nat) (x : List Int) (O : Option Addr) (co : Nat), j ≤ m.arrows.length ∧ (f' 1 = .pointer (some ⟨w.heap.size, 0, none⟩) ∧ f' 3 = .slice O (l ++ x).length co ∧ f' 4 = .int .i64 k ∧ f' 5 = .int .i64 l.length ∧ f' 6 = .int .i64 j) ∧
      RG (eds allA true m.arrows) m.ends m.states (l ++ x) ∧ (∀ i, i < j → (m.arrows.getD i default).to_ ∈ l → (m.arrows.getD i default).frm ∈ l ++ x) ∧ OwnI w1.heap.size 3 w' O co (l ++ x) ∧ Below w1.heap.size w1 w')
    (fun f' _ => m.arrows.length - (intOf (f' 6)).toNat) ⟨0, [], O, co, Nat.zero_le _, (by simp only [push_cast, ↓reduceIte, Nat.reduceEqDiff, true_and, and_true, and_self, eq_self, fr, List.append_nil]), by rw [List.append_nil]; exact hG, fun i hi => absurd hi (by omega), by rw [List.append_nil]; exact ho, bb⟩ ?_
  clear ho bb fr kM
  rintro f w5 ⟨j, x, O, co, hj, fr, hG2, hp, ho, bb⟩ J2 hJ2
  have kM := k1.below bb k1.lt
  have hlen2 := hG2.len
  have hA' := (up (b1.trans (bb.mono b1.size))).arrows
  by_cases hjt : j < m.arrows.length
  case neg =>
    have hjm : j = m.arrows.length := by omega
    by_cases hx : (l ++ x).length = l.length
    · have hxn : x = [] := List.eq_nil_of_length_eq_zero (by rw [List.length_append] at hx; omega)
      subst hxn
      rw [List.append_nil] at fr hG2 ho hp
      simp (disch := first | with_reducible assumption | omega) only [push_cast, x_blk, x_cd, ↓reduceIte, Nat.reduceEqDiff, List.map_cons, List.map_nil, Int.reduceEq, Int.lt_irrefl, L_ref3_Live_0, fr, hjt, kM.m3 ty_ag_23, eq_self]
      exact hE _ _ ⟨l, O, co, (by simp only [push_cast, ↓reduceIte, Nat.reduceEqDiff, Int.reduceEq, fr]), hG2, hclo l fun i hi => hp i (by omega), ho, bb⟩
    · have hx' : ¬ (((l ++ x).length : Int) = (l.length : Int)) := by omega
      have hx2 : l.length < (l ++ x).length := by rw [List.length_append] at hx ⊢; omega
      generalize l ++ x = y at *
      simp (disch := first | with_reducible assumption | omega) only [push_cast, x_blk, x_cd, ↓reduceIte, Nat.reduceEqDiff, List.map_cons, List.map_nil, Int.reduceEq, Int.lt_irrefl, L_ref3_Live_0, fr, hjt, hx', kM.m3 ty_ag_23]
      exact hJ _ _ ⟨k + 1, y, O, co, by omega, by omega, (by simp only [push_cast, ↓reduceIte, Nat.reduceEqDiff, true_and, and_true, and_self, eq_self, fr]), hG2, ho, bb⟩ (by rw [hmu]; simp only [push_cast, ↓reduceIte, Nat.reduceEqDiff, intOf, fr]; omega)
  have hA := hA'.isSome (by omega)
  obtain ⟨he1, he2⟩ := hes j hjt
  have ldp := fun {K : Fr → World → Prop} {f : Fr} {d : Option Nat} {w : World} => hA'.ld2 (P := Tryd.prog) (K := K) (f := f) (d := d) (w := w) ty_ag_3 j hjt
  have ldq := fun {w' : World} (hs : Arrs (· < w'.heap.size) w' a.Aa m.arrows) {K : Fr → World → Prop} {f : Fr} {d : Option Nat} {w : World} => hs.ld0 (P := Tryd.prog) (K := K) (f := f) (d := d) (w := w) ty_ag_3 j hjt
  have hnx : ∀ z : List Int, ((m.arrows.getD j default).to_ ∈ l → (m.arrows.getD j default).frm ∈ z) → (∀ i, i < j → (m.arrows.getD i default).to_ ∈ l → (m.arrows.getD i default).frm ∈ z) → ∀ i, i < j + 1 → (m.arrows.getD i default).to_ ∈ l → (m.arrows.getD i default).frm ∈ z := fun z h1 h2 i hi => if e : i = j then e ▸ h1 else h2 i (by omega)
  generalize hpp : (m.arrows.getD j default).to_ = p at *
  generalize hqq : (m.arrows.getD j default).frm = q at *
  have hin : p ∈ l → p ∈ l ++ x := fun h => List.mem_append_left _ h
  generalize hy : l ++ x = y at *
  simp (disch := first | with_reducible assumption | omega) only [push_cast, x_blk, x_cd, ↓reduceIte, Nat.reduceEqDiff, List.map_cons, List.map_nil, Int.reduceEq, Int.lt_irrefl, L_ref3_Live_0, fr, hjt, kM.m3 ty_ag_23, Nat.add_zero, ldp]
  refine call_of (ref1_Has (Ints.lt (OwnI.ints ho)) co p (by omega)) ?_
  rintro v w6 ⟨rfl, s6⟩
  have kM6 := kM.same s6
  have ho6 := ho.same s6
  have bb6 := bb.trans (s6.below _)
  have hA6 := (up (b1.trans (bb6.mono b1.size))).arrows
  by_cases c1 : p ∈ y
  case neg =>
    simp (disch := first | with_reducible assumption | omega) only [push_cast, x_blk, x_cd, ↓reduceIte, Nat.reduceEqDiff, List.map_cons, List.map_nil, Int.reduceEq, Int.lt_irrefl, fr, decide_eq_false c1]
    exact hJ2 _ _ ⟨j + 1, x, O, co, hjt, (by simp only [push_cast, ↓reduceIte, Nat.reduceEqDiff, true_and, and_true, and_self, eq_self, fr, hy]), by rw [hy]; exact hG2, by rw [hy]; exact hnx y (fun h => absurd (hin h) c1) hp, by rw [hy]; exact ho6, bb6⟩ (by simp only [push_cast, ↓reduceIte, Nat.reduceEqDiff, intOf, fr]; omega)
  simp (disch := first | with_reducible assumption | omega) only [push_cast, x_blk, x_cd, ↓reduceIte, Nat.reduceEqDiff, List.map_cons, List.map_nil, Int.reduceEq, Int.lt_irrefl, fr, hjt, decide_eq_true c1, kM6.m3 ty_ag_23, Nat.add_zero, ldq hA6]
  refine call_of (ref1_Has (Ints.lt (OwnI.ints ho6)) co q (by omega)) ?_
  rintro v w7 ⟨rfl, s7⟩
  have kM7 := kM6.same s7
  have ho7 := ho6.same s7
  have bb7 := bb6.trans (s7.below _)
  have hA7 := (up (b1.trans (bb7.mono b1.size))).arrows
  by_cases c2 : q ∈ y
  · simp (disch := first | with_reducible assumption | omega) only [push_cast, x_blk, x_cd, ↓reduceIte, Nat.reduceEqDiff, List.map_cons, List.map_nil, Int.reduceEq, Int.lt_irrefl, fr, decide_eq_true c2]
    exact hJ2 _ _ ⟨j + 1, x, O, co, hjt, (by simp only [push_cast, ↓reduceIte, Nat.reduceEqDiff, true_and, and_true, and_self, eq_self, fr, hy]), by rw [hy]; exact hG2, by rw [hy]; exact hnx y (fun _ => c2) hp, by rw [hy]; exact ho7, bb7⟩ (by simp only [push_cast, ↓reduceIte, Nat.reduceEqDiff, intOf, fr]; omega)
  simp (disch := first | with_reducible assumption | omega) only [push_cast, x_blk, x_cd, ↓reduceIte, Nat.reduceEqDiff, List.map_cons, List.map_nil, Int.reduceEq, Int.lt_irrefl, fr, hjt, decide_eq_false c2, kM7.m3 ty_ag_23, Nat.add_zero, ldq hA7, bs_22]
  refine app_int slT_22 ho7 _ (by omega) bb7.size ?_
  intro A' c' w8 ho8 hg8 hA8 hs8 hz8
  have hy' : l ++ (x ++ [q]) = y ++ [q] := by rw [← hy, List.append_assoc]
  simp (disch := first | with_reducible assumption | omega) only [push_cast, x_blk, x_cd, ↓reduceIte, Nat.reduceEqDiff, List.map_cons, List.map_nil, Int.reduceEq, Int.lt_irrefl, fr]
  exact hJ2 _ _ ⟨j + 1, x ++ [q], A', c', hjt, (by simp only [push_cast, ↓reduceIte, Nat.reduceEqDiff, true_and, and_true, and_self, eq_self, fr, hy', List.length_append, List.length_cons, List.length_nil]), by rw [hy']; exact hG2.snoc he1 c1 c2 he2, by rw [hy']; exact hnx _ (fun _ => by simp) (fun i hi h => List.mem_append_left _ (hp i hi h)), by rw [hy']; exact ho8, hg8.below bb7 bb7.size ho7.geB⟩ (by simp only [push_cast, ↓reduceIte, Nat.reduceEqDiff, intOf, fr]; omega)
end

/-! # ReachE -/
section
open Go.RowKit

theorem fin_c2 {P : Program} {Rc : Value → World → Prop} {a t t' g s : Nat} {cs : List Value} {f : Fr} {w : World} (hk : Blk w g t' cs) (ht : tyAgg P t = some true) (hs : tySize P t = some cs.length)
    (hf : f a = .pointer (some ⟨g, 0, none⟩)) (h : Rc (.tuple #[.agg cs.toArray, f s]) w) : FinX P #[.cell a t, .tmp s] Rc f w := by
  refine ⟨_, fun fn tmps hr hf' => ?_, h⟩
  have e : tmps.getD a undef = .pointer (some ⟨g, 0, none⟩) := by rw [hf', hf]
  have e2 : tmps[a]?.getD undef = .pointer (some ⟨g, 0, none⟩) := by simpa using e
  have e3 : tmps[s]?.getD undef = f s := by simpa using hf' s
  unfold tyAgg at ht
  unfold tySize at hs
  cases hu : P.underlying t with
  | none => simp [hu] at ht
  | some de =>
    cases hi : P.info? t with
    | none => simp [hi] at hs
    | some ie =>
      simp only [hi, Option.map_some, Option.some.injEq] at hs
      simp only [hu, Option.map_some, Option.some.injEq] at ht
      have hr' := run_loadCells_list (P := P) w ⟨g, 0, none⟩ cs (fun j v hv => by rw [addr_add, Nat.zero_add, hk.cell, hv])
      cases de <;> simp at ht <;> simp [results, hr, e2, e3, asAddr, loadVar, isAgg, run_underlying hu, sizeOf, typeInfo, hi, hs, hr']
theorem e5_mach (a : MV) (m : Mach) : tySize Tryd.prog 25 = some (a.cells m).length := ty_sz_25

theorem ref3_Trim {w : World} {a : MV} {m : Mach} (h : IsM (· < w.heap.size) w a m) (hf : m.Fits) (hm : m.May) :
    Cal Tryd.prog 42 [a.val m] w fun v w' => ∃ (d : MV) (O : Option Addr) (co : Nat), v = .tuple #[d.val (trimM m (bothL m)), .slice O (bothL m).length co] ∧ IsM (· < w'.heap.size) w' d (trimM m (bothL m)) ∧ Ints (· < w'.heap.size) w' O (bothL m) ∧ Below w.heap.size w w' := by
  have nA := hm.2.2.2.2.1
  have nS := hf.lenS
  have nE := hf.lenE
  refine cal_ref3_Trim (by simp) 100000 fun Q hQ => ?_
  simp (disch := first | with_reducible assumption | omega) only [push_cast, x_blk, x_cd, ↓reduceIte, Nat.reduceEqDiff, List.map_cons, List.map_nil, Int.reduceEq, Int.lt_irrefl, F_ref3_Trim]
  refine blk_of (box_agg _ (a.cells m)) ?_
  intro w1 k1 b1 z1
  simp (disch := first | with_reducible assumption | omega) only [push_cast, x_blk, x_cd, ↓reduceIte, Nat.reduceEqDiff, List.map_cons, List.map_nil, Int.reduceEq, Int.lt_irrefl]
  refine blk_of (cs := mv0.cells mach0) al_25 ?_
  intro w2 k2 b2 z2
  have l1 := k1.lt
  have l2 := k2.lt
  replace k1 := k1.below b2 l1
  have bb := b1.trans (b2.mono b1.size)
  have up : ∀ {w' : World}, Below w.heap.size w w' → IsM (· < w'.heap.size) w' a m := fun {w'} hb => (h.below hb).mono fun b hl => Nat.lt_of_lt_of_le hl hb.size
  simp (disch := first | with_reducible assumption | omega) only [push_cast, x_blk, x_cd, ↓reduceIte, Nat.reduceEqDiff, List.map_cons, List.map_nil, Int.reduceEq, Int.lt_irrefl, k1.mA ty_ag_25 ty_sz_25]
  refine call_of (ref3_Reach (up bb) hf hm) ?_
  rintro v w3 ⟨O1, c1, rfl, ho1, b3⟩
  have z3 := b3.size
  replace k1 := k1.below b3 k1.lt
  replace bb := bb.trans (b3.mono bb.size)
  have b23 := b3
  simp (disch := first | with_reducible assumption | omega) only [push_cast, x_blk, x_cd, ↓reduceIte, Nat.reduceEqDiff, List.map_cons, List.map_nil, Int.reduceEq, Int.lt_irrefl, k1.mA ty_ag_25 ty_sz_25]
  refine call_of (ref3_Live (up bb) hf hm) ?_
  rintro v w4 ⟨O2, c2, rfl, ho2, b4⟩
  have z4 := b4.size
  replace ho1 := ho1.below b4 (Nat.le_refl _)
  replace k1 := k1.below b4 k1.lt
  replace bb := bb.trans (b4.mono bb.size)
  replace b23 := b23.trans (b4.mono b23.size)
  have n1 : (reachL m).length ≤ 256 := small_len (pick_strict (ReachP m)) (pick_small _)
  have n2 : (liveL m).length ≤ 256 := small_len (pick_strict (LiveP m)) (pick_small _)
  have nB := small_len (bothL_strict m) (bothL_small m)
  simp (disch := first | with_reducible assumption | omega) only [push_cast, x_blk, x_cd, ↓reduceIte, Nat.reduceEqDiff, List.map_cons, List.map_nil, Int.reduceEq, Int.lt_irrefl]
  refine call_of (ref1_Only (OwnI.ints ho1).lt (OwnI.ints ho2).lt c1 c2 true (by omega) (by omega)) ?_
  rintro v w5 ⟨O3, c3, rfl, ho3, b5⟩
  have ho3 : OwnI w4.heap.size 3 w5 O3 c3 (bothL m) := ho3
  rw [show onlyL (reachL m) (liveL m) true = bothL m from rfl]
  generalize hB : bothL m = B at *
  have z5 := b5.size
  replace k1 := k1.below b5 k1.lt
  replace bb := bb.trans (b5.mono bb.size)
  replace b23 := b23.trans (b5.mono b23.size)
  have k2' := k2.below b23 l2
  have iB := ((OwnI.ints ho3).both (OwnI.ints ho3).lt).mono (ok' := fun b => w1.heap.size < b ∧ b < w5.heap.size) fun b hb => ⟨by have := hb.1.1; omega, hb.2⟩
  clear ho1 ho2 ho3 b3 b4
  simp (disch := first | with_reducible assumption | omega) only [push_cast, x_blk, x_cd, ↓reduceIte, Nat.reduceEqDiff, List.map_cons, List.map_nil, Int.reduceEq, Int.lt_irrefl, k1.m1 ty_ag_3, bl_mach2]
  refine blk_of (cs := mv0.cells mach0) al_25 ?_
  intro w6 k6 b6 z6
  simp (disch := first | with_reducible assumption | omega) only [push_cast, x_blk, x_cd, ↓reduceIte, Nat.reduceEqDiff, List.map_cons, List.map_nil, Int.reduceEq, Int.lt_irrefl]
  refine sto_blk k6 (cs := MV.cells ⟨none, 0, none, 0, none, 0⟩ ⟨(B.length : Int), m.events, [], [], []⟩) (e5_mach _ _) rfl (by rfl) ?_
  intro w7 k7 g7 z7
  have c5 : Below w5.heap.size w5 w7 := g7.below b6 b6.size (by intro a ha; injection ha with ha; subst ha; exact Nat.le_refl _)
  have l15 : w.heap.size < w5.heap.size := k1.lt
  have l25 : w1.heap.size < w5.heap.size := k2'.lt
  rw [x_sq]
  refine cut (fun f' w' => (f' 1 = .pointer (some ⟨w.heap.size, 0, none⟩) ∧ f' 2 = .pointer (some ⟨w1.heap.size, 0, none⟩) ∧ f' 6 = .slice O3 B.length c3 ∧ f' 7 = .pointer (some ⟨w5.heap.size, 0, none⟩)) ∧
      Blk w' w5.heap.size 25 (MV.cells ⟨none, 0, none, 0, none, 0⟩ ⟨max (B.length : Int) 1, m.events, [], [], []⟩) ∧ Below w5.heap.size w5 w') 20000 70000 (by decide) ?_ ?_
  · intro E hE
    by_cases h0 : (B.length : Int) = 0
    · simp (disch := first | with_reducible assumption | omega) only [push_cast, x_blk, x_cd, ↓reduceIte, Nat.reduceEqDiff, List.map_cons, List.map_nil, Int.reduceEq, Int.lt_irrefl, h0, eq_self]
      refine sto_cell k7 (by kernel_rfl) 0 (by simp) _ _ ?_
      intro w8 k8 g8 z8
      simp (disch := first | with_reducible assumption | omega) only [push_cast, x_blk, x_cd, ↓reduceIte, Nat.reduceEqDiff, List.map_cons, List.map_nil, Int.reduceEq, Int.lt_irrefl]
      refine hE _ _ ⟨⟨rfl, rfl, rfl, rfl⟩, ?_, g8.below c5 c5.size (by intro a ha; injection ha with ha; subst ha; exact Nat.le_refl _)⟩
      rw [h0]; exact k8
    · simp (disch := first | with_reducible assumption | omega) only [push_cast, x_blk, x_cd, ↓reduceIte, Nat.reduceEqDiff, List.map_cons, List.map_nil, Int.reduceEq, Int.lt_irrefl, h0]
      refine hE _ _ ⟨⟨rfl, rfl, rfl, rfl⟩, ?_, c5⟩
      rw [show max (B.length : Int) 1 = (B.length : Int) by omega]; exact k7
  clear k7 c5 g7 k6 b6
  rintro f w7 ⟨fr, k7, c5⟩
  have k1' := k1.below c5 l15
  have bc := bb.trans (c5.mono bb.size)
  have iB7 := iB.keep fun b hb => c5.block b hb.2
  simp (disch := first | with_reducible assumption | omega) only [push_cast, x_blk, x_cd, ↓reduceIte, Nat.reduceEqDiff, List.map_cons, List.map_nil, Int.reduceEq, Int.lt_irrefl, fr, k1'.m2 ty_ag_22]
  refine call_of (ref3_places iB7.lt (up bc).starts nS (by omega)) ?_
  rintro v w8 ⟨S, cs, rfl, hoS, b8⟩
  have z57 : w5.heap.size < w7.heap.size := k7.lt
  have z8 := b8.size
  replace k7 := k7.below b8 k7.lt
  replace c5 := c5.trans (b8.mono c5.size)
  simp (disch := first | with_reducible assumption | omega) only [push_cast, x_blk, x_cd, ↓reduceIte, Nat.reduceEqDiff, List.map_cons, List.map_nil, Int.reduceEq, Int.lt_irrefl, fr]
  refine sto_slice k7 (by kernel_rfl) 2 (by simp) _ _ _ ?_
  intro w9 k9 g9 z9
  have iS : Ints (fun b => w5.heap.size < b ∧ b < w8.heap.size) w8 S (numL B m.starts) := OwnI.between hoS z57
  have m9 : Mid w5.heap.size w8.heap.size w8 w9 := Mid.start.grew g9 (by intro a ha; injection ha with ha; subst ha; exact .inl (Nat.le_refl _))
  replace c5 := g9.below c5 c5.size (by intro a ha; injection ha with ha; subst ha; exact Nat.le_refl _)
  replace iS := iS.mid m9
  clear m9 hoS g9 k7 iB7 k1'
  have k1' := k1.below c5 l15
  replace bc := bb.trans (c5.mono bb.size)
  have iB9 := iB.keep fun b hb => c5.block b hb.2
  simp (disch := first | with_reducible assumption | omega) only [push_cast, x_blk, x_cd, ↓reduceIte, Nat.reduceEqDiff, List.map_cons, List.map_nil, Int.reduceEq, Int.lt_irrefl, fr, k1'.m4 ty_ag_22]
  refine call_of (ref3_places iB9.lt (up bc).ends nE (by omega)) ?_
  rintro v w10 ⟨E, ce, rfl, hoE, b10⟩
  have z10 := b10.size
  replace iS := iS.keep fun b hb => b10.block b (by omega)
  replace k9 := k9.below b10 k9.lt
  replace c5 := c5.trans (b10.mono c5.size)
  simp (disch := first | with_reducible assumption | omega) only [push_cast, x_blk, x_cd, ↓reduceIte, Nat.reduceEqDiff, List.map_cons, List.map_nil, Int.reduceEq, Int.lt_irrefl, fr]
  refine sto_slice k9 (by kernel_rfl) 4 (by simp) _ _ _ ?_
  intro w11 k11 g11 z11
  have iE : Ints (fun b => w5.heap.size < b ∧ b < w10.heap.size) w10 E (numL B m.ends) := OwnI.between hoE (by omega)
  have m11 : Mid w5.heap.size w10.heap.size w10 w11 := Mid.start.grew g11 (by intro a ha; injection ha with ha; subst ha; exact .inl (Nat.le_refl _))
  replace c5 := g11.below c5 c5.size (by intro a ha; injection ha with ha; subst ha; exact Nat.le_refl _)
  replace iE := iE.mid m11
  replace iS := (iS.mono (ok' := fun b => w5.heap.size < b ∧ b < w10.heap.size) fun b hb => by omega).mid m11
  have k11' : Blk w11 w5.heap.size 25 (MV.cells ⟨S, cs, none, 0, E, ce⟩ ⟨max (B.length : Int) 1, m.events, numL B m.starts, [], numL B m.ends⟩) := k11
  clear m11 hoE g11 k9 iB9 k1' k11
  have z1011 : w10.heap.size = w11.heap.size := z11.symm
  rw [z1011] at iS iE
  have ht0 : trimA B (m.arrows.take 0) = [] := rfl
  simp (disch := first | with_reducible assumption | omega) only [push_cast, x_blk, x_cd, ↓reduceIte, Nat.reduceEqDiff, List.map_cons, List.map_nil, Int.reduceEq, Int.lt_irrefl, fr]
  refine loop_rule (fun f' w' => ∃ (k : Nat) (O : Option Addr) (co : Nat), k ≤ m.arrows.length ∧ (f' 1 = .pointer (some ⟨w.heap.size, 0, none⟩) ∧ f' 2 = .pointer (some ⟨w1.heap.size, 0, none⟩) ∧ f' 6 = .slice O3 B.length c3 ∧ f' 7 = .pointer (some ⟨w5.heap.size, 0, none⟩) ∧
        f' 8 = .slice O (trimA B (m.arrows.take k)).length co ∧ f' 9 = .int .i64 k) ∧
      OwnR arrCells w11.heap.size 75 3 w' O co (trimA B (m.arrows.take k)) ∧ Below w11.heap.size w11 w')
    (fun f' _ => m.arrows.length - (intOf (f' 9)).toNat) ⟨0, none, 0, Nat.zero_le _, (by simp only [push_cast, ↓reduceIte, Nat.reduceEqDiff, true_and, and_true, and_self, eq_self, fr, ht0, List.length_nil]), Own.nil _ _ _ _, Below.refl _ _⟩ ?_
  clear fr
  rintro f w12 ⟨k, O, co, hk, fr, ho, b12⟩ J hJ
  have c12 := c5.trans (b12.mono c5.size)
  have k1' := k1.below c12 l15
  have bc := bb.trans (c12.mono bb.size)
  have iB12 := iB.keep fun b hb => c12.block b hb.2
  have k7' := k11'.below b12 k11'.lt
  have z12 := b12.size
  by_cases hlt : k < m.arrows.length
  case neg =>
    obtain rfl : k = m.arrows.length := by omega
    rw [List.take_length] at fr ho
    have hle := trimA_len B m.arrows
    simp (disch := first | with_reducible assumption | omega) only [push_cast, x_blk, x_cd, ↓reduceIte, Nat.reduceEqDiff, List.map_cons, List.map_nil, Int.reduceEq, Int.lt_irrefl, L_ref3_Trim_0, fr, Nat.lt_irrefl, k1'.m3 ty_ag_23]
    refine call_of (ref2_Sort (OwnA.arrs ho).lt (by omega)) ?_
    rintro v w13 ⟨R, cr, rfl, hoR, b13⟩
    rw [sortA_ord ((May.ord hm).trim (hB ▸ bothL_strict m))] at hoR ⊢
    have k13 := k7'.below b13 k7'.lt
    have z13 := b13.size
    have c13 := c12.trans (b13.mono c12.size)
    have b1113 := b12.trans (b13.mono b12.size)
    replace iS := iS.keep fun b hb => b1113.block b (by omega)
    replace iE := iE.keep fun b hb => b1113.block b (by omega)
    simp (disch := first | with_reducible assumption | omega) only [push_cast, x_blk, x_cd, ↓reduceIte, Nat.reduceEqDiff, List.map_cons, List.map_nil, Int.reduceEq, Int.lt_irrefl, fr]
    refine sto_slice k13 (by kernel_rfl) 3 (by simp) _ _ _ ?_
    intro w14 k14 g14 z14
    have k14' : Blk w14 w5.heap.size 25 (MV.cells ⟨S, cs, R, cr, E, ce⟩ (trimM m B)) := k14
    have m14 : Mid w5.heap.size w13.heap.size w13 w14 := Mid.start.grew g14 (by intro a ha; injection ha with ha; subst ha; exact .inl (Nat.le_refl _))
    have c14 := g14.below c13 c13.size (by intro a ha; injection ha with ha; subst ha; exact Nat.le_refl _)
    have hoR14 := hoR.grew g14 (.inr (hoR.ne_blk k13 (by decide)))
    have k2'' := k2'.below c14 l25
    have bb14 := bb.trans (c14.mono bb.size)
    simp (disch := first | with_reducible assumption | omega) only [push_cast, x_blk, x_cd, ↓reduceIte, Nat.reduceEqDiff, List.map_cons, List.map_nil, Int.reduceEq, Int.lt_irrefl, fr, k14'.mA ty_ag_25 ty_sz_25]
    refine sto_mach k2'' rfl _ _ ?_
    intro w15 k15 g15 z15
    have m15 := m14.grew g15 (by intro a ha; injection ha with ha; subst ha; exact .inl (by show w1.heap.size ≤ w5.heap.size; omega))
    have hoR15 := hoR14.grew g15 (.inr (hoR14.ne_blk k2'' (by decide)))
    have z15' := m15.size
    have kpB : ∀ b, w1.heap.size < b ∧ b < w5.heap.size → w15.heap[b]? = w5.heap[b]? := fun b hb => by
      rw [g15.by_.block b (by have := c14.size; omega) (by simp; omega)]
      exact c14.block b hb.2
    simp (disch := first | with_reducible assumption | omega) only [push_cast, x_blk, x_cd, ↓reduceIte, Nat.reduceEqDiff, List.map_cons, List.map_nil, Int.reduceEq, Int.lt_irrefl, fr]
    refine fin_c2 k15 ty_ag_25 (e5_mach _ _) (by simp only [push_cast, ↓reduceIte, Nat.reduceEqDiff, Int.reduceEq, fr]) (hQ _ _ ⟨⟨S, cs, R, cr, E, ce⟩, O3, c3, (by simp only [push_cast, ↓reduceIte, Nat.reduceEqDiff, Int.reduceEq, fr]), ⟨?_, ?_, ?_⟩, (iB.keep kpB).mono fun b hb => by have := c14.size; omega, g15.below bb14 bb14.size (by intro a ha; injection ha with ha; subst ha; show w.heap.size ≤ w1.heap.size; omega)⟩)
    · exact ((iS.mono fun b hb => by omega).mid m15).mono fun b hb => by omega
    · exact (OwnA.arrs hoR15).lt
    · exact ((iE.mono fun b hb => by omega).mid m15).mono fun b hb => by omega
  have hI := (up bc).arrows
  have hA := hI.isSome (by omega)
  have hsn := trimA_snoc B m.arrows k hlt
  have hlen := trimA_len B (m.arrows.take k)
  have hlen2 := List.length_take_le k m.arrows
  simp (disch := first | with_reducible assumption | omega) only [push_cast, x_blk, x_cd, ↓reduceIte, Nat.reduceEqDiff, List.map_cons, List.map_nil, Int.reduceEq, Int.lt_irrefl, L_ref3_Trim_0, fr, hlt, k1'.m3 ty_ag_23, hI.ldA ty_ag_75 ty_sz_75]
  refine blk_of al_75 ?_
  intro w13 k13 b13 z13
  simp (disch := first | with_reducible assumption | omega) only [push_cast, x_blk, x_cd, ↓reduceIte, Nat.reduceEqDiff, List.map_cons, List.map_nil, Int.reduceEq, Int.lt_irrefl]
  refine sto_blk k13 (cs := arrCells (m.arrows.getD k default)) ty_sz_75 rfl (by simp [arrCells, Value.oneCell']) ?_
  intro w14 k14 g14 z14
  generalize hy : m.arrows.getD k default = y at *
  have b14 : Below w12.heap.size w12 w14 := g14.below b13 b13.size (by intro a ha; injection ha with ha; subst ha; exact Nat.le_refl _)
  replace ho := ho.below b14 (Nat.le_refl _)
  replace b12 := b12.trans (b14.mono b12.size)
  replace iB12 := iB12.keep fun b hb => b14.block b (by have := c12.size; omega)
  simp (disch := first | with_reducible assumption | omega) only [push_cast, x_blk, x_cd, ↓reduceIte, Nat.reduceEqDiff, List.map_cons, List.map_nil, Int.reduceEq, Int.lt_irrefl, fr, k14.a0 ty_ag_3]
  refine call_of (ref3_place iB12 c3 y.frm (by omega)) ?_
  rintro v w15 ⟨rfl, s15⟩
  replace k14 := k14.same s15
  replace ho := ho.same s15
  replace b12 := b12.trans (s15.below _)
  replace iB12 := iB12.same s15
  simp (disch := first | with_reducible assumption | omega) only [push_cast, x_blk, x_cd, ↓reduceIte, Nat.reduceEqDiff, List.map_cons, List.map_nil, Int.reduceEq, Int.lt_irrefl, fr, k14.a2 ty_ag_3]
  refine call_of (ref3_place iB12 c3 y.to_ (by omega)) ?_
  rintro v w16 ⟨rfl, s16⟩
  replace k14 := k14.same s16
  replace ho := ho.same s16
  replace b12 := b12.trans (s16.below _)
  have hneg : ¬ ((0 : Int) ≤ -1) := by decide
  have hp1 : (0 : Int) ≤ (ix y.frm B : Int) := Int.natCast_nonneg _
  have hp2 : (0 : Int) ≤ (ix y.to_ B : Int) := Int.natCast_nonneg _
  by_cases q1 : y.frm ∈ B
  case neg =>
    rw [if_neg (fun hh => q1 hh.1)] at hsn
    rw [if_neg q1]
    simp (disch := first | with_reducible assumption | omega) only [push_cast, x_blk, x_cd, ↓reduceIte, Nat.reduceEqDiff, List.map_cons, List.map_nil, Int.reduceEq, Int.lt_irrefl, fr, hneg]
    exact hJ _ _ ⟨k + 1, O, co, hlt, (by simp only [push_cast, ↓reduceIte, Nat.reduceEqDiff, true_and, and_true, and_self, eq_self, fr, hsn]), by rw [hsn]; exact ho, b12⟩ (by simp only [push_cast, ↓reduceIte, Nat.reduceEqDiff, intOf, fr]; omega)
  by_cases q2 : y.to_ ∈ B
  case neg =>
    rw [if_neg (fun hh => q2 hh.2)] at hsn
    rw [if_pos q1, if_neg q2]
    simp (disch := first | with_reducible assumption | omega) only [push_cast, x_blk, x_cd, ↓reduceIte, Nat.reduceEqDiff, List.map_cons, List.map_nil, Int.reduceEq, Int.lt_irrefl, fr, hneg, hp1]
    exact hJ _ _ ⟨k + 1, O, co, hlt, (by simp only [push_cast, ↓reduceIte, Nat.reduceEqDiff, true_and, and_true, and_self, eq_self, fr, hsn]), by rw [hsn]; exact ho, b12⟩ (by simp only [push_cast, ↓reduceIte, Nat.reduceEqDiff, intOf, fr]; omega)
  rw [if_pos ⟨q1, q2⟩] at hsn
  rw [if_pos q1, if_pos q2]
  simp (disch := first | with_reducible assumption | omega) only [push_cast, x_blk, x_cd, ↓reduceIte, Nat.reduceEqDiff, List.map_cons, List.map_nil, Int.reduceEq, Int.lt_irrefl, fr, hp1, hp2, k14.a1 ty_ag_3, bl_arrow, bs_rec arrEnc slT_23 _ (by decide)]
  refine app_rec arrEnc slT_23 ho ⟨(ix y.frm B : Int), y.evt, (ix y.to_ B : Int)⟩ (by omega) (by omega) b12.size ?_
  intro O' co' w17 ho' hg17 hA17 hs17 hz17
  simp (disch := first | with_reducible assumption | omega) only [push_cast, x_blk, x_cd, ↓reduceIte, Nat.reduceEqDiff, List.map_cons, List.map_nil, Int.reduceEq, Int.lt_irrefl, fr]
  exact hJ _ _ ⟨k + 1, O', co', hlt, (by simp only [push_cast, ↓reduceIte, Nat.reduceEqDiff, true_and, and_true, and_self, eq_self, fr, hsn, List.length_append, List.length_cons, List.length_nil]), by rw [hsn]; exact ho', hg17.below b12 b12.size ho.geB⟩ (by simp only [push_cast, ↓reduceIte, Nat.reduceEqDiff, intOf, fr]; omega)
end

/-! # ReachF -/
section
open Go.RowKit

theorem Ints.up {w w' : World} {A : Option Addr} {l : List Int} (h : Ints (· < w.heap.size) w A l) (b : Below w.heap.size w w') : Ints (· < w'.heap.size) w' A l := (h.below b).mono fun _ hl => Nat.lt_of_lt_of_le hl b.size
theorem IsM.up {w w' : World} {a : MV} {m : Mach} (h : IsM (· < w.heap.size) w a m) (b : Below w.heap.size w w') : IsM (· < w'.heap.size) w' a m := (h.below b).mono fun _ hl => Nat.lt_of_lt_of_le hl b.size
theorem May.fits {m : Mach} (hm : m.May) : m.Fits := by
  have a1 := hm.1
  have a2 := hm.2.1
  have a3 := hm.2.2.1
  have a4 := hm.2.2.2.1
  have a5 := hm.2.2.2.2.1
  have r6 := hm.2.2.2.2.2.1
  have r7 := hm.2.2.2.2.2.2.1
  refine ⟨⟨by omega, by omega⟩, ⟨by omega, by omega⟩, fun x hx => ?_, fun x hx => ?_, fun a ha => ?_, by have := r6.len; omega, by have := r7.len; omega, by omega⟩
  · have := r6.mem hx; exact ⟨by omega, by omega⟩
  · have := r7.mem hx; exact ⟨by omega, by omega⟩
  · have := May.arr hm ha
    unfold Mach.ArrOk at this
    exact ⟨⟨by omega, by omega⟩, ⟨by omega, by omega⟩, ⟨by omega, by omega⟩⟩
theorem trimM_len {m : Mach} (hf : m.Fits) (hm : m.May) (B : List Int) : (trimM m B).starts.length ≤ 17592186043904 ∧ (trimM m B).ends.length ≤ 17592186043904 ∧ (trimM m B).arrows.length ≤ 4096 := by
  have h1 := numL_len B m.starts
  have h2 := numL_len B m.ends
  have h3 := trimA_len B m.arrows
  have h4 := hf.lenS
  have h5 := hf.lenE
  have h6 := hm.2.2.2.2.1
  exact ⟨by show (numL B m.starts).length ≤ _; omega, by show (numL B m.ends).length ≤ _; omega, by show (trimA B m.arrows).length ≤ _; omega⟩
theorem law_ReachTells {w : World} (hT : Tab w) {a0 : MV} {m0 : Mach} (h : IsM (· < w.heap.size) w a0 m0) (hf : m0.Fits) :
    Cal Tryd.prog 7 [a0.val m0] w fun v w' => v = .bool true ∧ Below w.heap.size w w' := by
  refine cal_law_ReachTells (by simp) 100000 fun Q hQ => ?_
  simp (disch := first | with_reducible assumption | omega) only [push_cast, x_blk, x_cd, ↓reduceIte, Nat.reduceEqDiff, List.map_cons, List.map_nil, Int.reduceEq, Int.lt_irrefl, F_law_ReachTells]
  refine blk_of (box_agg _ (a0.cells m0)) ?_
  intro w1 k1 b1 z1
  have hM := h.up b1
  have bb := b1
  simp (disch := first | with_reducible assumption | omega) only [push_cast, x_blk, x_cd, ↓reduceIte, Nat.reduceEqDiff, List.map_cons, List.map_nil, Int.reduceEq, Int.lt_irrefl, k1.mA ty_ag_25 ty_sz_25]
  refine call_of (law_great a0 m0 w1) ?_
  rintro v w2 ⟨rfl, b2⟩
  replace k1 := k1.below b2 k1.lt
  replace hM := hM.up b2
  replace bb := bb.trans (Below.mono b2 bb.size)
  by_cases hg : m0.Great
  · simp (disch := first | with_reducible assumption | omega) only [push_cast, x_blk, x_cd, ↓reduceIte, Nat.reduceEqDiff, List.map_cons, List.map_nil, Int.reduceEq, Int.lt_irrefl, decide_eq_true hg]
    exact fin_1 (hQ _ _ ⟨by rfl, bb⟩)
  simp (disch := first | with_reducible assumption | omega) only [push_cast, x_blk, x_cd, ↓reduceIte, Nat.reduceEqDiff, List.map_cons, List.map_nil, Int.reduceEq, Int.lt_irrefl, decide_eq_false hg, k1.mA ty_ag_25 ty_sz_25]
  refine call_of (reach_Reach hM hf (hT.below bb hT.lt)) ?_
  rintro v w3 ⟨OA, cA, oA, eA', rfl, hoA, b3, yA, nA⟩
  have iA := (OwnI.ints hoA).lt
  replace k1 := k1.below b3 k1.lt
  replace hM := hM.up b3
  replace bb := bb.trans (Below.mono b3 bb.size)
  simp (disch := first | with_reducible assumption | omega) only [push_cast, x_blk, x_cd, ↓reduceIte, Nat.reduceEqDiff, List.map_cons, List.map_nil, Int.reduceEq, Int.lt_irrefl, k1.mA ty_ag_25 ty_sz_25]
  refine call_of (reach_Live hM hf (hT.below bb hT.lt)) ?_
  rintro v w4 ⟨OB, cB, oB, eB', rfl, hoB, b4, yB, nB⟩
  have iB := (OwnI.ints hoB).lt
  replace k1 := k1.below b4 k1.lt
  replace hM := hM.up b4
  replace bb := bb.trans (Below.mono b4 bb.size)
  replace iA := iA.up b4
  simp (disch := first | with_reducible assumption | omega) only [push_cast, x_blk, x_cd, ↓reduceIte, Nat.reduceEqDiff, List.map_cons, List.map_nil, Int.reduceEq, Int.lt_irrefl, k1.mA ty_ag_25 ty_sz_25]
  refine call_of (reach_Trim hM hf (hT.below bb hT.lt)) ?_
  rintro v w5 ⟨d, dm, OL, cL, oL, eL', rfl, hd, iL, b5, yL, nL⟩
  replace k1 := k1.below b5 k1.lt
  replace hM := hM.up b5
  replace bb := bb.trans (Below.mono b5 bb.size)
  replace iA := iA.up b5
  replace iB := iB.up b5
  simp (disch := first | with_reducible assumption | omega) only [push_cast, x_blk, x_cd, ↓reduceIte, Nat.reduceEqDiff, List.map_cons, List.map_nil, Int.reduceEq, Int.lt_irrefl]
  refine blk_of (cs := mv0.cells mach0) al_25 ?_
  intro w6 k6 b6 z6
  simp (disch := first | with_reducible assumption | omega) only [push_cast, x_blk, x_cd, ↓reduceIte, Nat.reduceEqDiff, List.map_cons, List.map_nil, Int.reduceEq, Int.lt_irrefl]
  refine sto_mach k6 rfl d dm ?_
  intro w7 k7 g7 z7
  have b7 := g7.below b6 b6.size (by intro a ha; injection ha with ha; subst ha; exact Nat.le_refl _)
  replace hd := hd.up b7
  replace iL := iL.up b7
  replace k1 := k1.below b7 k1.lt
  replace hM := hM.up b7
  replace bb := bb.trans (Below.mono b7 bb.size)
  replace iA := iA.up b7
  replace iB := iB.up b7
  simp (disch := first | with_reducible assumption | omega) only [push_cast, x_blk, x_cd, ↓reduceIte, Nat.reduceEqDiff, List.map_cons, List.map_nil, Int.reduceEq, Int.lt_irrefl, k1.mA ty_ag_25 ty_sz_25]
  refine call_of (ref2_May hM hf) ?_
  rintro v w8 ⟨rfl, b8⟩
  replace k1 := k1.below b8 k1.lt
  replace hM := hM.up b8
  replace bb := bb.trans (Below.mono b8 bb.size)
  replace iA := iA.up b8
  replace iB := iB.up b8
  replace k7 := k7.below b8 k7.lt
  replace hd := hd.up b8
  replace iL := iL.up b8
  by_cases p1 : m0.May
  case neg =>
    obtain ⟨rfl, rfl⟩ := nA p1
    obtain ⟨rfl, rfl⟩ := nB p1
    obtain ⟨rfl, rfl, rfl⟩ := nL p1
    simp (disch := first | with_reducible assumption | omega) only [push_cast, x_blk, x_cd, ↓reduceIte, Nat.reduceEqDiff, List.map_cons, List.map_nil, Int.reduceEq, Int.lt_irrefl, p1, eq_self, List.length_nil, Int.add_zero, Int.reduceAdd, k7.mA ty_ag_25 ty_sz_25, mach0_built]
    refine call_of (law_machines hd (mach0_is (· < w8.heap.size) w8) (by decide) (by decide) (by decide)) ?_
    rintro v w9 ⟨rfl, b9⟩
    replace k1 := k1.below b9 k1.lt
    replace hM := hM.up b9
    replace bb := bb.trans (Below.mono b9 bb.size)
    rw [decide_eq_true rfl]
    simp (disch := first | with_reducible assumption | omega) only [push_cast, x_blk, x_cd, ↓reduceIte, Nat.reduceEqDiff, List.map_cons, List.map_nil, Int.reduceEq, Int.lt_irrefl]
    exact fin_1 (hQ _ _ ⟨(by simp only [push_cast, ↓reduceIte, Nat.reduceEqDiff, Int.reduceEq]), bb⟩)
  obtain ⟨rfl, rfl⟩ := yA p1
  obtain ⟨rfl, rfl⟩ := yB p1
  obtain ⟨rfl, rfl, rfl⟩ := yL p1
  simp (disch := first | with_reducible assumption | omega) only [push_cast, x_blk, x_cd, ↓reduceIte, Nat.reduceEqDiff, List.map_cons, List.map_nil, Int.reduceEq, Int.lt_irrefl, p1, eq_self, k1.mA ty_ag_25 ty_sz_25]
  refine call_of (ref3_Reach hM hf p1) ?_
  rintro v w9 ⟨OX, cX, rfl, hoX, b9⟩
  have iX := (OwnI.ints hoX).lt
  replace k1 := k1.below b9 k1.lt
  replace hM := hM.up b9
  replace bb := bb.trans (Below.mono b9 bb.size)
  replace iA := iA.up b9
  replace iB := iB.up b9
  replace k7 := k7.below b9 k7.lt
  replace hd := hd.up b9
  replace iL := iL.up b9
  simp (disch := first | with_reducible assumption | omega) only [push_cast, x_blk, x_cd, ↓reduceIte, Nat.reduceEqDiff, List.map_cons, List.map_nil, Int.reduceEq, Int.lt_irrefl, k1.mA ty_ag_25 ty_sz_25]
  refine call_of (ref3_Live hM hf p1) ?_
  rintro v w10 ⟨OY, cY, rfl, hoY, b10⟩
  have iY := (OwnI.ints hoY).lt
  replace iX := iX.up b10
  replace k1 := k1.below b10 k1.lt
  replace hM := hM.up b10
  replace bb := bb.trans (Below.mono b10 bb.size)
  replace iA := iA.up b10
  replace iB := iB.up b10
  replace k7 := k7.below b10 k7.lt
  replace hd := hd.up b10
  replace iL := iL.up b10
  simp (disch := first | with_reducible assumption | omega) only [push_cast, x_blk, x_cd, ↓reduceIte, Nat.reduceEqDiff, List.map_cons, List.map_nil, Int.reduceEq, Int.lt_irrefl, k1.mA ty_ag_25 ty_sz_25]
  refine call_of (ref3_Trim hM hf p1) ?_
  rintro v w11 ⟨u, OK, cK, rfl, hu, iK, b11⟩
  replace iX := iX.up b11
  replace iY := iY.up b11
  replace k1 := k1.below b11 k1.lt
  replace hM := hM.up b11
  replace bb := bb.trans (Below.mono b11 bb.size)
  replace iA := iA.up b11
  replace iB := iB.up b11
  replace k7 := k7.below b11 k7.lt
  replace hd := hd.up b11
  replace iL := iL.up b11
  simp (disch := first | with_reducible assumption | omega) only [push_cast, x_blk, x_cd, ↓reduceIte, Nat.reduceEqDiff, List.map_cons, List.map_nil, Int.reduceEq, Int.lt_irrefl]
  refine blk_of (cs := mv0.cells mach0) al_25 ?_
  intro w12 k12 b12 z12
  simp (disch := first | with_reducible assumption | omega) only [push_cast, x_blk, x_cd, ↓reduceIte, Nat.reduceEqDiff, List.map_cons, List.map_nil, Int.reduceEq, Int.lt_irrefl]
  refine sto_mach k12 rfl u (trimM m0 (bothL m0)) ?_
  intro w13 k13 g13 z13
  have b13 := g13.below b12 b12.size (by intro a ha; injection ha with ha; subst ha; exact Nat.le_refl _)
  replace iX := iX.up b13
  replace iY := iY.up b13
  replace iK := iK.up b13
  replace hu := hu.up b13
  replace k1 := k1.below b13 k1.lt
  replace hM := hM.up b13
  replace bb := bb.trans (Below.mono b13 bb.size)
  replace iA := iA.up b13
  replace iB := iB.up b13
  replace k7 := k7.below b13 k7.lt
  replace hd := hd.up b13
  replace iL := iL.up b13
  have n1 : (reachL m0).length ≤ 256 := small_len (pick_strict (ReachP m0)) (pick_small _)
  have n2 : (liveL m0).length ≤ 256 := small_len (pick_strict (LiveP m0)) (pick_small _)
  have n3 := small_len (bothL_strict m0) (bothL_small m0)
  obtain ⟨t1, t2, t3⟩ := trimM_len hf p1 (bothL m0)
  simp (disch := first | with_reducible assumption | omega) only [push_cast, x_blk, x_cd, ↓reduceIte, Nat.reduceEqDiff, List.map_cons, List.map_nil, Int.reduceEq, Int.lt_irrefl]
  refine call_of (ref1_Same iA iX cA cX (by omega)) ?_
  rintro v w14 ⟨rfl, s14⟩
  rw [decide_eq_true rfl]
  simp (disch := first | with_reducible assumption | omega) only [push_cast, x_blk, x_cd, ↓reduceIte, Nat.reduceEqDiff, List.map_cons, List.map_nil, Int.reduceEq, Int.lt_irrefl]
  refine call_of (ref1_Same (iB.same s14) (iY.same s14) cB cY (by omega)) ?_
  rintro v w15 ⟨rfl, s15⟩
  rw [decide_eq_true rfl]
  have s := s14.trans s15
  simp (disch := first | with_reducible assumption | omega) only [push_cast, x_blk, x_cd, ↓reduceIte, Nat.reduceEqDiff, List.map_cons, List.map_nil, Int.reduceEq, Int.lt_irrefl]
  refine call_of (ref1_Same (iL.same s) (iK.same s) cL cK (by omega)) ?_
  rintro v w16 ⟨rfl, s16⟩
  rw [decide_eq_true rfl]
  replace s := s.trans s16
  have k7' := k7.same s
  have k13' := k13.same s
  simp (disch := first | with_reducible assumption | omega) only [push_cast, x_blk, x_cd, ↓reduceIte, Nat.reduceEqDiff, List.map_cons, List.map_nil, Int.reduceEq, Int.lt_irrefl, k7'.mA ty_ag_25 ty_sz_25, k13'.mA ty_ag_25 ty_sz_25]
  refine call_of (law_machines (hd.up (s.below _)) (hu.up (s.below _)) t1 t2 (by omega)) ?_
  rintro v w17 ⟨rfl, b17⟩
  rw [decide_eq_true rfl]
  have bb2 := bb.trans (s.below _)
  simp (disch := first | with_reducible assumption | omega) only [push_cast, x_blk, x_cd, ↓reduceIte, Nat.reduceEqDiff, List.map_cons, List.map_nil, Int.reduceEq, Int.lt_irrefl]
  exact fin_1 (hQ _ _ ⟨(by simp only [push_cast, ↓reduceIte, Nat.reduceEqDiff, Int.reduceEq]), bb2.trans (b17.mono bb2.size)⟩)

theorem law_ReachTrims {w : World} (hT : Tab w) {a0 : MV} {m0 : Mach} (h : IsM (· < w.heap.size) w a0 m0) (hf : m0.Fits)
    {A1 : Option Addr} {c1 : Nat} {l1 : List Int} (h1 : Ints (· < w.heap.size) w A1 l1) (_b1 : ∀ x ∈ l1, I64 x) (n1 : l1.length ≤ 17592186043904) (_k1 : l1.length ≤ c1) :
    Cal Tryd.prog 13 [a0.val m0, .slice A1 l1.length c1] w fun v w' => v = .bool true ∧ Below w.heap.size w w' := by
  refine cal_keep_ReachTrims (by simp) 100000 fun Q hQ => ?_
  simp (disch := first | with_reducible assumption | omega) only [push_cast, x_blk, x_cd, ↓reduceIte, Nat.reduceEqDiff, List.map_cons, List.map_nil, Int.reduceEq, Int.lt_irrefl, F_keep_ReachTrims]
  refine blk_of (box_agg _ (a0.cells m0)) ?_
  intro w1 k1 b1 z1
  have hM := h.up b1
  have bb := b1
  simp (disch := first | with_reducible assumption | omega) only [push_cast, x_blk, x_cd, ↓reduceIte, Nat.reduceEqDiff, List.map_cons, List.map_nil, Int.reduceEq, Int.lt_irrefl, k1.mA ty_ag_25 ty_sz_25]
  refine call_of (reach_Trim hM hf (hT.below bb hT.lt)) ?_
  rintro v w5 ⟨d, dm, OL, cL, oL, eL', rfl, hd, iL, b5, yL, nL⟩
  replace k1 := k1.below b5 k1.lt
  replace hM := hM.up b5
  replace bb := bb.trans (Below.mono b5 bb.size)
  simp (disch := first | with_reducible assumption | omega) only [push_cast, x_blk, x_cd, ↓reduceIte, Nat.reduceEqDiff, List.map_cons, List.map_nil, Int.reduceEq, Int.lt_irrefl]
  refine blk_of (cs := mv0.cells mach0) al_25 ?_
  intro w6 k6 b6 z6
  simp (disch := first | with_reducible assumption | omega) only [push_cast, x_blk, x_cd, ↓reduceIte, Nat.reduceEqDiff, List.map_cons, List.map_nil, Int.reduceEq, Int.lt_irrefl]
  refine sto_mach k6 rfl d dm ?_
  intro w7 k7 g7 z7
  have b7 := g7.below b6 b6.size (by intro a ha; injection ha with ha; subst ha; exact Nat.le_refl _)
  replace hd := hd.up b7
  replace k1 := k1.below b7 k1.lt
  replace hM := hM.up b7
  replace bb := bb.trans (Below.mono b7 bb.size)
  by_cases p1 : m0.May
  case neg =>
    obtain ⟨rfl, rfl, rfl⟩ := nL p1
    simp (disch := first | with_reducible assumption | omega) only [push_cast, x_blk, x_cd, ↓reduceIte, Nat.reduceEqDiff, List.map_cons, List.map_nil, Int.reduceEq, Int.lt_irrefl, Int.reduceEq, eq_self, List.length_nil, k1.mA ty_ag_25 ty_sz_25]
    refine call_of (machine_May hM hf) ?_
    rintro v w8 ⟨rfl, b8⟩
    replace k1 := k1.below b8 k1.lt
    replace hM := hM.up b8
    replace bb := bb.trans (Below.mono b8 bb.size)
    simp (disch := first | with_reducible assumption | omega) only [push_cast, x_blk, x_cd, ↓reduceIte, Nat.reduceEqDiff, List.map_cons, List.map_nil, Int.reduceEq, Int.lt_irrefl, p1]
    exact fin_1 (hQ _ _ ⟨(by simp only [push_cast, ↓reduceIte, Nat.reduceEqDiff, Int.reduceEq]), bb⟩)
  obtain ⟨rfl, rfl, rfl⟩ := yL p1
  simp (disch := first | with_reducible assumption | omega) only [push_cast, x_blk, x_cd, ↓reduceIte, Nat.reduceEqDiff, List.map_cons, List.map_nil, Int.reduceEq, Int.lt_irrefl, Int.reduceEq, eq_self, k1.mA ty_ag_25 ty_sz_25]
  refine call_of (machine_Accepts hM hf (hT.below bb hT.lt) (h1.up bb) n1) ?_
  rintro v w8 ⟨t, e, rfl, b8, y8, _, q8⟩
  replace k1 := k1.below b8 k1.lt
  replace hM := hM.up b8
  replace bb := bb.trans (Below.mono b8 bb.size)
  replace hd := hd.up b8
  replace k7 := k7.below b8 k7.lt
  have pt := trimM_may p1 (bothL_strict m0) (bothL_small m0)
  have hft : (trimM m0 (bothL m0)).Fits := May.fits pt
  simp (disch := first | with_reducible assumption | omega) only [push_cast, x_blk, x_cd, ↓reduceIte, Nat.reduceEqDiff, List.map_cons, List.map_nil, Int.reduceEq, Int.lt_irrefl, k7.mA ty_ag_25 ty_sz_25]
  refine call_of (machine_Accepts hd hft (hT.below bb hT.lt) (h1.up bb) n1) ?_
  rintro v w9 ⟨t', e', rfl, b9, y9, _, q9⟩
  replace k1 := k1.below b9 k1.lt
  replace hM := hM.up b9
  replace bb := bb.trans (Below.mono b9 bb.size)
  replace k7 := k7.below b9 k7.lt
  have hst : (0 : Int) < (trimM m0 (bothL m0)).states := by have := pt.1; omega
  by_cases p2 : IsWord m0 l1
  · obtain ⟨rfl, rfl⟩ := y8 ⟨p1, p2⟩
    obtain ⟨rfl, rfl⟩ := y9 ⟨pt, p2⟩
    have r : decide (AcceptsL (trimM m0 (bothL m0)) l1) = decide (AcceptsL m0 l1) := decide_eq_decide.2 (trim_accepts p1 l1)
    rw [r]
    simp (disch := first | with_reducible assumption | omega) only [push_cast, x_blk, x_cd, ↓reduceIte, Nat.reduceEqDiff, List.map_cons, List.map_nil, Int.reduceEq, Int.lt_irrefl, eq_self, beq_self_eq_true, k7.m0 ty_ag_3, hst]
    exact fin_1 (hQ _ _ ⟨(by simp only [push_cast, ↓reduceIte, Nat.reduceEqDiff, Int.reduceEq]), bb⟩)
  · obtain ⟨rfl, rfl⟩ := q8 ⟨p1, p2⟩
    obtain ⟨rfl, rfl⟩ := q9 ⟨pt, p2⟩
    simp (disch := first | with_reducible assumption | omega) only [push_cast, x_blk, x_cd, ↓reduceIte, Nat.reduceEqDiff, List.map_cons, List.map_nil, Int.reduceEq, Int.lt_irrefl, eq_self, beq_self_eq_true, k7.m0 ty_ag_3, hst]
    exact fin_1 (hQ _ _ ⟨(by simp only [push_cast, ↓reduceIte, Nat.reduceEqDiff, Int.reduceEq]), bb⟩)
end
end Go.Proofs.YtiabkafgmanhiaaDoor
