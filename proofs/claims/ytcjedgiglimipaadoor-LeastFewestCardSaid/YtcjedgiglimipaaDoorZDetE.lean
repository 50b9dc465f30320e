/-
  Chapter 6: the reference's Is, Find: by their contracts.
  Chapter 6: the reference's Make, by its contract; the law DetermineMakes.
-/
import Derived.Test.YtcjedgiglimipaaDoorZDetP
import Derived.Test.YtcjedgiglimipaaDoorZSame
import Derived.Test.YtcjedgiglimipaaDoorZCtlA
import Derived.Test.YtcjedgiglimipaaDoorZRef7
namespace Go.Proofs.YtcjedgiglimipaaDoor
set_option linter.unusedSimpArgs false
set_option linter.unusedVariables false
set_option linter.unusedSectionVars false
section
open Go.RowKit

theorem manyAt_snoc (l : List Arr) (s e : Int) (k : Nat) (h : k < l.length) : manyAt (l.take (k + 1)) s e = manyAt (l.take k) s e + if (l.getD k default).frm = s ∧ (l.getD k default).evt = e then 1 else 0 := by
  unfold manyAt
  rw [take_snoc l default k h, List.countP_append]
  congr 1
  generalize l.getD k default = y
  by_cases h1 : y.frm = s <;> by_cases h2 : y.evt = e <;> simp [h1, h2]
theorem manyAt_le (l : List Arr) (s e : Int) (k : Nat) : manyAt (l.take k) s e ≤ k := Nat.le_trans (List.countP_le_length) (List.length_take_le _ _)
theorem ref6_Is {w : World} {a : MV} {m : Mach} (ha : IsM (· < w.heap.size) w a m) (hf : m.Fits) :
    Cal Tryd.prog 29 [a.val m] w fun v w' => v = .bool (decide (IsDet m)) ∧ Below w.heap.size w w' := by
  refine cal_ref6_Is (by simp) 100000 fun Q hQ => ?_
  simp (disch := first | with_reducible assumption | omega) only [push_cast, x_blk, x_cd, ↓reduceIte, Nat.reduceEqDiff, List.map_cons, List.map_nil, Int.reduceEq, Int.lt_irrefl, F_ref6_Is]
  refine blk_of (box_agg _ (a.cells m)) ?_
  intro w1 k1 b1 z1
  have bb := b1
  have up : ∀ {w' : World} {c : MV} {mc : Mach}, IsM (· < w.heap.size) w c mc → Below w.heap.size w w' → IsM (· < w'.heap.size) w' c mc := fun {w' c mc} h hb => (h.below hb).mono fun b hl => Nat.lt_of_lt_of_le hl hb.size
  simp (disch := first | with_reducible assumption | omega) only [push_cast, x_blk, x_cd, ↓reduceIte, Nat.reduceEqDiff, List.map_cons, List.map_nil, Int.reduceEq, Int.lt_irrefl, k1.mA ty_ag_25 ty_sz_25]
  refine call_of (ref2_May (up ha bb) hf) ?_
  rintro v w2 ⟨rfl, b2⟩
  replace k1 := k1.below b2 k1.lt
  replace bb := bb.trans (b2.mono bb.size)
  have no : ¬ IsDet2 m → decide (IsDet m) = false := fun h => decide_eq_false fun hd => h (det_iff.1 hd)
  by_cases p1 : m.May
  case neg =>
    have r := no fun h => p1 h.1
    simp (disch := first | with_reducible assumption | omega) only [push_cast, x_blk, x_cd, ↓reduceIte, Nat.reduceEqDiff, List.map_cons, List.map_nil, Int.reduceEq, Int.lt_irrefl, p1]
    exact fin_1 (hQ _ _ ⟨(by simp only [push_cast, ↓reduceIte, Nat.reduceEqDiff, Int.reduceEq, r]), bb⟩)
  have m1 : 1 ≤ m.states := p1.1
  have m2 : m.states ≤ 256 := p1.2.1
  have m3 : 0 ≤ m.events := p1.2.2.1
  have m4 : m.events ≤ 8 := p1.2.2.2.1
  have m5 : m.arrows.length ≤ 4096 := p1.2.2.2.2.1
  by_cases p2 : (m.starts.length : Int) = 1
  case neg =>
    have r := no fun h => p2 (by have := h.2.1; omega)
    simp (disch := first | with_reducible assumption | omega) only [push_cast, x_blk, x_cd, ↓reduceIte, Nat.reduceEqDiff, List.map_cons, List.map_nil, Int.reduceEq, Int.lt_irrefl, p1, p2, k1.m2 ty_ag_22]
    exact fin_1 (hQ _ _ ⟨(by simp only [push_cast, ↓reduceIte, Nat.reduceEqDiff, Int.reduceEq, r]), bb⟩)
  simp (disch := first | with_reducible assumption | omega) only [push_cast, x_blk, x_cd, ↓reduceIte, Nat.reduceEqDiff, List.map_cons, List.map_nil, Int.reduceEq, Int.lt_irrefl, p1, p2, eq_self, k1.m2 ty_ag_22]
  have hA := (up ha bb).arrows
  refine loop_rule (fun f w' => ∃ s : Nat, (s : Int) ≤ m.states ∧ (f 1 = .pointer (some ⟨w.heap.size, 0, none⟩) ∧ f 3 = .int .i64 s) ∧ (∀ s' e' : Nat, s' < s → (e' : Int) < m.events → manyAt m.arrows s' e' = 1) ∧ Same w2 w')
    (fun f _ => m.states.toNat - (intOf (f 3)).toNat) ⟨0, by omega, ⟨rfl, rfl⟩, fun s' e' h => absurd h (by omega), Same.refl _⟩ ?_
  rintro f w3 ⟨s, hs, fr, hp, s3⟩ J hJ
  have k3 := k1.same s3
  have hmu : (intOf (f 3)).toNat = s := by rw [fr.2]; simp [intOf]
  by_cases hlt : (s : Int) < m.states
  case neg =>
    have r : decide (IsDet m) = true := decide_eq_true (det_iff.2 ⟨p1, by omega, fun s' e' h1 h2 => hp s' e' (by omega) h2⟩)
    simp (disch := first | with_reducible assumption | omega) only [push_cast, x_blk, x_cd, ↓reduceIte, Nat.reduceEqDiff, List.map_cons, List.map_nil, Int.reduceEq, Int.lt_irrefl, L_ref6_Is_2, fr, hlt, k3.m0 ty_ag_3]
    exact fin_1 (hQ _ _ ⟨(by simp only [push_cast, ↓reduceIte, Nat.reduceEqDiff, Int.reduceEq, r]), bb.trans (s3.below _)⟩)
  simp (disch := first | with_reducible assumption | omega) only [push_cast, x_blk, x_cd, ↓reduceIte, Nat.reduceEqDiff, List.map_cons, List.map_nil, Int.reduceEq, Int.lt_irrefl, L_ref6_Is_2, fr, hlt, k3.m0 ty_ag_3]
  refine loop_rule (fun f' w' => ∃ e : Nat, (e : Int) ≤ m.events ∧ (f' 1 = .pointer (some ⟨w.heap.size, 0, none⟩) ∧ f' 3 = .int .i64 s ∧ f' 4 = .int .i64 e) ∧ (∀ e' : Nat, e' < e → manyAt m.arrows s e' = 1) ∧ Same w2 w')
    (fun f' _ => m.events.toNat - (intOf (f' 4)).toNat) ⟨0, by omega, (by simp only [push_cast, ↓reduceIte, Nat.reduceEqDiff, true_and, and_true, and_self, eq_self, fr]), fun e' h => absurd h (by omega), s3⟩ ?_
  clear fr k3 s3
  rintro f w4 ⟨e, he, fr, hpe, s4⟩ J2 hJ2
  have k4 := k1.same s4
  have hmu2 : (intOf (f 4)).toNat = e := by rw [fr.2.2]; simp [intOf]
  by_cases hlte : (e : Int) < m.events
  case neg =>
    simp (disch := first | with_reducible assumption | omega) only [push_cast, x_blk, x_cd, ↓reduceIte, Nat.reduceEqDiff, List.map_cons, List.map_nil, Int.reduceEq, Int.lt_irrefl, L_ref6_Is_1, fr, hlte, k4.m1 ty_ag_3]
    exact hJ _ _ ⟨s + 1, by omega, (by simp only [push_cast, ↓reduceIte, Nat.reduceEqDiff, true_and, and_true, and_self, eq_self, fr]), fun s' e' h1 h2 => by
      rcases Nat.lt_or_ge s' s with c | c
      · exact hp s' e' c h2
      · obtain rfl : s' = s := by omega
        exact hpe e' (by omega), s4⟩ (by rw [hmu]; simp only [push_cast, ↓reduceIte, Nat.reduceEqDiff, intOf, fr]; omega)
  have hm0 : ((manyAt (List.take 0 m.arrows) (s : Int) (e : Int) : Nat) : Int) = 0 := rfl
  simp (disch := first | with_reducible assumption | omega) only [push_cast, x_blk, x_cd, ↓reduceIte, Nat.reduceEqDiff, List.map_cons, List.map_nil, Int.reduceEq, Int.lt_irrefl, L_ref6_Is_1, fr, hlte, k4.m1 ty_ag_3]
  refine loop_rule (fun f' w' => ∃ i : Nat, i ≤ m.arrows.length ∧ (f' 1 = .pointer (some ⟨w.heap.size, 0, none⟩) ∧ f' 3 = .int .i64 s ∧ f' 4 = .int .i64 e ∧ f' 5 = .int .i64 (manyAt (m.arrows.take i) s e : Nat) ∧ f' 6 = .int .i64 i) ∧ Same w2 w')
    (fun f' _ => m.arrows.length - (intOf (f' 6)).toNat) ⟨0, Nat.zero_le _, (by simp only [push_cast, ↓reduceIte, Nat.reduceEqDiff, true_and, and_true, and_self, eq_self, fr, hm0]), s4⟩ ?_
  clear fr k4 s4
  rintro f w5 ⟨i, hi, fr, s5⟩ J3 hJ3
  have k5 := k1.same s5
  have hA5 := hA.same s5
  have hle := manyAt_le m.arrows s e i
  by_cases hlti : i < m.arrows.length
  case neg =>
    obtain rfl : i = m.arrows.length := by omega
    rw [List.take_length] at fr hle
    by_cases hc : ((manyAt m.arrows s e : Nat) : Int) = 1
    · simp (disch := first | with_reducible assumption | omega) only [push_cast, x_blk, x_cd, ↓reduceIte, Nat.reduceEqDiff, List.map_cons, List.map_nil, Int.reduceEq, Int.lt_irrefl, L_ref6_Is_0, fr, hlti, Nat.lt_irrefl, hc, eq_self, k5.m3 ty_ag_23]
      exact hJ2 _ _ ⟨e + 1, by omega, (by simp only [push_cast, ↓reduceIte, Nat.reduceEqDiff, true_and, and_true, and_self, eq_self, fr]), fun e' h => if h1 : e' = e then by rw [h1]; omega else hpe e' (by omega), s5⟩ (by rw [hmu2]; simp only [push_cast, ↓reduceIte, Nat.reduceEqDiff, intOf, fr]; omega)
    · have r := no fun h => hc (by rw [h.2.2 s e hlt hlte]; rfl)
      simp (disch := first | with_reducible assumption | omega) only [push_cast, x_blk, x_cd, ↓reduceIte, Nat.reduceEqDiff, List.map_cons, List.map_nil, Int.reduceEq, Int.lt_irrefl, L_ref6_Is_0, fr, hlti, Nat.lt_irrefl, hc, k5.m3 ty_ag_23]
      exact fin_1 (hQ _ _ ⟨(by simp only [push_cast, ↓reduceIte, Nat.reduceEqDiff, Int.reduceEq, r]), bb.trans (s5.below _)⟩)
  have hS := hA5.isSome (by omega)
  have hsn := manyAt_snoc m.arrows s e i hlti
  by_cases d1 : (m.arrows.getD i default).frm = (s : Int)
  case neg =>
    replace hsn : manyAt (m.arrows.take (i + 1)) s e = manyAt (m.arrows.take i) s e := by rw [hsn, if_neg (fun h => d1 h.1)]; rfl
    simp (disch := first | with_reducible assumption | omega) only [push_cast, x_blk, x_cd, ↓reduceIte, Nat.reduceEqDiff, List.map_cons, List.map_nil, Int.reduceEq, Int.lt_irrefl, L_ref6_Is_0, fr, hlti, d1, k5.m3 ty_ag_23, hA5.ld0 ty_ag_3, hA5.ld1 ty_ag_3, Nat.add_zero]
    exact hJ3 _ _ ⟨i + 1, hlti, (by simp only [push_cast, ↓reduceIte, Nat.reduceEqDiff, true_and, and_true, and_self, eq_self, fr, hsn]), s5⟩ (by simp only [push_cast, ↓reduceIte, Nat.reduceEqDiff, intOf, fr]; omega)
  by_cases d2 : (m.arrows.getD i default).evt = (e : Int)
  case neg =>
    replace hsn : manyAt (m.arrows.take (i + 1)) s e = manyAt (m.arrows.take i) s e := by rw [hsn, if_neg (fun h => d2 h.2)]; rfl
    simp (disch := first | with_reducible assumption | omega) only [push_cast, x_blk, x_cd, ↓reduceIte, Nat.reduceEqDiff, List.map_cons, List.map_nil, Int.reduceEq, Int.lt_irrefl, L_ref6_Is_0, fr, hlti, d1, d2, eq_self, k5.m3 ty_ag_23, hA5.ld0 ty_ag_3, hA5.ld1 ty_ag_3, Nat.add_zero]
    exact hJ3 _ _ ⟨i + 1, hlti, (by simp only [push_cast, ↓reduceIte, Nat.reduceEqDiff, true_and, and_true, and_self, eq_self, fr, hsn]), s5⟩ (by simp only [push_cast, ↓reduceIte, Nat.reduceEqDiff, intOf, fr]; omega)
  rw [if_pos ⟨d1, d2⟩] at hsn
  simp (disch := first | with_reducible assumption | omega) only [push_cast, x_blk, x_cd, ↓reduceIte, Nat.reduceEqDiff, List.map_cons, List.map_nil, Int.reduceEq, Int.lt_irrefl, L_ref6_Is_0, fr, hlti, d1, d2, eq_self, k5.m3 ty_ag_23, hA5.ld0 ty_ag_3, hA5.ld1 ty_ag_3, Nat.add_zero]
  exact hJ3 _ _ ⟨i + 1, hlti, (by simp only [push_cast, ↓reduceIte, Nat.reduceEqDiff, true_and, and_true, and_self, eq_self, fr, hsn]), s5⟩ (by simp only [push_cast, ↓reduceIte, Nat.reduceEqDiff, intOf, fr]; omega)

end

section
open Go.RowKit

theorem bl_mach12 {K : Fr → World → Prop} {u : World} {f : Fr} {d : Option Nat} {w : World} (y : Int) (A : Option Addr) (n c : Nat) :
    Val1 Tryd.prog K (Instr.build 25 #[(1, .int .i64 y), (2, .slice A n c)]) u f d w = K (updO f d (.agg [.int .i64 0, .int .i64 y, .slice A n c, .slice none 0 0, .slice none 0 0].toArray)) w := by
  refine bld_of ?_
  rw [built_of blt_mach]
  rw [fill_cons (off := 1) (size := 1) rfl rfl (by decide), fill_cons (off := 2) (size := 1) rfl rfl (by simp [putL, Value.cells]), fill_nil]
  simp [putL, Value.cells]
end
end Go.Proofs.YtcjedgiglimipaaDoor
