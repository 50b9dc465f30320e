/-
  Chapter 12: the program's places of a machine and of a determined secret of it, by their numbers: by their contracts.
-/
import Derived.Test.YtcjinmgieiebbaaDoorZSecQ
import Derived.Test.YtcjinmgieiebbaaDoorZJoin
namespace Go.Proofs.YtcjinmgieiebbaaDoor
set_option linter.unusedSimpArgs false
set_option linter.unusedVariables false
set_option linter.unusedSectionVars false
open Go.RowKit

structure BV where
  a : MV
  d : MV
  A : Option Addr
  c : Nat
abbrev BV.cells (b : BV) (m dm : Mach) (seen : List Int) : List Value := [.int .i64 m.states, .int .i64 m.events, .slice b.a.As m.starts.length b.a.cs, .slice b.a.Aa m.arrows.length b.a.ca, .slice b.a.Ae m.ends.length b.a.ce, .int .i64 dm.states, .int .i64 dm.events, .slice b.d.As dm.starts.length b.d.cs, .slice b.d.Aa dm.arrows.length b.d.ca, .slice b.d.Ae dm.ends.length b.d.ce, .slice b.A seen.length b.c]
abbrev BV.val (b : BV) (m dm : Mach) (seen : List Int) : Value := .agg (b.cells m dm seen).toArray
structure SB (ok : Nat → Prop) (w : World) (b : BV) (m dm : Mach) (seen : List Int) : Prop where
  a : IsM ok w b.a m
  d : IsM ok w b.d dm
  seen : Ints ok w b.A seen
theorem SB.up {w w' : World} {b : BV} {m dm : Mach} {seen : List Int} (h : SB (· < w.heap.size) w b m dm seen) (k : Below w.heap.size w w') : SB (· < w'.heap.size) w' b m dm seen := ⟨h.a.up k, h.d.up k, h.seen.up k⟩
section
variable {K : Fr → World → Prop} {u : World} {f : Fr} {d : Option Nat} {w : World} {g t : Nat} {b : BV} {m dm : Mach} {seen : List Int}
theorem Blk.bA (h : Blk u g t (b.cells m dm seen)) : Val1 Tryd.prog K (Instr.loadAt 85 (.pointer (some ⟨g, 0, none⟩))) u f d w = K (updO f d (b.val m dm seen)) w := h.ldAll ty_ag_85 ty_sz_85
theorem Blk.b1 (h : Blk u g t (b.cells m dm seen)) : Val1 Tryd.prog K (Instr.loadAt 3 (.pointer (some ⟨g, 1, none⟩))) u f d w = K (updO f d (.int .i64 m.events)) w := h.ld ty_ag_3 1 (by simp)
theorem Blk.b3 (h : Blk u g t (b.cells m dm seen)) : Val1 Tryd.prog K (Instr.loadAt 23 (.pointer (some ⟨g, 3, none⟩))) u f d w = K (updO f d (.slice b.a.Aa m.arrows.length b.a.ca)) w := h.ld ty_ag_23 3 (by simp)
theorem Blk.b4 (h : Blk u g t (b.cells m dm seen)) : Val1 Tryd.prog K (Instr.loadAt 22 (.pointer (some ⟨g, 4, none⟩))) u f d w = K (updO f d (.slice b.a.Ae m.ends.length b.a.ce)) w := h.ld ty_ag_22 4 (by simp)
theorem Blk.b5 (h : Blk u g t (b.cells m dm seen)) : Val1 Tryd.prog K (Instr.loadAt 3 (.pointer (some ⟨g, 5, none⟩))) u f d w = K (updO f d (.int .i64 dm.states)) w := h.ld ty_ag_3 5 (by simp)
theorem Blk.b6 (h : Blk u g t (b.cells m dm seen)) : Val1 Tryd.prog K (Instr.loadAt 3 (.pointer (some ⟨g, 6, none⟩))) u f d w = K (updO f d (.int .i64 dm.events)) w := h.ld ty_ag_3 6 (by simp)
theorem Blk.b8 (h : Blk u g t (b.cells m dm seen)) : Val1 Tryd.prog K (Instr.loadAt 23 (.pointer (some ⟨g, 8, none⟩))) u f d w = K (updO f d (.slice b.d.Aa dm.arrows.length b.d.ca)) w := h.ld ty_ag_23 8 (by simp)
theorem Blk.b9 (h : Blk u g t (b.cells m dm seen)) : Val1 Tryd.prog K (Instr.loadAt 22 (.pointer (some ⟨g, 9, none⟩))) u f d w = K (updO f d (.slice b.d.Ae dm.ends.length b.d.ce)) w := h.ld ty_ag_22 9 (by simp)
theorem Blk.b10 (h : Blk u g t (b.cells m dm seen)) : Val1 Tryd.prog K (Instr.loadAt 22 (.pointer (some ⟨g, 10, none⟩))) u f d w = K (updO f d (.slice b.A seen.length b.c)) w := h.ld ty_ag_22 10 (by simp)
end
theorem sec_number (b : BV) (m dm : Mach) (seen : List Int) (x : Int) (t : Nat) (D : Nat) (hD : dm.states = D) (h0 : 0 ≤ x ∧ x < 6) (hD2 : D ≤ 16) (ht : t < D) (w : World) :
    Cal Tryd.prog 59 [b.val m dm seen, .int .i64 x, .int .i64 t] w fun v w' => v = .int .i64 (nmb D x t) ∧ Below w.heap.size w w' := by
  have hn := nmb_rng ht hD2 h0.1 h0.2
  obtain ⟨p, hp⟩ : ∃ p, x * (D : Int) = p := ⟨_, rfl⟩
  have hv : nmb D x t = p + t := by unfold nmb; rw [hp]
  rw [hv] at hn ⊢
  have p0 : -9223372036854775808 ≤ p := by omega
  have p1 : p ≤ 9223372036854775807 := by omega
  refine cal_secret_beside_number (by simp) 100000 fun Q hQ => ?_
  simp (disch := first | with_reducible assumption | omega) only [push_cast, x_blk, x_cd, ↓reduceIte, Nat.reduceEqDiff, List.map_cons, List.map_nil, Int.reduceEq, Int.lt_irrefl, F_secret_beside_number]
  refine blk_of (box_agg _ (b.cells m dm seen)) ?_
  intro w1 k1 b1 z1
  simp (disch := first | with_reducible assumption | omega) only [push_cast, x_blk, x_cd, ↓reduceIte, Nat.reduceEqDiff, List.map_cons, List.map_nil, Int.reduceEq, Int.lt_irrefl, k1.b5, hD, hp]
  exact fin_1 (hQ _ _ ⟨(by simp only [push_cast, ↓reduceIte, Nat.reduceEqDiff, Int.reduceEq]), b1⟩)
theorem sec_at (b : BV) (m dm : Mach) (seen : List Int) (x : Nat) (D : Nat) (hD : dm.states = D) (hD2 : 0 < D) (w : World) :
    Cal Tryd.prog 99 [b.val m dm seen, .int .i64 x] w fun v w' => v = .int .i64 (x % D : Nat) ∧ Below w.heap.size w w' := by
  have hr := fun {K : Fr → World → Prop} {u w : World} {f : Fr} {d : Option Nat} {t : TypeId} {xo yo : Operand} => bin_remE (P := Tryd.prog) (K := K) (u := u) (w := w) (f := f) (d := d) (t := t) (xo := xo) (yo := yo) (k := x) (n := D) hD.symm rfl hD2
  refine cal_secret_beside_at (by simp) 100000 fun Q hQ => ?_
  simp (disch := first | with_reducible assumption | omega) only [push_cast, x_blk, x_cd, ↓reduceIte, Nat.reduceEqDiff, List.map_cons, List.map_nil, Int.reduceEq, Int.lt_irrefl, F_secret_beside_at]
  refine blk_of (box_agg _ (b.cells m dm seen)) ?_
  intro w1 k1 b1 z1
  simp (disch := first | with_reducible assumption | omega) only [push_cast, x_blk, x_cd, ↓reduceIte, Nat.reduceEqDiff, List.map_cons, List.map_nil, Int.reduceEq, Int.lt_irrefl, k1.b5, hr]
  exact fin_1 (hQ _ _ ⟨(by simp only [push_cast, ↓reduceIte, Nat.reduceEqDiff, Int.reduceEq]), b1⟩)
theorem setV_cong {S T : List Int} (h : ∀ x : Int, x ∈ S ↔ x ∈ T) : setV S = setV T := by unfold setV; rw [wordsOf_ext fun x _ _ => h x]
section
variable {m s : Mach} {L : List (List Int)} {ar : List Arr} (h : SecD m s L ar)
include h
theorem sec_step {w : World} {b : BV} {seen : List Int} (hB : SB (· < w.heap.size) w b m (detOf s L ar) seen) (S : List Int) (e : Int) :
    Cal Tryd.prog 62 [b.val m (detOf s L ar) seen, setV S, .int .i64 e] w fun v w' => v = setV (sStep m s L ar S e) ∧ Below w.heap.size w w' := by
  have dS : (detOf s L ar).states = (L.length : Int) := rfl
  have dE : (detOf s L ar).events = s.events := rfl
  have dA : (detOf s L ar).arrows = ar := rfl
  have nA := h.pm.2.2.2.2.1
  have l16 := h.l16
  have l0 := h.pos
  have n8 := h.det.n8
  have hev := h.det.ev
  generalize hdm : detOf s L ar = dm at *
  refine cal_secret_beside_step (by simp) 100000 fun Q hQ => ?_
  simp (disch := first | with_reducible assumption | omega) only [push_cast, x_blk, x_cd, ↓reduceIte, Nat.reduceEqDiff, List.map_cons, List.map_nil, Int.reduceEq, Int.lt_irrefl, F_secret_beside_step]
  refine blk_of (box_agg _ (b.cells m dm seen)) ?_
  intro w1 kB b1 z1
  simp (disch := first | with_reducible assumption | omega) only [push_cast, x_blk, x_cd, ↓reduceIte, Nat.reduceEqDiff, List.map_cons, List.map_nil, Int.reduceEq, Int.lt_irrefl]
  refine blk_of (box_agg _ (setCells (wordsOf S))) ?_
  intro w2 kS b2 z2
  replace kB := kB.below b2 kB.lt
  have bb := b1.trans (b2.mono b1.size)
  simp (disch := first | with_reducible assumption | omega) only [push_cast, x_blk, x_cd, ↓reduceIte, Nat.reduceEqDiff, List.map_cons, List.map_nil, Int.reduceEq, Int.lt_irrefl]
  refine blk_of (cs := setCells (wordsOf [])) al_64 ?_
  intro w3 k6 b3 z3
  replace kB := kB.below b3 kB.lt
  replace kS := kS.below b3 kS.lt
  replace bb := bb.trans (b3.mono bb.size)
  simp (disch := first | with_reducible assumption | omega) only [push_cast, x_blk, x_cd, ↓reduceIte, Nat.reduceEqDiff, List.map_cons, List.map_nil, Int.reduceEq, Int.lt_irrefl]
  refine blk_of (cs := setCells (wordsOf [])) al_64 ?_
  intro w4 k7 b4 z4
  replace kB := kB.below b4 kB.lt
  replace kS := kS.below b4 kS.lt
  replace k6 := k6.below b4 k6.lt
  replace bb := bb.trans (b4.mono bb.size)
  simp (disch := first | with_reducible assumption | omega) only [push_cast, x_blk, x_cd, ↓reduceIte, Nat.reduceEqDiff, List.map_cons, List.map_nil, Int.reduceEq, Int.lt_irrefl, kB.b3]
  refine loop_rule (fun f w' => ∃ k : Nat, k ≤ m.arrows.length ∧ (f 2 = .int .i64 e ∧ f 3 = .pointer (some ⟨w.heap.size, 0, none⟩) ∧ f 4 = .pointer (some ⟨w1.heap.size, 0, none⟩) ∧ f 6 = .pointer (some ⟨w2.heap.size, 0, none⟩) ∧ f 7 = .pointer (some ⟨w3.heap.size, 0, none⟩) ∧ f 13 = .slice b.a.Aa m.arrows.length b.a.ca ∧ f 14 = .int .i64 m.arrows.length ∧ f 15 = .int .i64 k) ∧
      Blk w' w.heap.size 85 (b.cells m dm seen) ∧ Blk w' w1.heap.size 64 (setCells (wordsOf S)) ∧ Blk w' w2.heap.size 64 (setCells (wordsOf [])) ∧ Blk w' w3.heap.size 64 (setCells (wordsOf (sPart m s.events.toNat L.length ar S e (m.arrows.take k)))) ∧ Below w.heap.size w w')
    (fun f _ => m.arrows.length - (intOf (f 15)).toNat) ⟨0, Nat.zero_le _, ⟨rfl, rfl, rfl, rfl, rfl, rfl, rfl, rfl⟩, kB, kS, k6, k7, bb⟩ ?_
  clear kB kS k6 k7 bb
  rintro f w5 ⟨k, hk, fr, kB, kS, k6, k7, bb⟩ J hJ
  have zb := bb.size
  by_cases hlt : k < m.arrows.length
  case neg =>
    obtain rfl : k = m.arrows.length := by omega
    rw [List.take_length] at k7
    have hss : setV (sStep m s L ar S e) = setV (sPart m s.events.toNat L.length ar S e m.arrows) := setV_cong fun x => (sortedL_spec _).2 x
    simp (disch := first | with_reducible assumption | omega) only [push_cast, x_blk, x_cd, ↓reduceIte, Nat.reduceEqDiff, List.map_cons, List.map_nil, Int.reduceEq, Int.lt_irrefl, L_secret_beside_step_1, fr, Nat.lt_irrefl, k7.setA (wordsOf_words _) ty_ag_64 ty_sz_64]
    refine sto_blk k6 (cs := setCells (wordsOf (sPart m s.events.toNat L.length ar S e m.arrows))) (e4_set _) (by rw [setCells_4, setCells_4]) (setCells_one _) ?_
    intro w6 k8 g6 z6
    simp (disch := first | with_reducible assumption | omega) only [push_cast, x_blk, x_cd, ↓reduceIte, Nat.reduceEqDiff, List.map_cons, List.map_nil, Int.reduceEq, Int.lt_irrefl]
    exact fin_cell k8 ty_ag_64 (e4_set _) (by simp only [push_cast, ↓reduceIte, Nat.reduceEqDiff, true_and, and_true, and_self, eq_self, fr]) (hQ _ _ ⟨hss.symm, g6.below bb bb.size (by intro a ha; injection ha with ha; subst ha; show w.heap.size ≤ w2.heap.size; omega)⟩)
  have hI := (hB.a.up bb).arrows
  have hA := hI.isSome (by omega)
  have hsn := sPart_snoc (m := m) (n := s.events.toNat) (D := L.length) (S := S) (e := e) (ar := ar) hlt
  have hym := getD_mem m.arrows default k hlt
  have hya := h.arr hym
  simp (disch := first | with_reducible assumption | omega) only [push_cast, x_blk, x_cd, ↓reduceIte, Nat.reduceEqDiff, List.map_cons, List.map_nil, Int.reduceEq, Int.lt_irrefl, L_secret_beside_step_1, fr, hlt, hI.ldA ty_ag_91 ty_sz_91]
  refine blk_of al_91 ?_
  intro w6 k8 b6 z6
  simp (disch := first | with_reducible assumption | omega) only [push_cast, x_blk, x_cd, ↓reduceIte, Nat.reduceEqDiff, List.map_cons, List.map_nil, Int.reduceEq, Int.lt_irrefl]
  refine sto_blk k8 (cs := arrCells (m.arrows.getD k default)) ty_sz_91 rfl (by simp [arrCells, Value.oneCell']) ?_
  intro w7 k9 g7 z7
  generalize hy : m.arrows.getD k default = y at *
  have b7 : Below w5.heap.size w5 w7 := g7.below b6 (by omega) (by intro a ha; injection ha with ha; subst ha; exact Nat.le_refl _)
  have hz1 := kB.lt
  have hz2 := kS.lt
  have hz3 := k6.lt
  have hz4 := k7.lt
  replace kB := kB.below b7 kB.lt
  replace kS := kS.below b7 kS.lt
  replace k6 := k6.below b7 k6.lt
  replace k7 := k7.below b7 k7.lt
  replace bb := bb.trans (b7.mono bb.size)
  by_cases he : y.evt = e
  case neg =>
    rw [if_neg he] at hsn
    simp (disch := first | with_reducible assumption | omega) only [push_cast, x_blk, x_cd, ↓reduceIte, Nat.reduceEqDiff, List.map_cons, List.map_nil, Int.reduceEq, Int.lt_irrefl, fr, k9.a1 ty_ag_3, he]
    exact hJ _ _ ⟨k + 1, hlt, (by simp only [push_cast, ↓reduceIte, Nat.reduceEqDiff, true_and, and_true, and_self, eq_self, fr]), kB, kS, k6, by rw [hsn]; exact k7, bb⟩ (by simp only [push_cast, ↓reduceIte, Nat.reduceEqDiff, intOf, fr]; omega)
  rw [if_pos he] at hsn
  have hee := hya.2.2
  rw [he] at hee
  have hmu : m.arrows.length - (intOf (f 15)).toNat = m.arrows.length - k := by rw [fr.2.2.2.2.2.2.2]; rfl
  rw [hmu] at hJ
  simp (disch := first | with_reducible assumption | omega) only [push_cast, x_blk, x_cd, ↓reduceIte, Nat.reduceEqDiff, List.map_cons, List.map_nil, Int.reduceEq, Int.lt_irrefl, fr, k9.a1 ty_ag_3, he, eq_self, kB.b5]
  refine loop_rule (fun f w' => ∃ t : Nat, t ≤ L.length ∧ (f 2 = .int .i64 e ∧ f 3 = .pointer (some ⟨w.heap.size, 0, none⟩) ∧ f 4 = .pointer (some ⟨w1.heap.size, 0, none⟩) ∧ f 6 = .pointer (some ⟨w2.heap.size, 0, none⟩) ∧ f 7 = .pointer (some ⟨w3.heap.size, 0, none⟩) ∧ f 9 = .pointer (some ⟨w5.heap.size, 0, none⟩) ∧ f 13 = .slice b.a.Aa m.arrows.length b.a.ca ∧ f 14 = .int .i64 m.arrows.length ∧ f 15 = .int .i64 k ∧ f 25 = .int .i64 L.length ∧ f 26 = .int .i64 t) ∧
      Blk w' w.heap.size 85 (b.cells m dm seen) ∧ Blk w' w1.heap.size 64 (setCells (wordsOf S)) ∧ Blk w' w2.heap.size 64 (setCells (wordsOf [])) ∧ Blk w' w3.heap.size 64 (setCells (wordsOf (sPart m s.events.toNat L.length ar S e (m.arrows.take k) ++ sIn s.events.toNat L.length ar S e y t))) ∧ Blk w' w5.heap.size 91 (arrCells y) ∧ Below w.heap.size w w')
    (fun f _ => L.length - (intOf (f 26)).toNat) ⟨0, Nat.zero_le _, (by simp only [push_cast, ↓reduceIte, Nat.reduceEqDiff, true_and, and_true, and_self, eq_self, fr, dS]), kB, kS, k6, by unfold sIn; simpa using k7, k9, bb⟩ ?_
  clear kB kS k6 k7 k9 bb hmu fr
  rintro f w8 ⟨t, ht, fr, kB, kS, k6, k7, k9, bb⟩ J2 hJ2
  by_cases hlt2 : t < L.length
  case neg =>
    obtain rfl : t = L.length := by omega
    simp (disch := first | with_reducible assumption | omega) only [push_cast, x_blk, x_cd, ↓reduceIte, Nat.reduceEqDiff, List.map_cons, List.map_nil, Int.reduceEq, Int.lt_irrefl, L_secret_beside_step_0, fr, Nat.lt_irrefl]
    exact hJ _ _ ⟨k + 1, hlt, (by simp only [push_cast, ↓reduceIte, Nat.reduceEqDiff, true_and, and_true, and_self, eq_self, fr]), kB, kS, k6, by rw [hsn]; exact k7, bb⟩ (by simp only [push_cast, ↓reduceIte, Nat.reduceEqDiff, intOf, fr]; omega)
  have hin := sIn_succ (n := s.events.toNat) (D := L.length) (ar := ar) (S := S) (e := e) (a := y) t
  obtain ⟨T, hT1, hT2⟩ := h.dto hlt2 hee.1 hee.2
  have hdl := h.det.dto hlt2 hee.1 (by rw [← h.ev]; exact hee.2)
  have htl := getElem?_lt hT2
  have n1 := nmb_rng hlt2 l16 hya.1.1 hya.1.2
  have n2 := nmb_rng htl l16 hya.2.1.1 hya.2.1.2
  have bd : Below w8.heap.size w8 w8.drew := (Same.refl w8).drew.below _
  replace kB := kB.below bd kB.lt
  replace kS := kS.below bd kS.lt
  replace k6 := k6.below bd k6.lt
  replace k7 := k7.below bd k7.lt
  replace k9 := k9.below bd k9.lt
  replace bb := bb.trans (Below.mono bd bb.size)
  generalize hu : w8.drew = u at *
  simp (disch := first | with_reducible assumption | omega) only [push_cast, x_blk, x_cd, ↓reduceIte, Nat.reduceEqDiff, List.map_cons, List.map_nil, Int.reduceEq, Int.lt_irrefl, L_secret_beside_step_0, fr, hlt2, hu, kB.bA, kS.setA (wordsOf_words _) ty_ag_64 ty_sz_64, k9.a0 ty_ag_3]
  refine call_of (sec_number b m dm seen y.frm t L.length dS hya.1 l16 hlt2 u) ?_
  rintro v w9 ⟨rfl, b9⟩
  simp (disch := first | with_reducible assumption | omega) only [push_cast, x_blk, x_cd, ↓reduceIte, Nat.reduceEqDiff, List.map_cons, List.map_nil, Int.reduceEq, Int.lt_irrefl, fr]
  refine ⟨b9, ?_⟩
  refine call_of (set_Has' S (nmb L.length y.frm t) n1.1 (by omega) w9) ?_
  rintro v w10 ⟨rfl, b10⟩
  have b10' := b9.trans (b10.mono b9.size)
  replace kB := kB.below b10' kB.lt
  replace kS := kS.below b10' kS.lt
  replace k6 := k6.below b10' k6.lt
  replace k7 := k7.below b10' k7.lt
  replace k9 := k9.below b10' k9.lt
  replace bb := bb.trans (Below.mono b10' bb.size)
  by_cases q : nmb L.length y.frm t ∈ S
  case neg =>
    rw [if_neg q] at hin
    simp (disch := first | with_reducible assumption | omega) only [push_cast, x_blk, x_cd, ↓reduceIte, Nat.reduceEqDiff, List.map_cons, List.map_nil, Int.reduceEq, Int.lt_irrefl, fr, decide_eq_false q]
    refine ⟨b10', ?_⟩
    exact hJ2 _ _ ⟨t + 1, hlt2, (by simp only [push_cast, ↓reduceIte, Nat.reduceEqDiff, true_and, and_true, and_self, eq_self, fr]), kB, kS, k6, by rw [hin]; exact k7, k9, bb⟩ (by simp only [push_cast, ↓reduceIte, Nat.reduceEqDiff, intOf, fr]; omega)
  rw [if_pos q] at hin
  simp (disch := first | with_reducible assumption | omega) only [push_cast, x_blk, x_cd, ↓reduceIte, Nat.reduceEqDiff, List.map_cons, List.map_nil, Int.reduceEq, Int.lt_irrefl, fr, decide_eq_true q]
  refine ⟨b10', ?_⟩
  have bd2 : Below w10.heap.size w10 w10.drew := (Same.refl w10).drew.below _
  replace kB := kB.below bd2 kB.lt
  replace kS := kS.below bd2 kS.lt
  replace k6 := k6.below bd2 k6.lt
  replace k7 := k7.below bd2 k7.lt
  replace k9 := k9.below bd2 k9.lt
  replace bb := bb.trans (Below.mono bd2 bb.size)
  generalize hu2 : w10.drew = u2 at *
  obtain ⟨ee, rfl⟩ : ∃ ee : Nat, e = ee := ⟨e.toNat, by omega⟩
  obtain ⟨qq, hqq⟩ : ∃ qq, t * s.events.toNat = qq := ⟨_, rfl⟩
  obtain ⟨i, hi⟩ : ∃ i, qq + ee = i := ⟨_, rfl⟩
  have hmul : (t : Int) * s.events = (qq : Int) := by rw [← hev, ← hqq]; exact (Int.natCast_mul ..).symm
  have hqb : qq ≤ 16 * 8 := by rw [← hqq]; exact Nat.mul_le_mul (by omega) n8
  have hadd : (qq : Int) + (ee : Int) = (i : Int) := by omega
  obtain ⟨hdi, hdt, _⟩ := hdl
  rw [Int.toNat_natCast, hqq, hi] at hdi hdt
  have hID := (hB.d.up bb).arrows
  rw [dA] at hID
  have hAD := hID.isSome (by omega)
  have m8 := h.pm.2.2.2.1
  have q1 : -9223372036854775808 ≤ (qq : Int) := by omega
  have q2 : (qq : Int) ≤ 9223372036854775807 := by omega
  have q3 : -9223372036854775808 ≤ (i : Int) := by omega
  have q4 : (i : Int) ≤ 9223372036854775807 := by omega
  have ldt := fun {K : Fr → World → Prop} {f : Fr} {d : Option Nat} {w : World} => hID.ld2 (P := Tryd.prog) (K := K) (f := f) (d := d) (w := w) ty_ag_3 i hdi
  rw [hdt] at ldt
  simp (disch := first | with_reducible assumption | omega) only [push_cast, x_blk, x_cd, ↓reduceIte, Nat.reduceEqDiff, List.map_cons, List.map_nil, Int.reduceEq, Int.lt_irrefl, fr, hu2, kB.bA, k9.a2 ty_ag_3, kB.b8, dA, kB.b6, dE, hmul, hadd, hdi, ldt]
  refine call_of (sec_number b m dm seen y.to_ (dto s.events.toNat ar t ee) L.length dS hya.2.1 l16 htl u2) ?_
  rintro v w11 ⟨rfl, b11⟩
  replace kB := kB.below b11 kB.lt
  replace kS := kS.below b11 kS.lt
  replace k6 := k6.below b11 k6.lt
  replace k7 := k7.below b11 k7.lt
  replace k9 := k9.below b11 k9.lt
  replace bb := bb.trans (Below.mono b11 bb.size)
  simp (disch := first | with_reducible assumption | omega) only [push_cast, x_blk, x_cd, ↓reduceIte, Nat.reduceEqDiff, List.map_cons, List.map_nil, Int.reduceEq, Int.lt_irrefl, fr]
  refine call_of (set_Add' _ n2.1 (by omega) k7) ?_
  rintro v w12 ⟨rfl, k7', g12, z12⟩
  have zz1 := kB.lt
  have zz2 := kS.lt
  replace kB := kB.grown g12.by_ (by simp; omega)
  replace kS := kS.grown g12.by_ (by simp; omega)
  replace k6 := k6.grown g12.by_ (by simp; omega)
  replace k9 := k9.grown g12.by_ (by simp; omega)
  replace bb := g12.below bb bb.size (by intro a ha; injection ha with ha; subst ha; show w.heap.size ≤ w3.heap.size; omega)
  simp (disch := first | with_reducible assumption | omega) only [push_cast, x_blk, x_cd, ↓reduceIte, Nat.reduceEqDiff, List.map_cons, List.map_nil, Int.reduceEq, Int.lt_irrefl, fr]
  exact hJ2 _ _ ⟨t + 1, hlt2, (by simp only [push_cast, ↓reduceIte, Nat.reduceEqDiff, true_and, and_true, and_self, eq_self, fr]), kB, kS, k6, by rw [hin, ← List.append_assoc]; exact k7', k9, bb⟩ (by simp only [push_cast, ↓reduceIte, Nat.reduceEqDiff, intOf, fr]; omega)
theorem sec_wide {w : World} {b : BV} {seen : List Int} (hB : SB (· < w.heap.size) w b m (detOf s L ar) seen) (ns : seen.length ≤ 17592186043904) (l : List Int) (hs : Small l) :
    Cal Tryd.prog 60 [b.val m (detOf s L ar) seen, setV l] w fun v w' => v = setV (sWide m s L ar seen l) ∧ Below w.heap.size w w' := by
  have m0 := h.pm.2.2.1
  have m8 := h.pm.2.2.2.1
  have hstep := fun (w' : World) (bw : Below w.heap.size w w') (S : List Int) (e : Int) => sec_step h (hB.up bw) S e
  have hdone := fun (was l' : List Int) (hS : Spread (secE m s.events.toNat L.length ar (unB seen)) l was l') hw => h.wide_done hS hw
  generalize hdm : detOf s L ar = dm at *
  refine cal_secret_beside_wide (by simp) 100000 fun Q hQ => ?_
  simp (disch := first | with_reducible assumption | omega) only [push_cast, x_blk, x_cd, ↓reduceIte, Nat.reduceEqDiff, List.map_cons, List.map_nil, Int.reduceEq, Int.lt_irrefl, F_secret_beside_wide]
  refine blk_of (box_agg _ (b.cells m dm seen)) ?_
  intro w1 kB b1 z1
  simp (disch := first | with_reducible assumption | omega) only [push_cast, x_blk, x_cd, ↓reduceIte, Nat.reduceEqDiff, List.map_cons, List.map_nil, Int.reduceEq, Int.lt_irrefl]
  refine blk_of (box_agg _ (setCells (wordsOf l))) ?_
  intro w2 k1 b2 z2
  replace kB := kB.below b2 kB.lt
  have bb := b1.trans (b2.mono b1.size)
  simp (disch := first | with_reducible assumption | omega) only [push_cast, x_blk, x_cd, ↓reduceIte, Nat.reduceEqDiff, List.map_cons, List.map_nil, Int.reduceEq, Int.lt_irrefl]
  refine blk_of (cs := setCells (wordsOf [])) al_64 ?_
  intro w3 k2 b3 z3
  replace kB := kB.below b3 kB.lt
  replace k1 := k1.below b3 k1.lt
  replace bb := bb.trans (b3.mono bb.size)
  simp (disch := first | with_reducible assumption | omega) only [push_cast, x_blk, x_cd, ↓reduceIte, Nat.reduceEqDiff, List.map_cons, List.map_nil, Int.reduceEq, Int.lt_irrefl, bl_set0]
  refine blk_of (cs := setCells (wordsOf [])) al_64 ?_
  intro w4 k3 b4 z4
  replace kB := kB.below b4 kB.lt
  replace k1 := k1.below b4 k1.lt
  replace k2 := k2.below b4 k2.lt
  replace bb := bb.trans (b4.mono bb.size)
  simp (disch := first | with_reducible assumption | omega) only [push_cast, x_blk, x_cd, ↓reduceIte, Nat.reduceEqDiff, List.map_cons, List.map_nil, Int.reduceEq, Int.lt_irrefl]
  refine sto_blk k3 (cs := setCells (wordsOf [])) (e4_set []) (by rw [setCells_4]) (setCells_one _) ?_
  intro w5 k4 g4 z5
  replace kB := kB.grown (Grew.by_ g4) (by simp; omega)
  replace k1 := k1.grown (Grew.by_ g4) (by simp; omega)
  replace k2 := k2.grown (Grew.by_ g4) (by simp; omega)
  replace bb := g4.below bb bb.size (by intro a ha; injection ha with ha; subst ha; show w.heap.size ≤ w3.heap.size; omega)
  simp (disch := first | with_reducible assumption | omega) only [push_cast, x_blk, x_cd, ↓reduceIte, Nat.reduceEqDiff, List.map_cons, List.map_nil, Int.reduceEq, Int.lt_irrefl]
  refine loop_ix (fun n f' w' => ∃ (g : Nat) (was l' : List Int), n = left was l' ∧ (f' 2 = .pointer (some ⟨w.heap.size, 0, none⟩) ∧ f' 3 = .pointer (some ⟨w1.heap.size, 0, none⟩) ∧ f' 4 = .pointer (some ⟨w2.heap.size, 0, none⟩) ∧ f' 5 = .pointer (some ⟨g, 0, none⟩)) ∧
      Spread (secE m s.events.toNat L.length ar (unB seen)) l was l' ∧ w2.heap.size < g ∧ Blk w' w.heap.size 85 (b.cells m dm seen) ∧ Blk w' w1.heap.size 64 (setCells (wordsOf l')) ∧ Blk w' w2.heap.size 64 (setCells (wordsOf [])) ∧ Blk w' g 64 (setCells (wordsOf was)) ∧ Below w.heap.size w w')
    (n0 := left [] l) ⟨w3.heap.size, [], l, rfl, ⟨rfl, rfl, rfl, rfl⟩, Spread.start _ hs, by omega, kB, k1, k2, k4, bb⟩ ?_
  clear kB k1 k2 k4 bb g4
  rintro _ f w5 ⟨g, was, l', rfl, fr, hS, hg, kB, k1, k2, k3, bb⟩ J hJ
  have zb := bb.size
  by_cases hw : wordsOf was = wordsOf l'
  · simp (disch := first | with_reducible assumption | omega) only [push_cast, x_blk, x_cd, ↓reduceIte, Nat.reduceEqDiff, List.map_cons, List.map_nil, Int.reduceEq, Int.lt_irrefl, L_secret_beside_wide_1, fr, neq_set, decide_eq_true hw, k1.setA (wordsOf_words _) ty_ag_64 ty_sz_64, k3.setA (wordsOf_words _) ty_ag_64 ty_sz_64]
    refine sto_blk k2 (cs := setCells (wordsOf l')) (e4_set l') (by rw [setCells_4, setCells_4]) (setCells_one _) ?_
    intro w6 k6 g6 z6
    simp (disch := first | with_reducible assumption | omega) only [push_cast, x_blk, x_cd, ↓reduceIte, Nat.reduceEqDiff, List.map_cons, List.map_nil, Int.reduceEq, Int.lt_irrefl]
    exact fin_cell k6 ty_ag_64 (e4_set l') (by simp only [push_cast, ↓reduceIte, Nat.reduceEqDiff, true_and, and_true, and_self, eq_self, fr]) (hQ _ _ ⟨hdone _ _ hS hw, g6.below bb bb.size (by intro a ha; injection ha with ha; subst ha; show w.heap.size ≤ w2.heap.size; omega)⟩)
  have rs : ∀ k, Small (secR m s L ar seen l' k) := fun k => h.r_small hS.small k
  have hlt := left_grow (was := was) (rs m.events.toNat) (secR_sub (m := m) (s := s) (L := L) (ar := ar) seen l' m.events.toNat) hw
  have hnx := hS.grow (rs m.events.toNat) (secR_sub seen l' m.events.toNat) (h.r_clos m.events.toNat) h.r_edge
  simp (disch := first | with_reducible assumption | omega) only [push_cast, x_blk, x_cd, ↓reduceIte, Nat.reduceEqDiff, List.map_cons, List.map_nil, Int.reduceEq, Int.lt_irrefl, L_secret_beside_wide_1, fr, neq_set, decide_eq_false hw, k1.setA (wordsOf_words _) ty_ag_64 ty_sz_64, k3.setA (wordsOf_words _) ty_ag_64 ty_sz_64]
  refine sto_blk k3 (cs := setCells (wordsOf l')) (e4_set l') (by rw [setCells_4, setCells_4]) (setCells_one _) ?_
  intro w6 k6 g6 z6
  replace kB := kB.grown (Grew.by_ g6) (by simp; omega)
  replace k1 := k1.grown (Grew.by_ g6) (by simp; omega)
  replace k2 := k2.grown (Grew.by_ g6) (by simp; omega)
  replace bb := g6.below bb bb.size (by intro a ha; injection ha with ha; subst ha; show w.heap.size ≤ g; omega)
  obtain ⟨n, hn⟩ : ∃ n : Nat, m.events = n := ⟨m.events.toNat, by omega⟩
  have hnn : m.events.toNat = n := by omega
  rw [hnn] at hlt hnx
  simp (disch := first | with_reducible assumption | omega) only [push_cast, x_blk, x_cd, ↓reduceIte, Nat.reduceEqDiff, List.map_cons, List.map_nil, Int.reduceEq, Int.lt_irrefl, fr, kB.b1, hn]
  refine loop_rule (fun f' w' => ∃ k : Nat, k ≤ n ∧ (f' 2 = .pointer (some ⟨w.heap.size, 0, none⟩) ∧ f' 3 = .pointer (some ⟨w1.heap.size, 0, none⟩) ∧ f' 4 = .pointer (some ⟨w2.heap.size, 0, none⟩) ∧ f' 5 = .pointer (some ⟨g, 0, none⟩) ∧ f' 14 = .int .i64 n ∧ f' 15 = .int .i64 k) ∧
      Blk w' w.heap.size 85 (b.cells m dm seen) ∧ Blk w' w1.heap.size 64 (setCells (wordsOf (secR m s L ar seen l' k))) ∧ Blk w' w2.heap.size 64 (setCells (wordsOf [])) ∧ Blk w' g 64 (setCells (wordsOf l')) ∧ Below w.heap.size w w')
    (fun f' _ => n - (intOf (f' 15)).toNat) ⟨0, Nat.zero_le _, (by simp only [push_cast, ↓reduceIte, Nat.reduceEqDiff, true_and, and_true, and_self, eq_self, fr]), kB, k1, k2, k6, bb⟩ ?_
  clear kB k1 k2 k6 bb fr
  rintro f w7 ⟨k, hk, fr, kB, k1, k2, k3, bb⟩ J2 hJ2
  have zb := bb.size
  by_cases hlt2 : k < n
  case neg =>
    obtain rfl : k = n := by omega
    simp (disch := first | with_reducible assumption | omega) only [push_cast, x_blk, x_cd, ↓reduceIte, Nat.reduceEqDiff, List.map_cons, List.map_nil, Int.reduceEq, Int.lt_irrefl, L_secret_beside_wide_0, fr, Nat.lt_irrefl, k3.setA (wordsOf_words _) ty_ag_64 ty_sz_64]
    refine blk_of (cs := setCells (wordsOf [])) al_64 ?_
    intro w8 k8 b8 z8
    have lM := kB.lt
    have l1 := k1.lt
    have l2 := k2.lt
    replace kB := kB.below b8 kB.lt
    replace k1 := k1.below b8 k1.lt
    replace k2 := k2.below b8 k2.lt
    replace bb := bb.trans (b8.mono bb.size)
    simp (disch := first | with_reducible assumption | omega) only [push_cast, x_blk, x_cd, ↓reduceIte, Nat.reduceEqDiff, List.map_cons, List.map_nil, Int.reduceEq, Int.lt_irrefl, fr]
    refine sto_blk k8 (cs := setCells (wordsOf l')) (e4_set l') (by rw [setCells_4, setCells_4]) (setCells_one _) ?_
    intro w9 k9 g9 z9
    replace kB := kB.grown (Grew.by_ g9) (by simp; omega)
    replace k1 := k1.grown (Grew.by_ g9) (by simp; omega)
    replace k2 := k2.grown (Grew.by_ g9) (by simp; omega)
    replace bb := g9.below bb bb.size (by intro a ha; injection ha with ha; subst ha; exact zb)
    simp (disch := first | with_reducible assumption | omega) only [push_cast, x_blk, x_cd, ↓reduceIte, Nat.reduceEqDiff, List.map_cons, List.map_nil, Int.reduceEq, Int.lt_irrefl, fr]
    exact hJ _ _ _ ⟨w7.heap.size, l', _, rfl, (by simp only [push_cast, ↓reduceIte, Nat.reduceEqDiff, true_and, and_true, and_self, eq_self, fr]), hnx, by omega, kB, k1, k2, k9, bb⟩ hlt
  have hsn := secR_succ (m := m) (s := s) (L := L) (ar := ar) seen l' k
  simp (disch := first | with_reducible assumption | omega) only [push_cast, x_blk, x_cd, ↓reduceIte, Nat.reduceEqDiff, List.map_cons, List.map_nil, Int.reduceEq, Int.lt_irrefl, L_secret_beside_wide_0, fr, hlt2, kB.b10]
  refine call_of (row_Has (hB.up bb).seen b.c (k : Int) (by omega)) ?_
  rintro v w8 ⟨rfl, s8⟩
  have b8 := s8.below w7.heap.size
  replace kB := kB.below b8 kB.lt
  replace k1 := k1.below b8 k1.lt
  replace k2 := k2.below b8 k2.lt
  replace k3 := k3.below b8 k3.lt
  replace bb := bb.trans (b8.mono bb.size)
  by_cases q : (k : Int) ∈ seen
  · rw [if_pos q] at hsn
    simp (disch := first | with_reducible assumption | omega) only [push_cast, x_blk, x_cd, ↓reduceIte, Nat.reduceEqDiff, List.map_cons, List.map_nil, Int.reduceEq, Int.lt_irrefl, fr, decide_eq_true q]
    exact hJ2 _ _ ⟨k + 1, hlt2, (by simp only [push_cast, ↓reduceIte, Nat.reduceEqDiff, true_and, and_true, and_self, eq_self, fr]), kB, by rw [hsn]; exact k1, k2, k3, bb⟩ (by simp only [push_cast, ↓reduceIte, Nat.reduceEqDiff, intOf, fr]; omega)
  rw [if_neg q] at hsn
  simp (disch := first | with_reducible assumption | omega) only [push_cast, x_blk, x_cd, ↓reduceIte, Nat.reduceEqDiff, List.map_cons, List.map_nil, Int.reduceEq, Int.lt_irrefl, fr, decide_eq_false q, kB.bA, k1.setA (wordsOf_words _) ty_ag_64 ty_sz_64]
  refine call_of (hstep _ bb _ _) ?_
  rintro v w9 ⟨rfl, b9⟩
  have b9l := k1.lt
  have b9m := k2.lt
  have b9B := kB.lt
  replace kB := kB.below b9 kB.lt
  replace k1 := k1.below b9 k1.lt
  replace k2 := k2.below b9 k2.lt
  replace k3 := k3.below b9 k3.lt
  replace bb := bb.trans (b9.mono bb.size)
  simp (disch := first | with_reducible assumption | omega) only [push_cast, x_blk, x_cd, ↓reduceIte, Nat.reduceEqDiff, List.map_cons, List.map_nil, Int.reduceEq, Int.lt_irrefl, fr]
  refine call_of (set_Join (l2 := sStep m s L ar (secR m s L ar seen l' k) k) k1) ?_
  rintro v w10 ⟨rfl, k1', g10⟩
  replace kB := kB.grown g10.by_ (by simp; omega)
  replace k2 := k2.grown g10.by_ (by simp; omega)
  replace k3 := k3.grown g10.by_ (by simp; omega)
  replace bb := g10.below bb bb.size (by intro a ha; injection ha with ha; subst ha; show w.heap.size ≤ w1.heap.size; omega)
  simp (disch := first | with_reducible assumption | omega) only [push_cast, x_blk, x_cd, ↓reduceIte, Nat.reduceEqDiff, List.map_cons, List.map_nil, Int.reduceEq, Int.lt_irrefl, fr]
  exact hJ2 _ _ ⟨k + 1, hlt2, (by simp only [push_cast, ↓reduceIte, Nat.reduceEqDiff, true_and, and_true, and_self, eq_self, fr]), kB, by rw [hsn]; exact k1', k2, k3, bb⟩ (by simp only [push_cast, ↓reduceIte, Nat.reduceEqDiff, intOf, fr]; omega)
end
end Go.Proofs.YtcjinmgieiebbaaDoor
