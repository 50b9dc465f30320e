/-
  Are two machines the same, two rows of rows: by their contracts.
-/
import Derived.Test.YtcjedgiglimipaaDoorZDet
import Derived.ChangeKeysEq
namespace Go.Proofs.YtcjedgiglimipaaDoor
set_option linter.unusedSimpArgs false
set_option linter.unusedVariables false
set_option linter.unusedSectionVars false
open Go.RowKit

theorem arr_fields : (Tryd.prog.fieldsOf 85).toList.map (fun f => (f.name != "_", f.type, f.offset)) = [(true, 3, 0), (true, 3, 1), (true, 3, 2)] := by kernel_rfl
theorem eqFields_int (w : World) (d : Nat) (xs ys : Array Value) : ∀ (fs : List Field) (us vs : List Int), (∀ f ∈ fs, (f.name != "_") = true ∧ f.type = 3) → fs.length = us.length → us.length = vs.length →
    (∀ i f, fs[i]? = some f → (part 3 xs f.offset).run Tryd.prog w = .ok (.int .i64 (us.getD i 0)) w ∧ (part 3 ys f.offset).run Tryd.prog w = .ok (.int .i64 (vs.getD i 0)) w) →
    (Op.eqFields (d + 1) xs ys fs).run Tryd.prog w = .ok (decide (us = vs)) w
  | [], [], [], _, _, _, _ => by simp [Op.eqFields]
  | f :: fs, a :: us, b :: vs, hf, h1, h2, hp => by
    have hff := hf f (List.mem_cons_self ..)
    have hn : f.name ≠ "_" := by have := hff.1; simpa using this
    have hp0 := hp 0 f rfl
    simp only [List.getD_cons_zero] at hp0
    have ih := eqFields_int w d xs ys fs us vs (fun g hg => hf g (List.mem_cons_of_mem _ hg)) (by simpa using h1) (by simpa using h2) fun i g hg => by
      have := hp (i + 1) g (by simpa using hg)
      simpa using this
    unfold Op.eqFields
    rw [if_pos hn, hff.2]
    simp only [Sem.run_bind, hp0.1, hp0.2, Result.andThen_ok, run_equalIn_int w d 3 .i64 .i64 a b Tryd.underlying3]
    by_cases hab : a = b
    · subst hab
      simp [ih]
    · have : (a == b) = false := by simpa using hab
      simp [this, hab]
theorem run_part_arr (w : World) (a : Arr) (j : Nat) (hj : j < 3) : (part 3 (arrCells a).toArray j).run Tryd.prog w = .ok (.int .i64 (a.cell j)) w :=
  run_part_plain w (by kernel_rfl) (by
    match j, hj with
    | 0, _ => rfl
    | 1, _ => rfl
    | 2, _ => rfl)
theorem equal_arr (w : World) (a b : Arr) : (Op.equalIn 10000 85 (arrVal a) (arrVal b)).run Tryd.prog w = .ok (decide (a = b)) w := by
  have hx := arr_fields
  have hs : Tryd.prog.underlying 85 = some (.struct (Tryd.prog.fieldsOf 85)) := by kernel_rfl
  rw [run_equalIn_agg w 9999 85 _ _ hs (by kernel_rfl)]
  generalize (Tryd.prog.fieldsOf 85).toList = fs at hx
  obtain ⟨f0, f1, f2, rfl⟩ : ∃ f0 f1 f2, fs = [f0, f1, f2] := by
    have hl : fs.length = 3 := by simpa using congrArg List.length hx
    match fs, hl with
    | [a, b, c], _ => exact ⟨a, b, c, rfl⟩
  simp only [List.map_cons, List.map_nil, List.cons.injEq, Prod.mk.injEq] at hx
  obtain ⟨⟨n0, t0, o0⟩, ⟨n1, t1, o1⟩, ⟨n2, t2, o2⟩, _⟩ := hx
  rw [eqFields_int w 9998 _ _ [f0, f1, f2] [a.frm, a.evt, a.to_] [b.frm, b.evt, b.to_] (by
    intro f hf
    rcases List.mem_cons.1 hf with rfl | hf
    · exact ⟨n0, t0⟩
    · rcases List.mem_cons.1 hf with rfl | hf
      · exact ⟨n1, t1⟩
      · rw [List.mem_singleton.1 hf]; exact ⟨n2, t2⟩) rfl rfl (by
    intro i f hi
    match i, hi with
    | 0, hi => cases hi; rw [o0]; exact ⟨run_part_arr w a 0 (by decide), run_part_arr w b 0 (by decide)⟩
    | 1, hi => cases hi; rw [o1]; exact ⟨run_part_arr w a 1 (by decide), run_part_arr w b 1 (by decide)⟩
    | 2, hi => cases hi; rw [o2]; exact ⟨run_part_arr w a 2 (by decide), run_part_arr w b 2 (by decide)⟩
    | n + 3, hi => cases hi)]
  have he : decide ([a.frm, a.evt, a.to_] = [b.frm, b.evt, b.to_]) = decide (a = b) := decide_eq_decide.2 ⟨fun h => by cases a; cases b; simp_all, fun h => by rw [h]⟩
  rw [he]
theorem neq_arr {K : Fr → World → Prop} {u w : World} {f : Fr} {d : Option Nat} {xo yo : Operand} (a b : Arr) : Val1 Tryd.prog K (binS .neq 85 xo yo (arrVal a) (arrVal b)) u f d w = K (updO f d (.bool (!decide (a = b)))) w :=
  val1_of u f d w fun w' _ => by
    unfold binS
    rw [Sem.run_bind, run_eqGuard_agg w' .neq 85 xo yo _ _ (by kernel_rfl), Result.andThen_ok, run_neq_struct w', equal_arr w' a b]; rfl

theorem mach_ext {m n : Mach} : m = n ↔ m.states = n.states ∧ m.events = n.events ∧ m.starts = n.starts ∧ m.ends = n.ends ∧ m.arrows = n.arrows := by
  constructor
  · rintro rfl; exact ⟨rfl, rfl, rfl, rfl, rfl⟩
  · rintro ⟨a, b, c, d, e⟩; cases m; cases n; simp_all
theorem ref2_Same {w : World} {a b : MV} {m n : Mach} (ha : IsM (· < w.heap.size) w a m) (hb : IsM (· < w.heap.size) w b n) (l1 : m.starts.length ≤ 17592186043904) (l2 : m.ends.length ≤ 17592186043904) (l3 : m.arrows.length ≤ 17592186043904) :
    Cal Tryd.prog 25 [a.val m, b.val n] w fun v w' => v = .bool (decide (m = n)) ∧ Below w.heap.size w w' := by
  refine cal_ref2_Same (by simp) 100000 fun Q hQ => ?_
  simp (disch := first | with_reducible assumption | omega) only [push_cast, x_blk, x_cd, ↓reduceIte, Nat.reduceEqDiff, List.map_cons, List.map_nil, Int.reduceEq, Int.lt_irrefl, F_ref2_Same]
  refine blk_of (box_agg _ (a.cells m)) ?_
  intro w1 k1 b1 z1
  simp (disch := first | with_reducible assumption | omega) only [push_cast, x_blk, x_cd, ↓reduceIte, Nat.reduceEqDiff, List.map_cons, List.map_nil, Int.reduceEq, Int.lt_irrefl]
  refine blk_of (box_agg _ (b.cells n)) ?_
  intro w2 k2 b2 z2
  have k1 := k1.below b2 k1.lt
  have bb := b1.trans (b2.mono b1.size)
  have up : ∀ {w' : World} {c : MV} {mc : Mach}, IsM (· < w.heap.size) w c mc → Below w.heap.size w w' → IsM (· < w'.heap.size) w' c mc := fun {w' c mc} h hb => (h.below hb).mono fun b hl => Nat.lt_of_lt_of_le hl hb.size
  by_cases p1 : m.states = n.states
  case neg =>
    simp (disch := first | with_reducible assumption | omega) only [push_cast, x_blk, x_cd, ↓reduceIte, Nat.reduceEqDiff, List.map_cons, List.map_nil, Int.reduceEq, Int.lt_irrefl, p1, k1.m0 ty_ag_3, k2.m0 ty_ag_3]
    have r : decide (m = n) = false := decide_eq_false fun hh => by rw [mach_ext] at hh; exact p1 hh.1
    exact fin_1 (hQ _ _ ⟨(by simp only [push_cast, ↓reduceIte, Nat.reduceEqDiff, Int.reduceEq, r]), bb⟩)
  by_cases p2 : m.events = n.events
  case neg =>
    simp (disch := first | with_reducible assumption | omega) only [push_cast, x_blk, x_cd, ↓reduceIte, Nat.reduceEqDiff, List.map_cons, List.map_nil, Int.reduceEq, Int.lt_irrefl, p1, p2, eq_self, k1.m0 ty_ag_3, k2.m0 ty_ag_3, k1.m1 ty_ag_3, k2.m1 ty_ag_3]
    have r : decide (m = n) = false := decide_eq_false fun hh => by rw [mach_ext] at hh; exact p2 hh.2.1
    exact fin_1 (hQ _ _ ⟨(by simp only [push_cast, ↓reduceIte, Nat.reduceEqDiff, Int.reduceEq, r]), bb⟩)
  simp (disch := first | with_reducible assumption | omega) only [push_cast, x_blk, x_cd, ↓reduceIte, Nat.reduceEqDiff, List.map_cons, List.map_nil, Int.reduceEq, Int.lt_irrefl, p1, p2, eq_self, k1.m0 ty_ag_3, k2.m0 ty_ag_3, k1.m1 ty_ag_3, k2.m1 ty_ag_3, k1.m2 ty_ag_22, k2.m2 ty_ag_22]
  refine call_of (ref1_Same (up ha bb).starts (up hb bb).starts _ _ (by omega)) ?_
  rintro v w3 ⟨rfl, s3⟩
  replace k1 := k1.same s3
  replace k2 := k2.same s3
  replace bb := bb.trans (s3.below _)
  by_cases p3 : m.starts = n.starts
  case neg =>
    simp (disch := first | with_reducible assumption | omega) only [push_cast, x_blk, x_cd, ↓reduceIte, Nat.reduceEqDiff, List.map_cons, List.map_nil, Int.reduceEq, Int.lt_irrefl, decide_eq_false p3]
    have r : decide (m = n) = false := decide_eq_false fun hh => by rw [mach_ext] at hh; exact p3 hh.2.2.1
    exact fin_1 (hQ _ _ ⟨(by simp only [push_cast, ↓reduceIte, Nat.reduceEqDiff, Int.reduceEq, r]), bb⟩)
  simp (disch := first | with_reducible assumption | omega) only [push_cast, x_blk, x_cd, ↓reduceIte, Nat.reduceEqDiff, List.map_cons, List.map_nil, Int.reduceEq, Int.lt_irrefl, decide_eq_true p3, k1.m4 ty_ag_22, k2.m4 ty_ag_22]
  refine call_of (ref1_Same (up ha bb).ends (up hb bb).ends _ _ (by omega)) ?_
  rintro v w4 ⟨rfl, s4⟩
  replace k1 := k1.same s4
  replace k2 := k2.same s4
  replace bb := bb.trans (s4.below _)
  by_cases p4 : m.ends = n.ends
  case neg =>
    simp (disch := first | with_reducible assumption | omega) only [push_cast, x_blk, x_cd, ↓reduceIte, Nat.reduceEqDiff, List.map_cons, List.map_nil, Int.reduceEq, Int.lt_irrefl, decide_eq_false p4]
    have r : decide (m = n) = false := decide_eq_false fun hh => by rw [mach_ext] at hh; exact p4 hh.2.2.2.1
    exact fin_1 (hQ _ _ ⟨(by simp only [push_cast, ↓reduceIte, Nat.reduceEqDiff, Int.reduceEq, r]), bb⟩)
  by_cases p5 : (m.arrows.length : Int) = (n.arrows.length : Int)
  case neg =>
    simp (disch := first | with_reducible assumption | omega) only [push_cast, x_blk, x_cd, ↓reduceIte, Nat.reduceEqDiff, List.map_cons, List.map_nil, Int.reduceEq, Int.lt_irrefl, decide_eq_true p4, p5, k1.m3 ty_ag_23, k2.m3 ty_ag_23]
    have r : decide (m = n) = false := decide_eq_false fun hh => by rw [mach_ext] at hh; exact p5 (by rw [hh.2.2.2.2])
    exact fin_1 (hQ _ _ ⟨(by simp only [push_cast, ↓reduceIte, Nat.reduceEqDiff, Int.reduceEq, r]), bb⟩)
  simp (disch := first | with_reducible assumption | omega) only [push_cast, x_blk, x_cd, ↓reduceIte, Nat.reduceEqDiff, List.map_cons, List.map_nil, Int.reduceEq, Int.lt_irrefl, decide_eq_true p4, p5, eq_self, k1.m3 ty_ag_23, k2.m3 ty_ag_23]
  have g2 : w1.heap.size < w4.heap.size := k2.lt
  have p5' : m.arrows.length = n.arrows.length := by omega
  refine loop_rule (fun f w' => ∃ k : Nat, k ≤ m.arrows.length ∧ (f 2 = .pointer (some ⟨w.heap.size, 0, none⟩) ∧ f 3 = .pointer (some ⟨w1.heap.size, 0, none⟩) ∧ f 5 = .int .i64 k) ∧ (∀ i, i < k → m.arrows.getD i default = n.arrows.getD i default) ∧ Same w4 w')
    (fun f _ => m.arrows.length - (intOf (f 5)).toNat) ⟨0, Nat.zero_le _, ⟨rfl, rfl, rfl⟩, fun i hi => absurd hi (by omega), Same.refl _⟩ ?_
  rintro f w5 ⟨k, hk, fr, hp, s5⟩ J hJ
  replace k1 := k1.same s5
  replace k2 := k2.same s5
  replace bb := bb.trans (s5.below _)
  by_cases hlt : k < m.arrows.length
  case neg =>
    have r : decide (m = n) = true := decide_eq_true (mach_ext.2 ⟨p1, p2, p3, p4, ext_getD default p5' fun i hi => hp i (by omega)⟩)
    simp (disch := first | with_reducible assumption | omega) only [push_cast, x_blk, x_cd, ↓reduceIte, Nat.reduceEqDiff, List.map_cons, List.map_nil, Int.reduceEq, Int.lt_irrefl, L_ref2_Same_0, fr, hlt, k1.m3 ty_ag_23]
    exact fin_1 (hQ _ _ ⟨(by simp only [push_cast, ↓reduceIte, Nat.reduceEqDiff, Int.reduceEq, r]), bb⟩)
  have hlt' : k < n.arrows.length := by omega
  have k1d := k1.drew
  have k2d := k2.drew
  have bbd := drawn bb
  have hA1 := (up ha bbd).arrows
  have hA2 := (up hb bbd).arrows
  have hS1 := hA1.isSome (by omega)
  have hS2 := hA2.isSome (by omega)
  generalize hu : w5.drew = u at *
  have s5' : Same w4 u := hu ▸ s5.drew
  by_cases d1 : m.arrows.getD k default = n.arrows.getD k default
  · simp (disch := first | with_reducible assumption | omega) only [push_cast, x_blk, x_cd, ↓reduceIte, Nat.reduceEqDiff, List.map_cons, List.map_nil, Int.reduceEq, Int.lt_irrefl, L_ref2_Same_0, fr, hlt, hlt', hu, k1.m3 ty_ag_23, k1d.m3 ty_ag_23, k2d.m3 ty_ag_23, hA1.ldA ty_ag_85 ty_sz_85, hA2.ldA ty_ag_85 ty_sz_85, neq_arr, decide_eq_true d1]
    exact hJ _ _ ⟨k + 1, hlt, (by simp only [push_cast, ↓reduceIte, Nat.reduceEqDiff, true_and, and_true, and_self, eq_self, fr]), fun i hi => if e : i = k then e ▸ d1 else hp i (by omega), s5'⟩ (by simp only [push_cast, ↓reduceIte, Nat.reduceEqDiff, intOf, fr]; omega)
  · simp (disch := first | with_reducible assumption | omega) only [push_cast, x_blk, x_cd, ↓reduceIte, Nat.reduceEqDiff, List.map_cons, List.map_nil, Int.reduceEq, Int.lt_irrefl, L_ref2_Same_0, fr, hlt, hlt', hu, k1.m3 ty_ag_23, k1d.m3 ty_ag_23, k2d.m3 ty_ag_23, hA1.ldA ty_ag_85 ty_sz_85, hA2.ldA ty_ag_85 ty_sz_85, neq_arr, decide_eq_false d1]
    have r : decide (m = n) = false := decide_eq_false fun hh => d1 (by rw [hh])
    exact fin_1 (hQ _ _ ⟨(by simp only [push_cast, ↓reduceIte, Nat.reduceEqDiff, Int.reduceEq, r]), bbd⟩)
theorem law_machines {w : World} {a b : MV} {m n : Mach} (ha : IsM (· < w.heap.size) w a m) (hb : IsM (· < w.heap.size) w b n) (l1 : m.starts.length ≤ 17592186043904) (l2 : m.ends.length ≤ 17592186043904) (l3 : m.arrows.length ≤ 17592186043904) :
    Cal Tryd.prog 21 [a.val m, b.val n] w fun v w' => v = .bool (decide (m = n)) ∧ Below w.heap.size w w' := by
  refine cal_law_machines (by simp) 100000 fun Q hQ => ?_
  simp (disch := first | with_reducible assumption | omega) only [push_cast, x_blk, x_cd, ↓reduceIte, Nat.reduceEqDiff, List.map_cons, List.map_nil, Int.reduceEq, Int.lt_irrefl, F_law_machines]
  refine blk_of (box_agg _ (a.cells m)) ?_
  intro w1 k1 b1 z1
  simp (disch := first | with_reducible assumption | omega) only [push_cast, x_blk, x_cd, ↓reduceIte, Nat.reduceEqDiff, List.map_cons, List.map_nil, Int.reduceEq, Int.lt_irrefl]
  refine blk_of (box_agg _ (b.cells n)) ?_
  intro w2 k2 b2 z2
  have k1 := k1.below b2 k1.lt
  have bb := b1.trans (b2.mono b1.size)
  have up : ∀ {w' : World} {c : MV} {mc : Mach}, IsM (· < w.heap.size) w c mc → Below w.heap.size w w' → IsM (· < w'.heap.size) w' c mc := fun {w' c mc} h hb => (h.below hb).mono fun b hl => Nat.lt_of_lt_of_le hl hb.size
  simp (disch := first | with_reducible assumption | omega) only [push_cast, x_blk, x_cd, ↓reduceIte, Nat.reduceEqDiff, List.map_cons, List.map_nil, Int.reduceEq, Int.lt_irrefl, k1.mA ty_ag_25 ty_sz_25, k2.mA ty_ag_25 ty_sz_25]
  refine call_of (ref2_Same (up ha bb) (up hb bb) l1 l2 l3) ?_
  rintro v w3 ⟨rfl, b3⟩
  simp (disch := first | with_reducible assumption | omega) only [push_cast, x_blk, x_cd, ↓reduceIte, Nat.reduceEqDiff, List.map_cons, List.map_nil, Int.reduceEq, Int.lt_irrefl]
  exact fin_1 (hQ _ _ ⟨(by simp only [push_cast, ↓reduceIte, Nat.reduceEqDiff, Int.reduceEq]), bb.trans (b3.mono bb.size)⟩)
theorem law_rows {w : World} {R R' : Option Addr} {hs hs' : List Hd} (hR : Recs Hd.cells 1 (· < w.heap.size) w R hs) (hR' : Recs Hd.cells 1 (· < w.heap.size) w R' hs') (hr : RowsAt (· < w.heap.size) w hs) (hr' : RowsAt (· < w.heap.size) w hs') (c c' : Nat)
    (hl : hs.length ≤ 100000) (hn : ∀ h ∈ hs, h.l.length ≤ 9223372036854775807) :
    Cal Tryd.prog 34 [.slice R hs.length c, .slice R' hs'.length c'] w fun v w' => v = .bool (decide (hs.map (·.l) = hs'.map (·.l))) ∧ Same w w' := by
  refine cal_law_rows (by simp) 100000 fun Q hQ => ?_
  by_cases hlen : (hs.length : Int) = (hs'.length : Int)
  case neg =>
    have r : decide (hs.map (·.l) = hs'.map (·.l)) = false := decide_eq_false fun h => hlen (by have := congrArg List.length h; simp at this; omega)
    simp (disch := first | with_reducible assumption | omega) only [push_cast, x_blk, x_cd, ↓reduceIte, Nat.reduceEqDiff, List.map_cons, List.map_nil, Int.reduceEq, Int.lt_irrefl, F_law_rows, hlen]
    exact fin_1 (hQ _ _ ⟨(by simp only [push_cast, ↓reduceIte, Nat.reduceEqDiff, Int.reduceEq, r]), Same.refl _⟩)
  have hlen' : hs.length = hs'.length := by omega
  simp (disch := first | with_reducible assumption | omega) only [push_cast, x_blk, x_cd, ↓reduceIte, Nat.reduceEqDiff, List.map_cons, List.map_nil, Int.reduceEq, Int.lt_irrefl, F_law_rows, hlen, eq_self]
  refine loop_rule (fun f w' => ∃ k : Nat, k ≤ hs.length ∧ (f 0 = .slice R hs.length c ∧ f 1 = .slice R' hs'.length c' ∧ f 5 = .int .i64 k) ∧ (∀ i, i < k → (hs.map (·.l))[i]? = (hs'.map (·.l))[i]?) ∧ Same w w')
    (fun f _ => hs.length - (intOf (f 5)).toNat) ⟨0, Nat.zero_le _, ⟨rfl, rfl, rfl⟩, fun i hi => absurd hi (by omega), Same.refl w⟩ ?_
  rintro f w1 ⟨k, hk, fr, hp, s1⟩ J hJ
  by_cases hlt : k < hs.length
  case neg =>
    have r : decide (hs.map (·.l) = hs'.map (·.l)) = true := decide_eq_true (List.ext_getElem? fun i => by
      rcases Nat.lt_or_ge i k with d | d
      · exact hp i d
      · rw [List.getElem?_eq_none (by simp; omega), List.getElem?_eq_none (by simp; omega)])
    simp (disch := first | with_reducible assumption | omega) only [push_cast, x_blk, x_cd, ↓reduceIte, Nat.reduceEqDiff, List.map_cons, List.map_nil, Int.reduceEq, Int.lt_irrefl, L_law_rows_0, fr, hlt]
    exact fin_1 (hQ _ _ ⟨(by simp only [push_cast, ↓reduceIte, Nat.reduceEqDiff, Int.reduceEq, r]), s1⟩)
  have hlt' : k < hs'.length := by omega
  have hx : hs[k]? = some (hs[k]'hlt) := List.getElem?_eq_getElem hlt
  have hy : hs'[k]? = some (hs'[k]'hlt') := List.getElem?_eq_getElem hlt'
  generalize hs[k]'hlt = x at hx
  generalize hs'[k]'hlt' = y at hy
  have s1d := s1.drew
  have hRd := hR.same s1d
  have hRd' := hR'.same s1d
  have hS := hRd.isSome (by omega)
  have hS' := hRd'.isSome (by omega)
  have lx := fun {K : Fr → World → Prop} {f : Fr} {d : Option Nat} {w : World} => hRd.ld0 (P := Tryd.prog) (K := K) (f := f) (d := d) (w := w) ty_ag_22 hx (v := .slice x.A x.l.length x.c) rfl
  have ly := fun {K : Fr → World → Prop} {f : Fr} {d : Option Nat} {w : World} => hRd'.ld0 (P := Tryd.prog) (K := K) (f := f) (d := d) (w := w) ty_ag_22 hy (v := .slice y.A y.l.length y.c) rfl
  simp only [Nat.mul_one] at lx ly
  have ix := (hr x (List.mem_of_getElem? hx)).same s1d
  have iy := (hr' y (List.mem_of_getElem? hy)).same s1d
  generalize hu : w1.drew = u at *
  simp (disch := first | with_reducible assumption | omega) only [push_cast, x_blk, x_cd, ↓reduceIte, Nat.reduceEqDiff, List.map_cons, List.map_nil, Int.reduceEq, Int.lt_irrefl, L_law_rows_0, fr, hlt, hlt', hu, lx, ly]
  refine call_of (ref1_Same ix iy x.c y.c (by have := hn x (List.mem_of_getElem? hx); omega)) ?_
  rintro v w2 ⟨rfl, s2⟩
  have s2' := s1d.trans s2
  by_cases d1 : x.l = y.l
  · simp (disch := first | with_reducible assumption | omega) only [push_cast, x_blk, x_cd, ↓reduceIte, Nat.reduceEqDiff, List.map_cons, List.map_nil, Int.reduceEq, Int.lt_irrefl, decide_eq_true d1, fr]
    exact hJ _ _ ⟨k + 1, hlt, (by simp only [push_cast, ↓reduceIte, Nat.reduceEqDiff, true_and, and_true, and_self, eq_self, fr]), fun i hi => if e : i = k then by rw [e, List.getElem?_map, List.getElem?_map, hx, hy]; simp [d1] else hp i (by omega), s2'⟩ (by simp only [push_cast, ↓reduceIte, Nat.reduceEqDiff, intOf, fr]; omega)
  · have r : decide (hs.map (·.l) = hs'.map (·.l)) = false := decide_eq_false fun h => d1 (by
      have := congrArg (·[k]?) h
      simp only [List.getElem?_map, hx, hy, Option.map_some, Option.some.injEq] at this
      exact this)
    simp (disch := first | with_reducible assumption | omega) only [push_cast, x_blk, x_cd, ↓reduceIte, Nat.reduceEqDiff, List.map_cons, List.map_nil, Int.reduceEq, Int.lt_irrefl, decide_eq_false d1]
    exact fin_1 (hQ _ _ ⟨(by simp only [push_cast, ↓reduceIte, Nat.reduceEqDiff, Int.reduceEq, r]), s2'⟩)
end Go.Proofs.YtcjedgiglimipaaDoor
