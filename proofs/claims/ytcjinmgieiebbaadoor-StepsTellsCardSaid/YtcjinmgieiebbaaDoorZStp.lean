/-
  Chapter 11: the program's order of two lists that tell, the least of some, Leak: by their contracts.
-/
import Derived.Test.YtcjinmgieiebbaaDoorZIniD
import Derived.Test.YtcjinmgieiebbaaDoorZPairs
namespace Go.Proofs.YtcjinmgieiebbaaDoor
set_option linter.unusedSimpArgs false
set_option linter.unusedVariables false
set_option linter.unusedSectionVars false
open Go.RowKit

theorem e_bsl4 {P : Program} {K : Fr → World → Prop} {ty : TypeId} {f : Fr} {d : Option Nat} {w : World} (t : TypeId) (o p q r : Operand) : EffX P K (.buildSlice t 4 #[(0, o), (1, p), (2, q), (3, r)]) ty f d w = Eff1 P K (Instr.buildSlice t 4 #[(0, ev f o), (1, ev f p), (2, ev f q), (3, ev f r)]) f d w := by simp [EffX, valOf]
theorem fill_4 (x y z u : Value) (a b c d : Int) : Instr.fill (fun i => some (i * 1, 1)) #[x, y, z, u] [(0, .int .i64 a), (1, .int .i64 b), (2, .int .i64 c), (3, .int .i64 d)] = some #[.int .i64 a, .int .i64 b, .int .i64 c, .int .i64 d] := by
  simp [Instr.fill, Value.cells]
theorem bsl4_eq {P : Program} {K : Fr → World → Prop} {f : Fr} {r : Option Nat} {w : World} {t e bytes : Nat} (hT : SlT P t e 1 bytes) (a b c d : Int) :
    Eff1 P K (Instr.buildSlice t 4 #[(0, .int .i64 a), (1, .int .i64 b), (2, .int .i64 c), (3, .int .i64 d)]) f r w = K (updO f r (.slice (some ⟨w.heap.size, 0, none⟩) 4 4)) (w.alloc (.cells [.int .i64 a, .int .i64 b, .int .i64 c, .int .i64 d].toArray e)) := by
  obtain ⟨i, z, hi, hz, hs, hb, hc⟩ := hT.get
  refine eff1_of ?_
  have hz4 : (Array.range 4).map (z.cells[· % z.cells.size]!) = #[z.cells[0 % z.cells.size]!, z.cells[1 % z.cells.size]!, z.cells[2 % z.cells.size]!, z.cells[3 % z.cells.size]!] := by
    apply Array.ext'; simp [List.range_succ]
  have hf := fill_4 (z.cells[0 % z.cells.size]!) (z.cells[1 % z.cells.size]!) (z.cells[2 % z.cells.size]!) (z.cells[3 % z.cells.size]!) a b c d
  rw [← hz4] at hf
  simp only [Instr.buildSlice, run_underlying hT.under, sizeOf, typeInfo, Sem.run_bind, Result.andThen_ok]
  simp only [Nat.mul_one] at hf
  simp [hi, hs, zeroValue, typeInfo, hz, newRow, hf]
section
variable {K : Fr → World → Prop} {u : World} {f : Fr} {d : Option Nat} {w : World} {g t ty : Nat} {p : Kn}
theorem Blk.kn0 (h : Blk u g t (Kn.cells p)) (ht : tyAgg Tryd.prog ty = some false) : Val1 Tryd.prog K (Instr.loadAt ty (.pointer (some ⟨g, 0, none⟩))) u f d w = K (updO f d (.slice p.R p.r.length p.cr)) w := h.ld ht 0 (by simp [Kn.cells])
theorem Blk.kn1 (h : Blk u g t (Kn.cells p)) (ht : tyAgg Tryd.prog ty = some false) : Val1 Tryd.prog K (Instr.loadAt ty (.pointer (some ⟨g, 1, none⟩))) u f d w = K (updO f d (.slice p.W p.w.length p.cw)) w := h.ld ht 1 (by simp [Kn.cells])
end
theorem cmpI_lt {a b : Int} (h : a < b) : cmpI a b = -1 := if_pos h
theorem cmpI_eq {a b : Int} (h : a = b) : cmpI a b = 0 := by unfold cmpI; rw [if_neg (by omega), if_neg (by omega)]
theorem cmpI_gt {a b : Int} (h : b < a) : cmpI a b = 1 := by unfold cmpI; rw [if_neg (by omega), if_pos h]
theorem ord_lt {u v u' v' : List Int} {x3 x4 : Int} (hx3 : u.length = u'.length → (x3 < 0 ↔ Shl u u') ∧ (x3 = 0 ↔ u = u')) (hx4 : v.length = v'.length → (x4 < 0 ↔ Shl v v') ∧ (x4 = 0 ↔ v = v')) :
    orL [cmpI ((u.length : Int) + v.length) ((u'.length : Int) + v'.length), cmpI v.length v'.length, x3, x4] < 0 ↔ PLt (u, v) (u', v') := by
  unfold PLt
  simp only
  rcases Nat.lt_trichotomy (u.length + v.length) (u'.length + v'.length) with h | h | h
  · rw [cmpI_lt (show (u.length : Int) + v.length < (u'.length : Int) + v'.length by omega), orL, if_neg (by decide)]
    exact ⟨fun _ => .inl h, fun _ => by decide⟩
  · rw [cmpI_eq (show (u.length : Int) + v.length = (u'.length : Int) + v'.length by omega), orL, if_pos rfl]
    rcases Nat.lt_trichotomy v.length v'.length with k | k | k
    · rw [cmpI_lt (show (v.length : Int) < v'.length by omega), orL, if_neg (by decide)]
      exact ⟨fun _ => .inr ⟨h, .inl k⟩, fun _ => by decide⟩
    · rw [cmpI_eq (show (v.length : Int) = v'.length by omega), orL, if_pos rfl]
      have hr := hx3 (by omega)
      have hw := hx4 k
      by_cases c3 : u = u'
      · have hns : ¬ Shl u u' := by rw [c3]; exact Shl.irrefl _
        rw [orL, if_pos (hr.2.2 c3), orL]
        by_cases c4 : x4 = 0
        · rw [if_pos c4]
          have hv := hw.2.1 c4
          refine ⟨fun hh => absurd hh (by simp [orL]), ?_⟩
          rintro (hh | ⟨_, hh | ⟨_, hh | ⟨_, hh⟩⟩⟩)
          · omega
          · omega
          · exact absurd hh hns
          · rw [hv] at hh; exact absurd hh (Shl.irrefl _)
        · rw [if_neg c4, hw.1]
          refine ⟨fun hh => .inr ⟨h, .inr ⟨k, .inr ⟨c3, hh⟩⟩⟩, ?_⟩
          rintro (hh | ⟨_, hh | ⟨_, hh | ⟨_, hh⟩⟩⟩)
          · omega
          · omega
          · exact absurd hh hns
          · exact hh
      · rw [orL, if_neg (fun hh => c3 (hr.2.1 hh)), hr.1]
        refine ⟨fun hh => .inr ⟨h, .inr ⟨k, .inl hh⟩⟩, ?_⟩
        rintro (hh | ⟨_, hh | ⟨_, hh | ⟨hh, _⟩⟩⟩)
        · omega
        · omega
        · exact hh
        · exact absurd hh c3
    · rw [cmpI_gt (show (v'.length : Int) < v.length by omega), orL, if_neg (by decide)]
      refine ⟨fun hh => absurd hh (by decide), ?_⟩
      rintro (hh | ⟨_, hh | ⟨hh, _⟩⟩) <;> omega
  · rw [cmpI_gt (show (u'.length : Int) + v'.length < (u.length : Int) + v.length by omega), orL, if_neg (by decide)]
    refine ⟨fun hh => absurd hh (by decide), ?_⟩
    rintro (hh | ⟨hh, _⟩) <;> omega
/-- Two lists that can be read. -/
structure LkAt (w : World) (p : Kn) : Prop where
  r : Ints (· < w.heap.size) w p.R p.r
  w : Ints (· < w.heap.size) w p.W p.w
  nr : p.r.length ≤ 100000
  nw : p.w.length ≤ 100000
theorem LkAt.up {w w' : World} {p : Kn} (h : LkAt w p) (b : Below w.heap.size w w') : LkAt w' p := ⟨h.r.up b, h.w.up b, h.nr, h.nw⟩
set_option maxHeartbeats 2000000 in
theorem steps_order {w : World} {a b : Kn} (ha : LkAt w a) (hb : LkAt w b) :
    Cal Tryd.prog 81 [.agg a.cells.toArray, .agg b.cells.toArray] w fun v w' => ∃ z : Int, v = .int .i64 z ∧ (z < 0 ↔ PLt a.abs b.abs) ∧ Below w.heap.size w w' := by
  have n1 := ha.nr
  have n2 := ha.nw
  have n3 := hb.nr
  have n4 := hb.nw
  refine cal_steps_order (by simp) 100000 fun Q hQ => ?_
  simp (disch := first | with_reducible assumption | omega) only [push_cast, x_blk, x_cd, ↓reduceIte, Nat.reduceEqDiff, List.map_cons, List.map_nil, Int.reduceEq, Int.lt_irrefl, F_steps_order]
  refine blk_of (box_agg _ (Kn.cells a)) ?_
  intro w1 k1 b1 z1
  simp (disch := first | with_reducible assumption | omega) only [push_cast, x_blk, x_cd, ↓reduceIte, Nat.reduceEqDiff, List.map_cons, List.map_nil, Int.reduceEq, Int.lt_irrefl]
  refine blk_of (box_agg _ (Kn.cells b)) ?_
  intro w2 k2 b2 z2
  have bb : Below w.heap.size w w2 := b1.trans (b2.mono b1.size)
  have k3 := (k1.below b2 (by omega)).drew
  have k4 := k2.drew
  simp (disch := first | with_reducible assumption | omega) only [push_cast, x_blk, x_cd, ↓reduceIte, Nat.reduceEqDiff, List.map_cons, List.map_nil, Int.reduceEq, Int.lt_irrefl, k4.kn0 ty_ag_22, k4.kn1 ty_ag_22, k3.kn0 ty_ag_22, k3.kn1 ty_ag_22]
  refine call_of (cmp_Compare _ _ _) ?_
  rintro v w3 ⟨rfl, s3⟩
  have q3 := s3.below w2.drew.heap.size
  simp (disch := first | with_reducible assumption | omega) only [push_cast, x_blk, x_cd, ↓reduceIte, Nat.reduceEqDiff, List.map_cons, List.map_nil, Int.reduceEq, Int.lt_irrefl]
  refine ⟨q3, ?_⟩
  refine call_of (cmp_Compare _ _ _) ?_
  rintro v w4 ⟨rfl, s4⟩
  have q4 := (s3.trans s4).below w2.drew.heap.size
  simp (disch := first | with_reducible assumption | omega) only [push_cast, x_blk, x_cd, ↓reduceIte, Nat.reduceEqDiff, List.map_cons, List.map_nil, Int.reduceEq, Int.lt_irrefl]
  refine ⟨q4, ?_⟩
  have bA : Below w.heap.size w w4 := (drawn bb).trans (q4.mono bb.size)
  refine call_of (slices_Compare (ha.up bA).r (hb.up bA).r a.cr b.cr (by omega)) ?_
  rintro v w5 ⟨x3, rfl, _, hx3, s5⟩
  have q5 := q4.trans (s5.below _)
  have bB : Below w.heap.size w w5 := (drawn bb).trans (q5.mono bb.size)
  simp (disch := first | with_reducible assumption | omega) only [push_cast, x_blk, x_cd, ↓reduceIte, Nat.reduceEqDiff, List.map_cons, List.map_nil, Int.reduceEq, Int.lt_irrefl]
  refine ⟨q5, ?_⟩
  refine call_of (slices_Compare (ha.up bB).w (hb.up bB).w a.cw b.cw (by omega)) ?_
  rintro v w6 ⟨x4, rfl, _, hx4, s6⟩
  have q6 := q5.trans (s6.below _)
  simp (disch := first | with_reducible assumption | omega) only [push_cast, x_blk, x_cd, ↓reduceIte, Nat.reduceEqDiff, List.map_cons, List.map_nil, Int.reduceEq, Int.lt_irrefl, e_bsl4]
  refine ⟨q6, ?_⟩
  refine blk_of (bsl4_eq slT_22 _ _ _ _) ?_
  intro w7 k7 b7 z7
  have q7 := q6.trans (b7.mono q6.size)
  simp (disch := first | with_reducible assumption | omega) only [push_cast, x_blk, x_cd, ↓reduceIte, Nat.reduceEqDiff, List.map_cons, List.map_nil, Int.reduceEq, Int.lt_irrefl]
  refine ⟨q7, ?_⟩
  refine call_of (cmp_Or (l := [cmpI ((a.r.length : Int) + a.w.length) ((b.r.length : Int) + b.w.length), cmpI a.w.length b.w.length, x3, x4]) (ints_blk k7) 4 (by simp)) ?_
  rintro v w8 ⟨rfl, s8⟩
  have q8 := q7.trans (s8.below w2.drew.heap.size)
  simp (disch := first | with_reducible assumption | omega) only [push_cast, x_blk, x_cd, ↓reduceIte, Nat.reduceEqDiff, List.map_cons, List.map_nil, Int.reduceEq, Int.lt_irrefl]
  refine ⟨q8, ?_⟩
  exact fin_1 (hQ _ _ ⟨orL [cmpI ((a.r.length : Int) + a.w.length) ((b.r.length : Int) + b.w.length), cmpI a.w.length b.w.length, x3, x4], (by simp only [push_cast, ↓reduceIte, Nat.reduceEqDiff, Int.reduceEq]), ord_lt hx3 hx4, (drawn bb).trans (q8.mono bb.size)⟩)

theorem e2_lk (x : Kn) : tySize Tryd.prog 111 = some (Kn.cells x).length := ty_sz_111
theorem one_lk (x : Kn) : (Kn.cells x).all (·.oneCell') = true := List.all_eq_true.2 (knEnc.one x)
theorem slices_MinFunc {w : World} {A : Option Addr} {c : Nat} {l : List Kn} (hR : Recs Kn.cells 2 (· < w.heap.size) w A l) (hg : ∀ x ∈ l, LkAt w x) (h0 : 0 < l.length) (hl : l.length ≤ 100000) :
    Cal Tryd.prog 80 [.slice A l.length c, .func (.func 81) #[] #[]] w fun v w' => ∃ m ∈ l, v = .agg (Kn.cells m).toArray ∧ (∀ y ∈ l, ¬ PLt y.abs m.abs) ∧ Below w.heap.size w w' := by
  have hx0 : l[0]? = some (l[0]'h0) := List.getElem?_eq_getElem h0
  have hm0 : l[0]'h0 ∈ l := List.getElem_mem h0
  generalize l[0]'h0 = x0 at hx0 hm0
  have hA := hR.isSome h0
  have hn1 : ¬ (l.length : Int) < 1 := by omega
  have hp0 : (0 : Int) < (l.length : Int) := by omega
  refine cal_slices_MinFunc (by simp) 100000 fun Q hQ => ?_
  simp (disch := first | with_reducible assumption | omega) only [push_cast, x_blk, x_cd, ↓reduceIte, Nat.reduceEqDiff, List.map_cons, List.map_nil, Int.reduceEq, Int.lt_irrefl, F_slices_MinFunc]
  refine blk_of (cs := Kn.cells ⟨none, 0, [], none, 0, []⟩) al_111 ?_
  intro w1 k1 b1 z1
  have hR1 := hR.below b1
  have hld0 := fun {K : Fr → World → Prop} {f : Fr} {d : Option Nat} {w' : World} => hR1.ldAll (P := Tryd.prog) (K := K) (f := f) (d := d) (w := w') knEnc ty_ag_111 hx0 ty_sz_111
  rw [Nat.zero_mul] at hld0
  simp (disch := first | with_reducible assumption | omega) only [push_cast, x_blk, x_cd, ↓reduceIte, Nat.reduceEqDiff, List.map_cons, List.map_nil, Int.reduceEq, Int.lt_irrefl, hn1, hp0, Int.toNat_zero, Nat.zero_mul, hld0]
  refine blk_of (cs := Kn.cells ⟨none, 0, [], none, 0, []⟩) al_111 ?_
  intro w2 k2 b2 z2
  have k12 := k1.below b2 k1.lt
  have bb := b1.trans (b2.mono b1.size)
  simp (disch := first | with_reducible assumption | omega) only [push_cast, x_blk, x_cd, ↓reduceIte, Nat.reduceEqDiff, List.map_cons, List.map_nil, Int.reduceEq, Int.lt_irrefl]
  refine sto_blk k2 (cs := Kn.cells x0) (e2_lk _) rfl (one_lk _) ?_
  intro w3 k3 g3 z3
  have k13 := k12.grown g3.by_ (by simp; omega)
  have bb3 := g3.below bb bb.size (by intro a ha; injection ha with ha; subst ha; show w.heap.size ≤ w1.heap.size; omega)
  simp (disch := first | with_reducible assumption | omega) only [push_cast, x_blk, x_cd, ↓reduceIte, Nat.reduceEqDiff, List.map_cons, List.map_nil, Int.reduceEq, Int.lt_irrefl]
  refine loop_rule (fun f w' => ∃ (i : Nat) (m : Kn), 1 ≤ i ∧ i ≤ l.length ∧ m ∈ l ∧ (f 0 = .slice A l.length c ∧ f 1 = .func (.func 81) #[] #[] ∧ f 4 = .pointer (some ⟨w.heap.size, 0, none⟩) ∧ f 5 = .pointer (some ⟨w1.heap.size, 0, none⟩) ∧ f 6 = .int .i64 i) ∧
      (∀ (j : Nat) (y : Kn), j < i → l[j]? = some y → ¬ PLt y.abs m.abs) ∧ Blk w' w.heap.size 111 (Kn.cells ⟨none, 0, [], none, 0, []⟩) ∧ Blk w' w1.heap.size 111 (Kn.cells m) ∧ Below w.heap.size w w')
    (fun f _ => l.length - (intOf (f 6)).toNat) ⟨1, x0, Nat.le_refl _, h0, hm0, ⟨rfl, rfl, rfl, rfl, rfl⟩, fun j y hj hy => by
      obtain rfl : j = 0 := by omega
      rw [hx0] at hy
      rw [← Option.some.inj hy]
      exact PLt.irrefl _, k13, k3, bb3⟩ ?_
  clear k1 k2 k3 k12 k13 bb bb3 g3 b2 z2 hR1 hld0
  rintro f w4 ⟨i, m, hi1, hi, hmm, fr, hno, kR, kM, b4⟩ J hJ
  by_cases hlt : i < l.length
  case neg =>
    obtain rfl : i = l.length := by omega
    have hld := fun {K : Fr → World → Prop} {f : Fr} {d : Option Nat} {w' : World} => kM.ldAll (P := Tryd.prog) (K := K) (f := f) (d := d) (w := w') ty_ag_111 (e2_lk m)
    simp (disch := first | with_reducible assumption | omega) only [push_cast, x_blk, x_cd, ↓reduceIte, Nat.reduceEqDiff, List.map_cons, List.map_nil, Int.reduceEq, Int.lt_irrefl, L_slices_MinFunc_0, fr, Nat.lt_irrefl, hld]
    refine sto_blk kR (cs := Kn.cells m) (e2_lk _) rfl (one_lk _) ?_
    intro w5 k5 g5 z5
    simp (disch := first | with_reducible assumption | omega) only [push_cast, x_blk, x_cd, ↓reduceIte, Nat.reduceEqDiff, List.map_cons, List.map_nil, Int.reduceEq, Int.lt_irrefl]
    refine fin_cell k5 ty_ag_111 (e2_lk _) (by simp only [push_cast, ↓reduceIte, Nat.reduceEqDiff, Int.reduceEq, fr]) (hQ _ _ ⟨m, hmm, rfl, fun y hy => ?_, g5.below b4 b4.size (by intro a ha; injection ha with ha; subst ha; exact Nat.le_refl _)⟩)
    obtain ⟨j, hj, rfl⟩ := List.getElem_of_mem hy
    exact hno j _ hj (List.getElem?_eq_getElem hj)
  have hxi : l[i]? = some (l[i]'hlt) := List.getElem?_eq_getElem hlt
  have hmi : l[i]'hlt ∈ l := List.getElem_mem hlt
  generalize l[i]'hlt = x at hxi hmi
  have sd : Same w4 w4.drew := (Same.refl w4).drew
  have b4d := b4.trans (sd.below _)
  have kRd := kR.same sd
  have kMd := kM.same sd
  have hR4 := hR.below b4d
  have hldi := fun {K : Fr → World → Prop} {f : Fr} {d : Option Nat} {w' : World} => hR4.ldAll (P := Tryd.prog) (K := K) (f := f) (d := d) (w := w') knEnc ty_ag_111 hxi ty_sz_111
  have hldm := fun {K : Fr → World → Prop} {f : Fr} {d : Option Nat} {w' : World} => kMd.ldAll (P := Tryd.prog) (K := K) (f := f) (d := d) (w := w') ty_ag_111 (e2_lk m)
  simp (disch := first | with_reducible assumption | omega) only [push_cast, x_blk, x_cd, ↓reduceIte, Nat.reduceEqDiff, List.map_cons, List.map_nil, Int.reduceEq, Int.lt_irrefl, L_slices_MinFunc_0, fr, hlt, hldi, hldm]
  refine call_of (steps_order ((hg x hmi).up b4d) ((hg m hmm).up b4d)) ?_
  rintro v w5 ⟨z, rfl, hz, b5⟩
  have bb5 := b4d.trans (b5.mono b4d.size)
  have kR5 := kRd.below b5 kRd.lt
  have kM5 := kMd.below b5 kMd.lt
  have hR5 := hR.below bb5
  have hldj := fun {K : Fr → World → Prop} {f : Fr} {d : Option Nat} {w' : World} => hR5.ldAll (P := Tryd.prog) (K := K) (f := f) (d := d) (w := w') knEnc ty_ag_111 hxi ty_sz_111
  by_cases hzz : z < 0
  · simp (disch := first | with_reducible assumption | omega) only [push_cast, x_blk, x_cd, ↓reduceIte, Nat.reduceEqDiff, List.map_cons, List.map_nil, Int.reduceEq, Int.lt_irrefl, hzz, fr, hlt, hldj]
    refine sto_blk kM5 (cs := Kn.cells x) (e2_lk _) rfl (one_lk _) ?_
    intro w6 k6 g6 z6
    have kR6 := kR5.grown g6.by_ (by simp; omega)
    simp (disch := first | with_reducible assumption | omega) only [push_cast, x_blk, x_cd, ↓reduceIte, Nat.reduceEqDiff, List.map_cons, List.map_nil, Int.reduceEq, Int.lt_irrefl, fr]
    exact hJ _ _ ⟨i + 1, x, by omega, hlt, hmi, (by simp only [push_cast, ↓reduceIte, Nat.reduceEqDiff, true_and, and_true, and_self, eq_self, fr]), fun j y hj hy => by
      by_cases e : j = i
      · subst e; rw [hxi] at hy; rw [← Option.some.inj hy]; exact PLt.irrefl _
      · exact fun hh => hno j y (by omega) hy (hh.trans (hz.1 hzz)), kR6, k6, g6.below bb5 bb5.size (by intro a ha; injection ha with ha; subst ha; show w.heap.size ≤ w1.heap.size; omega)⟩ (by simp only [push_cast, ↓reduceIte, Nat.reduceEqDiff, intOf, fr]; omega)
  · simp (disch := first | with_reducible assumption | omega) only [push_cast, x_blk, x_cd, ↓reduceIte, Nat.reduceEqDiff, List.map_cons, List.map_nil, Int.reduceEq, Int.lt_irrefl, hzz, fr]
    exact hJ _ _ ⟨i + 1, m, by omega, hlt, hmm, (by simp only [push_cast, ↓reduceIte, Nat.reduceEqDiff, true_and, and_true, and_self, eq_self, fr]), fun j y hj hy => by
      by_cases e : j = i
      · subst e; rw [hxi] at hy; rw [← Option.some.inj hy]; exact fun hh => hzz (hz.2 hh)
      · exact hno j y (by omega) hy, kR5, kM5, bb5⟩ (by simp only [push_cast, ↓reduceIte, Nat.reduceEqDiff, intOf, fr]; omega)

def StpQ (p : Plt) (most : Int) (x : List Int × List Int) : Prop := AllIn x.1 p.seen ∧ AllIn x.2 p.seen ∧ (most < 0 ∨ (x.2.length : Int) ≤ most) ∧ TellsL (onlyL (estL p x.1) (backsL p x.2) true) p.secret
def StpSel (p : Plt) (most : Int) (ahead back : List (List Int × List Int)) (z : List Int × List Int) : Prop :=
  ∃ y ∈ back, (most < 0 ∨ (y.2.length : Int) ≤ most) ∧ ∃ x ∈ ahead, TellsL (onlyL x.1 y.1 true) p.secret ∧ z = (x.2, y.2)
theorem ahead_all {p : Plt} (p1 : p.May) {k : Nat} (hk : (bIter (nextP p) p.seen (firstP p) k).length = k) {u : List Int} (hu : AllIn u p.seen) : ∃ q ∈ bIter (nextP p) p.seen (firstP p) k, q.1 = estL p u ∧ Shle q.2 u := by
  obtain ⟨n, i', q, hq, hqs, hle⟩ := bIter_all (step := nextP p) p1.2.2.1.strict (firstP p) u hu
  refine ⟨q, ?_, hqs, hle⟩
  rcases Nat.le_total k n with c | c
  · rw [bIter_stop (Nat.le_of_eq hk) n c] at hq; exact List.mem_of_getElem? hq
  · exact (bIter_prefix (step := nextP p) (es := p.seen) (firstP p) c).subset (List.mem_of_getElem? hq)
theorem ahead_run {p : Plt} (p1 : p.May) {k : Nat} {q : List Int × List Int} (hq : q ∈ bIter (nextP p) p.seen (firstP p) k) : q.1 = estL p q.2 ∧ AllIn q.2 p.seen := by
  obtain ⟨i, hi⟩ := List.mem_iff_getElem?.1 hq
  exact bIter_run (step := nextP p) p1.2.2.1.strict hi
theorem ple_of {a a' b b' : List Int} (h : Shle a' a) (k : Shle b' b) : (a', b') = (a, b) ∨ PLt (a', b') (a, b) := by
  have h1 := h.len
  have h2 := k.len
  rcases Nat.lt_or_ge (a'.length + b'.length) (a.length + b.length) with c | c
  · exact .inr (.inl c)
  have e1 : a'.length = a.length := by omega
  have e2 : b'.length = b.length := by omega
  rcases h with rfl | h
  · rcases k with rfl | k
    · exact .inl rfl
    · exact .inr (.inr ⟨by simp only; omega, .inr ⟨e2, .inr ⟨rfl, k⟩⟩⟩)
  · exact .inr (.inr ⟨by simp only; omega, .inr ⟨e2, .inl h⟩⟩)
theorem best_sel {p : Plt} (p1 : p.May) {most : Int} {k n : Nat} (hk : (bIter (nextP p) p.seen (firstP p) k).length = k) (hn : (layP p n).2 = []) {o : Option (List Int × List Int)}
    (h : BestIs (StpSel p most (bIter (nextP p) p.seen (firstP p) k) (layP p n).1) o) : BestIs (StpQ p most) o := by
  have up : ∀ z, StpSel p most (bIter (nextP p) p.seen (firstP p) k) (layP p n).1 z → StpQ p most z := by
    rintro z ⟨y, hy, hs, x, hx, ht, rfl⟩
    obtain ⟨r1, r2⟩ := ahead_run p1 hx
    obtain ⟨r3, r4⟩ := lay_run p1 hy
    exact ⟨r2, r4, hs, by rw [← r1, ← r3]; exact ht⟩
  have down : ∀ z, StpQ p most z → ∃ z', StpSel p most (bIter (nextP p) p.seen (firstP p) k) (layP p n).1 z' ∧ (z' = z ∨ PLt z' z) := by
    rintro ⟨u, v⟩ ⟨h1, h2, h3, h4⟩
    obtain ⟨x, hx, hx1, hx2⟩ := ahead_all p1 hk h1
    obtain ⟨y, hy, hy1, hy2⟩ := lay_all p1 hn h2
    have := hy2.len
    exact ⟨(x.2, y.2), ⟨y, hy, by rcases h3 with h3 | h3; exact .inl h3; exact .inr (by simp only at h3 this; omega), x, hx, by rw [hx1, hy1]; exact h4, rfl⟩, ple_of hx2 hy2⟩
  cases o with
  | none =>
    intro z hz
    obtain ⟨z', hz', _⟩ := down z hz
    exact h z' hz'
  | some m =>
    refine ⟨up m h.1, fun z hz hlt => ?_⟩
    obtain ⟨z', hz', rfl | hh⟩ := down z hz
    · exact h.2 _ hz' hlt
    · exact h.2 _ hz' (hh.trans hlt)
def Opt2 (o : Option (List Int × List Int)) (b : Bool) (u v : List Int) : Prop := match o with
  | none => b = false ∧ u = [] ∧ v = []
  | some x => b = true ∧ u = x.1 ∧ v = x.2
def StpIs (p : Plt) (most : Int) (b : Bool) (u v : List Int) (e : Int) : Prop :=
  (¬ p.May ∧ b = false ∧ u = [] ∧ v = [] ∧ e = 2) ∨ (p.May ∧ ¬ (-1 ≤ most ∧ most ≤ 1000) ∧ b = false ∧ u = [] ∧ v = [] ∧ e = 6) ∨ (p.May ∧ (-1 ≤ most ∧ most ≤ 1000) ∧ e = 0 ∧ ∃ o, BestIs (StpQ p most) o ∧ Opt2 o b u v)
def StpRes (p : Plt) (most : Int) (w : World) (v : Value) (w' : World) : Prop :=
  ∃ (b : Bool) (U : Option Addr) (cu : Nat) (u : List Int) (V : Option Addr) (cv : Nat) (x : List Int) (e : Int), v = .tuple #[.bool b, .slice U u.length cu, .slice V x.length cv, .int .i64 e] ∧ Ints (· < w'.heap.size) w' U u ∧ Ints (· < w'.heap.size) w' V x ∧ u.length ≤ 100000 ∧ x.length ≤ 100000 ∧ Below w.heap.size w w' ∧ StpIs p most b u x e
end Go.Proofs.YtcjinmgieiebbaaDoor
