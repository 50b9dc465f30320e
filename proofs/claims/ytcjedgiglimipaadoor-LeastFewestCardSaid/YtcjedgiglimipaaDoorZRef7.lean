/-
  Chapter 7: the reference's places: by their contracts.
  Chapter 7: the reference's Places, Without, Within: by their contracts.
  Chapter 7: the reference's Without, Within; the program's Within; the law WithinTells.
  Chapter 7: the program's Within and the reference's; the law WithinTells: it returns true.
-/
import Derived.Test.YtcjedgiglimipaaDoorZWithin
import Derived.Test.YtcjedgiglimipaaDoorZRow
import Derived.Test.YtcjedgiglimipaaDoorZMach
namespace Go.Proofs.YtcjedgiglimipaaDoor
set_option linter.unusedSimpArgs false
set_option linter.unusedVariables false
set_option linter.unusedSectionVars false
section
open Go.RowKit

structure P7 where
  A : Option Addr
  ca : Nat
  a : List Int
  B : Option Addr
  cb : Nat
  b : List Int
  W : Option Addr
  cw : Nat
  w : List Int
def P7.cells (p : P7) : List Value := [.slice p.A p.a.length p.ca, .slice p.B p.b.length p.cb, .slice p.W p.w.length p.cw]
def P7.abs (p : P7) : St × List Int := ((p.a, p.b), p.w)
theorem p7Enc : Enc P7.cells 3 := ⟨fun _ => rfl, fun p u hu => by
  unfold P7.cells at hu
  rcases List.mem_cons.1 hu with rfl | hu
  · rfl
  · rcases List.mem_cons.1 hu with rfl | hu
    · rfl
    · rw [List.mem_singleton.1 hu]; rfl⟩
structure P7.Good (B e : Nat) (w : World) (p : P7) : Prop where
  a : RowT B e w p.A p.a
  b : RowT B e w p.B p.b
  w : RowT B e w p.W p.w
  n : p.a.length ≤ 2147483648 ∧ p.b.length ≤ 2147483648 ∧ p.w.length ≤ 2147483648
theorem P7.Good.below {B e : Nat} {w w' : World} {p : P7} (h : P7.Good B e w p) (hb : Below w.heap.size w w') : P7.Good B e w' p := ⟨h.a.below hb, h.b.below hb, h.w.below hb, h.n⟩

theorem ref7_known {w : World} {L : Option Addr} {c : Nat} {pl : List P7} (hR : Recs P7.cells 3 (· < w.heap.size) w L pl) (nl : pl.length ≤ 1000000)
    (hg : ∀ p ∈ pl, (Ints (· < w.heap.size) w p.A p.a ∧ p.a.length ≤ 2147483648) ∧ Ints (· < w.heap.size) w p.B p.b ∧ p.b.length ≤ 2147483648)
    {A A1 : Option Addr} {ca cb : Nat} {a b : List Int} (h1 : Ints (· < w.heap.size) w A a) (h2 : Ints (· < w.heap.size) w A1 b) :
    Cal Tryd.prog 103 [.slice L pl.length c, .slice A a.length ca, .slice A1 b.length cb] w fun v w' => v = .bool (decide ((a, b) ∈ pl.map fun p => (p.a, p.b))) ∧ Same w w' := by
  refine cal_ref7_known (by simp) 100000 fun Q hQ => ?_
  simp (disch := first | with_reducible assumption | omega) only [push_cast, x_blk, x_cd, ↓reduceIte, Nat.reduceEqDiff, List.map_cons, List.map_nil, Int.reduceEq, Int.lt_irrefl, F_ref7_known]
  refine loop_rule (fun f w' => ∃ k : Nat, k ≤ pl.length ∧ (f 0 = .slice L pl.length c ∧ f 1 = .slice A a.length ca ∧ f 2 = .slice A1 b.length cb ∧ f 7 = .int .i64 k) ∧ (∀ i p, i < k → pl[i]? = some p → (p.a, p.b) ≠ (a, b)) ∧ Same w w')
    (fun f _ => pl.length - (intOf (f 7)).toNat) ⟨0, Nat.zero_le _, ⟨rfl, rfl, rfl, rfl⟩, fun i p hi => absurd hi (by omega), Same.refl w⟩ ?_
  rintro f w1 ⟨k, hk, fr, hp, s1⟩ J hJ
  by_cases hlt : k < pl.length
  case neg =>
    have r : decide ((a, b) ∈ pl.map fun p => (p.a, p.b)) = false := decide_eq_false fun h => by
      obtain ⟨p, hp1, hp2⟩ := List.mem_map.1 h
      obtain ⟨i, hi, hpi⟩ := List.getElem_of_mem hp1
      exact hp i p (by omega) (by rw [List.getElem?_eq_getElem hi, hpi]) hp2
    simp (disch := first | with_reducible assumption | omega) only [push_cast, x_blk, x_cd, ↓reduceIte, Nat.reduceEqDiff, List.map_cons, List.map_nil, Int.reduceEq, Int.lt_irrefl, L_ref7_known_0, fr, hlt]
    exact fin_1 (hQ _ _ ⟨(by simp only [push_cast, ↓reduceIte, Nat.reduceEqDiff, Int.reduceEq, r]), s1⟩)
  have hpk : pl[k]? = some (pl[k]'hlt) := List.getElem?_eq_getElem hlt
  have hmem : pl[k]'hlt ∈ pl := List.getElem_mem hlt
  generalize pl[k]'hlt = p at hpk hmem
  obtain ⟨⟨ga, na⟩, gb, nb⟩ := hg p hmem
  have hR1 := hR.same s1
  have hA := hR1.isSome (by omega)
  have l0 := fun {K : Fr → World → Prop} {f : Fr} {d : Option Nat} {w' : World} => hR1.ld (P := Tryd.prog) (K := K) (f := f) (d := d) (w := w') ty_ag_22 hpk (j := 0) (v := .slice p.A p.a.length p.ca) rfl
  simp (disch := first | with_reducible assumption | omega) only [push_cast, x_blk, x_cd, ↓reduceIte, Nat.reduceEqDiff, List.map_cons, List.map_nil, Int.reduceEq, Int.lt_irrefl, L_ref7_known_0, fr, hlt, l0]
  refine call_of (ref1_Same (ga.same s1) (h1.same s1) p.ca ca (by omega)) ?_
  rintro v w2 ⟨rfl, s2⟩
  have s2 := s1.trans s2
  by_cases c1 : p.a = a
  case neg =>
    simp (disch := first | with_reducible assumption | omega) only [push_cast, x_blk, x_cd, ↓reduceIte, Nat.reduceEqDiff, List.map_cons, List.map_nil, Int.reduceEq, Int.lt_irrefl, c1, fr]
    exact hJ _ _ ⟨k + 1, hlt, (by simp only [push_cast, ↓reduceIte, Nat.reduceEqDiff, true_and, and_true, and_self, eq_self, fr]), fun i p' hi hpi hh => by
      by_cases e : i = k
      · subst e; rw [hpk] at hpi; obtain rfl := Option.some.inj hpi; exact c1 (congrArg Prod.fst hh)
      · exact hp i p' (by omega) hpi hh, s2⟩ (by simp only [push_cast, ↓reduceIte, Nat.reduceEqDiff, intOf, fr]; omega)
  have hR2 := hR.same s2
  have l1 := fun {K : Fr → World → Prop} {f : Fr} {d : Option Nat} {w' : World} => hR2.ld (P := Tryd.prog) (K := K) (f := f) (d := d) (w := w') ty_ag_22 hpk (j := 1) (v := .slice p.B p.b.length p.cb) rfl
  simp (disch := first | with_reducible assumption | omega) only [push_cast, x_blk, x_cd, ↓reduceIte, Nat.reduceEqDiff, List.map_cons, List.map_nil, Int.reduceEq, Int.lt_irrefl, c1, eq_self, fr, hlt, l1]
  refine call_of (ref1_Same (gb.same s2) (h2.same s2) p.cb cb (by omega)) ?_
  rintro v w3 ⟨rfl, s3⟩
  have s3 := s2.trans s3
  by_cases c2 : p.b = b
  · have r : decide ((a, b) ∈ pl.map fun p => (p.a, p.b)) = true := decide_eq_true (List.mem_map.2 ⟨p, hmem, by rw [c1, c2]⟩)
    simp (disch := first | with_reducible assumption | omega) only [push_cast, x_blk, x_cd, ↓reduceIte, Nat.reduceEqDiff, List.map_cons, List.map_nil, Int.reduceEq, Int.lt_irrefl, c2, eq_self]
    exact fin_1 (hQ _ _ ⟨(by simp only [push_cast, ↓reduceIte, Nat.reduceEqDiff, Int.reduceEq, r]), s3⟩)
  · simp (disch := first | with_reducible assumption | omega) only [push_cast, x_blk, x_cd, ↓reduceIte, Nat.reduceEqDiff, List.map_cons, List.map_nil, Int.reduceEq, Int.lt_irrefl, c2, fr]
    exact hJ _ _ ⟨k + 1, hlt, (by simp only [push_cast, ↓reduceIte, Nat.reduceEqDiff, true_and, and_true, and_self, eq_self, fr]), fun i p' hi hpi hh => by
      by_cases e : i = k
      · subst e; rw [hpk] at hpi; obtain rfl := Option.some.inj hpi; exact c2 (congrArg Prod.snd hh)
      · exact hp i p' (by omega) hpi hh, s3⟩ (by simp only [push_cast, ↓reduceIte, Nat.reduceEqDiff, intOf, fr]; omega)
end

section
open Go.RowKit

theorem blt_p7 : builtPl Tryd.prog 104 = some ([(0, 1), (1, 1), (2, 1)], [.slice none 0 0, .slice none 0 0, .slice none 0 0]) := by kernel_rfl
theorem bl_p7 {K : Fr → World → Prop} {u : World} {f : Fr} {d : Option Nat} {w : World} (p : P7) :
    Val1 Tryd.prog K (Instr.build 104 #[(0, .slice p.A p.a.length p.ca), (1, .slice p.B p.b.length p.cb), (2, .slice p.W p.w.length p.cw)]) u f d w = K (updO f d (.agg p.cells.toArray)) w := by
  have := bld_3 (P := Tryd.prog) (K := K) (u := u) (f := f) (d := d) (w := w) blt_p7 rfl rfl rfl rfl (v0 := .slice p.A p.a.length p.ca) (v1 := .slice p.B p.b.length p.cb) (v2 := .slice p.W p.w.length p.cw) rfl rfl rfl
  rw [this]; rfl
theorem bl_p7' {K : Fr → World → Prop} {u : World} {f : Fr} {d : Option Nat} {w : World} (A : Option Addr) (n c : Nat) (B : Option Addr) (m c' : Nat) :
    Val1 Tryd.prog K (Instr.build 104 #[(0, .slice A n c), (1, .slice B m c')]) u f d w = K (updO f d (.agg [.slice A n c, .slice B m c', .slice none 0 0].toArray)) w := by
  refine bld_of ?_
  rw [built_of blt_p7]
  rw [fill_cons (off := 0) (size := 1) rfl rfl (by decide), fill_cons (off := 1) (size := 1) rfl rfl (by simp [putL, Value.cells]), fill_nil]
  simp [putL, Value.cells]

theorem ref7_Places {w : World} {a b : MV} {ma mb : Mach} (ha : IsM (· < w.heap.size) w a ma) (hb : IsM (· < w.heap.size) w b mb) (fa : ma.Fits) (fb : mb.Fits) (pa : ma.May) (pb : mb.May) (na : ma.states ≤ 6) (nb : mb.states ≤ 6) :
    Cal Tryd.prog 67 [a.val ma, b.val mb] w fun v w' =>
      ∃ (k : Nat) (pl : List P7) (L : Option Addr) (c : Nat), v = .slice L pl.length c ∧ pl.map P7.abs = bIter (step2 ma mb) (evs ma.events.toNat) (ma.starts, mb.starts) k ∧ pl.length = k ∧
        (∀ j, j < k → j < (bIter (step2 ma mb) (evs ma.events.toNat) (ma.starts, mb.starts) j).length) ∧ k ≤ 4096 ∧
        Recs P7.cells 3 (· < w'.heap.size) w' L pl ∧ (∀ p ∈ pl, P7.Good w.heap.size 3 w' p) ∧ Below w.heap.size w w' := by
  have ea : ((ma.events.toNat : Nat) : Int) = ma.events := by have := pa.2.2.1; omega
  have ne : ma.events.toNat ≤ 8 := by have := pa.2.2.2.1; omega
  generalize hE : ma.events.toNat = E at *
  have few := pairs_few pa pb na nb (evs E)
  have ra := may_starts' pa
  have rb := may_starts' pb
  have la := ra.len
  have lb := rb.len
  refine cal_ref7_Places (by simp) 100000 fun Q hQ => ?_
  simp (disch := first | with_reducible assumption | omega) only [push_cast, x_blk, x_cd, ↓reduceIte, Nat.reduceEqDiff, List.map_cons, List.map_nil, Int.reduceEq, Int.lt_irrefl, F_ref7_Places]
  refine blk_of (box_agg _ (a.cells ma)) ?_
  intro w1 k1 b1 z1
  simp (disch := first | with_reducible assumption | omega) only [push_cast, x_blk, x_cd, ↓reduceIte, Nat.reduceEqDiff, List.map_cons, List.map_nil, Int.reduceEq, Int.lt_irrefl]
  refine blk_of (box_agg _ (b.cells mb)) ?_
  intro w2 k2 b2 z2
  have k1 := k1.below b2 k1.lt
  have b2 := b1.trans (b2.mono b1.size)
  have s2 := b2.size
  simp (disch := first | with_reducible assumption | omega) only [push_cast, x_blk, x_cd, ↓reduceIte, Nat.reduceEqDiff, List.map_cons, List.map_nil, Int.reduceEq, Int.lt_irrefl, k1.m2 ty_ag_22, k2.m2 ty_ag_22, bl_p7']
  change LoopX _ _ _ _ (w2.alloc (.cells (P7.cells ⟨a.As, a.cs, ma.starts, b.As, b.cs, mb.starts, none, 0, []⟩).toArray 104))
  have o3 := own_rec p7Enc w2 ⟨a.As, a.cs, ma.starts, b.As, b.cs, mb.starts, none, 0, []⟩ 104
  have b3 : Below w2.heap.size w2 (w2.alloc (.cells (P7.cells ⟨a.As, a.cs, ma.starts, b.As, b.cs, mb.starts, none, 0, []⟩).toArray 104)) := (Below.refl _ _).alloc (Nat.le_refl _) _
  generalize w2.alloc (.cells (P7.cells ⟨a.As, a.cs, ma.starts, b.As, b.cs, mb.starts, none, 0, []⟩).toArray 104) = w3 at *
  have hg0 : P7.Good w.heap.size 3 w3 ⟨a.As, a.cs, ma.starts, b.As, b.cs, mb.starts, none, 0, []⟩ := by
    have bb := b2.trans (b3.mono s2)
    exact ⟨RowT.of_arg ((ha.below bb).starts) bb.size, RowT.of_arg ((hb.below bb).starts) bb.size, ⟨Ints.nil _ _ _⟩, by simp; omega⟩
  refine loop_rule (fun f w' => ∃ (k : Nat) (pl : List P7) (L : Option Addr) (c : Nat), k ≤ pl.length ∧ (f 2 = .pointer (some ⟨w.heap.size, 0, none⟩) ∧ f 3 = .pointer (some ⟨w1.heap.size, 0, none⟩) ∧ f 5 = .slice L pl.length c ∧ f 6 = .int .i64 k) ∧
      pl.map P7.abs = bIter (step2 ma mb) (evs E) (ma.starts, mb.starts) k ∧ (∀ j, j < k → j < (bIter (step2 ma mb) (evs E) (ma.starts, mb.starts) j).length) ∧
      OwnR P7.cells w2.heap.size 104 3 w' L c pl ∧ (∀ p ∈ pl, P7.Good w.heap.size 3 w' p) ∧ Below w2.heap.size w2 w')
    (fun f _ => 4096 - (intOf (f 6)).toNat) ⟨0, [⟨a.As, a.cs, ma.starts, b.As, b.cs, mb.starts, none, 0, []⟩], _, 1, by simp, ⟨rfl, rfl, rfl, rfl⟩, rfl, fun j hj => absurd hj (by omega), o3, fun p hp => by rw [List.mem_singleton.1 hp]; exact hg0, b3⟩ ?_
  clear o3 b3 hg0
  rintro f w4 ⟨k, pl, L, c, hk, fr, habs, hlen, ho, hgood, b4⟩ J hJ
  have hln : pl.length = (bIter (step2 ma mb) (evs E) (ma.starts, mb.starts) k).length := by rw [← habs]; simp
  have fewk := few k 0
  rw [bPart_zero] at fewk
  have hmu : (intOf (f 6)).toNat = k := by rw [fr.2.2.2]; simp [intOf]
  by_cases hlt : k < pl.length
  case neg =>
    simp (disch := first | with_reducible assumption | omega) only [push_cast, x_blk, x_cd, ↓reduceIte, Nat.reduceEqDiff, List.map_cons, List.map_nil, Int.reduceEq, Int.lt_irrefl, L_ref7_Places_1, fr, hlt]
    exact fin_1 (hQ _ _ ⟨k, pl, L, c, (by simp only [push_cast, ↓reduceIte, Nat.reduceEqDiff, Int.reduceEq]), habs, by omega, hlen, by omega, Recs.lt p7Enc (by decide) (OwnR.recs ho p7Enc (by decide)), hgood, b2.trans (b4.mono s2)⟩)
  have hpk0 : pl[k]? = some (pl[k]'hlt) := List.getElem?_eq_getElem hlt
  generalize pl[k]'hlt = p at hpk0
  have hq : (bIter (step2 ma mb) (evs E) (ma.starts, mb.starts) k)[k]? = some p.abs := by rw [← habs, List.getElem?_map, hpk0]; rfl
  have hpre := bPart_prefix (step := step2 ma mb) (es := evs E) (ma.starts, mb.starts) k
  simp (disch := first | with_reducible assumption | omega) only [push_cast, x_blk, x_cd, ↓reduceIte, Nat.reduceEqDiff, List.map_cons, List.map_nil, Int.reduceEq, Int.lt_irrefl, L_ref7_Places_1, fr, hlt]
  refine loop_rule (fun f' w' => ∃ (j : Nat) (pl : List P7) (L : Option Addr) (c : Nat), j ≤ E ∧ (f' 2 = .pointer (some ⟨w.heap.size, 0, none⟩) ∧ f' 3 = .pointer (some ⟨w1.heap.size, 0, none⟩) ∧ f' 5 = .slice L pl.length c ∧ f' 6 = .int .i64 k ∧ f' 7 = .int .i64 j) ∧
      pl.map P7.abs = bPart (step2 ma mb) (evs E) (ma.starts, mb.starts) k j ∧
      OwnR P7.cells w2.heap.size 104 3 w' L c pl ∧ (∀ p ∈ pl, P7.Good w.heap.size 3 w' p) ∧ Below w2.heap.size w2 w')
    (fun f' _ => E - (intOf (f' 7)).toNat) ⟨0, pl, L, c, Nat.zero_le _, (by simp only [push_cast, ↓reduceIte, Nat.reduceEqDiff, true_and, and_true, and_self, eq_self, fr]), habs, ho, hgood, b4⟩ ?_
  have hkl : k < (bIter (step2 ma mb) (evs E) (ma.starts, mb.starts) k).length := by omega
  clear ho hgood b4 fr habs hk hlt hln
  rintro f w4 ⟨j, pl, L, c, hj, fr, habs, ho, hgood, b4⟩ J2 hJ2
  have bb := b2.trans (b4.mono s2)
  have k1' := k1.below b4 k1.lt
  have k2' := k2.below b4 k2.lt
  have hln : pl.length = (bPart (step2 ma mb) (evs E) (ma.starts, mb.starts) k j).length := by rw [← habs]; simp
  have fewj := few k j
  have hlt : k < pl.length := by have := (hpre j).length_le; omega
  by_cases hjt : (j : Int) < ma.events
  case neg =>
    obtain rfl : j = E := by omega
    have hall := bPart_all (step := step2 ma mb) (es := evs j) (ma.starts, mb.starts) k
    rw [evs_len] at hall
    rw [hall] at habs
    simp (disch := first | with_reducible assumption | omega) only [push_cast, x_blk, x_cd, ↓reduceIte, Nat.reduceEqDiff, List.map_cons, List.map_nil, Int.reduceEq, Int.lt_irrefl, L_ref7_Places_0, fr, hjt, k1'.m1 ty_ag_3]
    exact hJ _ _ ⟨k + 1, pl, L, c, hlt, (by simp only [push_cast, ↓reduceIte, Nat.reduceEqDiff, true_and, and_true, and_self, eq_self, fr]), habs, fun i hi => if e : i = k then e ▸ hkl else hlen i (by omega), ho, hgood, b4⟩ (by rw [hmu]; simp only [push_cast, ↓reduceIte, Nat.reduceEqDiff, intOf, fr]; omega)
  have hq2 : (bPart (step2 ma mb) (evs E) (ma.starts, mb.starts) k j)[k]? = some p.abs := by rw [prefix_getElem? (hpre j) hkl]; exact hq
  have hpk : pl[k]? = some (pl[k]'hlt) := List.getElem?_eq_getElem hlt
  have hmem : pl[k]'hlt ∈ pl := List.getElem_mem hlt
  generalize pl[k]'hlt = p' at hpk hmem
  have hpp : p'.abs = p.abs := by
    have : (pl.map P7.abs)[k]? = some p'.abs := by rw [List.getElem?_map, hpk]; rfl
    rw [habs, hq2] at this
    exact (Option.some.inj this).symm
  obtain ⟨gA, gB, gW, gn⟩ := hgood p' hmem
  have hA := ho.isSome (by omega)
  have hR := Recs.lt p7Enc (by decide) (OwnR.recs ho p7Enc (by decide))
  have hRd : Recs P7.cells 3 (· < w4.drew.heap.size) w4.drew L pl := hR.keep fun _ _ => rfl
  have k1d := k1'.drew
  generalize hu : w4.drew = u at *
  have s4 : Same w4 u := hu ▸ (Same.refl w4).drew
  have hsz : w4.heap.size = u.heap.size := by rw [s4.heap]
  have bu : Below w4.heap.size w4 u := s4.below _
  have l0 := fun {K : Fr → World → Prop} {f : Fr} {d : Option Nat} {w' : World} => hRd.ld (P := Tryd.prog) (K := K) (f := f) (d := d) (w := w') ty_ag_22 hpk (j := 0) (v := .slice p'.A p'.a.length p'.ca) rfl
  simp (disch := first | with_reducible assumption | omega) only [push_cast, x_blk, x_cd, ↓reduceIte, Nat.reduceEqDiff, List.map_cons, List.map_nil, Int.reduceEq, Int.lt_irrefl, L_ref7_Places_0, fr, hjt, hlt, hu, k1'.m1 ty_ag_3, k1d.mA ty_ag_25 ty_sz_25, l0]
  have bbu := bb.trans (bu.mono bb.size)
  refine call_of (ref2_Step ((ha.below bbu).mono fun b hb => Nat.lt_of_lt_of_le hb bbu.size) fa (gA.lt.same s4).lt (by omega) _) ?_
  rintro v w5 ⟨X, cx, rfl, ox, b5⟩
  have b45 := bu.trans (b5.mono bu.size)
  have ho5 := ho.below b45 (Nat.le_refl _)
  have hR5 := Recs.lt p7Enc (by decide) (OwnR.recs ho5 p7Enc (by decide))
  have k2d := (k2'.below b45 k2'.lt).drew
  have b2u := b4.trans (b45.mono b4.size)
  have hcl : p'.a = p.a ∧ p'.b = p.b ∧ p'.w = p.w := by
    have h1 := congrArg (fun x => x.1.1) hpp
    have h2 := congrArg (fun x => x.1.2) hpp
    have h3 := congrArg (fun x => x.2) hpp
    exact ⟨h1, h2, h3⟩
  have hwl := bPart_word _ _ _ _ _ hq2
  have bb5 := bb.trans (b45.mono bb.size)
  generalize hu5 : w5.drew = u5 at *
  have s5 : Same w5 u5 := hu5 ▸ (Same.refl w5).drew
  have hR5d := hR5.same s5
  have bu5 := bb5.trans (s5.below w.heap.size)
  have z5 : w5.heap.size = u5.heap.size := by rw [s5.heap]
  have l1 := fun {K : Fr → World → Prop} {f : Fr} {d : Option Nat} {w' : World} => hR5d.ld (P := Tryd.prog) (K := K) (f := f) (d := d) (w := w') ty_ag_22 hpk (j := 1) (v := .slice p'.B p'.b.length p'.cb) rfl
  simp (disch := first | with_reducible assumption | omega) only [push_cast, x_blk, x_cd, ↓reduceIte, Nat.reduceEqDiff, List.map_cons, List.map_nil, Int.reduceEq, Int.lt_irrefl, fr, hlt, hu5, k2d.mA ty_ag_25 ty_sz_25, l1]
  refine call_of (ref2_Step ((hb.below bu5).mono fun b hb => Nat.lt_of_lt_of_le hb bu5.size) fb ((gB.below b45).lt.same s5).lt (by omega) _) ?_
  rintro v w6 ⟨Y, cy, rfl, oy, b6⟩
  have b46 := (b45.trans (s5.below _)).trans (b6.mono (by have := b45.size; omega))
  have ho6 := ho.below b46 (Nat.le_refl _)
  have hR6 := Recs.lt p7Enc (by decide) (OwnR.recs ho6 p7Enc (by decide))
  have hg6 : ∀ p ∈ pl, P7.Good w.heap.size 3 w6 p := fun p hp => (hgood p hp).below b46
  have ox6 := (ox.same s5).below b6 (by omega)
  have b26 := b4.trans (b46.mono b4.size)
  simp (disch := first | with_reducible assumption | omega) only [push_cast, x_blk, x_cd, ↓reduceIte, Nat.reduceEqDiff, List.map_cons, List.map_nil, Int.reduceEq, Int.lt_irrefl, fr]
  refine call_of (ref7_known hR6 (by omega) (fun p hp => ⟨⟨(hg6 p hp).a.lt, (hg6 p hp).n.1⟩, (hg6 p hp).b.lt, (hg6 p hp).n.2.1⟩) (OwnI.ints ox6).lt (OwnI.ints oy).lt) ?_
  rintro v w7 ⟨rfl, s7⟩
  have ho7 := ho6.same s7
  have ox7 := ox6.same s7
  have oy7 := oy.same s7
  have hg7 : ∀ p ∈ pl, P7.Good w.heap.size 3 w7 p := fun p hp => (hg6 p hp).below (s7.below _)
  have b27 := b26.trans (s7.below _)
  have hst : step2 ma mb p.abs.1 j = (stepL ma p.a j, stepL mb p.b j) := rfl
  rw [hcl.1] at ox7
  rw [hcl.2.1] at oy7
  have hsucc := bPart_succ (step2 ma mb) (evs E) (ma.starts, mb.starts) k j (by rw [evs_len]; omega)
  rw [evs_at E j (by omega)] at hsucc
  have hmp : (pl.map fun p => (p.a, p.b)) = (bPart (step2 ma mb) (evs E) (ma.starts, mb.starts) k j).map (·.1) := by rw [← habs, List.map_map]; rfl
  rw [hmp, hcl.1, hcl.2.1]
  by_cases hin : (stepL ma p.a j, stepL mb p.b j) ∈ (bPart (step2 ma mb) (evs E) (ma.starts, mb.starts) k j).map (·.1)
  · rw [bAdd_old hq2 (by rw [hst]; exact hin)] at hsucc
    simp (disch := first | with_reducible assumption | omega) only [push_cast, x_blk, x_cd, ↓reduceIte, Nat.reduceEqDiff, List.map_cons, List.map_nil, Int.reduceEq, Int.lt_irrefl, hin, fr]
    exact hJ2 _ _ ⟨j + 1, pl, L, c, by omega, (by simp only [push_cast, ↓reduceIte, Nat.reduceEqDiff, true_and, and_true, and_self, eq_self, fr]), by rw [hsucc]; exact habs, ho7, hg7, b27⟩ (by simp only [push_cast, ↓reduceIte, Nat.reduceEqDiff, intOf, fr]; omega)
  rw [bAdd_new hq2 (by rw [hst]; exact hin), hst] at hsucc
  simp (disch := first | with_reducible assumption | omega) only [push_cast, x_blk, x_cd, ↓reduceIte, Nat.reduceEqDiff, List.map_cons, List.map_nil, Int.reduceEq, Int.lt_irrefl, hin, fr]
  have b8 : Below w7.heap.size w7 (w7.alloc (.cells [].toArray 3)) := (Below.refl _ _).alloc (Nat.le_refl _) _
  have o8 : OwnI w7.heap.size 3 (w7.alloc (.cells [].toArray 3)) (some ⟨w7.heap.size, 0, none⟩) 0 [] := ⟨World.ownsRow_made w7 #[] 0 (Nat.le_refl _) (by decide) (by simp)⟩
  generalize w7.alloc (Obj.cells [].toArray 3) = w8 at *
  have ho8 := ho7.below b8 (Nat.le_refl _)
  have hR8 := Recs.lt p7Enc (by decide) (OwnR.recs ho8 p7Enc (by decide))
  have l2 := fun {K : Fr → World → Prop} {f : Fr} {d : Option Nat} {w' : World} => hR8.ld (P := Tryd.prog) (K := K) (f := f) (d := d) (w := w') ty_ag_22 hpk (j := 2) (v := .slice p'.W p'.w.length p'.cw) rfl
  have gW8 := ((hg7 p' hmem).below b8).w
  simp (disch := first | with_reducible assumption | omega) only [push_cast, x_blk, x_cd, ↓reduceIte, Nat.reduceEqDiff, List.map_cons, List.map_nil, Int.reduceEq, Int.lt_irrefl, fr, hlt, l2]
  refine app_ints (l := []) slT_22 o8 gW8.lt (by simp; omega) b8.size ?_
  intro A9 c9 w9 o9 hg9 _ z9
  have b9 := hg9.below b8 b8.size o8.geB
  rw [List.nil_append] at o9
  simp (disch := first | with_reducible assumption | omega) only [push_cast, x_blk, x_cd, ↓reduceIte, Nat.reduceEqDiff, List.map_cons, List.map_nil, Int.reduceEq, Int.lt_irrefl, fr, List.length_nil, Nat.zero_add, bs_22]
  refine app_int slT_22 o9 (j : Int) (by omega) b9.size ?_
  intro A10 c10 w10 o10 hg10 _ _ z10
  have b10 := hg10.below b9 b9.size o9.geB
  have ho10 := ho7.below b10 (Nat.le_refl _)
  have ox10 := ox7.below b10 (Nat.le_refl _)
  have oy10 := oy7.below b10 (Nat.le_refl _)
  have b210 := b27.trans (b10.mono b27.size)
  rw [hcl.2.2] at o10
  have hlw : p'.w.length + 1 = (p.w ++ [(j : Int)]).length := by rw [hcl.2.2]; simp
  have rx := stepL_row pa p.a j
  have ry := stepL_row pb p.b j
  have hxl := rx.len
  have hyl := ry.len
  have hwl' : p.w.length ≤ k := hwl
  rw [hlw]
  simp (disch := first | with_reducible assumption | omega) only [push_cast, x_blk, x_cd, ↓reduceIte, Nat.reduceEqDiff, List.map_cons, List.map_nil, Int.reduceEq, Int.lt_irrefl, fr, bl_p7 ⟨X, cx, stepL ma p.a j, Y, cy, stepL mb p.b j, A10, c10, p.w ++ [(j : Int)]⟩, bs_rec p7Enc slT_101 _ (by decide)]
  refine app_rec p7Enc slT_101 ho10 ⟨X, cx, stepL ma p.a j, Y, cy, stepL mb p.b j, A10, c10, p.w ++ [(j : Int)]⟩ (by omega) (by omega) b210.size ?_
  intro A11 c11 w11 ho11 hg11 hA11 hs11 z11
  have b11 := hg11.below b210 b210.size ho10.geB
  simp (disch := first | with_reducible assumption | omega) only [push_cast, x_blk, x_cd, ↓reduceIte, Nat.reduceEqDiff, List.map_cons, List.map_nil, Int.reduceEq, Int.lt_irrefl, fr]
  refine hJ2 _ _ ⟨j + 1, pl ++ [⟨X, cx, stepL ma p.a j, Y, cy, stepL mb p.b j, A10, c10, p.w ++ [(j : Int)]⟩], A11, c11, by omega, (by simp only [push_cast, ↓reduceIte, Nat.reduceEqDiff, true_and, and_true, and_self, eq_self, fr, List.length_append, List.length_cons, List.length_nil]), by rw [hsucc, List.map_append, habs]; rfl, ho11, fun r hr => ?_, b11⟩ (by simp only [push_cast, ↓reduceIte, Nat.reduceEqDiff, intOf, fr]; omega)
  have hbase : w.heap.size ≤ w2.heap.size := s2
  rcases List.mem_append.1 hr with hr | hr
  · have g := (hg7 r hr).below b10
    have ho10' := ho10.base hbase
    exact ⟨g.a.grew ho10' (by decide) hg11, g.b.grew ho10' (by decide) hg11, g.w.grew ho10' (by decide) hg11, g.n⟩
  · rw [List.mem_singleton.1 hr]
    have ho10' := ho10.base hbase
    exact ⟨(RowT.of_own ox10).grew ho10' (by decide) hg11, (RowT.of_own oy10).grew ho10' (by decide) hg11, (RowT.of_own o10).grew ho10' (by decide) hg11, by simp; omega⟩
end

section
open Go.RowKit

def found2 (ma mb : Mach) (s : St) : Bool := decide (MeetL s.1 ma.ends) && !decide (MeetL s.2 mb.ends)
theorem only_meet (l m : List Int) : decide (0 < ((onlyL l m true).length : Int)) = decide (MeetL l m) := by
  refine decide_eq_decide.2 ?_
  rw [Int.natCast_pos, List.length_pos_iff_exists_mem]
  unfold MeetL onlyL
  simp [List.mem_filter]
theorem only_none (l m : List Int) : decide (((onlyL l m true).length : Int) = 0) = !decide (MeetL l m) := by
  have h := only_meet l m
  by_cases c : MeetL l m
  · rw [decide_eq_true c] at h ⊢
    have := of_decide_eq_true h
    exact decide_eq_false (by omega)
  · rw [decide_eq_false c] at h ⊢
    have := of_decide_eq_false h
    exact decide_eq_true (by omega)

theorem ref7_Without {w : World} {a b : MV} {ma mb : Mach} (ha : IsM (· < w.heap.size) w a ma) (hb : IsM (· < w.heap.size) w b mb) (fa : ma.Fits) (fb : mb.Fits) (pa : ma.May) (pb : mb.May) (na : ma.states ≤ 6) (nb : mb.states ≤ 6) :
    Cal Tryd.prog 28 [a.val ma, b.val mb] w fun v w' =>
      ∃ O co o bo, v = .tuple #[.slice O o.length co, .bool bo] ∧ Ints (· < w'.heap.size) w' O o ∧ Below w.heap.size w w' ∧ o.length ≤ 2147483648 ∧ FirstIs (step2 ma mb) (found2 ma mb) (evs ma.events.toNat) (ma.starts, mb.starts) bo o := by
  have la := fa.lenE
  have lb := fb.lenE
  refine cal_ref7_Without (by simp) 100000 fun Q hQ => ?_
  simp (disch := first | with_reducible assumption | omega) only [push_cast, x_blk, x_cd, ↓reduceIte, Nat.reduceEqDiff, List.map_cons, List.map_nil, Int.reduceEq, Int.lt_irrefl, F_ref7_Without]
  refine blk_of (box_agg _ (a.cells ma)) ?_
  intro w1 k1 b1 z1
  simp (disch := first | with_reducible assumption | omega) only [push_cast, x_blk, x_cd, ↓reduceIte, Nat.reduceEqDiff, List.map_cons, List.map_nil, Int.reduceEq, Int.lt_irrefl]
  refine blk_of (box_agg _ (b.cells mb)) ?_
  intro w2 k2 b2 z2
  have k1 := k1.below b2 k1.lt
  have b2 := b1.trans (b2.mono b1.size)
  have up : ∀ {w' : World} {c : MV} {mc : Mach}, IsM (· < w.heap.size) w c mc → Below w.heap.size w w' → IsM (· < w'.heap.size) w' c mc := fun {w' c mc} h hb => (h.below hb).mono fun b hl => Nat.lt_of_lt_of_le hl hb.size
  simp (disch := first | with_reducible assumption | omega) only [push_cast, x_blk, x_cd, ↓reduceIte, Nat.reduceEqDiff, List.map_cons, List.map_nil, Int.reduceEq, Int.lt_irrefl, k1.mA ty_ag_25 ty_sz_25, k2.mA ty_ag_25 ty_sz_25]
  refine call_of (ref7_Places (up ha b2) (up hb b2) fa fb pa pb na nb) ?_
  rintro v w3 ⟨K, pl, L, c, rfl, habs, hpl, hlen, hK, hR, hgood, b3⟩
  have k1 := k1.below b3 k1.lt
  have k2 := k2.below b3 k2.lt
  have bb := b2.trans (b3.mono b2.size)
  simp (disch := first | with_reducible assumption | omega) only [push_cast, x_blk, x_cd, ↓reduceIte, Nat.reduceEqDiff, List.map_cons, List.map_nil, Int.reduceEq, Int.lt_irrefl]
  refine loop_rule (fun f w' => ∃ k : Nat, k ≤ K ∧ (f 2 = .pointer (some ⟨w.heap.size, 0, none⟩) ∧ f 3 = .pointer (some ⟨w1.heap.size, 0, none⟩) ∧ f 6 = .slice L pl.length c ∧ f 7 = .int .i64 k) ∧
      (∀ (j : Nat) (p : P7), j < k → pl[j]? = some p → found2 ma mb p.abs.1 = false) ∧ Below w3.heap.size w3 w')
    (fun f _ => K - (intOf (f 7)).toNat) ⟨0, Nat.zero_le _, ⟨rfl, rfl, rfl, rfl⟩, fun j p hj => absurd hj (by omega), Below.refl _ _⟩ ?_
  rintro f w4 ⟨k, hk, fr, hnf, b4⟩ J hJ
  have bw4 := bb.trans (b4.mono bb.size)
  have hat : ∀ (j : Nat) (q : St × List Int), (bIter (step2 ma mb) (evs ma.events.toNat) (ma.starts, mb.starts) K)[j]? = some q → ∃ p, pl[j]? = some p ∧ p.abs = q := fun j q hq => by
    rw [← habs, List.getElem?_map] at hq
    cases hp : pl[j]? with
    | none => rw [hp] at hq; cases hq
    | some p => rw [hp] at hq; exact ⟨p, rfl, Option.some.inj hq⟩
  by_cases hlt : k < pl.length
  case neg =>
    simp (disch := first | with_reducible assumption | omega) only [push_cast, x_blk, x_cd, ↓reduceIte, Nat.reduceEqDiff, List.map_cons, List.map_nil, Int.reduceEq, Int.lt_irrefl, L_ref7_Without_0, fr, hlt]
    exact fin_2 (hQ _ _ ⟨none, 0, [], false, (by simp only [push_cast, ↓reduceIte, Nat.reduceEqDiff, Int.reduceEq, List.length_nil]), Ints.nil _ _ _, bw4, by simp, .inr ⟨rfl, rfl, K, by rw [← habs]; simpa using hpl, fun j q hq => by
      obtain ⟨p, hp, rfl⟩ := hat j q hq
      exact hnf j p (by
        rcases Nat.lt_or_ge j k with h1 | h1
        · exact h1
        · rw [List.getElem?_eq_none (by omega)] at hp; cases hp) hp⟩⟩)
  have hpk : pl[k]? = some (pl[k]'hlt) := List.getElem?_eq_getElem hlt
  have hmem : pl[k]'hlt ∈ pl := List.getElem_mem hlt
  generalize pl[k]'hlt = p at hpk hmem
  have gp := hgood p hmem
  have hA := hR.isSome (by omega)
  have hR4 := (hR.below b4)
  have hR4d : Recs P7.cells 3 (· < w3.heap.size) w4.drew L pl := hR4.keep fun _ _ => rfl
  have k1d := (k1.below b4 k1.lt).drew
  generalize hu : w4.drew = u at *
  have s4 : Same w4 u := hu ▸ (Same.refl w4).drew
  have b4u := b4.trans (s4.below _)
  have bwu := bw4.trans (s4.below _)
  have gpu := gp.below b4u
  have l0 := fun {K : Fr → World → Prop} {f : Fr} {d : Option Nat} {w' : World} => hR4d.ld (P := Tryd.prog) (K := K) (f := f) (d := d) (w := w') ty_ag_22 hpk (j := 0) (v := .slice p.A p.a.length p.ca) rfl
  have hgn := gp.n
  simp (disch := first | with_reducible assumption | omega) only [push_cast, x_blk, x_cd, ↓reduceIte, Nat.reduceEqDiff, List.map_cons, List.map_nil, Int.reduceEq, Int.lt_irrefl, L_ref7_Without_0, fr, hlt, hu, l0, k1d.m4 ty_ag_22]
  refine call_of (ref1_Only gpu.a.lt ((up ha bwu).ends) p.ca _ true (by omega) (by omega)) ?_
  rintro v w5 ⟨A5, c5, rfl, o5, b5⟩
  have b35 := b4u.trans (b5.mono b4u.size)
  have hR5d : Recs P7.cells 3 (· < w3.heap.size) w5.drew L pl := (hR.below b35).keep fun _ _ => rfl
  have k2d := (k2.below b35 k2.lt).drew
  generalize hu5 : w5.drew = u5 at *
  have s5 : Same w5 u5 := hu5 ▸ (Same.refl w5).drew
  have b35u := b35.trans (s5.below _)
  have bwu5 := bb.trans (b35u.mono bb.size)
  have gp5 := gp.below b35u
  have l1 := fun {K : Fr → World → Prop} {f : Fr} {d : Option Nat} {w' : World} => hR5d.ld (P := Tryd.prog) (K := K) (f := f) (d := d) (w := w') ty_ag_22 hpk (j := 1) (v := .slice p.B p.b.length p.cb) rfl
  simp (disch := first | with_reducible assumption | omega) only [push_cast, x_blk, x_cd, ↓reduceIte, Nat.reduceEqDiff, List.map_cons, List.map_nil, Int.reduceEq, Int.lt_irrefl, fr, hlt, hu5, l1, k2d.m4 ty_ag_22]
  refine call_of (ref1_Only gp5.b.lt ((up hb bwu5).ends) p.cb _ true (by omega) (by omega)) ?_
  rintro v w6 ⟨A6, c6, rfl, o6, b6⟩
  have b36 := b35u.trans (b6.mono b35u.size)
  have bw6 := bb.trans (b36.mono bb.size)
  have hR6 := hR.below b36
  have m1 := only_meet p.a ma.ends
  have m2 := only_none p.b mb.ends
  have hff : found2 ma mb p.abs.1 = (decide (MeetL p.a ma.ends) && !decide (MeetL p.b mb.ends)) := rfl
  have l2 := fun {K : Fr → World → Prop} {f : Fr} {d : Option Nat} {w' : World} => hR6.ld (P := Tryd.prog) (K := K) (f := f) (d := d) (w := w') ty_ag_22 hpk (j := 2) (v := .slice p.W p.w.length p.cw) rfl
  have next : found2 ma mb p.abs.1 = false → ∀ (j : Nat) (p' : P7), j < k + 1 → pl[j]? = some p' → found2 ma mb p'.abs.1 = false := fun h0 j p' hj hp' => by
    by_cases e : j = k
    · subst e; rw [hpk] at hp'; rw [← Option.some.inj hp']; exact h0
    · exact hnf j p' (by omega) hp'
  by_cases c1 : MeetL p.a ma.ends
  case neg =>
    rw [decide_eq_false c1] at m1 hff
    simp (disch := first | with_reducible assumption | omega) only [push_cast, x_blk, x_cd, ↓reduceIte, Nat.reduceEqDiff, List.map_cons, List.map_nil, Int.reduceEq, Int.lt_irrefl, m1, fr]
    exact hJ _ _ ⟨k + 1, by omega, (by simp only [push_cast, ↓reduceIte, Nat.reduceEqDiff, true_and, and_true, and_self, eq_self, fr]), next (by rw [hff]; rfl), b36⟩ (by simp only [push_cast, ↓reduceIte, Nat.reduceEqDiff, intOf, fr]; omega)
  rw [decide_eq_true c1] at m1 hff
  by_cases c2 : MeetL p.b mb.ends
  · rw [decide_eq_true c2] at m2 hff
    simp (disch := first | with_reducible assumption | omega) only [push_cast, x_blk, x_cd, ↓reduceIte, Nat.reduceEqDiff, List.map_cons, List.map_nil, Int.reduceEq, Int.lt_irrefl, m1, m2, fr]
    exact hJ _ _ ⟨k + 1, by omega, (by simp only [push_cast, ↓reduceIte, Nat.reduceEqDiff, true_and, and_true, and_self, eq_self, fr]), next (by rw [hff]; rfl), b36⟩ (by simp only [push_cast, ↓reduceIte, Nat.reduceEqDiff, intOf, fr]; omega)
  rw [decide_eq_false c2] at m2 hff
  have hqK : (bIter (step2 ma mb) (evs ma.events.toNat) (ma.starts, mb.starts) K)[k]? = some p.abs := by rw [← habs, List.getElem?_map, hpk]; rfl
  have hpre := bIter_prefix (step := step2 ma mb) (es := evs ma.events.toNat) (ma.starts, mb.starts) hk
  simp (disch := first | with_reducible assumption | omega) only [push_cast, x_blk, x_cd, ↓reduceIte, Nat.reduceEqDiff, List.map_cons, List.map_nil, Int.reduceEq, Int.lt_irrefl, m1, m2, fr, hlt, l2]
  refine fin_2 (hQ _ _ ⟨p.W, p.cw, p.w, true, (by simp only [push_cast, ↓reduceIte, Nat.reduceEqDiff, Int.reduceEq]), (gp.below b36).w.lt, bw6, hgn.2.2, .inl ⟨rfl, k, p.abs, ?_, by rw [hff]; rfl, rfl, fun j hj q hq => ?_⟩⟩)
  · rw [← prefix_getElem? hpre (hlen k (by omega))]; exact hqK
  · have hj2 := hlen k (by omega)
    rw [← prefix_getElem? hpre (by omega)] at hq
    obtain ⟨p', hp', rfl⟩ := hat j q hq
    exact hnf j p' hj hp'
end

section
open Go.RowKit

end
end Go.Proofs.YtcjedgiglimipaaDoor
