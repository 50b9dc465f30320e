/-
  Chapter 15: the program's most and move: by their contracts.
-/
import Derived.Test.YtcjedgiglimipaaDoorZM13
import Derived.Test.YtcjedgiglimipaaDoorZM12
namespace Go.Proofs.YtcjedgiglimipaaDoor
set_option linter.unusedSimpArgs false
set_option linter.unusedVariables false
set_option linter.unusedSectionVars false
open Go.RowKit

theorem Blk.kM0 {K : Fr → World → Prop} {u : World} {f : Fr} {d : Option Nat} {w : World} {g t : Nat} {a : PV} {p : Plt} {A : Option Addr} {free : List Int} {c gM : Nat} (h : Blk u g t (kpC a p A free c gM)) : Val1 Tryd.prog K (Instr.loadAt 25 (.pointer (some ⟨g, 0, none⟩))) u f d w = K (updO f d (a.m.val p.m)) w :=
  h.ldSub ty_ag_25 0 (vs := a.m.cells p.m) ty_sz_25 fun k v hv => by
    match k, hv with
    | 0, hv => exact hv
    | 1, hv => exact hv
    | 2, hv => exact hv
    | 3, hv => exact hv
    | 4, hv => exact hv
    | k + 5, hv => simp [MV.cells] at hv
section
variable {g : Nat} {w w' w2 : World}
/-- What lies in memory, apart from one block. -/
def OkM (g : Nat) (w : World) (b : Nat) : Prop := b < w.heap.size ∧ b ≠ g
theorem Ints.keepM {A : Option Addr} {l : List Int} (h : Ints (OkM g w) w A l) (k : KeepM g w w') : Ints (OkM g w') w' A l := h.keep' fun b hb => ⟨k.block b hb.1 hb.2, Nat.lt_of_lt_of_le hb.1 k.size, hb.2⟩
theorem Ints.mlt {A : Option Addr} {l : List Int} (h : Ints (OkM g w) w A l) : Ints (· < w.heap.size) w A l := h.mono fun _ hb => hb.1
end
def MoveRes (p : Plt) (free : List Int) (gM : Nat) (w w' : World) : Prop := (∃ φ, GOk p free φ ∧ SMap w' gM φ) ∧ KeepM gM w w'
theorem keepsKM {p : Plt} {free s : List Int} {gM : Nat} {w w' : World} {v : Value} (h : KeepsRes p free s gM w v w') : (∃ b : Bool, v = .bool b ∧ (b = true ↔ Kp p free s)) ∧ (∃ φ, GOk p free φ ∧ SMap w' gM φ) ∧ KeepM gM w w' := h
theorem Blk.ne_map {w : World} {g gM t : Nat} {cs : List Value} {φ : List Int → Option Int} (h : Blk w g t cs) (hM : SMap w gM φ) : g ≠ gM := by
  obtain ⟨kv, hkv, _⟩ := hM
  exact fun e => hkv.ne_blk h e.symm
theorem pow_le64 {k : Nat} (h : k ≤ 6) : 2 ^ k ≤ 64 := Nat.le_trans (Nat.pow_le_pow_right (by decide) h) (by decide)
set_option maxHeartbeats 1000000 in
theorem veil_most {B : Nat} {w : World} {a : PV} {p : Plt} (hBw : B ≤ w.heap.size) (ha : IsP (· < B) w a p) (hf : p.Fits) (hp : p.May) {A1 : Option Addr} {c1 : Nat} {free : List Int} (h1 : Ints (· < B) w A1 free) (n1 : free.length ≤ 17592186043904)
    {gK gM : Nat} (hBM : B ≤ gM) (hK : Blk w gK 108 (kpC a p A1 free c1 gM)) {φ : List Int → Option Int} (hφ : GOk p free φ) (hM : SMap w gM φ) {A2 : Option Addr} {c2 : Nat} {l : List Int} (h2 : Ints (OkM gM w) w A2 l) (hl : IsRow l p.m.states) :
    Cal Tryd.prog 107 [.pointer (some ⟨gK, 0, none⟩), .slice A2 l.length c2] w fun v w' => v = setV (mostL p free l) ∧ MoveRes p free gM w w' := by
  have hm := hp.1
  have hst := hp.2.1
  have n8 : p.seen.length ≤ 8 := by have := row_lenV hp.2.2.1; have := hm.2.2.2.1; omega
  have n6 : l.length ≤ 6 := by have := row_lenV (hl.more hst); omega
  have hl6 := hl.more hst
  have hdone := fun {out : List Int} (h : MostB p free l out (2 ^ l.length)) => h.done hl.strict (hl6.small (by decide)) (by omega)
  have hz64 := pow_le64 n6
  have hlM := hM.lt
  have hKM := hK.ne_map hM
  refine cal_veil_keeper_most (by simp) 1000000 fun Q hQ => ?_
  simp (disch := first | with_reducible assumption | omega) only [push_cast, x_blk, x_cd, ↓reduceIte, Nat.reduceEqDiff, List.map_cons, List.map_nil, Int.reduceEq, Int.lt_irrefl, F_veil_keeper_most]
  refine blk_of (cs := setCells (wordsOf [])) al_76 ?_
  intro w1 kR b1 z1
  simp (disch := first | with_reducible assumption | omega) only [push_cast, x_blk, x_cd, ↓reduceIte, Nat.reduceEqDiff, List.map_cons, List.map_nil, Int.reduceEq, Int.lt_irrefl]
  refine blk_of (cs := setCells (wordsOf [])) al_76 ?_
  intro w2 kO b2 z2
  have b02 := b1.trans (b2.mono b1.size)
  replace kR := kR.below b2 kR.lt
  have k02 : KeepM gM w w2 := .of b02
  have hM2 := hM.below b02 hM.lt
  obtain ⟨z, hz⟩ : ∃ z, 2 ^ l.length = z := ⟨_, rfl⟩
  rw [hz] at hdone hz64
  have hsh := fun {K : Fr → World → Prop} {u w : World} {f : Fr} {d : Option Nat} {t : TypeId} {xo yo : Operand} => shl_i64 (P := Tryd.prog) (K := K) (u := u) (w := w) (f := f) (d := d) (t := t) (xo := xo) (yo := yo) hz (by omega)
  have hz1 : 1 ≤ z := by rw [← hz]; exact Nat.one_le_two_pow
  simp (disch := first | with_reducible assumption | omega) only [push_cast, x_blk, x_cd, ↓reduceIte, Nat.reduceEqDiff, List.map_cons, List.map_nil, Int.reduceEq, Int.lt_irrefl]
  refine loop_rule (fun f w' => ∃ (n : Nat) (out : List Int) (χ : List Int → Option Int), 1 ≤ n ∧ n ≤ z ∧ MostB p free l out n ∧ (f 0 = .pointer (some ⟨gK, 0, none⟩) ∧ f 1 = .slice A2 l.length c2 ∧ f 4 = .pointer (some ⟨w.heap.size, 0, none⟩) ∧ f 5 = .pointer (some ⟨w1.heap.size, 0, none⟩) ∧ f 6 = .int .i64 n) ∧
      Blk w' w.heap.size 76 (setCells (wordsOf [])) ∧ Blk w' w1.heap.size 76 (setCells (wordsOf out)) ∧ GOk p free χ ∧ SMap w' gM χ ∧ KeepM gM w w')
    (fun f _ => z - (intOf (f 6)).toNat) ⟨1, [], φ, by omega, by omega, MostB.start, ⟨rfl, rfl, rfl, rfl, rfl⟩, kR, kO, hφ, hM2, k02⟩ ?_
  clear kR kO hM2 k02 b02 b2 b1
  rintro f w3 ⟨n, out, χ, hn1, hnz, hO, fr, kR, kO, hχ, mM, k3⟩ J hJ
  have hz3 := k3.size
  by_cases hlt : n < z
  case neg =>
    obtain rfl : n = z := by omega
    have e := hdone hO
    simp (disch := first | with_reducible assumption | omega) only [push_cast, x_blk, x_cd, ↓reduceIte, Nat.reduceEqDiff, List.map_cons, List.map_nil, Int.reduceEq, Int.lt_irrefl, L_veil_keeper_most_1, fr, hsh, Nat.lt_irrefl, kO.setA (wordsOf_words _) ty_ag_76 ty_sz_76]
    refine sto_blk kR (cs := setCells (wordsOf out)) (e4_set _) (by rw [setCells_4, setCells_4]) (setCells_one _) ?_
    intro w4 k4 g4 z4
    simp (disch := first | with_reducible assumption | omega) only [push_cast, x_blk, x_cd, ↓reduceIte, Nat.reduceEqDiff, List.map_cons, List.map_nil, Int.reduceEq, Int.lt_irrefl]
    exact fin_cell k4 ty_ag_76 (e4_set _) (by simp only [push_cast, ↓reduceIte, Nat.reduceEqDiff, true_and, and_true, and_self, eq_self, fr]) (hQ _ _ ⟨e, ⟨χ, hχ, mM.grown g4.by_ (by simp; omega)⟩, k3.grew g4 (by intro a ha; injection ha with ha; subst ha; exact Nat.le_refl _)⟩)
  have hmu : (intOf (f 6)).toNat = n := by rw [fr.2.2.2.2]; simp [intOf]
  rw [hmu] at hJ
  simp (disch := first | with_reducible assumption | omega) only [push_cast, x_blk, x_cd, ↓reduceIte, Nat.reduceEqDiff, List.map_cons, List.map_nil, Int.reduceEq, Int.lt_irrefl, L_veil_keeper_most_1, fr, hsh, hlt]
  refine blk_of (cs := setCells (wordsOf [])) al_76 ?_
  intro w4 kS b4 z4
  have lR := kR.lt
  have lO := kO.lt
  replace kR := kR.below b4 kR.lt
  replace kO := kO.below b4 kO.lt
  replace mM := mM.below b4 mM.lt
  have k4 := k3.below b4 (Nat.le_refl _)
  simp (disch := first | with_reducible assumption | omega) only [push_cast, x_blk, x_cd, ↓reduceIte, Nat.reduceEqDiff, List.map_cons, List.map_nil, Int.reduceEq, Int.lt_irrefl, fr]
  refine loop_rule (fun f' w' => ∃ i : Nat, i ≤ l.length ∧ (f' 0 = .pointer (some ⟨gK, 0, none⟩) ∧ f' 1 = .slice A2 l.length c2 ∧ f' 4 = .pointer (some ⟨w.heap.size, 0, none⟩) ∧ f' 5 = .pointer (some ⟨w1.heap.size, 0, none⟩) ∧ f' 6 = .int .i64 n ∧ f' 7 = .pointer (some ⟨w3.heap.size, 0, none⟩) ∧ f' 17 = .slice A2 l.length c2 ∧ f' 18 = .int .i64 l.length ∧ f' 19 = .int .i64 i) ∧
      Blk w' w3.heap.size 76 (setCells (wordsOf (subK l n i))) ∧ Blk w' w.heap.size 76 (setCells (wordsOf [])) ∧ Blk w' w1.heap.size 76 (setCells (wordsOf out)) ∧ SMap w' gM χ ∧ KeepM gM w w')
    (fun f' _ => l.length - (intOf (f' 19)).toNat) ⟨0, Nat.zero_le _, (by simp only [push_cast, ↓reduceIte, Nat.reduceEqDiff, true_and, and_true, and_self, eq_self, fr]), kS, kR, kO, mM, k4⟩ ?_
  clear kS kR kO mM k4 k3 fr b4
  rintro f w5 ⟨i, hi, fr, kS, kR, kO, mM, k5⟩ J2 hJ2
  have hz5 := k5.size
  by_cases hil : i < l.length
  case pos =>
    have hI := (h2.keepM k5).mlt
    have sI := hI.isSome (by omega)
    have hld := fun {K : Fr → World → Prop} {f : Fr} {d : Option Nat} {w : World} => hI.ld (P := Tryd.prog) (K := K) (f := f) (d := d) (w := w) ty_ag_3 i hil
    have hx := hl6.mem (getD_mem l 0 i hil)
    have hsu := subK_succ l n i
    have hba := bit_and1 n i
    obtain ⟨y, hy⟩ : ∃ y, n >>> i = y := ⟨_, rfl⟩
    have hyn : y ≤ n := by rw [← hy, Nat.shiftRight_eq_div_pow]; exact Nat.div_le_self _ _
    rw [hy] at hba
    have hsr := fun {K : Fr → World → Prop} {u w : World} {f : Fr} {d : Option Nat} {t : TypeId} {xo yo : Operand} => shr_i64 (P := Tryd.prog) (K := K) (u := u) (w := w) (f := f) (d := d) (t := t) (xo := xo) (yo := yo) hy (by omega)
    generalize l.getD i 0 = x at *
    have hmu2 : (intOf (f 19)).toNat = i := by rw [fr.2.2.2.2.2.2.2.2]; simp [intOf]
    by_cases hb : n.testBit i = true
    · rw [if_pos hb] at hsu hba
      have han := fun {K : Fr → World → Prop} {u w : World} {f : Fr} {d : Option Nat} {t : TypeId} {xo yo : Operand} => and1_i64 (P := Tryd.prog) (K := K) (u := u) (w := w) (f := f) (d := d) (t := t) (xo := xo) (yo := yo) hba (by omega)
      have e1 : ((1 : Nat) : Int) = 1 := rfl
      rw [e1] at han
      simp (disch := first | with_reducible assumption | omega) only [push_cast, x_blk, x_cd, ↓reduceIte, Nat.reduceEqDiff, List.map_cons, List.map_nil, Int.reduceEq, Int.lt_irrefl, L_veil_keeper_most_0, fr, hil, sI, hld, hsr, han, eq_self]
      refine call_of (set_Add' x (by omega) (by omega) kS) ?_
      rintro v w6 ⟨rfl, k6, g6, z6⟩
      simp (disch := first | with_reducible assumption | omega) only [push_cast, x_blk, x_cd, ↓reduceIte, Nat.reduceEqDiff, List.map_cons, List.map_nil, Int.reduceEq, Int.lt_irrefl, fr]
      exact hJ2 _ _ ⟨i + 1, by omega, (by simp only [push_cast, ↓reduceIte, Nat.reduceEqDiff, true_and, and_true, and_self, eq_self, fr]), by rw [hsu]; exact k6, kR.grown g6.by_ (by simp; omega), kO.grown g6.by_ (by simp; omega), mM.grown g6.by_ (by simp; omega), k5.grew g6 (by intro a ha; injection ha with ha; subst ha; show w.heap.size ≤ w3.heap.size; omega)⟩ (by rw [hmu2]; simp only [push_cast, ↓reduceIte, Nat.reduceEqDiff, intOf, fr]; omega)
    · rw [if_neg hb] at hsu hba
      have han := fun {K : Fr → World → Prop} {u w : World} {f : Fr} {d : Option Nat} {t : TypeId} {xo yo : Operand} => and1_i64 (P := Tryd.prog) (K := K) (u := u) (w := w) (f := f) (d := d) (t := t) (xo := xo) (yo := yo) hba (by omega)
      have e1 : ((0 : Nat) : Int) = 0 := rfl
      rw [e1] at han
      simp (disch := first | with_reducible assumption | omega) only [push_cast, x_blk, x_cd, ↓reduceIte, Nat.reduceEqDiff, List.map_cons, List.map_nil, Int.reduceEq, Int.lt_irrefl, L_veil_keeper_most_0, fr, hil, sI, hld, hsr, han]
      exact hJ2 _ _ ⟨i + 1, by omega, (by simp only [push_cast, ↓reduceIte, Nat.reduceEqDiff, true_and, and_true, and_self, eq_self, fr]), by rw [hsu]; exact kS, kR, kO, mM, k5⟩ (by rw [hmu2]; simp only [push_cast, ↓reduceIte, Nat.reduceEqDiff, intOf, fr]; omega)
  obtain rfl : i = l.length := by omega
  have hsr : IsRow (subK l n l.length) p.m.states := IsRow.of_strict (subK_strict hl.strict (Nat.le_refl _)) fun x hx => by have := hl.mem (subK_in (Nat.le_refl _) x hx); omega
  generalize hS : subK l n l.length = S at *
  have bd : Below w5.heap.size w5 w5.drew := (Same.refl w5).drew.below _
  have k6 := k5.below bd (Nat.le_refl _)
  have kK6 := hK.keepM k6 hKM
  have kS6 := kS.below bd kS.lt
  have kR6 := kR.below bd kR.lt
  have kO6 := kO.below bd kO.lt
  have mM6 := mM.below bd mM.lt
  have lS6 := kS6.lt
  generalize hu6 : w5.drew = u6 at *
  have hz6 := k6.size
  have ha6 := ha.keepM k6 hBM hBw
  have hw6 : B ≤ u6.heap.size := by omega
  simp (disch := first | with_reducible assumption | omega) only [push_cast, x_blk, x_cd, ↓reduceIte, Nat.reduceEqDiff, List.map_cons, List.map_nil, Int.reduceEq, Int.lt_irrefl, L_veil_keeper_most_0, fr, Nat.lt_irrefl, hu6, kK6.kP, kK6.kM0, kS6.setA (wordsOf_words _) ty_ag_76 ty_sz_76, kK6.kE]
  refine call_of (machine_Wide ((ha6.mono fun b hb => Nat.lt_of_lt_of_le hb hw6).m) hm (hsr.small (by omega)) ((ha6.mono fun b hb => Nat.lt_of_lt_of_le hb hw6).seen) hf.lenP) ?_
  rintro v w7 ⟨rfl, b7⟩
  have k7 := k6.below b7 (Nat.le_refl _)
  have kK7 := hK.keepM k7 hKM
  have kS7 := kS6.below b7 lS6
  have kR7 := kR6.below b7 kR6.lt
  have kO7 := kO6.below b7 kO6.lt
  have mM7 := mM6.below b7 mM6.lt
  have hz7 := k7.size
  have ha7 := (ha.keepM k7 hBM hBw).mono fun b hb => (Nat.lt_of_lt_of_le hb (by omega) : b < w7.heap.size)
  have h17 := (h1.keepB k7 hBM hBw).mono fun b hb => (Nat.lt_of_lt_of_le hb (by omega) : b < w7.heap.size)
  simp (disch := first | with_reducible assumption | omega) only [push_cast, x_blk, x_cd, ↓reduceIte, Nat.reduceEqDiff, List.map_cons, List.map_nil, Int.reduceEq, Int.lt_irrefl]
  refine ⟨b7, ?_⟩
  refine call_of (veil_keeps ha7 hf hp h17 n1 kK7 hχ mM7 (wideL_row hm (row_range hsr))) ?_
  intro v w8 h8
  obtain ⟨⟨b, rfl, hb⟩, ⟨χ2, hχ2, mM8⟩, k78⟩ := keepsKM h8
  have k8 := k7.trans k78
  have kS8 := kS7.keepM k78 (kS7.ne_map mM7)
  have kR8 := kR7.keepM k78 (kR7.ne_map mM7)
  have kO8 := kO7.keepM k78 (kO7.ne_map mM7)
  cases b with
  | false =>
    have hn : ¬ Kp p free (wideL p.m p.seen S) := fun hh => by have := hb.2 hh; cases this
    have hO2 := hO.skip (by rw [hS]; exact hn)
    simp (disch := first | with_reducible assumption | omega) only [push_cast, x_blk, x_cd, ↓reduceIte, Nat.reduceEqDiff, List.map_cons, List.map_nil, Int.reduceEq, Int.lt_irrefl, fr]
    exact hJ _ _ ⟨n + 1, out, χ2, by omega, by omega, hO2, (by simp only [push_cast, ↓reduceIte, Nat.reduceEqDiff, true_and, and_true, and_self, eq_self, fr]), kR8, kO8, hχ2, mM8, k8⟩ (by simp only [push_cast, ↓reduceIte, Nat.reduceEqDiff, intOf, fr]; omega)
  | true =>
    have hy := hb.1 rfl
    have hO2 := hO.join hn1 (by rw [hS]; exact hy)
    rw [hS] at hO2
    simp (disch := first | with_reducible assumption | omega) only [push_cast, x_blk, x_cd, ↓reduceIte, Nat.reduceEqDiff, List.map_cons, List.map_nil, Int.reduceEq, Int.lt_irrefl, fr, kS8.setA (wordsOf_words _) ty_ag_76 ty_sz_76]
    refine call_of (set_Join kO8) ?_
    rintro v w9 ⟨rfl, k9, g9⟩
    simp (disch := first | with_reducible assumption | omega) only [push_cast, x_blk, x_cd, ↓reduceIte, Nat.reduceEqDiff, List.map_cons, List.map_nil, Int.reduceEq, Int.lt_irrefl, fr]
    exact hJ _ _ ⟨n + 1, _, χ2, by omega, by omega, hO2, (by simp only [push_cast, ↓reduceIte, Nat.reduceEqDiff, true_and, and_true, and_self, eq_self, fr]), kR8.grown g9.by_ (by simp; omega), k9, hχ2, mM8.grown g9.by_ (by simp; omega), k8.grew g9 (by intro a ha; injection ha with ha; subst ha; show w.heap.size ≤ w1.heap.size; omega)⟩ (by simp only [push_cast, ↓reduceIte, Nat.reduceEqDiff, intOf, fr]; omega)
end Go.Proofs.YtcjedgiglimipaaDoor

/-
  Chapter 15: the program's move: by its contract.
-/
namespace Go.Proofs.YtcjedgiglimipaaDoor
set_option linter.unusedSimpArgs false
set_option linter.unusedVariables false
set_option linter.unusedSectionVars false
open Go.RowKit

theorem fin_cct {P : Program} {Rc : Value → World → Prop} {a t t' g b q q' h s : Nat} {cs ds : List Value} {f : Fr} {w : World} (hk : Blk w g t' cs) (ht : tyAgg P t = some true) (hs : tySize P t = some cs.length)
    (hk2 : Blk w h q' ds) (ht2 : tyAgg P q = some true) (hs2 : tySize P q = some ds.length)
    (hf : f a = .pointer (some ⟨g, 0, none⟩)) (hf2 : f b = .pointer (some ⟨h, 0, none⟩)) (hr : Rc (.tuple #[.agg cs.toArray, .agg ds.toArray, f s]) w) : FinX P #[.cell a t, .cell b q, .tmp s] Rc f w := by
  refine ⟨_, fun fn tmps hr hf' => ?_, hr⟩
  have e : tmps.getD a undef = .pointer (some ⟨g, 0, none⟩) := by rw [hf', hf]
  have e2 : tmps[a]?.getD undef = .pointer (some ⟨g, 0, none⟩) := by simpa using e
  have e' : tmps.getD b undef = .pointer (some ⟨h, 0, none⟩) := by rw [hf', hf2]
  have e2' : tmps[b]?.getD undef = .pointer (some ⟨h, 0, none⟩) := by simpa using e'
  have e3 : tmps[s]?.getD undef = f s := by simpa using hf' s
  unfold tyAgg at ht ht2
  unfold tySize at hs hs2
  cases hu : P.underlying t with
  | none => simp [hu] at ht
  | some de =>
    cases hu2 : P.underlying q with
    | none => simp [hu2] at ht2
    | some de2 =>
    cases hi : P.info? t with
    | none => simp [hi] at hs
    | some ie =>
      cases hi2 : P.info? q with
      | none => simp [hi2] at hs2
      | some ie2 =>
      simp only [hi, Option.map_some, Option.some.injEq] at hs
      simp only [hi2, Option.map_some, Option.some.injEq] at hs2
      simp only [hu, Option.map_some, Option.some.injEq] at ht
      simp only [hu2, Option.map_some, Option.some.injEq] at ht2
      have hr' := run_loadCells_list (P := P) w ⟨g, 0, none⟩ cs (fun j v hv => by rw [addr_add, Nat.zero_add, hk.cell, hv])
      have hr2 := run_loadCells_list (P := P) w ⟨h, 0, none⟩ ds (fun j v hv => by rw [addr_add, Nat.zero_add, hk2.cell, hv])
      cases de <;> simp at ht <;> cases de2 <;> simp at ht2 <;> simp [results, hr, e2, e2', e3, asAddr, loadVar, isAgg, run_underlying hu, run_underlying hu2, sizeOf, typeInfo, hi, hi2, hs, hs2, hr', hr2]
/-- A move, as it lies in memory. -/
structure MvH where
  n : Int
  e : Int
  A : Option Addr
  c : Nat
  st : List Int
  to_ : Int
def MvH.cells (x : MvH) : List Value := [.int .i64 x.n, .int .i64 x.e, .slice x.A x.st.length x.c, .int .i64 x.to_]
theorem mvEnc : Enc MvH.cells 4 := ⟨fun _ => rfl, fun x u hu => by
  unfold MvH.cells at hu
  simp only [List.mem_cons, List.not_mem_nil, or_false] at hu
  rcases hu with rfl | rfl | rfl | rfl <;> rfl⟩
theorem mv_one (x : MvH) : (MvH.cells x).all (·.oneCell') = true := List.all_eq_true.2 (mvEnc.one x)
theorem e4_mv (x : MvH) : tySize Tryd.prog 56 = some (MvH.cells x).length := ty_sz_56
theorem blt_mv : builtPl Tryd.prog 56 = some ([(0, 1), (1, 1), (2, 1), (3, 1)], [.int .i64 0, .int .i64 0, .slice none 0 0, .int .i64 0]) := by kernel_rfl
theorem bl_mv1 {K : Fr → World → Prop} {u : World} {f : Fr} {d : Option Nat} {w : World} (e : Int) : Val1 Tryd.prog K (Instr.build 56 #[(1, .int .i64 e)]) u f d w = K (updO f d (.agg (MvH.cells ⟨0, e, none, 0, [], 0⟩).toArray)) w := by
  refine bld_of ?_
  rw [built_of blt_mv]
  rw [fill_cons (off := 1) (size := 1) rfl rfl (by decide), fill_nil]
  simp [putL, Value.cells, MvH.cells]
section
variable {K : Fr → World → Prop} {u : World} {f : Fr} {d : Option Nat} {w : World} {g t ty : Nat} {x : MvH}
theorem Blk.v0 (h : Blk u g t x.cells) (ht : tyAgg Tryd.prog ty = some false) : Val1 Tryd.prog K (Instr.loadAt ty (.pointer (some ⟨g, 0, none⟩))) u f d w = K (updO f d (.int .i64 x.n)) w := h.ld ht 0 (by simp [MvH.cells])
theorem Blk.v1 (h : Blk u g t x.cells) (ht : tyAgg Tryd.prog ty = some false) : Val1 Tryd.prog K (Instr.loadAt ty (.pointer (some ⟨g, 1, none⟩))) u f d w = K (updO f d (.int .i64 x.e)) w := h.ld ht 1 (by simp [MvH.cells])
theorem Blk.v2 (h : Blk u g t x.cells) (ht : tyAgg Tryd.prog ty = some false) : Val1 Tryd.prog K (Instr.loadAt ty (.pointer (some ⟨g, 2, none⟩))) u f d w = K (updO f d (.slice x.A x.st.length x.c)) w := h.ld ht 2 (by simp [MvH.cells])
theorem Blk.v3 (h : Blk u g t x.cells) (ht : tyAgg Tryd.prog ty = some false) : Val1 Tryd.prog K (Instr.loadAt ty (.pointer (some ⟨g, 3, none⟩))) u f d w = K (updO f d (.int .i64 x.to_)) w := h.ld ht 3 (by simp [MvH.cells])
theorem Blk.vA (h : Blk u g t x.cells) : Val1 Tryd.prog K (Instr.loadAt 56 (.pointer (some ⟨g, 0, none⟩))) u f d w = K (updO f d (.agg x.cells.toArray)) w := h.ldAll ty_ag_56 (e4_mv x)
end
theorem Blk.kAr {K : Fr → World → Prop} {u : World} {f : Fr} {d : Option Nat} {w : World} {g t : Nat} {a : PV} {p : Plt} {A : Option Addr} {free : List Int} {c gM : Nat} (h : Blk u g t (kpC a p A free c gM)) : Val1 Tryd.prog K (Instr.loadAt 23 (.pointer (some ⟨g, 3, none⟩))) u f d w = K (updO f d (.slice a.m.Aa p.m.arrows.length a.m.ca)) w := h.ld ty_ag_23 3 (by simp)
theorem Tab.keepM {w w' : World} {gM : Nat} {φ : List Int → Option Int} (h : Tab w) (hM : SMap w gM φ) (k : KeepM gM w w') : Tab w' := by
  have hne : 0 ≠ gM := fun e => by
    obtain ⟨kv, ⟨es, cl, hh, _⟩, _⟩ := hM
    have h0 := h.cell 0 (by decide)
    unfold World.cell? at h0
    rw [e] at h0
    simp only [hh] at h0
    cases h0
  exact ⟨fun i hi => (World.cell?_of_block (k.block _ h.lt hne)).trans (h.cell i hi)⟩
theorem OwnI.okM {B e c gM : Nat} {w : World} {A : Option Addr} {l : List Int} (h : OwnI B e w A c l) (hB : gM < B) : Ints (OkM gM w) w A l := (OwnI.ints h).mono fun b hb => ⟨h.ltB hb.2.symm, by have := hb.1; omega⟩
theorem Own.keepM {B e sz c n gM : Nat} {w w' : World} {A : Option Addr} {xs : List Value} (h : Own B e sz w A c n xs) (hB : gM < B) (k : KeepM gM w w') : Own B e sz w' A c n xs :=
  h.keep fun g hg => k.block g (h.ltB hg.symm) (by
    cases A with
    | none => cases hg
    | some a =>
      injection hg with hg
      have := h.geB a rfl
      simp only at hg
      omega)
set_option maxHeartbeats 2000000 in
theorem veil_move {B : Nat} {w : World} {a : PV} {p : Plt} (hBw : B ≤ w.heap.size) (ha : IsP (· < B) w a p) (hf : p.Fits) (hp : p.May) (hpl : PlainM p.m) (hT : Tab w) {A1 : Option Addr} {c1 : Nat} {free : List Int} (h1 : Ints (· < B) w A1 free) (n1 : free.length ≤ 17592186043904)
    {gK gM : Nat} (hBM : B ≤ gM) (hK : Blk w gK 108 (kpC a p A1 free c1 gM)) {φ : List Int → Option Int} (hφ : GOk p free φ) (hM : SMap w gM φ) {s : List Int} (hs : IsRow s p.m.states) (e : Int) :
    Cal Tryd.prog 73 [.pointer (some ⟨gK, 0, none⟩), setV s, .int .i64 e] w fun v w' => ∃ A c, v = .tuple #[.agg (MvH.cells ⟨0, e, A, c, stayL p.m (toL p free s e) s e, 0⟩).toArray, setV (wideL p.m p.seen (toL p free s e)), .bool (decide (0 < (stayL p.m (toL p free s e) s e).length))] ∧
      OwnI w.heap.size 3 w' A c (stayL p.m (toL p free s e) s e) ∧ MoveRes p free gM w w' ∧ Tab w' := by
  have hm := hp.1
  have hst := hp.2.1
  have hKM := hK.ne_map hM
  have hlM := hM.lt
  have rS := stepL_row hm s e
  have nA := hm.2.2.2.2.1
  refine cal_veil_keeper_move (by simp) 1000000 fun Q hQ => ?_
  simp (disch := first | with_reducible assumption | omega) only [push_cast, x_blk, x_cd, ↓reduceIte, Nat.reduceEqDiff, List.map_cons, List.map_nil, Int.reduceEq, Int.lt_irrefl, F_veil_keeper_move]
  refine blk_of (box_agg _ (setCells (wordsOf s))) ?_
  intro w1 kS b1 z1
  simp (disch := first | with_reducible assumption | omega) only [push_cast, x_blk, x_cd, ↓reduceIte, Nat.reduceEqDiff, List.map_cons, List.map_nil, Int.reduceEq, Int.lt_irrefl]
  refine blk_of (cs := MvH.cells ⟨0, 0, none, 0, [], 0⟩) al_56 ?_
  intro w2 k6 b2 z2
  have b02 := b1.trans (b2.mono b1.size)
  replace kS := kS.below b2 kS.lt
  simp (disch := first | with_reducible assumption | omega) only [push_cast, x_blk, x_cd, ↓reduceIte, Nat.reduceEqDiff, List.map_cons, List.map_nil, Int.reduceEq, Int.lt_irrefl]
  refine blk_of (cs := setCells (wordsOf [])) al_76 ?_
  intro w3 k7 b3 z3
  have b03 := b02.trans (b3.mono b02.size)
  replace kS := kS.below b3 kS.lt
  replace k6 := k6.below b3 k6.lt
  have bd : Below w3.heap.size w3 w3.drew := (Same.refl w3).drew.below _
  have b04 := b03.trans (bd.mono b03.size)
  replace kS := kS.below bd kS.lt
  replace k6 := k6.below bd k6.lt
  replace k7 := k7.below bd k7.lt
  have hTu := hT.on b04
  generalize hu4 : w3.drew = u4 at *
  have hz4 := b04.size
  have hzz := bd.size
  have kK4 := hK.below b04 hK.lt
  have mM4 := hM.below b04 hM.lt
  have ha4 := ha.keepM (.of b04) hBM hBw
  have ha4' := ha4.mono fun b hb => (Nat.lt_of_lt_of_le hb (by omega) : b < u4.heap.size)
  have hK4 : KeepM gM w u4 := .of b04
  have l7 := k7.lt
  simp (disch := first | with_reducible assumption | omega) only [push_cast, x_blk, x_cd, ↓reduceIte, Nat.reduceEqDiff, List.map_cons, List.map_nil, Int.reduceEq, Int.lt_irrefl, hu4, kK4.kM0, kS.setA (wordsOf_words _) ty_ag_76 ty_sz_76]
  refine cutT (fun f' w' => ∃ g : Nat, (f' 0 = .pointer (some ⟨gK, 0, none⟩) ∧ f' 2 = .int .i64 e ∧ f' 4 = .pointer (some ⟨w.heap.size, 0, none⟩) ∧ f' 6 = .pointer (some ⟨w1.heap.size, 0, none⟩) ∧ f' 7 = .pointer (some ⟨w2.heap.size, 0, none⟩) ∧ f' 8 = .bool false ∧ f' 9 = .pointer (some ⟨g, 0, none⟩)) ∧
      Blk w' g 76 (setCells (wordsOf (stepL p.m s e))) ∧ u4.heap.size ≤ g ∧ Below u4.heap.size u4 w') 20000 40000 (by decide) ?_ ?_
  · intro E hE
    have fr := True.intro
    rw [x_t_two]
    refine ⟨?_, ?_⟩
    · simp (disch := first | with_reducible assumption | omega) only [push_cast, x_blk, x_cd, ↓reduceIte, Nat.reduceEqDiff, List.map_cons, List.map_nil, Int.reduceEq, Int.lt_irrefl]
      refine call_of (machine_Step ha4'.m hm s e) ?_
      rintro v w12 ⟨rfl, b12⟩
      simp (disch := first | with_reducible assumption | omega) only [push_cast, x_blk, x_cd, ↓reduceIte, Nat.reduceEqDiff, List.map_cons, List.map_nil, Int.reduceEq, Int.lt_irrefl]
      refine ⟨b12, ?_⟩
      refine blk_of (cs := setCells (wordsOf [])) al_76 ?_
      intro w13 k13 b13 z13
      have b13' := b12.trans (b13.mono b12.size)
      simp (disch := first | with_reducible assumption | omega) only [push_cast, x_blk, x_cd, ↓reduceIte, Nat.reduceEqDiff, List.map_cons, List.map_nil, Int.reduceEq, Int.lt_irrefl]
      refine ⟨b13', ?_⟩
      refine sto_blk k13 (cs := setCells (wordsOf (stepL p.m s e))) (e4_set _) (by rw [setCells_4, setCells_4]) (setCells_one _) ?_
      intro w14 k14 g14 z14
      simp (disch := first | with_reducible assumption | omega) only [push_cast, x_blk, x_cd, ↓reduceIte, Nat.reduceEqDiff, List.map_cons, List.map_nil, Int.reduceEq, Int.lt_irrefl]
      exact hE _ _ ⟨_, (by simp only [push_cast, ↓reduceIte, Nat.reduceEqDiff, true_and, and_true, and_self, eq_self, fr]), k14, b12.size, g14.below b13' b13'.size (by intro a ha; injection ha with ha; subst ha; exact b12.size)⟩
    · simp (disch := first | with_reducible assumption | omega) only [push_cast, x_blk, x_cd, ↓reduceIte, Nat.reduceEqDiff, List.map_cons, List.map_nil, Int.reduceEq, Int.lt_irrefl]
      refine blk_of (cs := setCells (wordsOf [])) al_76 ?_
      intro w13 k13 b13 z13
      simp (disch := first | with_reducible assumption | omega) only [push_cast, x_blk, x_cd, ↓reduceIte, Nat.reduceEqDiff, List.map_cons, List.map_nil, Int.reduceEq, Int.lt_irrefl]
      refine ⟨b13, ?_⟩
      refine call_of (machine_Step (ha4'.m.up b13) hm s e) ?_
      rintro v w12 ⟨rfl, b12⟩
      have b12' := b13.trans (b12.mono b13.size)
      replace k13 := k13.below b12 k13.lt
      simp (disch := first | with_reducible assumption | omega) only [push_cast, x_blk, x_cd, ↓reduceIte, Nat.reduceEqDiff, List.map_cons, List.map_nil, Int.reduceEq, Int.lt_irrefl]
      refine ⟨b12', ?_⟩
      refine sto_blk k13 (cs := setCells (wordsOf (stepL p.m s e))) (e4_set _) (by rw [setCells_4, setCells_4]) (setCells_one _) ?_
      intro w14 k14 g14 z14
      simp (disch := first | with_reducible assumption | omega) only [push_cast, x_blk, x_cd, ↓reduceIte, Nat.reduceEqDiff, List.map_cons, List.map_nil, Int.reduceEq, Int.lt_irrefl]
      exact hE _ _ ⟨_, (by simp only [push_cast, ↓reduceIte, Nat.reduceEqDiff, true_and, and_true, and_self, eq_self, fr]), k14, Nat.le_refl _, g14.below b12' b12'.size (by intro a ha; injection ha with ha; subst ha; exact Nat.le_refl _)⟩
  rintro f w5 ⟨g9, fr, k9, hg9, b5⟩
  replace kS := kS.below b5 kS.lt
  replace k6 := k6.below b5 k6.lt
  replace k7 := k7.below b5 k7.lt
  have hK5 := hK4.below b5 (Nat.le_refl _)
  have hT5 := hTu.on b5
  have kK5 := hK.keepM hK5 hKM
  have mM5 := mM4.below b5 mM4.lt
  have hz5 := hK5.size
  have h15 := (h1.keepB hK5 hBM hBw).mono fun b hb => (Nat.lt_of_lt_of_le hb (by omega) : b < w5.heap.size)
  have hg95 := k9.lt
  clear mM4 kK4 ha4 ha4' hTu b5 hK4
  rw [x_sq]
  refine cut (fun f' w' => ∃ (χ : List Int → Option Int), (f' 0 = .pointer (some ⟨gK, 0, none⟩) ∧ f' 2 = .int .i64 e ∧ f' 4 = .pointer (some ⟨w.heap.size, 0, none⟩) ∧ f' 6 = .pointer (some ⟨w1.heap.size, 0, none⟩) ∧ f' 7 = .pointer (some ⟨w2.heap.size, 0, none⟩) ∧ f' 8 = .bool false ∧ f' 9 = .pointer (some ⟨g9, 0, none⟩)) ∧
      Blk w' w.heap.size 76 (setCells (wordsOf s)) ∧ Blk w' w1.heap.size 56 (MvH.cells ⟨0, 0, none, 0, [], 0⟩) ∧ Blk w' w2.heap.size 76 (setCells (wordsOf [])) ∧ Blk w' g9 76 (setCells (wordsOf (toL p free s e))) ∧
      GOk p free χ ∧ SMap w' gM χ ∧ KeepM gM w w') 10000 29000 (by decide) ?_ ?_
  · intro E hE
    simp (disch := first | with_reducible assumption | omega) only [push_cast, x_blk, x_cd, ↓reduceIte, Nat.reduceEqDiff, List.map_cons, List.map_nil, Int.reduceEq, Int.lt_irrefl, fr, kK5.kF]
    refine call_of (row_Has h15 c1 e (by omega)) ?_
    rintro v w6 ⟨rfl, s6⟩
    have b6 := s6.below w5.heap.size
    have kK6 := kK5.below b6 kK5.lt
    replace kS := kS.below b6 kS.lt
    replace k6 := k6.below b6 k6.lt
    replace k7 := k7.below b6 k7.lt
    replace k9 := k9.below b6 k9.lt
    have mM6 := mM5.below b6 mM5.lt
    have hT6 := hT5.on b6
    have k56 : KeepM gM w5 w6 := .of b6
    have hz6 := b6.size
    by_cases q : e ∈ free
    · have hTe : mostL p free (stepL p.m s e) = toL p free s e := by unfold toL; rw [if_pos q]
      simp (disch := first | with_reducible assumption | omega) only [push_cast, x_blk, x_cd, ↓reduceIte, Nat.reduceEqDiff, List.map_cons, List.map_nil, Int.reduceEq, Int.lt_irrefl, fr, decide_eq_true q, k9.setA (wordsOf_words _) ty_ag_76 ty_sz_76]
      refine call_of (set_Row' rS.strict (rS.small (by omega)) hT6) ?_
      rintro v w7 ⟨A7, c7, rfl, o7, b7⟩
      have k57 := k56.below b7 (Nat.le_refl _)
      have hK7 := hK5.trans k57
      have hz7 := b7.size
      simp (disch := first | with_reducible assumption | omega) only [push_cast, x_blk, x_cd, ↓reduceIte, Nat.reduceEqDiff, List.map_cons, List.map_nil, Int.reduceEq, Int.lt_irrefl, fr]
      refine call_of (veil_most (B := B) (by omega) (ha.keepM hK7 hBM hBw) hf hp (h1.keepB hK7 hBM hBw) n1 hBM (kK6.below b7 kK6.lt) hφ (mM6.below b7 mM6.lt) (o7.okM (by omega)) rS) ?_
      rintro v w8 ⟨rfl, ⟨χ, hχ, mM8⟩, k78⟩
      have mM7 := mM6.below b7 mM6.lt
      have k58 := k57.trans k78
      have kk : ∀ {x t : Nat} {cs : List Value}, Blk w6 x t cs → Blk w8 x t cs := fun h => (h.below b7 h.lt).keepM k78 ((h.below b7 h.lt).ne_map mM7)
      have hT8 := (hT6.on b7).keepM mM7 k78
      rw [hTe]
      simp (disch := first | with_reducible assumption | omega) only [push_cast, x_blk, x_cd, ↓reduceIte, Nat.reduceEqDiff, List.map_cons, List.map_nil, Int.reduceEq, Int.lt_irrefl, fr]
      refine sto_blk (kk k9) (cs := setCells (wordsOf (toL p free s e))) (e4_set _) (by rw [setCells_4, setCells_4]) (setCells_one _) ?_
      intro w9' k9' g9' z9'
      have hne9 : g9 ≠ gM := (kk k9).ne_map mM8
      simp (disch := first | with_reducible assumption | omega) only [push_cast, x_blk, x_cd, ↓reduceIte, Nat.reduceEqDiff, List.map_cons, List.map_nil, Int.reduceEq, Int.lt_irrefl, fr]
      exact hE _ _ ⟨χ, (by simp only [push_cast, ↓reduceIte, Nat.reduceEqDiff, true_and, and_true, and_self, eq_self, fr]), (kk kS).grown g9'.by_ (by simp; omega), (kk k6).grown g9'.by_ (by simp; omega), (kk k7).grown g9'.by_ (by simp; omega), k9', hχ, mM8.grown g9'.by_ (by simp; omega), (hK5.trans k58).grew g9' (by intro a ha; injection ha with ha; subst ha; show w.heap.size ≤ g9; omega)⟩
    · have hTe : stepL p.m s e = toL p free s e := by unfold toL; rw [if_neg q]
      rw [hTe] at k9
      simp (disch := first | with_reducible assumption | omega) only [push_cast, x_blk, x_cd, ↓reduceIte, Nat.reduceEqDiff, List.map_cons, List.map_nil, Int.reduceEq, Int.lt_irrefl, fr, decide_eq_false q]
      exact hE _ _ ⟨φ, (by simp only [push_cast, ↓reduceIte, Nat.reduceEqDiff, true_and, and_true, and_self, eq_self, fr]), kS, k6, k7, k9, hφ, mM6, hK5.trans k56⟩
  clear fr kS k6 k7 k9 kK5 mM5 h15 hT5
  rintro f w10 ⟨χ, fr, kS, k6, k7, k9, hχ, mM, hK10⟩
  have rT := toL_row hm free s e
  have hmov := fun (T : List Int) => mov_stay hm hpl (to := T) hs.strict e
  generalize toL p free s e = T at *
  have hz10 := hK10.size
  have l9 := k9.lt
  simp (disch := first | with_reducible assumption | omega) only [push_cast, x_blk, x_cd, ↓reduceIte, Nat.reduceEqDiff, List.map_cons, List.map_nil, Int.reduceEq, Int.lt_irrefl, fr, bl_mv1]
  refine blk_of (cs := MvH.cells ⟨0, 0, none, 0, [], 0⟩) al_56 ?_
  intro w11 k10 b11 z11
  replace kS := kS.below b11 kS.lt
  replace k6 := k6.below b11 k6.lt
  replace k7 := k7.below b11 k7.lt
  replace k9 := k9.below b11 k9.lt
  have l6 := k6.lt
  have l7 := k7.lt
  replace mM := mM.below b11 mM.lt
  have hK11 := hK10.below b11 (Nat.le_refl _)
  have lM10 := hM.lt
  simp (disch := first | with_reducible assumption | omega) only [push_cast, x_blk, x_cd, ↓reduceIte, Nat.reduceEqDiff, List.map_cons, List.map_nil, Int.reduceEq, Int.lt_irrefl, fr]
  refine sto_blk k10 (cs := MvH.cells ⟨0, e, none, 0, [], 0⟩) (e4_mv _) rfl (mv_one _) ?_
  intro w12 k10' g12 z12
  clear k10
  replace kS := kS.grown g12.by_ (by simp; omega)
  replace k6 := k6.grown g12.by_ (by simp; omega)
  replace k7 := k7.grown g12.by_ (by simp; omega)
  replace k9 := k9.grown g12.by_ (by simp; omega)
  replace mM := mM.grown g12.by_ (by simp; omega)
  have hK12 := hK11.grew g12 (by intro a ha; injection ha with ha; subst ha; show w.heap.size ≤ w10.heap.size; omega)
  have kK12 := hK.keepM hK12 hKM
  generalize hg10 : w10.heap.size = g10 at *
  simp (disch := first | with_reducible assumption | omega) only [push_cast, x_blk, x_cd, ↓reduceIte, Nat.reduceEqDiff, List.map_cons, List.map_nil, Int.reduceEq, Int.lt_irrefl, fr, kK12.kAr]
  refine loop_rule (fun f w' => ∃ (k : Nat) (A : Option Addr) (c : Nat), k ≤ p.m.arrows.length ∧ (f 0 = .pointer (some ⟨gK, 0, none⟩) ∧ f 2 = .int .i64 e ∧ f 4 = .pointer (some ⟨w.heap.size, 0, none⟩) ∧ f 6 = .pointer (some ⟨w1.heap.size, 0, none⟩) ∧ f 7 = .pointer (some ⟨w2.heap.size, 0, none⟩) ∧ f 8 = .bool false ∧ f 9 = .pointer (some ⟨g9, 0, none⟩) ∧ f 10 = .pointer (some ⟨g10, 0, none⟩) ∧ f 38 = .slice a.m.Aa p.m.arrows.length a.m.ca ∧ f 39 = .int .i64 p.m.arrows.length ∧ f 40 = .int .i64 k) ∧
      Blk w' w.heap.size 76 (setCells (wordsOf s)) ∧ Blk w' w1.heap.size 56 (MvH.cells ⟨0, 0, none, 0, [], 0⟩) ∧ Blk w' w2.heap.size 76 (setCells (wordsOf [])) ∧ Blk w' g9 76 (setCells (wordsOf T)) ∧
      Blk w' g10 56 (MvH.cells ⟨0, e, A, c, movK p.m s T e k, 0⟩) ∧ OwnI (g10 + 1) 3 w' A c (movK p.m s T e k) ∧ SMap w' gM χ ∧ KeepM gM w w')
    (fun f _ => p.m.arrows.length - (intOf (f 40)).toNat) ⟨0, none, 0, Nat.zero_le _, (by simp only [push_cast, ↓reduceIte, Nat.reduceEqDiff, true_and, and_true, and_self, eq_self, fr]), kS, k6, k7, k9, k10', Own.nil _ _ _ _, mM, hK12⟩ ?_
  clear fr kS k6 k7 k9 k10' mM kK12 hK12 hK11 hK10 g12 b11
  rintro f w13 ⟨k, A, c, hk, fr, kS, k6, k7, k9, k10, ho, mM, hK13⟩ J hJ
  have hz13 := hK13.size
  have kK13 := hK.keepM hK13 hKM
  have ha13 := (ha.keepM hK13 hBM hBw).mono fun b hb => (Nat.lt_of_lt_of_le hb (by omega) : b < w13.heap.size)
  by_cases hlt : k < p.m.arrows.length
  case pos =>
    have hI := ha13.m.arrows
    have hA := hI.isSome (by omega)
    have hsu := movK_succ p.m s T e hlt
    have hln := movK_len p.m s T e k
    have hyr := May.arr hm (getD_mem p.m.arrows default k hlt)
    have hmu : (intOf (f 40)).toNat = k := by rw [fr.2.2.2.2.2.2.2.2.2.2]; simp [intOf]
    have hldA := fun {K : Fr → World → Prop} {f : Fr} {d : Option Nat} {w : World} => hI.ldA (P := Tryd.prog) (K := K) (f := f) (d := d) (w := w) (i := k) ty_ag_85 ty_sz_85
    generalize p.m.arrows.getD k default = y at *
    simp (disch := first | with_reducible assumption | omega) only [push_cast, x_blk, x_cd, ↓reduceIte, Nat.reduceEqDiff, List.map_cons, List.map_nil, Int.reduceEq, Int.lt_irrefl, L_veil_keeper_move_0, fr, hlt, hA, hldA]
    refine blk_of al_85 ?_
    intro w14 k14 b14 z14
    simp (disch := first | with_reducible assumption | omega) only [push_cast, x_blk, x_cd, ↓reduceIte, Nat.reduceEqDiff, List.map_cons, List.map_nil, Int.reduceEq, Int.lt_irrefl, fr]
    refine sto_blk k14 (cs := arrCells y) ty_sz_85 rfl (by simp [arrCells, Value.oneCell']) ?_
    intro w15 k15 g15 z15
    have b15 := g15.below b14 b14.size (by intro a ha; injection ha with ha; subst ha; exact Nat.le_refl _)
    have hz15 := b15.size
    replace kS := kS.below b15 kS.lt
    replace k6 := k6.below b15 k6.lt
    replace k7 := k7.below b15 k7.lt
    replace k9 := k9.below b15 k9.lt
    replace k10 := k10.below b15 k10.lt
    replace ho := ho.below b15 (Nat.le_refl _)
    replace mM := mM.below b15 mM.lt
    have hK15 := hK13.below b15 (Nat.le_refl _)
    clear g15 b14 k14
    by_cases q1 : y.evt = e
    case neg =>
      rw [if_neg (fun hh => q1 hh.1)] at hsu
      simp (disch := first | with_reducible assumption | omega) only [push_cast, x_blk, x_cd, ↓reduceIte, Nat.reduceEqDiff, List.map_cons, List.map_nil, Int.reduceEq, Int.lt_irrefl, fr, k15.a1 ty_ag_3, q1]
      exact hJ _ _ ⟨k + 1, A, c, hlt, (by simp only [push_cast, ↓reduceIte, Nat.reduceEqDiff, true_and, and_true, and_self, eq_self, fr]), kS, k6, k7, k9, by rw [hsu]; exact k10, by rw [hsu]; exact ho, mM, hK15⟩ (by rw [hmu]; simp only [push_cast, ↓reduceIte, Nat.reduceEqDiff, intOf, fr]; omega)
    simp (disch := first | with_reducible assumption | omega) only [push_cast, x_blk, x_cd, ↓reduceIte, Nat.reduceEqDiff, List.map_cons, List.map_nil, Int.reduceEq, Int.lt_irrefl, fr, k15.a1 ty_ag_3, k15.a0 ty_ag_3, q1, eq_self, kS.setA (wordsOf_words _) ty_ag_76 ty_sz_76]
    refine call_of (set_Has' s y.frm hyr.1.1 (by have := hyr.1.2; omega) w15) ?_
    rintro v w16 ⟨rfl, b16⟩
    have hz16 := b16.size
    replace kS := kS.below b16 kS.lt
    replace k6 := k6.below b16 k6.lt
    replace k7 := k7.below b16 k7.lt
    replace k9 := k9.below b16 k9.lt
    replace k10 := k10.below b16 k10.lt
    replace k15 := k15.below b16 k15.lt
    replace ho := ho.below b16 (Nat.le_refl _)
    replace mM := mM.below b16 mM.lt
    have hK16 := hK15.below b16 (Nat.le_refl _)
    by_cases q2 : y.frm ∈ s
    case neg =>
      rw [if_neg (fun hh => q2 hh.2.1)] at hsu
      simp (disch := first | with_reducible assumption | omega) only [push_cast, x_blk, x_cd, ↓reduceIte, Nat.reduceEqDiff, List.map_cons, List.map_nil, Int.reduceEq, Int.lt_irrefl, fr, decide_eq_false q2]
      exact hJ _ _ ⟨k + 1, A, c, hlt, (by simp only [push_cast, ↓reduceIte, Nat.reduceEqDiff, true_and, and_true, and_self, eq_self, fr]), kS, k6, k7, k9, by rw [hsu]; exact k10, by rw [hsu]; exact ho, mM, hK16⟩ (by rw [hmu]; simp only [push_cast, ↓reduceIte, Nat.reduceEqDiff, intOf, fr]; omega)
    simp (disch := first | with_reducible assumption | omega) only [push_cast, x_blk, x_cd, ↓reduceIte, Nat.reduceEqDiff, List.map_cons, List.map_nil, Int.reduceEq, Int.lt_irrefl, fr, decide_eq_true q2, k15.a2 ty_ag_3, k9.setA (wordsOf_words _) ty_ag_76 ty_sz_76]
    refine call_of (set_Has' T y.to_ hyr.2.1.1 (by have := hyr.2.1.2; omega) w16) ?_
    rintro v w17 ⟨rfl, b17⟩
    have hz17 := b17.size
    replace kS := kS.below b17 kS.lt
    replace k6 := k6.below b17 k6.lt
    replace k7 := k7.below b17 k7.lt
    replace k9 := k9.below b17 k9.lt
    replace k10 := k10.below b17 k10.lt
    replace k15 := k15.below b17 k15.lt
    replace ho := ho.below b17 (Nat.le_refl _)
    replace mM := mM.below b17 mM.lt
    have hK17 := hK16.below b17 (Nat.le_refl _)
    by_cases q3 : y.to_ ∈ T
    case neg =>
      rw [if_neg (fun hh => q3 hh.2.2)] at hsu
      simp (disch := first | with_reducible assumption | omega) only [push_cast, x_blk, x_cd, ↓reduceIte, Nat.reduceEqDiff, List.map_cons, List.map_nil, Int.reduceEq, Int.lt_irrefl, fr, decide_eq_false q3]
      exact hJ _ _ ⟨k + 1, A, c, hlt, (by simp only [push_cast, ↓reduceIte, Nat.reduceEqDiff, true_and, and_true, and_self, eq_self, fr]), kS, k6, k7, k9, by rw [hsu]; exact k10, by rw [hsu]; exact ho, mM, hK17⟩ (by rw [hmu]; simp only [push_cast, ↓reduceIte, Nat.reduceEqDiff, intOf, fr]; omega)
    rw [if_pos ⟨q1, q2, q3⟩] at hsu
    have l10 := k10.lt
    have l9 := k9.lt
    have l6 := k6.lt
    have l7 := k7.lt
    have lS := kS.lt
    simp (disch := first | with_reducible assumption | omega) only [push_cast, x_blk, x_cd, ↓reduceIte, Nat.reduceEqDiff, List.map_cons, List.map_nil, Int.reduceEq, Int.lt_irrefl, fr, decide_eq_true q3, k10.v2 ty_ag_22, k15.a0 ty_ag_3, bs_22]
    refine app_int slT_22 ho y.frm (by omega) (by omega) ?_
    intro A18 c18 w18 o18 g18 e18 hs18 z18
    have hgb := fun (x : Nat) (hx : x < g10 + 1) => (ho.ne_ltV hx)
    replace kS := kS.grown g18.by_ (hgb _ (by omega))
    replace k6 := k6.grown g18.by_ (hgb _ (by omega))
    replace k7 := k7.grown g18.by_ (hgb _ (by omega))
    replace k9 := k9.grown g18.by_ (hgb _ (by omega))
    replace k10 := k10.grown g18.by_ (hgb _ (by omega))
    replace mM := mM.grown g18.by_ (hgb _ (by omega))
    have hK18 := hK17.grew g18 (fun a ha => by have := ho.geB a ha; omega)
    simp (disch := first | with_reducible assumption | omega) only [push_cast, x_blk, x_cd, ↓reduceIte, Nat.reduceEqDiff, List.map_cons, List.map_nil, Int.reduceEq, Int.lt_irrefl, fr]
    refine sto_slice k10 (by kernel_rfl) 2 (by simp [MvH.cells]) A18 _ c18 ?_
    intro w19 k19 g19 z19
    have e19 : (MvH.cells ⟨0, e, A, c, movK p.m s T e k, 0⟩).set 2 (.slice A18 ((movK p.m s T e k).length + 1) c18) = MvH.cells ⟨0, e, A18, c18, movK p.m s T e (k + 1), 0⟩ := by rw [hsu]; simp [MvH.cells]
    rw [e19] at k19
    simp (disch := first | with_reducible assumption | omega) only [push_cast, x_blk, x_cd, ↓reduceIte, Nat.reduceEqDiff, List.map_cons, List.map_nil, Int.reduceEq, Int.lt_irrefl, fr]
    exact hJ _ _ ⟨k + 1, A18, c18, hlt, (by simp only [push_cast, ↓reduceIte, Nat.reduceEqDiff, true_and, and_true, and_self, eq_self, fr]), kS.grown g19.by_ (by simp; omega), k6.grown g19.by_ (by simp; omega), k7.grown g19.by_ (by simp; omega), k9.grown g19.by_ (by simp; omega), k19, by rw [hsu]; exact o18.grew g19 (.inr (fun h => o18.ne_ltV (Nat.lt_succ_self g10) h.symm)), mM.grown g19.by_ (by simp; omega), hK18.grew g19 (by intro a ha; injection ha with ha; subst ha; show w.heap.size ≤ g10; omega)⟩ (by rw [hmu]; simp only [push_cast, ↓reduceIte, Nat.reduceEqDiff, intOf, fr]; omega)
  obtain rfl : k = p.m.arrows.length := by omega
  have hst2 := hmov T
  have hlenS : (movK p.m s T e p.m.arrows.length).length ≤ 4096 := by have := movK_len p.m s T e p.m.arrows.length; omega
  rw [hst2] at k10 ho hlenS
  generalize hSt : stayL p.m T s e = St at *
  clear hmov hst2
  have bd2 : Below w13.heap.size w13 w13.drew := (Same.refl w13).drew.below _
  have hK14 := hK13.below bd2 (Nat.le_refl _)
  replace kS := kS.below bd2 kS.lt
  replace k6 := k6.below bd2 k6.lt
  replace k7 := k7.below bd2 k7.lt
  replace k9 := k9.below bd2 k9.lt
  replace k10 := k10.below bd2 k10.lt
  replace ho := ho.below bd2 (Nat.le_refl _)
  replace mM := mM.below bd2 mM.lt
  have kK14 := hK.keepM hK14 hKM
  simp (disch := first | with_reducible assumption | omega) only [push_cast, x_blk, x_cd, ↓reduceIte, Nat.reduceEqDiff, List.map_cons, List.map_nil, Int.reduceEq, Int.lt_irrefl, L_veil_keeper_move_0, fr, Nat.lt_irrefl]
  generalize hu14 : w13.drew = u14 at *
  have hz14 := hK14.size
  obtain ⟨S0, hS0⟩ : ∃ S0 : World → Prop, ∀ w'', S0 w'' ↔ (Blk w'' g10 56 (MvH.cells ⟨0, e, A, c, St, 0⟩) ∧ Blk w'' g9 76 (setCells (wordsOf T)) ∧ Blk w'' gK 108 (kpC a p A1 free c1 gM)) := ⟨_, fun _ => Iff.rfl⟩
  have hSu := (hS0 u14).2 ⟨k10, k9, kK14⟩
  refine ⟨S0, hSu, ?_⟩
  have q1 := fun {K : Fr → World → Prop} {f : Fr} {d : Option Nat} => valS_of (P := Tryd.prog) (S := S0) (K := K) (f := f) (d := d) (w := u14) (s := Instr.loadAt 56 (.pointer (some ⟨g10, 0, none⟩))) (fun w' hw => by rw [((hS0 w').1 hw).1.vA]) hSu
  have q2 := fun {K : Fr → World → Prop} {f : Fr} {d : Option Nat} => valS_of (P := Tryd.prog) (S := S0) (K := K) (f := f) (d := d) (w := u14) (s := Instr.loadAt 25 (.pointer (some ⟨gK, 0, none⟩))) (fun w' hw => by rw [((hS0 w').1 hw).2.2.kM0]) hSu
  have q3 := fun {K : Fr → World → Prop} {f : Fr} {d : Option Nat} => valS_of (P := Tryd.prog) (S := S0) (K := K) (f := f) (d := d) (w := u14) (s := Instr.loadAt 76 (.pointer (some ⟨g9, 0, none⟩))) (fun w' hw => by rw [((hS0 w').1 hw).2.1.setA (wordsOf_words _) ty_ag_76 ty_sz_76]) hSu
  have q4 := fun {K : Fr → World → Prop} {f : Fr} {d : Option Nat} => valS_of (P := Tryd.prog) (S := S0) (K := K) (f := f) (d := d) (w := u14) (s := Instr.loadAt 22 (.pointer (some ⟨gK, 5, none⟩))) (fun w' hw => by rw [((hS0 w').1 hw).2.2.kE]) hSu
  have q5 := fun {K : Fr → World → Prop} {f : Fr} {d : Option Nat} => valS_of (P := Tryd.prog) (S := S0) (K := K) (f := f) (d := d) (w := u14) (s := Instr.loadAt 22 (.pointer (some ⟨g10, 2, none⟩))) (fun w' hw => by rw [((hS0 w').1 hw).1.v2 ty_ag_22]) hSu
  have q6 := fun {K : Fr → World → Prop} {f : Fr} {d : Option Nat} => valS_of (P := Tryd.prog) (S := S0) (K := K) (f := f) (d := d) (w := u14) (v := .int .i64 St.length) (s := Builtin.len_ #[22] 3 #[.slice A St.length c]) (fun w' hw => by simp only [push_cast, ↓reduceIte]) hSu
  have q7 := fun {K : Fr → World → Prop} {f : Fr} {d : Option Nat} {xo yo : Operand} => valS_of (P := Tryd.prog) (S := S0) (K := K) (f := f) (d := d) (w := u14) (v := .bool (decide ((0 : Int) < (St.length : Int)))) (s := binS .gtr 3 xo yo (.int .i64 St.length) (.int .i64 0)) (fun w' hw => by rw [bin_gtr]; rfl) hSu
  simp (disch := first | with_reducible assumption | omega) only [push_cast, x_blk, x_cd, ↓reduceIte, Nat.reduceEqDiff, List.map_cons, List.map_nil, Int.reduceEq, Int.lt_irrefl, fr, q1, q2, q3, q4, q5, q6, q7]
  have ha14 := (ha.keepM hK14 hBM hBw).mono fun b hb => (Nat.lt_of_lt_of_le hb (by omega) : b < u14.heap.size)
  refine call_of (machine_Wide ha14.m hm (rT.small (by omega)) ha14.seen hf.lenP) ?_
  rintro v w15 ⟨rfl, b15⟩
  have S15 := (hS0 w15).2 ⟨k10.below b15 k10.lt, k9.below b15 k9.lt, kK14.below b15 kK14.lt⟩
  replace k6 := k6.below b15 k6.lt
  replace k7 := k7.below b15 k7.lt
  replace ho := ho.below b15 (Nat.le_refl _)
  replace mM := mM.below b15 mM.lt
  have hK15 := hK14.below b15 (Nat.le_refl _)
  have lK := hK.lt
  have S15' := (hS0 w15).1 S15
  simp (disch := first | with_reducible assumption | omega) only [push_cast, x_blk, x_cd, ↓reduceIte, Nat.reduceEqDiff, List.map_cons, List.map_nil, Int.reduceEq, Int.lt_irrefl, fr]
  refine ⟨S15, ?_⟩
  refine sto_blk k6 (cs := MvH.cells ⟨0, e, A, c, St, 0⟩) (e4_mv _) rfl (mv_one _) ?_
  intro w16 k6' g16 z16
  have S16 := (hS0 w16).2 ⟨S15'.1.grown g16.by_ (by simp; omega), S15'.2.1.grown g16.by_ (by simp; omega), S15'.2.2.grown g16.by_ (by simp; omega)⟩
  replace k7 := k7.grown g16.by_ (by simp; omega)
  replace ho := ho.grew g16 (.inr (fun h => ho.ne_ltV (show w1.heap.size < g10 + 1 by omega) h.symm))
  replace mM := mM.grown g16.by_ (by simp; omega)
  have hK16 := hK15.grew g16 (by intro a ha; injection ha with ha; subst ha; show w.heap.size ≤ w1.heap.size; omega)
  simp (disch := first | with_reducible assumption | omega) only [push_cast, x_blk, x_cd, ↓reduceIte, Nat.reduceEqDiff, List.map_cons, List.map_nil, Int.reduceEq, Int.lt_irrefl, fr]
  refine ⟨S16, ?_⟩
  refine sto_blk k7 (cs := setCells (wordsOf (wideL p.m p.seen T))) (e4_set _) (by rw [setCells_4, setCells_4]) (setCells_one _) ?_
  intro w17 k7' g17 z17
  have S16' := (hS0 w16).1 S16
  have S17 := (hS0 w17).2 ⟨S16'.1.grown g17.by_ (by simp; omega), S16'.2.1.grown g17.by_ (by simp; omega), S16'.2.2.grown g17.by_ (by simp; omega)⟩
  replace k6' := k6'.grown g17.by_ (by simp; omega)
  replace ho := ho.grew g17 (.inr (fun h => ho.ne_ltV (show w2.heap.size < g10 + 1 by omega) h.symm))
  replace mM := mM.grown g17.by_ (by simp; omega)
  have hK17 := hK16.grew g17 (by intro a ha; injection ha with ha; subst ha; show w.heap.size ≤ w2.heap.size; omega)
  simp (disch := first | with_reducible assumption | omega) only [push_cast, x_blk, x_cd, ↓reduceIte, Nat.reduceEqDiff, List.map_cons, List.map_nil, Int.reduceEq, Int.lt_irrefl, fr]
  refine ⟨S17, ?_⟩
  have hdec : decide ((0 : Int) < (St.length : Int)) = decide (0 < St.length) := decide_eq_decide.2 (by omega)
  exact fin_cct k6' ty_ag_56 (e4_mv _) k7' ty_ag_76 (e4_set _) (by simp only [push_cast, ↓reduceIte, Nat.reduceEqDiff, Int.reduceEq, fr]) (by simp only [push_cast, ↓reduceIte, Nat.reduceEqDiff, Int.reduceEq, fr]) (hQ _ _ ⟨A, c, (by simp only [push_cast, ↓reduceIte, Nat.reduceEqDiff, Int.reduceEq, fr, hdec]), ho.base (by omega), ⟨⟨χ, hχ, mM⟩, hK17⟩, hT.keepM hM hK17⟩)
end Go.Proofs.YtcjedgiglimipaaDoor

/-
  Chapter 15: the program's Make: by its contract.
-/
namespace Go.Proofs.YtcjedgiglimipaaDoor
set_option linter.unusedSimpArgs false
set_option linter.unusedVariables false
set_option linter.unusedSectionVars false
open Go.RowKit

abbrev MvT := Int × Int × List Int × Int
def MvH.abs (x : MvH) : MvT := (x.n, x.e, x.st, x.to_)
def Mv.abs (x : Mv) : MvT := ((x.node : Int), x.evt, x.stay, (x.to_ : Int))
abbrev veil0 : List Value := [.slice none 0 0, .slice none 0 0]
abbrev vlC (A : Option Addr) (n c : Nat) (A' : Option Addr) (n' c' : Nat) : List Value := [.slice A n c, .slice A' n' c']
theorem e2_vl (A : Option Addr) (n c : Nat) (A' : Option Addr) (n' c' : Nat) : tySize Tryd.prog 47 = some (vlC A n c A' n' c').length := ty_sz_47
theorem vl_one (A : Option Addr) (n c : Nat) (A' : Option Addr) (n' c' : Nat) : (vlC A n c A' n' c').all (·.oneCell') = true := rfl
def VeilOkP (p : Plt) (free : List Int) : Prop := AllIn free p.seen ∧ PlainM p.m
/-- A veil that can be read. -/
def VeilAt (w : World) (v : Value) (st : VS) : Prop :=
  ∃ (An : Option Addr) (cn : Nat) (hs : List Hd) (Am : Option Addr) (cm : Nat) (ms : List MvH), v = .agg (vlC An hs.length cn Am ms.length cm).toArray ∧
    Recs Hd.cells 1 (· < w.heap.size) w An hs ∧ RowsAt (· < w.heap.size) w hs ∧ hs.map (·.l) = st.nodes ∧
    Recs MvH.cells 4 (· < w.heap.size) w Am ms ∧ (∀ x ∈ ms, Ints (· < w.heap.size) w x.A x.st) ∧ ms.map MvH.abs = st.moves.map Mv.abs
def VMakeRes (p : Plt) (free : List Int) (w : World) (v : Value) (w' : World) : Prop := Below w.heap.size w w' ∧
  ((¬ (p.May ∧ IsRow free p.m.events) ∧ v = .tuple #[.agg veil0.toArray, .bool false, .int .i64 2]) ∨
   ((p.May ∧ IsRow free p.m.events) ∧ ¬ VeilOkP p free ∧ v = .tuple #[.agg veil0.toArray, .bool false, .int .i64 3]) ∨
   ((p.May ∧ IsRow free p.m.events) ∧ VeilOkP p free ∧ ¬ (firstP p ≠ [] ∧ Kp p free (firstP p)) ∧ v = .tuple #[.agg veil0.toArray, .bool false, .int .i64 0]) ∨
   ((p.May ∧ IsRow free p.m.events) ∧ VeilOkP p free ∧ (firstP p ≠ [] ∧ Kp p free (firstP p)) ∧ ∃ k V, (vIter p free k).nodes.length = k ∧ VeilAt w' V (vIter p free k) ∧ v = .tuple #[V, .bool true, .int .i64 0]))
theorem bl_veil0 {K : Fr → World → Prop} {u : World} {f : Fr} {d : Option Nat} {w : World} : Val1 Tryd.prog K (Instr.build 47 #[]) u f d w = K (updO f d (.agg veil0.toArray)) w := bld_of (by kernel_rfl)
theorem blt_keep : builtPl Tryd.prog 108 = some ([(0, 7), (7, 1), (8, 1)], [.int .i64 0, .int .i64 0, .slice none 0 0, .slice none 0 0, .slice none 0 0, .slice none 0 0, .slice none 0 0, .slice none 0 0, .map none]) := by kernel_rfl
theorem bl_keeper {K : Fr → World → Prop} {u : World} {f : Fr} {d : Option Nat} {w : World} (a : PV) (p : Plt) (A : Option Addr) (free : List Int) (c gM : Nat) :
    Val1 Tryd.prog K (Instr.build 108 #[(0, a.val p), (1, .slice A free.length c), (2, .map (some gM))]) u f d w = K (updO f d (.agg (kpC a p A free c gM).toArray)) w := by
  have := bld_3 (P := Tryd.prog) (K := K) (u := u) (f := f) (d := d) (w := w) blt_keep rfl rfl rfl rfl (v0 := a.val p) (v1 := .slice A free.length c) (v2 := .map (some gM)) rfl rfl rfl
  rw [this]; rfl
section
variable {K : Fr → World → Prop} {u : World} {f : Fr} {d : Option Nat} {w : World} {g t ty : Nat} {A A' : Option Addr} {n c n' c' : Nat}
theorem Blk.w0 (h : Blk u g t (vlC A n c A' n' c')) (ht : tyAgg Tryd.prog ty = some false) : Val1 Tryd.prog K (Instr.loadAt ty (.pointer (some ⟨g, 0, none⟩))) u f d w = K (updO f d (.slice A n c)) w := h.ld ht 0 (by simp)
theorem Blk.w1 (h : Blk u g t (vlC A n c A' n' c')) (ht : tyAgg Tryd.prog ty = some false) : Val1 Tryd.prog K (Instr.loadAt ty (.pointer (some ⟨g, 1, none⟩))) u f d w = K (updO f d (.slice A' n' c')) w := h.ld ht 1 (by simp)
theorem Blk.wA (h : Blk u g t (vlC A n c A' n' c')) : Val1 Tryd.prog K (Instr.loadAt 47 (.pointer (some ⟨g, 0, none⟩))) u f d w = K (updO f d (.agg (vlC A n c A' n' c').toArray)) w := h.ldAll ty_ag_47 (e2_vl A n c A' n' c')
end
theorem KeepT.ofM {es : List Nat} {B gM : Nat} {w w' : World} {φ : List Int → Option Int} (k : KeepM gM w w') (hM : SMap w gM φ) (hB : B ≤ gM) : KeepT es B w w' :=
  ⟨k.size, fun b hb => k.block b hb.1 (fun e => by
    subst e
    rcases hb.2 with h | ⟨t, _, cs, r, h⟩
    · omega
    · obtain ⟨kv, ⟨es, cl, hh, _⟩, _⟩ := hM
      rw [hh] at h; cases h)⟩
theorem SMap.keepM {w w' : World} {g gM : Nat} {φ : List Int → Option Int} (h : SMap w g φ) (k : KeepM gM w w') (hne : g ≠ gM) : SMap w' g φ := h.keep (k.block g h.lt hne)
structure VMem (w0 : World) (a : PV) (p : Plt) (A1 : Option Addr) (free : List Int) (c1 gR gM gK gN gV : Nat) (w : World) (st : VS) (AN : Option Addr) (cN : Nat) (hs : List Hd) (An : Option Addr) (cn : Nat) (ms : List MvH) (Am : Option Addr) (cm : Nat) : Prop where
  kP : Blk w w0.heap.size 43 (a.cells p)
  kR : Blk w gR 47 veil0
  kK : Blk w gK 108 (kpC a p A1 free c1 gM)
  kV : Blk w gV 47 (vlC An hs.length cn Am ms.length cm)
  mM : ∃ χ, GOk p free χ ∧ SMap w gM χ
  mN : ∃ ψ, SMap w gN ψ ∧ ∀ t, IsRow t 6 → ψ t = if t ∈ st.nodes then some (ixL t st.nodes : Int) else none
  oN : OwnR setC (gN + 1) 76 4 w AN cN st.nodes
  oH : OwnR Hd.cells (gN + 1) 22 1 w An cn hs
  oM : OwnR MvH.cells (gN + 1) 56 4 w Am cm ms
  rH : ∀ x ∈ hs, Ints (TyB [3] 0 w) w x.A x.l
  rM : ∀ x ∈ ms, Ints (TyB [3] 0 w) w x.A x.st
  ab : ms.map MvH.abs = st.moves.map Mv.abs
  bel : Below w0.heap.size w0 w
section
variable {w0 : World} {a : PV} {p : Plt} {A1 : Option Addr} {free : List Int} {c1 gR gM gK gN gV : Nat} {w w' : World} {st : VS} {AN : Option Addr} {cN : Nat} {hs : List Hd} {An : Option Addr} {cn : Nat} {ms : List MvH} {Am : Option Addr} {cm : Nat}
theorem VMem.below (h : VMem w0 a p A1 free c1 gR gM gK gN gV w st AN cN hs An cn ms Am cm) (b : Below w.heap.size w w') : VMem w0 a p A1 free c1 gR gM gK gN gV w' st AN cN hs An cn ms Am cm :=
  { kP := h.kP.below b h.kP.lt
    kR := h.kR.below b h.kR.lt
    kK := h.kK.below b h.kK.lt
    kV := h.kV.below b h.kV.lt
    mM := by obtain ⟨χ, h1, h2⟩ := h.mM; exact ⟨χ, h1, h2.below b h2.lt⟩
    mN := by obtain ⟨ψ, h1, h2⟩ := h.mN; exact ⟨ψ, h1.below b h1.lt, h2⟩
    oN := h.oN.below b (Nat.le_refl _)
    oH := h.oH.below b (Nat.le_refl _)
    oM := h.oM.below b (Nat.le_refl _)
    rH := fun x hx => (h.rH x hx).keepT (.below b)
    rM := fun x hx => (h.rM x hx).keepT (.below b)
    ab := h.ab
    bel := h.bel.trans (b.mono h.bel.size) }
theorem VMem.row (h : VMem w0 a p A1 free c1 gR gM gK gN gV w st AN cN hs An cn ms Am cm) (q1 : w0.heap.size < gN + 1) (q2 : gR < gN + 1) (q3 : gK < gN + 1) (q4 : gM < gN + 1) (q5 : gN < gV) {x : Hd} (hx : Ints (TyB [3] 0 w) w x.A x.l) {A' : Option Addr} {c' : Nat} {w2 : World}
    (o : OwnR Hd.cells (gN + 1) 22 1 w' A' c' (hs ++ [x])) (g : Grew w w' An) (k : Blk w2 gV 47 (vlC A' (hs ++ [x]).length c' Am ms.length cm)) (g2 : Grew w' w2 (some ⟨gV, 0, none⟩)) : VMem w0 a p A1 free c1 gR gM gK gN gV w2 st AN cN (hs ++ [x]) A' c' ms Am cm := by
  have kV' := h.kV.grown g.by_ (h.oH.ne_blk h.kV (by decide)).symm
  have kt := (KeepT.grew (es := [3]) h.oH (Nat.zero_le _) (by decide) g).trans (KeepT.grewB kV' (Nat.zero_le _) (by decide) g2)
  have nv : ∀ y, y < gN + 1 → some y ≠ (some (⟨gV, 0, none⟩ : Addr)).map (·.block) := fun y hy => by simp; omega
  have oN' := h.oN.grew g (Own.apart h.oN h.oH (by decide))
  have oM' := h.oM.grew g (Own.apart h.oM h.oH (by decide))
  have b1 := g.below h.bel h.bel.size (fun a ha => by have := h.oH.geB a ha; omega)
  exact {
    kP := (h.kP.grown g.by_ (h.oH.ne_ltV q1)).grown g2.by_ (nv _ q1)
    kR := (h.kR.grown g.by_ (h.oH.ne_ltV q2)).grown g2.by_ (nv _ q2)
    kK := (h.kK.grown g.by_ (h.oH.ne_ltV q3)).grown g2.by_ (nv _ q3)
    kV := k
    mM := by obtain ⟨χ, h1, h2⟩ := h.mM; exact ⟨χ, h1, (h2.grown g.by_ (h.oH.ne_ltV q4)).grown g2.by_ (nv _ q4)⟩
    mN := by obtain ⟨ψ, h1, h2⟩ := h.mN; exact ⟨ψ, (h1.grown g.by_ (h.oH.ne_ltV (Nat.lt_succ_self _))).grown g2.by_ (nv _ (Nat.lt_succ_self _)), h2⟩
    oN := oN'.grew g2 (.inr (oN'.ne_blk kV' (by decide)))
    oH := o.grew g2 (.inr (o.ne_blk kV' (by decide)))
    oM := oM'.grew g2 (.inr (oM'.ne_blk kV' (by decide)))
    rH := fun y hy => by
      rcases List.mem_append.1 hy with hy | hy
      · exact (h.rH y hy).keepT kt
      · rw [List.mem_singleton.1 hy]; exact hx.keepT kt
    rM := fun y hy => (h.rM y hy).keepT kt
    ab := h.ab
    bel := g2.below b1 b1.size (by intro a ha; injection ha with ha; subst ha; show w0.heap.size ≤ gV; omega) }
theorem VMem.move (h : VMem w0 a p A1 free c1 gR gM gK gN gV w st AN cN hs An cn ms Am cm) (q1 : w0.heap.size < gN + 1) (q2 : gR < gN + 1) (q3 : gK < gN + 1) (q4 : gM < gN + 1) (q5 : gN < gV) {x : MvH} (hx : Ints (TyB [3] 0 w) w x.A x.st) {A' : Option Addr} {c' : Nat} {w2 : World} {st' : VS} (e1 : st'.nodes = st.nodes) (e2 : st'.moves.map Mv.abs = st.moves.map Mv.abs ++ [x.abs])
    (o : OwnR MvH.cells (gN + 1) 56 4 w' A' c' (ms ++ [x])) (g : Grew w w' Am) (k : Blk w2 gV 47 (vlC An hs.length cn A' (ms ++ [x]).length c')) (g2 : Grew w' w2 (some ⟨gV, 0, none⟩)) : VMem w0 a p A1 free c1 gR gM gK gN gV w2 st' AN cN hs An cn (ms ++ [x]) A' c' := by
  have kV' := h.kV.grown g.by_ (h.oM.ne_blk h.kV (by decide)).symm
  have kt := (KeepT.grew (es := [3]) h.oM (Nat.zero_le _) (by decide) g).trans (KeepT.grewB kV' (Nat.zero_le _) (by decide) g2)
  have nv : ∀ y, y < gN + 1 → some y ≠ (some (⟨gV, 0, none⟩ : Addr)).map (·.block) := fun y hy => by simp; omega
  have oN' := h.oN.grew g (Own.apart h.oN h.oM (by decide))
  have oH' := h.oH.grew g (Own.apart h.oH h.oM (by decide))
  have b1 := g.below h.bel h.bel.size (fun a ha => by have := h.oM.geB a ha; omega)
  exact {
    kP := (h.kP.grown g.by_ (h.oM.ne_ltV q1)).grown g2.by_ (nv _ q1)
    kR := (h.kR.grown g.by_ (h.oM.ne_ltV q2)).grown g2.by_ (nv _ q2)
    kK := (h.kK.grown g.by_ (h.oM.ne_ltV q3)).grown g2.by_ (nv _ q3)
    kV := k
    mM := by obtain ⟨χ, h1, h2⟩ := h.mM; exact ⟨χ, h1, (h2.grown g.by_ (h.oM.ne_ltV q4)).grown g2.by_ (nv _ q4)⟩
    mN := by obtain ⟨ψ, h1, h2⟩ := h.mN; exact ⟨ψ, (h1.grown g.by_ (h.oM.ne_ltV (Nat.lt_succ_self _))).grown g2.by_ (nv _ (Nat.lt_succ_self _)), by rw [e1]; exact h2⟩
    oN := by rw [e1]; exact oN'.grew g2 (.inr (oN'.ne_blk kV' (by decide)))
    oH := oH'.grew g2 (.inr (oH'.ne_blk kV' (by decide)))
    oM := o.grew g2 (.inr (o.ne_blk kV' (by decide)))
    rH := fun y hy => (h.rH y hy).keepT kt
    rM := fun y hy => by
      rcases List.mem_append.1 hy with hy | hy
      · exact (h.rM y hy).keepT kt
      · rw [List.mem_singleton.1 hy]; exact hx.keepT kt
    ab := by rw [List.map_append, h.ab, e2]; rfl
    bel := g2.below b1 b1.size (by intro a ha; injection ha with ha; subst ha; show w0.heap.size ≤ gV; omega) }
/-- A new node: the map knows it, and it is in the row. -/
theorem VMem.node (h : VMem w0 a p A1 free c1 gR gM gK gN gV w st AN cN hs An cn ms Am cm) (q1 : w0.heap.size < gN) (q2 : gR < gN) (q3 : gK < gN) (q4 : gM < gN) (q5 : gN < gV) {y : List Int} {ψ' : List Int → Option Int} {wm : World} {A' : Option Addr} {c' : Nat} {w2 : World}
    (g : Grew w wm (some ⟨gN, 0, none⟩)) (mN : SMap wm gN ψ') (hψ2 : ∀ t, IsRow t 6 → ψ' t = if t ∈ st.nodes ++ [y] then some (ixL t (st.nodes ++ [y]) : Int) else none)
    (o : OwnR setC (gN + 1) 76 4 w2 A' c' (st.nodes ++ [y])) (g2 : Grew wm w2 AN) : VMem w0 a p A1 free c1 gR gM gK gN gV w2 ⟨st.nodes ++ [y], st.moves⟩ A' c' hs An cn ms Am cm := by
  have nv : ∀ z, z ≠ gN → some z ≠ (some (⟨gN, 0, none⟩ : Addr)).map (·.block) := fun z hz => by simp; exact hz
  have nm : ∀ {A : Option Addr} {e sz c n : Nat} {xs : List Value}, Own (gN + 1) e sz w A c n xs → A.map (·.block) ≠ (some (⟨gN, 0, none⟩ : Addr)).map (·.block) := fun o => (o.ne_ltV (Nat.lt_succ_self gN)).symm
  have oN1 := h.oN.grew g (.inr (nm h.oN))
  have oH1 := h.oH.grew g (.inr (nm h.oH))
  have oM1 := h.oM.grew g (.inr (nm h.oM))
  have b1 := g.below h.bel h.bel.size (by intro a ha; injection ha with ha; subst ha; show w0.heap.size ≤ gN; omega)
  have lV : gV ≠ gN := by omega
  have kV1 := h.kV.grown g.by_ (nv _ lV)
  have kt1 : KeepT [3] 0 w wm := ⟨g.by_.size, fun b hb => g.by_.block b hb.1 (nv _ (fun e => by
    subst e
    rcases hb.2 with hb | ⟨e', _, cs, r, hh⟩
    · omega
    · obtain ⟨ψ, ⟨kv, ⟨es, cl, hm, _⟩, _⟩, _⟩ := h.mN
      rw [hm] at hh; cases hh))⟩
  have kt := kt1.trans (KeepT.grew (es := [3]) oN1 (Nat.zero_le _) (by decide) g2)
  exact {
    kP := (h.kP.grown g.by_ (nv _ (by omega))).grown g2.by_ (oN1.ne_ltV (by omega))
    kR := (h.kR.grown g.by_ (nv _ (by omega))).grown g2.by_ (oN1.ne_ltV (by omega))
    kK := (h.kK.grown g.by_ (nv _ (by omega))).grown g2.by_ (oN1.ne_ltV (by omega))
    kV := kV1.grown g2.by_ (oN1.ne_blk kV1 (by decide)).symm
    mM := by obtain ⟨χ, h1, h2⟩ := h.mM; exact ⟨χ, h1, (h2.grown g.by_ (nv _ (by omega))).grown g2.by_ (oN1.ne_ltV (by omega))⟩
    mN := ⟨ψ', mN.grown g2.by_ (oN1.ne_ltV (Nat.lt_succ_self _)), hψ2⟩
    oN := o
    oH := oH1.grew g2 (Own.apart oH1 oN1 (by decide))
    oM := oM1.grew g2 (Own.apart oM1 oN1 (by decide))
    rH := fun y hy => (h.rH y hy).keepT kt
    rM := fun y hy => (h.rM y hy).keepT kt
    ab := h.ab
    bel := g2.below b1 b1.size (fun a ha => by have := oN1.geB a ha; omega) }
theorem Blk.ne_ty {w : World} {g g' t t' : Nat} {cs cs' : List Value} (h : Blk w g t cs) (h' : Blk w g' t' cs') (ht : t ≠ t') : g ≠ g' := fun e => by
  subst e
  unfold Blk at h h'
  rw [h] at h'
  injection h' with h'
  injection h' with _ e2
  exact ht e2
/-- A move that is none of these is written to. -/
theorem VMem.grownF (h : VMem w0 a p A1 free c1 gR gM gK gN gV w st AN cN hs An cn ms Am cm) {g i : Nat} {cs : List Value} (hk : Blk w g 56 cs) (q0 : w0.heap.size ≤ g) (hA : Am.map (·.block) ≠ some g) (gr : Grew w w' (some ⟨g, i, none⟩)) : VMem w0 a p A1 free c1 gR gM gK gN gV w' st AN cN hs An cn ms Am cm := by
  have nv : ∀ z, z ≠ g → some z ≠ (some (⟨g, i, none⟩ : Addr)).map (·.block) := fun z hz => by simp; exact hz
  have kt := KeepT.grewB (es := [3]) (B := 0) hk (Nat.zero_le _) (by decide) gr
  exact {
    kP := h.kP.grown gr.by_ (nv _ (h.kP.ne_ty hk (by decide)))
    kR := h.kR.grown gr.by_ (nv _ (h.kR.ne_ty hk (by decide)))
    kK := h.kK.grown gr.by_ (nv _ (h.kK.ne_ty hk (by decide)))
    kV := h.kV.grown gr.by_ (nv _ (h.kV.ne_ty hk (by decide)))
    mM := by obtain ⟨χ, h1, h2⟩ := h.mM; exact ⟨χ, h1, h2.grown gr.by_ (nv _ (hk.ne_map h2).symm)⟩
    mN := by obtain ⟨ψ, h1, h2⟩ := h.mN; exact ⟨ψ, h1.grown gr.by_ (nv _ (hk.ne_map h1).symm), h2⟩
    oN := h.oN.grew gr (.inr (h.oN.ne_blk hk (by decide)))
    oH := h.oH.grew gr (.inr (h.oH.ne_blk hk (by decide)))
    oM := h.oM.grew gr (.inr hA)
    rH := fun y hy => (h.rH y hy).keepT kt
    rM := fun y hy => (h.rM y hy).keepT kt
    ab := h.ab
    bel := gr.below h.bel h.bel.size (by intro a ha; injection ha with ha; subst ha; exact q0) }
theorem VMem.keepM (h : VMem w0 a p A1 free c1 gR gM gK gN gV w st AN cN hs An cn ms Am cm) (q0 : w0.heap.size < gM) (q2 : gR < gM) (q3 : gK ≠ gM) (q4 : gM < gN) (q5 : gN < gV) (k : KeepM gM w w') (hM : ∃ χ, GOk p free χ ∧ SMap w' gM χ) : VMem w0 a p A1 free c1 gR gM gK gN gV w' st AN cN hs An cn ms Am cm := by
  obtain ⟨χ0, _, hM0⟩ := h.mM
  have kt := KeepT.ofM (es := [3]) (B := 0) k hM0 (Nat.zero_le _)
  exact {
    kP := h.kP.keepM k (by omega)
    kR := h.kR.keepM k (by omega)
    kK := h.kK.keepM k q3
    kV := h.kV.keepM k (by omega)
    mM := hM
    mN := by obtain ⟨ψ, h1, h2⟩ := h.mN; exact ⟨ψ, h1.keepM k (by omega), h2⟩
    oN := h.oN.keepM (by omega) k
    oH := h.oH.keepM (by omega) k
    oM := h.oM.keepM (by omega) k
    rH := fun y hy => (h.rH y hy).keepT kt
    rM := fun y hy => (h.rM y hy).keepT kt
    ab := h.ab
    bel := k.to_below h.bel h.bel.size (by omega) }
end
theorem ixL_min {x : List Int} : ∀ {l : List (List Int)} {i : Nat}, i < ixL x l → l[i]? = some x → False
  | [], i, h, _ => by simp [ixL] at h
  | y :: l, i, h, hi => by
    unfold ixL at h
    by_cases c : y = x
    · rw [if_pos c] at h; omega
    · rw [if_neg c] at h
      cases i with
      | zero => simp at hi; exact c hi
      | succ i => exact ixL_min (l := l) (i := i) (Nat.lt_of_succ_lt_succ h) (by simpa using hi)
theorem KeepT.grewM {es : List Nat} {w w' : World} {g o : Nat} {nodes : List (List Int)} (h : ∃ ψ, SMap w g ψ ∧ ∀ t, IsRow t 6 → ψ t = if t ∈ nodes then some (ixL t nodes : Int) else none) (gr : Grew w w' (some ⟨g, o, none⟩)) : KeepT es 0 w w' :=
  ⟨gr.by_.size, fun b hb => gr.by_.block b hb.1 (by
    simp only [Option.map_some, ne_eq, Option.some.injEq]
    rintro rfl
    rcases hb.2 with hb | ⟨e', _, cs, r, hh⟩
    · omega
    · obtain ⟨ψ, ⟨kv, ⟨es, cl, hm, _⟩, _⟩, _⟩ := h
      rw [hm] at hh; cases hh)⟩
theorem vFold_len {p : Plt} {free : List Int} (k : Nat) : ∀ (es : List Int) (st : VS), (es.foldl (vE p free k) st).moves.length ≤ st.moves.length + es.length
  | [], _ => Nat.le_refl _
  | e :: es, st => by
    have h1 := vFold_len (p := p) (free := free) k es (vE p free k st e)
    have h2 : (vE p free k st e).moves.length ≤ st.moves.length + 1 := by
      unfold vE
      split
      · omega
      · simp
    rw [List.foldl_cons, List.length_cons]; omega
theorem vIter_len {p : Plt} {free : List Int} (hn : p.seen.length ≤ 8) : ∀ k, (vIter p free k).moves.length ≤ 8 * k
  | 0 => by simp [vIter]
  | k + 1 => by
    have h1 := vFold_len (p := p) (free := free) k p.seen (vIter p free k)
    have h2 := vIter_len (p := p) (free := free) hn k
    show (p.seen.foldl (vE p free k) (vIter p free k)).moves.length ≤ _
    omega
theorem vPart_len {p : Plt} {free : List Int} (hn : p.seen.length ≤ 8) (k j : Nat) : (vPart p free k j).moves.length ≤ 8 * k + 8 := by
  have h1 := vFold_len (p := p) (free := free) k (p.seen.take j) (vIter p free k)
  have h2 := vIter_len (p := p) (free := free) hn k
  have h3 := List.length_take_le j p.seen
  show ((p.seen.take j).foldl (vE p free k) (vIter p free k)).moves.length ≤ _
  rw [List.length_take] at h1
  omega
set_option maxHeartbeats 4000000 in
theorem veil_Make {w : World} {a : PV} {p : Plt} (ha : IsP (· < w.heap.size) w a p) (hf : p.Fits) (hT : Tab w) {A1 : Option Addr} {c1 : Nat} {free : List Int} (h1 : Ints (· < w.heap.size) w A1 free) (n1 : free.length ≤ 17592186043904) :
    Cal Tryd.prog 30 [a.val p, .slice A1 free.length c1] w (VMakeRes p free w) := by
  refine cal_veil_Make (by simp) 1000000 fun Q hQ => ?_
  simp (disch := first | with_reducible assumption | omega) only [push_cast, x_blk, x_cd, ↓reduceIte, Nat.reduceEqDiff, List.map_cons, List.map_nil, Int.reduceEq, Int.lt_irrefl, F_veil_Make]
  refine blk_of (box_agg _ (a.cells p)) ?_
  intro w1 kP b1 z1
  simp (disch := first | with_reducible assumption | omega) only [push_cast, x_blk, x_cd, ↓reduceIte, Nat.reduceEqDiff, List.map_cons, List.map_nil, Int.reduceEq, Int.lt_irrefl]
  refine blk_of (cs := veil0) al_47 ?_
  intro w2 kR b2 z2
  have b02 := b1.trans (b2.mono b1.size)
  replace kP := kP.below b2 kP.lt
  have lP := kP.lt
  have lR := kR.lt
  have hz2 := b02.size
  simp (disch := first | with_reducible assumption | omega) only [push_cast, x_blk, x_cd, ↓reduceIte, Nat.reduceEqDiff, List.map_cons, List.map_nil, Int.reduceEq, Int.lt_irrefl, kP.pA']
  refine call_of (current_May (ha.up b02) hf) ?_
  rintro v w3 ⟨rfl, b3⟩
  have b03 := b02.trans (b3.mono hz2)
  replace kP := kP.below b3 kP.lt
  replace kR := kR.below b3 kR.lt
  by_cases pm : p.May
  case neg =>
    have bx := b03
    simp (disch := first | with_reducible assumption | omega) only [push_cast, x_blk, x_cd, ↓reduceIte, Nat.reduceEqDiff, List.map_cons, List.map_nil, Int.reduceEq, Int.lt_irrefl, decide_eq_false pm, bl_veil0]
    refine sto_blk kR (cs := veil0) (e2_vl none 0 0 none 0 0) rfl rfl ?_
    intro wx kRx gx zx
    have fr := True.intro
    simp (disch := first | with_reducible assumption | omega) only [push_cast, x_blk, x_cd, ↓reduceIte, Nat.reduceEqDiff, List.map_cons, List.map_nil, Int.reduceEq, Int.lt_irrefl, fr]
    exact fin_c3 kRx ty_ag_47 (e2_vl none 0 0 none 0 0) (by simp only [push_cast, ↓reduceIte, Nat.reduceEqDiff, Int.reduceEq]) (hQ _ _ ⟨gx.below bx bx.size (by intro a ha; injection ha with ha; subst ha; exact b1.size), .inl ⟨fun h => pm h.1, (by simp only [push_cast, ↓reduceIte, Nat.reduceEqDiff, Int.reduceEq])⟩⟩)
  simp (disch := first | with_reducible assumption | omega) only [push_cast, x_blk, x_cd, ↓reduceIte, Nat.reduceEqDiff, List.map_cons, List.map_nil, Int.reduceEq, Int.lt_irrefl, decide_eq_true pm, kP.p1]
  refine call_of (row_Is (h1.up b03) c1 p.m.events (by omega)) ?_
  rintro v w4 ⟨rfl, s4⟩
  have b34 := s4.below w3.heap.size
  have b04 := b03.trans (b34.mono b03.size)
  replace kP := kP.below b34 kP.lt
  replace kR := kR.below b34 kR.lt
  by_cases pr : IsRow free p.m.events
  case neg =>
    have bx := b04
    simp (disch := first | with_reducible assumption | omega) only [push_cast, x_blk, x_cd, ↓reduceIte, Nat.reduceEqDiff, List.map_cons, List.map_nil, Int.reduceEq, Int.lt_irrefl, decide_eq_false pr, bl_veil0]
    refine sto_blk kR (cs := veil0) (e2_vl none 0 0 none 0 0) rfl rfl ?_
    intro wx kRx gx zx
    have fr := True.intro
    simp (disch := first | with_reducible assumption | omega) only [push_cast, x_blk, x_cd, ↓reduceIte, Nat.reduceEqDiff, List.map_cons, List.map_nil, Int.reduceEq, Int.lt_irrefl, fr]
    exact fin_c3 kRx ty_ag_47 (e2_vl none 0 0 none 0 0) (by simp only [push_cast, ↓reduceIte, Nat.reduceEqDiff, Int.reduceEq]) (hQ _ _ ⟨gx.below bx bx.size (by intro a ha; injection ha with ha; subst ha; exact b1.size), .inl ⟨fun h => pr h.2, (by simp only [push_cast, ↓reduceIte, Nat.reduceEqDiff, Int.reduceEq])⟩⟩)
  have hpr : p.May ∧ IsRow free p.m.events := ⟨pm, pr⟩
  have hm := pm.1
  have ev8 := hm.2.2.2.1
  have hsm : Small free := pr.small (by omega)
  have sm2 : Small p.seen := pm.2.2.1.small (by omega)
  have bd4 : Below w4.heap.size w4 w4.drew := (Same.refl w4).drew.below _
  have b05 := b04.trans (bd4.mono b04.size)
  replace kP := kP.below bd4 kP.lt
  replace kR := kR.below bd4 kR.lt
  clear b34 b3 bd4 s4 b03 b02 b2
  have hz5 := b05.size
  have hz4 := b04.size
  generalize hu5 : w4.drew = u5 at *
  simp (disch := first | with_reducible assumption | omega) only [push_cast, x_blk, x_cd, ↓reduceIte, Nat.reduceEqDiff, List.map_cons, List.map_nil, Int.reduceEq, Int.lt_irrefl, decide_eq_true pr, hu5, kP.p5]
  refine call_of (machine_Of' (h1.up b05) c1 n1 hsm) ?_
  rintro v w6 ⟨rfl, b6⟩
  have b06 := b05.trans (b6.mono hz5)
  simp (disch := first | with_reducible assumption | omega) only [push_cast, x_blk, x_cd, ↓reduceIte, Nat.reduceEqDiff, List.map_cons, List.map_nil, Int.reduceEq, Int.lt_irrefl]
  refine ⟨b6, ?_⟩
  refine call_of (machine_Of' (ha.up b06).seen a.cp hf.lenP sm2) ?_
  rintro v w7 ⟨rfl, b7⟩
  have b57 := b6.trans (b7.mono b6.size)
  have b07 := b05.trans (b57.mono hz5)
  simp (disch := first | with_reducible assumption | omega) only [push_cast, x_blk, x_cd, ↓reduceIte, Nat.reduceEqDiff, List.map_cons, List.map_nil, Int.reduceEq, Int.lt_irrefl]
  refine ⟨b57, ?_⟩
  refine call_of (set_Within hsm w7) ?_
  rintro v w8 ⟨rfl, b8⟩
  have b58 := b57.trans (b8.mono b57.size)
  have b08 := b05.trans (b58.mono hz5)
  have kP8 := kP.below b58 kP.lt
  have kR8 := kR.below b58 kR.lt
  by_cases hAll : AllIn free p.seen
  case neg =>
    simp (disch := first | with_reducible assumption | omega) only [push_cast, x_blk, x_cd, ↓reduceIte, Nat.reduceEqDiff, List.map_cons, List.map_nil, Int.reduceEq, Int.lt_irrefl, decide_eq_false hAll]
    refine ⟨b58, ?_⟩
    clear kP kR
    have kR := kR8
    have bx := b08
    simp (disch := first | with_reducible assumption | omega) only [push_cast, x_blk, x_cd, ↓reduceIte, Nat.reduceEqDiff, List.map_cons, List.map_nil, Int.reduceEq, Int.lt_irrefl, bl_veil0]
    refine ⟨b58, ?_⟩
    refine sto_blk kR (cs := veil0) (e2_vl none 0 0 none 0 0) rfl rfl ?_
    intro wx kRx gx zx
    have fr := True.intro
    simp (disch := first | with_reducible assumption | omega) only [push_cast, x_blk, x_cd, ↓reduceIte, Nat.reduceEqDiff, List.map_cons, List.map_nil, Int.reduceEq, Int.lt_irrefl, fr]
    exact fin_c3 kRx ty_ag_47 (e2_vl none 0 0 none 0 0) (by simp only [push_cast, ↓reduceIte, Nat.reduceEqDiff, Int.reduceEq]) (hQ _ _ ⟨gx.below bx bx.size (by intro a ha; injection ha with ha; subst ha; exact b1.size), .inr (.inl ⟨hpr, fun h => hAll h.1, (by simp only [push_cast, ↓reduceIte, Nat.reduceEqDiff, Int.reduceEq])⟩)⟩)
  simp (disch := first | with_reducible assumption | omega) only [push_cast, x_blk, x_cd, ↓reduceIte, Nat.reduceEqDiff, List.map_cons, List.map_nil, Int.reduceEq, Int.lt_irrefl, decide_eq_true hAll, kP.pA']
  refine ⟨b58, ?_⟩
  refine call_of (veil_plain (ha.up b08) hm) ?_
  rintro v w9 ⟨⟨bp, rfl, hbp⟩, b9⟩
  have b59 := b58.trans (b9.mono b58.size)
  have b09 := b05.trans (b59.mono hz5)
  replace kP := kP.below b59 kP.lt
  replace kR := kR.below b59 kR.lt
  clear kP8 kR8
  cases bp with
  | false =>
    have hnp : ¬ PlainM p.m := fun h => by have := hbp.2 h; cases this
    have bx := b09
    simp (disch := first | with_reducible assumption | omega) only [push_cast, x_blk, x_cd, ↓reduceIte, Nat.reduceEqDiff, List.map_cons, List.map_nil, Int.reduceEq, Int.lt_irrefl]
    refine ⟨b59, ?_⟩
    simp (disch := first | with_reducible assumption | omega) only [push_cast, x_blk, x_cd, ↓reduceIte, Nat.reduceEqDiff, List.map_cons, List.map_nil, Int.reduceEq, Int.lt_irrefl, bl_veil0]
    refine sto_blk kR (cs := veil0) (e2_vl none 0 0 none 0 0) rfl rfl ?_
    intro wx kRx gx zx
    have fr := True.intro
    simp (disch := first | with_reducible assumption | omega) only [push_cast, x_blk, x_cd, ↓reduceIte, Nat.reduceEqDiff, List.map_cons, List.map_nil, Int.reduceEq, Int.lt_irrefl, fr]
    exact fin_c3 kRx ty_ag_47 (e2_vl none 0 0 none 0 0) (by simp only [push_cast, ↓reduceIte, Nat.reduceEqDiff, Int.reduceEq]) (hQ _ _ ⟨gx.below bx bx.size (by intro a ha; injection ha with ha; subst ha; exact b1.size), .inr (.inl ⟨hpr, fun h => hnp h.2, (by simp only [push_cast, ↓reduceIte, Nat.reduceEqDiff, Int.reduceEq])⟩)⟩)
  | true =>
  have hpl := hbp.1 rfl
  have hok : VeilOkP p free := ⟨hAll, hpl⟩
  clear hbp b57 b06 b07 b08 b6 b7 b8 b58 b9
  have hz9 := b09.size
  simp (disch := first | with_reducible assumption | omega) only [push_cast, x_blk, x_cd, ↓reduceIte, Nat.reduceEqDiff, List.map_cons, List.map_nil, Int.reduceEq, Int.lt_irrefl]
  refine ⟨b59, ?_⟩
  simp (disch := first | with_reducible assumption | omega) only [push_cast, x_blk, x_cd, ↓reduceIte, Nat.reduceEqDiff, List.map_cons, List.map_nil, Int.reduceEq, Int.lt_irrefl, kP.pA', e_makeMap]
  have lR9 := kR.lt
  refine map_made (k := 76) _ ?_
  intro w10 m10 b10 z10
  have mM := SMap.empty m10
  have b010 := b09.trans (b10.mono hz9)
  replace kP := kP.below b10 kP.lt
  replace kR := kR.below b10 kR.lt
  have lM := mM.lt
  clear m10 b10 b59 b05 b04
  generalize hgM : w9.heap.size = gM at *
  simp (disch := first | with_reducible assumption | omega) only [push_cast, x_blk, x_cd, ↓reduceIte, Nat.reduceEqDiff, List.map_cons, List.map_nil, Int.reduceEq, Int.lt_irrefl, bl_keeper]
  refine blk_of (box_agg _ (kpC a p A1 free c1 gM)) ?_
  intro w11 kK b11 z11
  have b011 := b010.trans (b11.mono b010.size)
  replace kP := kP.below b11 kP.lt
  replace kR := kR.below b11 kR.lt
  replace mM := mM.below b11 mM.lt
  have lK := kK.lt
  generalize hgK : w10.heap.size = gK at *
  simp (disch := first | with_reducible assumption | omega) only [push_cast, x_blk, x_cd, ↓reduceIte, Nat.reduceEqDiff, List.map_cons, List.map_nil, Int.reduceEq, Int.lt_irrefl, kP.pA']
  refine call_of (current_First (ha.up b011) hf hm) ?_
  rintro v w12 ⟨rfl, b12⟩
  have b012 := b011.trans (b12.mono b011.size)
  replace kP := kP.below b12 kP.lt
  replace kR := kR.below b12 kR.lt
  replace mM := mM.below b12 mM.lt
  replace kK := kK.below b12 lK
  have hz12 := b12.size
  simp (disch := first | with_reducible assumption | omega) only [push_cast, x_blk, x_cd, ↓reduceIte, Nat.reduceEqDiff, List.map_cons, List.map_nil, Int.reduceEq, Int.lt_irrefl]
  refine blk_of (cs := setCells (wordsOf [])) al_76 ?_
  intro w13 k8 b13 z13
  have b013 := b012.trans (b13.mono b012.size)
  replace kP := kP.below b13 kP.lt
  replace kR := kR.below b13 kR.lt
  replace mM := mM.below b13 mM.lt
  replace kK := kK.below b13 kK.lt
  simp (disch := first | with_reducible assumption | omega) only [push_cast, x_blk, x_cd, ↓reduceIte, Nat.reduceEqDiff, List.map_cons, List.map_nil, Int.reduceEq, Int.lt_irrefl]
  refine sto_blk k8 (cs := setCells (wordsOf (firstP p))) (e4_set _) (by rw [setCells_4, setCells_4]) (setCells_one _) ?_
  intro w14 k8' g14 z14
  have b014 := g14.below b013 b013.size (by intro a ha; injection ha with ha; subst ha; exact b012.size)
  replace kP := kP.grown g14.by_ (by simp; omega)
  replace kR := kR.grown g14.by_ (by simp; omega)
  replace mM := mM.grown g14.by_ (by simp; omega)
  replace kK := kK.grown g14.by_ (by simp; omega)
  generalize hg8 : w12.heap.size = g8 at *
  have l8 := k8'.lt
  clear k8 g14 b13 b12 b11
  have rF := firstP_row hm
  have hne : wordsOf (firstP p) = wordsOf [] ↔ firstP p = [] := words_nil (rF.small (by have := pm.2.1; omega))
  by_cases hF : firstP p = []
  · have bx := b014
    simp (disch := first | with_reducible assumption | omega) only [push_cast, x_blk, x_cd, ↓reduceIte, Nat.reduceEqDiff, List.map_cons, List.map_nil, Int.reduceEq, Int.lt_irrefl, k8'.setA (wordsOf_words _) ty_ag_76 ty_sz_76, bl_set0, eql_set, decide_eq_true (hne.2 hF), bl_veil0]
    refine sto_blk kR (cs := veil0) (e2_vl none 0 0 none 0 0) rfl rfl ?_
    intro wx kRx gx zx
    have fr := True.intro
    simp (disch := first | with_reducible assumption | omega) only [push_cast, x_blk, x_cd, ↓reduceIte, Nat.reduceEqDiff, List.map_cons, List.map_nil, Int.reduceEq, Int.lt_irrefl, fr]
    exact fin_c3 kRx ty_ag_47 (e2_vl none 0 0 none 0 0) (by simp only [push_cast, ↓reduceIte, Nat.reduceEqDiff, Int.reduceEq]) (hQ _ _ ⟨gx.below bx bx.size (by intro a ha; injection ha with ha; subst ha; exact b1.size), .inr (.inr (.inl ⟨hpr, hok, fun h => h.1 hF, (by simp only [push_cast, ↓reduceIte, Nat.reduceEqDiff, Int.reduceEq])⟩))⟩)
  simp (disch := first | with_reducible assumption | omega) only [push_cast, x_blk, x_cd, ↓reduceIte, Nat.reduceEqDiff, List.map_cons, List.map_nil, Int.reduceEq, Int.lt_irrefl, k8'.setA (wordsOf_words _) ty_ag_76 ty_sz_76, bl_set0, eql_set, decide_eq_false (fun h => hF (hne.1 h))]
  refine call_of (veil_keeps (ha.up b014) hf pm (h1.up b014) n1 kK (φ := fun _ => none) (fun _ _ _ h => by cases h) mM rF) ?_
  intro v w15 h15
  obtain ⟨⟨bk, rfl, hbk⟩, ⟨χ, hχ, mM15⟩, k15⟩ := keepsKM h15
  have b015 : Below w.heap.size w w15 := k15.to_below b014 b014.size (by omega)
  replace kP := kP.keepM k15 (by omega)
  replace kR := kR.keepM k15 (by omega)
  replace kK := kK.keepM k15 (by omega)
  replace k8' := k8'.keepM k15 (by omega)
  clear k15 h15 mM b014 b013 b012 b011 b010 b09
  cases bk with
  | false =>
    have hnk : ¬ Kp p free (firstP p) := fun h => by have := hbk.2 h; cases this
    have bx := b015
    simp (disch := first | with_reducible assumption | omega) only [push_cast, x_blk, x_cd, ↓reduceIte, Nat.reduceEqDiff, List.map_cons, List.map_nil, Int.reduceEq, Int.lt_irrefl, bl_veil0]
    refine sto_blk kR (cs := veil0) (e2_vl none 0 0 none 0 0) rfl rfl ?_
    intro wx kRx gx zx
    have fr := True.intro
    simp (disch := first | with_reducible assumption | omega) only [push_cast, x_blk, x_cd, ↓reduceIte, Nat.reduceEqDiff, List.map_cons, List.map_nil, Int.reduceEq, Int.lt_irrefl, fr]
    exact fin_c3 kRx ty_ag_47 (e2_vl none 0 0 none 0 0) (by simp only [push_cast, ↓reduceIte, Nat.reduceEqDiff, Int.reduceEq]) (hQ _ _ ⟨gx.below bx bx.size (by intro a ha; injection ha with ha; subst ha; exact b1.size), .inr (.inr (.inl ⟨hpr, hok, fun h => hnk h.2, (by simp only [push_cast, ↓reduceIte, Nat.reduceEqDiff, Int.reduceEq])⟩))⟩)
  | true =>
  have hkF := hbk.1 rfl
  have l8b := k8'.lt
  simp (disch := first | with_reducible assumption | omega) only [push_cast, x_blk, x_cd, ↓reduceIte, Nat.reduceEqDiff, List.map_cons, List.map_nil, Int.reduceEq, Int.lt_irrefl, k8'.setA (wordsOf_words _) ty_ag_76 ty_sz_76, e_makeMap]
  refine map_made (k := 76) _ ?_
  intro w16 m16 b16 z16
  have mN := SMap.empty m16
  have lN := mN.lt
  have b016 := b015.trans (b16.mono b015.size)
  have hz15 := mM15.lt
  replace kP := kP.below b16 kP.lt
  replace kR := kR.below b16 kR.lt
  replace kK := kK.below b16 kK.lt
  replace k8' := k8'.below b16 k8'.lt
  have mM := mM15.below b16 mM15.lt
  clear m16 b16 mM15 b015
  have l8 := k8'.lt
  generalize hgN : w15.heap.size = gN at *
  simp (disch := first | with_reducible assumption | omega) only [push_cast, x_blk, x_cd, ↓reduceIte, Nat.reduceEqDiff, List.map_cons, List.map_nil, Int.reduceEq, Int.lt_irrefl, e_insert, k8'.setA (wordsOf_words _) ty_ag_76 ty_sz_76]
  have rF6 : IsRow (firstP p) 6 := rF.more pm.2.1
  refine mN.put rF6 0 ?_
  intro w17 mN17 g17 z17
  have b017 := g17.below b016 b016.size (by intro a ha; injection ha with ha; subst ha; show w.heap.size ≤ gN; omega)
  replace kP := kP.grown g17.by_ (by simp; omega)
  replace kR := kR.grown g17.by_ (by simp; omega)
  replace kK := kK.grown g17.by_ (by simp; omega)
  replace k8' := k8'.grown g17.by_ (by simp; omega)
  replace mM := mM.grown g17.by_ (by simp; omega)
  clear mN g17 b016
  simp (disch := first | with_reducible assumption | omega) only [push_cast, x_blk, x_cd, ↓reduceIte, Nat.reduceEqDiff, List.map_cons, List.map_nil, Int.reduceEq, Int.lt_irrefl, k8'.setA (wordsOf_words _) ty_ag_76 ty_sz_76, bs_rec setEnc slT_72 _ (by decide)]
  have oN := own_rec setEnc w17 (firstP p) 76
  have bE : Below w17.heap.size w17 (w17.alloc (.cells (setC (firstP p)).toArray 76)) := (Below.refl _ _).alloc (Nat.le_refl _) _
  generalize w17.alloc (.cells (setC (firstP p)).toArray 76) = w18 at *
  have b018 := b017.trans (bE.mono b017.size)
  have hz17 := bE.size
  have lN17 := mN17.lt
  replace kP := kP.below bE kP.lt
  replace kR := kR.below bE kR.lt
  replace kK := kK.below bE kK.lt
  replace mM := mM.below bE mM.lt
  have mN := mN17.below bE mN17.lt
  replace oN := oN.base (B' := gN + 1) (by omega)
  clear mN17 k8' b017 l8
  refine blk_of (cs := veil0) al_47 ?_
  intro w19 kV b19 z19
  have b019 := b018.trans (b19.mono b018.size)
  replace kP := kP.below b19 kP.lt
  replace kR := kR.below b19 kR.lt
  replace kK := kK.below b19 kK.lt
  replace mM := mM.below b19 mM.lt
  replace mN := mN.below b19 mN.lt
  replace oN := oN.below b19 (Nat.le_refl _)
  generalize hgV : w18.heap.size = gV at *
  clear b19 bE b018
  simp (disch := first | with_reducible assumption | omega) only [push_cast, x_blk, x_cd, ↓reduceIte, Nat.reduceEqDiff, List.map_cons, List.map_nil, Int.reduceEq, Int.lt_irrefl]
  have hTw := hT.on b019
  have n8 : p.seen.length ≤ 8 := by have := row_lenV pm.2.2.1; omega
  have M0 : VMem w a p A1 free c1 w1.heap.size gM gK gN gV w19 (vIter p free 0) (some ⟨w17.heap.size, 0, none⟩) 1 [] none 0 [] none 0 :=
    { kP := kP, kR := kR, kK := kK, kV := kV
      mM := ⟨χ, hχ, mM⟩
      mN := ⟨_, mN, fun t ht => by
        unfold putF
        by_cases c : t = firstP p
        · rw [if_pos c, if_pos (by simp [vIter, c])]
          simp [vIter, ixL, c]
        · rw [if_neg c, if_neg (by simp [vIter, c])]⟩
      oN := oN
      oH := Own.nil _ _ _ _
      oM := Own.nil _ _ _ _
      rH := fun x hx => absurd hx (by simp)
      rM := fun x hx => absurd hx (by simp)
      ab := rfl
      bel := b019 }
  have hgV2 : gN < gV := by omega
  have hgKM : gK ≠ gM := by omega
  clear kP kR kK kV mM mN oN hχ hbk hTw
  refine loop_rule (fun f w' => ∃ (n : Nat) (AN : Option Addr) (cN : Nat) (hs : List Hd) (An : Option Addr) (cn : Nat) (ms : List MvH) (Am : Option Addr) (cm : Nat), n ≤ (vIter p free n).nodes.length ∧
      (f 2 = .pointer (some ⟨w.heap.size, 0, none⟩) ∧ f 4 = .pointer (some ⟨w1.heap.size, 0, none⟩) ∧ f 7 = .pointer (some ⟨gK, 0, none⟩) ∧ f 9 = .map (some gN) ∧ f 10 = .slice AN (vIter p free n).nodes.length cN ∧ f 11 = .pointer (some ⟨gV, 0, none⟩) ∧ f 12 = .int .i64 n) ∧
      hs.map (·.l) = (vIter p free n).nodes.take n ∧ VMem w a p A1 free c1 w1.heap.size gM gK gN gV w' (vIter p free n) AN cN hs An cn ms Am cm)
    (fun f _ => 65 - (intOf (f 12)).toNat) ⟨0, _, _, [], none, 0, [], none, 0, Nat.zero_le _, ⟨rfl, rfl, rfl, rfl, rfl, rfl, rfl⟩, by simp, M0⟩ ?_
  clear M0 b019
  rintro f w20 ⟨n, AN, cN, hs, An, cn, ms, Am, cm, hn, fr, hhs, M⟩ J hJ
  have hG := vIter_good (free := free) hm n
  have hl64 := hG.len pm.2.1
  have hhl : hs.length = n := by have := congrArg List.length hhs; rw [List.length_map, List.length_take] at this; omega
  have hz20 := M.bel.size
  have hTw := hT.on M.bel
  by_cases hlt : n < (vIter p free n).nodes.length
  case neg =>
    have hne : (vIter p free n).nodes.length = n := by omega
    have kR := M.kR
    simp (disch := first | with_reducible assumption | omega) only [push_cast, x_blk, x_cd, ↓reduceIte, Nat.reduceEqDiff, List.map_cons, List.map_nil, Int.reduceEq, Int.lt_irrefl, L_veil_Make_1, fr, hlt, M.kV.wA]
    refine sto_blk kR (cs := vlC An hs.length cn Am ms.length cm) (e2_vl _ _ _ _ _ _) rfl (vl_one _ _ _ _ _ _) ?_
    intro w21 k21 g21 z21
    have kt := KeepT.grewB (es := [3]) (B := 0) kR (Nat.zero_le _) (by decide) g21
    have oH' := M.oH.grew g21 (.inr (fun h => M.oH.ne_ltV (show w1.heap.size < gN + 1 by omega) h.symm))
    have oM' := M.oM.grew g21 (.inr (fun h => M.oM.ne_ltV (show w1.heap.size < gN + 1 by omega) h.symm))
    simp (disch := first | with_reducible assumption | omega) only [push_cast, x_blk, x_cd, ↓reduceIte, Nat.reduceEqDiff, List.map_cons, List.map_nil, Int.reduceEq, Int.lt_irrefl, fr]
    exact fin_c3 k21 ty_ag_47 (e2_vl _ _ _ _ _ _) (by simp only [push_cast, ↓reduceIte, Nat.reduceEqDiff, Int.reduceEq, fr]) (hQ _ _ ⟨g21.below M.bel M.bel.size (by intro a ha; injection ha with ha; subst ha; exact b1.size), .inr (.inr (.inr ⟨hpr, hok, ⟨hF, hkF⟩, n, _, hne,
      ⟨An, cn, hs, Am, cm, ms, rfl, Recs.lt hdEnc (by decide) (OwnR.recs oH' hdEnc (by decide)), fun x hx => ((M.rH x hx).keepT kt).tlt, by rw [hhs, List.take_of_length_le (by omega)], Recs.lt mvEnc (by decide) (OwnR.recs oM' mvEnc (by decide)), fun x hx => ((M.rM x hx).keepT kt).tlt, M.ab⟩, (by simp only [push_cast, ↓reduceIte, Nat.reduceEqDiff, Int.reduceEq, fr])⟩))⟩)
  have hNn : (vIter p free n).nodes[n]? = some ((vIter p free n).nodes.getD n []) := by rw [List.getD_eq_getElem?_getD, List.getElem?_eq_getElem hlt]; rfl
  have rN := hG.row _ (List.mem_of_getElem? hNn)
  have htk : (vIter p free n).nodes.take (n + 1) = (vIter p free n).nodes.take n ++ [(vIter p free n).nodes.getD n []] := take_snoc _ [] n hlt
  have bd : Below w20.heap.size w20 w20.drew := (Same.refl w20).drew.below _
  have hTu := hTw.on bd
  replace M := M.below bd
  have kV0 := M.kV
  generalize hu20 : w20.drew = u20 at *
  have hRN := Recs.lt setEnc (by decide) (OwnR.recs M.oN setEnc (by decide))
  have sN := hRN.isSome (by omega)
  have hldN := fun {K : Fr → World → Prop} {f : Fr} {d : Option Nat} {w' : World} => hRN.ldAll (P := Tryd.prog) (K := K) (f := f) (d := d) (w := w') setEnc ty_ag_76 hNn ty_sz_76
  have hzu := M.bel.size
  have hmu : (intOf (f 12)).toNat = n := by rw [fr.2.2.2.2.2.2]; simp [intOf]
  generalize hN : (vIter p free n).nodes.getD n [] = N at *
  simp (disch := first | with_reducible assumption | omega) only [push_cast, x_blk, x_cd, ↓reduceIte, Nat.reduceEqDiff, List.map_cons, List.map_nil, Int.reduceEq, Int.lt_irrefl, L_veil_Make_1, fr, hlt, hu20, kV0.w0 ty_ag_44, sN, hldN]
  refine call_of (set_Row' rN.strict (rN.small (by have := pm.2.1; omega)) hTu) ?_
  rintro v w22 ⟨A22, c22, rfl, o22, b22⟩
  have M22 := M.below b22
  have rO := OwnI.tyb (es := [3]) (B := 0) o22 (by decide)
  simp (disch := first | with_reducible assumption | omega) only [push_cast, x_blk, x_cd, ↓reduceIte, Nat.reduceEqDiff, List.map_cons, List.map_nil, Int.reduceEq, Int.lt_irrefl, bs_44]
  have hz22 := b22.size
  refine ⟨b22, (b22.trans ((Below.refl _ _).alloc hz22 _)), ?_⟩
  refine app_rec hdEnc slT_44 M22.oH ⟨A22, c22, N⟩ (by omega) (by omega) (by have := M22.kV.lt; omega) ?_
  intro A23 c23 w23 o23 g23 hA23 hs23 z23
  have kV23 := M22.kV.grown g23.by_ (M22.oH.ne_blk M22.kV (by decide)).symm
  simp (disch := first | with_reducible assumption | omega) only [push_cast, x_blk, x_cd, ↓reduceIte, Nat.reduceEqDiff, List.map_cons, List.map_nil, Int.reduceEq, Int.lt_irrefl, fr]
  refine sto_slice kV23 (by kernel_rfl) 0 (by simp) A23 _ c23 ?_
  intro w24 k24 g24 z24
  have e24 : (vlC An hs.length cn Am ms.length cm).set 0 (.slice A23 (hs.length + 1) c23) = vlC A23 (hs ++ [(⟨A22, c22, N⟩ : Hd)]).length c23 Am ms.length cm := by rw [List.length_append]; rfl
  rw [e24] at k24
  have q1 : w.heap.size < gN + 1 := by omega
  have q2 : w1.heap.size < gN + 1 := by omega
  have q3 : gK < gN := by omega
  have M24 := M22.row q1 q2 (by omega) (by omega) hgV2 rO o23 g23 k24 g24
  have hhs2 : (hs ++ [(⟨A22, c22, N⟩ : Hd)]).map (·.l) = (vIter p free n).nodes.take (n + 1) := by rw [List.map_append, hhs, htk]; rfl
  generalize hs ++ [(⟨A22, c22, N⟩ : Hd)] = hs at *
  clear M22 M k24 g24 o23 g23 kV23 rO b22 kV0 hRN bd
  have hz24 := M24.bel.size
  simp (disch := first | with_reducible assumption | omega) only [push_cast, x_blk, x_cd, ↓reduceIte, Nat.reduceEqDiff, List.map_cons, List.map_nil, Int.reduceEq, Int.lt_irrefl, fr, M24.kP.p5]
  refine loop_rule (fun f' w' => ∃ (j : Nat) (AN : Option Addr) (cN : Nat) (ms : List MvH) (Am : Option Addr) (cm : Nat), j ≤ p.seen.length ∧
      (f' 2 = .pointer (some ⟨w.heap.size, 0, none⟩) ∧ f' 4 = .pointer (some ⟨w1.heap.size, 0, none⟩) ∧ f' 7 = .pointer (some ⟨gK, 0, none⟩) ∧ f' 9 = .map (some gN) ∧ f' 10 = .slice AN (vPart p free n j).nodes.length cN ∧ f' 11 = .pointer (some ⟨gV, 0, none⟩) ∧ f' 12 = .int .i64 n ∧ f' 84 = .slice a.Ap p.seen.length a.cp ∧ f' 85 = .int .i64 p.seen.length ∧ f' 86 = .int .i64 j) ∧
      VMem w a p A1 free c1 w1.heap.size gM gK gN gV w' (vPart p free n j) AN cN hs A23 c23 ms Am cm)
    (fun f' _ => p.seen.length - (intOf (f' 86)).toNat) ⟨0, AN, cN, ms, Am, cm, Nat.zero_le _, (by simp only [push_cast, ↓reduceIte, Nat.reduceEqDiff, true_and, and_true, and_self, eq_self, fr, vPart_zero]), by rw [vPart_zero]; exact M24⟩ ?_
  clear M24 fr
  rintro f w25 ⟨j, AN, cN, ms, Am, cm, hj, fr, M⟩ J2 hJ2
  obtain ⟨hGp, hpre⟩ := vPart_good (p := p) (free := free) hm n j
  by_cases hjl : j < p.seen.length
  case neg =>
    obtain rfl : j = p.seen.length := by omega
    rw [vPart_all] at fr M
    have hpre1 := (vIter_pre (p := p) (free := free) (Nat.le_succ n)).2
    simp (disch := first | with_reducible assumption | omega) only [push_cast, x_blk, x_cd, ↓reduceIte, Nat.reduceEqDiff, List.map_cons, List.map_nil, Int.reduceEq, Int.lt_irrefl, L_veil_Make_0, fr, Nat.lt_irrefl]
    exact hJ _ _ ⟨n + 1, AN, cN, hs, A23, c23, ms, Am, cm, Nat.le_trans hlt hpre1.length_le, (by simp only [push_cast, ↓reduceIte, Nat.reduceEqDiff, true_and, and_true, and_self, eq_self, fr]), by
      obtain ⟨t, ht⟩ := hpre1
      rw [hhs2, ← ht, List.take_append_of_le_length hlt], M⟩ (by rw [hmu]; simp only [push_cast, ↓reduceIte, Nat.reduceEqDiff, intOf, fr]; omega)
  have hNp : (vPart p free n j).nodes[n]? = some N := by rw [prefix_getElem? hpre hlt, hNn]
  have hNd : (vPart p free n j).nodes.getD n [] = N := by rw [List.getD_eq_getElem?_getD, hNp]; rfl
  have hlp : n < (vPart p free n j).nodes.length := Nat.lt_of_lt_of_le hlt hpre.length_le
  have hl64p := hGp.len pm.2.1
  have hz25 := M.bel.size
  have hTw2 := hT.on M.bel
  have hIs := (ha.up M.bel).seen
  have sI := hIs.isSome (by omega)
  have hld := fun {K : Fr → World → Prop} {f : Fr} {d : Option Nat} {w : World} => hIs.ld (P := Tryd.prog) (K := K) (f := f) (d := d) (w := w) ty_ag_3 j hjl
  have hem := getD_mem p.seen 0 j hjl
  have hsucc := vPart_succ (p := p) (free := free) n hjl
  have hmvl := vPart_len (p := p) (free := free) n8 n j
  generalize p.seen.getD j 0 = e at *
  generalize vPart p free n j = st at *
  have hmu2 : (intOf (f 86)).toNat = j := by rw [fr.2.2.2.2.2.2.2.2.2]; simp [intOf]
  have hRN := Recs.lt setEnc (by decide) (OwnR.recs M.oN setEnc (by decide))
  have sN := hRN.isSome (by omega)
  have hldN := fun {K : Fr → World → Prop} {f : Fr} {d : Option Nat} {w' : World} => hRN.ldAll (P := Tryd.prog) (K := K) (f := f) (d := d) (w := w') setEnc ty_ag_76 hNp ty_sz_76
  obtain ⟨χ, hχ, hMχ⟩ := M.mM
  have hmsl : ms.length = st.moves.length := by have := congrArg List.length M.ab; simpa using this
  have kK25 := M.kK
  simp (disch := first | with_reducible assumption | omega) only [push_cast, x_blk, x_cd, ↓reduceIte, Nat.reduceEqDiff, List.map_cons, List.map_nil, Int.reduceEq, Int.lt_irrefl, L_veil_Make_0, fr, hjl, sI, hld, hlp, sN, hldN]
  refine call_of (veil_move (B := w.heap.size) hz25 (ha.below M.bel) hf pm hpl hTw2 (h1.below M.bel) n1 (by omega) kK25 hχ hMχ rN e) ?_
  rintro v w26 ⟨A26, c26, rfl, o26, ⟨hM26, k26⟩, hT26⟩
  have M26 := M.keepM (by omega) (by omega) hgKM hz15 hgV2 k26 hM26
  have rO := OwnI.tyb (es := [3]) (B := 0) o26 (by decide)
  have rT := toL_row (free := free) hm N e
  have rW := wideL_row (seen := p.seen) hm (row_range rT)
  have hE : vE p free n st e = if stayL p.m (toL p free N e) N e = [] then st else ⟨if wideL p.m p.seen (toL p free N e) ∈ st.nodes then st.nodes else st.nodes ++ [wideL p.m p.seen (toL p free N e)], st.moves ++ [⟨n, e, stayL p.m (toL p free N e) N e, ixL (wideL p.m p.seen (toL p free N e)) st.nodes⟩]⟩ := by unfold vE; rw [hNd]
  rw [hE] at hsucc
  clear hE M hRN hldN hMχ kK25
  generalize toL p free N e = T at *
  generalize wideL p.m p.seen T = W at *
  generalize stayL p.m T N e = S at *
  simp (disch := first | with_reducible assumption | omega) only [push_cast, x_blk, x_cd, ↓reduceIte, Nat.reduceEqDiff, List.map_cons, List.map_nil, Int.reduceEq, Int.lt_irrefl, fr]
  have hAm : Am.map (·.block) ≠ some w26.heap.size := fun hh => by have := M26.oM.ltB hh.symm; omega
  have hz26 := M26.bel.size
  have lN26 : gN < w26.heap.size := by obtain ⟨ψ, hh, _⟩ := M26.mN; exact hh.lt
  refine blk_of (cs := MvH.cells ⟨0, 0, none, 0, [], 0⟩) al_56 ?_
  intro w27 k15 b27 z27
  simp (disch := first | with_reducible assumption | omega) only [push_cast, x_blk, x_cd, ↓reduceIte, Nat.reduceEqDiff, List.map_cons, List.map_nil, Int.reduceEq, Int.lt_irrefl, fr]
  refine blk_of (cs := setCells (wordsOf [])) al_76 ?_
  intro w28 k16 b28 z28
  replace k15 := k15.below b28 k15.lt
  have b268 := b27.trans (b28.mono b27.size)
  simp (disch := first | with_reducible assumption | omega) only [push_cast, x_blk, x_cd, ↓reduceIte, Nat.reduceEqDiff, List.map_cons, List.map_nil, Int.reduceEq, Int.lt_irrefl, fr]
  refine sto_blk k15 (cs := MvH.cells ⟨0, e, A26, c26, S, 0⟩) (e4_mv _) rfl (mv_one _) ?_
  intro w29 k15' g29 z29
  have b269 := g29.below b268 b268.size (by intro a ha; injection ha with ha; subst ha; exact Nat.le_refl _)
  have k16' := k16.grown g29.by_ (by simp; omega)
  simp (disch := first | with_reducible assumption | omega) only [push_cast, x_blk, x_cd, ↓reduceIte, Nat.reduceEqDiff, List.map_cons, List.map_nil, Int.reduceEq, Int.lt_irrefl, fr]
  refine sto_blk k16' (cs := setCells (wordsOf W)) (e4_set _) (by rw [setCells_4, setCells_4]) (setCells_one _) ?_
  intro w30 k16'' g30 z30
  have b2630 := g30.below b269 b269.size (by intro a ha; injection ha with ha; subst ha; exact b27.size)
  have k15'' := k15'.grown g30.by_ (by simp; omega)
  have M30 := M26.below b2630
  have rO30 := rO.keepT (.below b2630)
  clear k15 k16 k15' k16' g29 g30 b269 b268 b28 b27 M26 rO o26
  have k15 := k15''
  have k16 := k16''
  clear k15'' k16''
  by_cases hS : S = []
  · rw [if_pos hS] at hsucc
    have hd : decide (0 < S.length) = false := by rw [hS]; rfl
    simp (disch := first | with_reducible assumption | omega) only [push_cast, x_blk, x_cd, ↓reduceIte, Nat.reduceEqDiff, List.map_cons, List.map_nil, Int.reduceEq, Int.lt_irrefl, fr, hd]
    exact hJ2 _ _ ⟨j + 1, AN, cN, ms, Am, cm, hjl, (by simp only [push_cast, ↓reduceIte, Nat.reduceEqDiff, true_and, and_true, and_self, eq_self, fr, hsucc]), by rw [hsucc]; exact M30⟩ (by rw [hmu2]; simp only [push_cast, ↓reduceIte, Nat.reduceEqDiff, intOf, fr]; omega)
  rw [if_neg hS] at hsucc
  have hd : decide (0 < S.length) = true := decide_eq_true (by cases S with | nil => exact absurd rfl hS | cons _ _ => simp)
  have hmN30 := M30.mN
  obtain ⟨ψ, hψm, hψ⟩ := hmN30
  have W6 : IsRow W 6 := rW.more pm.2.1
  have hlk : ∀ {K : Fr → World → Prop} {f : Fr} {d : Option Nat} {w : World}, Val1 Tryd.prog K (Instr.lookup 106 (.map (some gN)) (.agg (setC W).toArray) true) w30 f d w = K (updO f d (.tuple #[.int .i64 ((ψ W).getD 0), .bool (ψ W).isSome])) w := fun {K f d w} => hψm.look2 W6
  rw [hψ W W6] at hlk
  by_cases hW : W ∈ st.nodes
  · rw [if_pos hW] at hlk hsucc
    have M32 := M30
    have rO32 := rO30
    generalize AN = ANx at *
    generalize cN = cNx at *
    have hndl := True.intro
    simp (disch := first | with_reducible assumption | omega) only [push_cast, x_blk, x_cd, ↓reduceIte, Nat.reduceEqDiff, List.map_cons, List.map_nil, Int.reduceEq, Int.lt_irrefl, fr, hd, k16.setA (wordsOf_words _) ty_ag_76 ty_sz_76, v_lookup, hlk, Option.getD_some, Option.isSome_some]
    refine sto_cell k15 (by kernel_rfl) 0 (by simp [MvH.cells]) .i64 (n : Int) ?_
    intro w40 k40 g40 z40
    simp (disch := first | with_reducible assumption | omega) only [push_cast, x_blk, x_cd, ↓reduceIte, Nat.reduceEqDiff, List.map_cons, List.map_nil, Int.reduceEq, Int.lt_irrefl, fr]
    refine sto_cell k40 (by kernel_rfl) 3 (by simp [MvH.cells]) .i64 _ ?_
    intro w41 k41 g41 z41
    replace k41 : Blk w41 w26.heap.size 56 (MvH.cells ⟨n, e, A26, c26, S, (ixL W st.nodes : Nat)⟩) := by first | exact k41 | (rw [hix]; exact k41)
    have M41 := (M32.grownF k15 (by omega) hAm g40).grownF k40 (by omega) hAm g41
    have rO41 := (rO32.keepT (KeepT.grewB k15 (Nat.zero_le _) (by decide) g40)).keepT (KeepT.grewB k40 (Nat.zero_le _) (by decide) g41)
    simp (disch := first | with_reducible assumption | omega) only [push_cast, x_blk, x_cd, ↓reduceIte, Nat.reduceEqDiff, List.map_cons, List.map_nil, Int.reduceEq, Int.lt_irrefl, fr, M41.kV.w1 ty_ag_45, k41.vA, bs_rec mvEnc slT_45 _ (by decide)]
    refine app_rec mvEnc slT_45 M41.oM ⟨n, e, A26, c26, S, (ixL W st.nodes : Nat)⟩ (by omega) (by omega) (by have := M41.kV.lt; omega) ?_
    intro A42 c42 w42 o42 g42 hA42 hs42 z42
    have kV42 := M41.kV.grown g42.by_ (M41.oM.ne_blk M41.kV (by decide)).symm
    simp (disch := first | with_reducible assumption | omega) only [push_cast, x_blk, x_cd, ↓reduceIte, Nat.reduceEqDiff, List.map_cons, List.map_nil, Int.reduceEq, Int.lt_irrefl, fr]
    refine sto_slice kV42 (by kernel_rfl) 1 (by simp) A42 _ c42 ?_
    intro w43 k43 g43 z43
    have e43 : (vlC A23 hs.length c23 Am ms.length cm).set 1 (.slice A42 (ms.length + 1) c42) = vlC A23 hs.length c23 A42 (ms ++ [(⟨n, e, A26, c26, S, (ixL W st.nodes : Nat)⟩ : MvH)]).length c42 := by rw [List.length_append]; rfl
    rw [e43] at k43
    have M43 := M41.move (st' := ⟨st.nodes, st.moves ++ [⟨n, e, S, ixL W st.nodes⟩]⟩) q1 q2 (by omega) (by omega) hgV2 rO41 rfl (by rw [List.map_append]; rfl) o42 g42 k43 g43
    simp (disch := first | with_reducible assumption | omega) only [push_cast, x_blk, x_cd, ↓reduceIte, Nat.reduceEqDiff, List.map_cons, List.map_nil, Int.reduceEq, Int.lt_irrefl, fr]
    exact hJ2 _ _ ⟨j + 1, ANx, cNx, ms ++ [⟨n, e, A26, c26, S, (ixL W st.nodes : Nat)⟩], A42, c42, hjl, (by simp only [push_cast, ↓reduceIte, Nat.reduceEqDiff, true_and, and_true, and_self, eq_self, fr, hsucc, hndl, List.length_append, List.length_cons, List.length_nil]), by rw [hsucc]; exact M43⟩ (by rw [hmu2]; simp only [push_cast, ↓reduceIte, Nat.reduceEqDiff, intOf, fr]; omega)
  rw [if_neg hW] at hlk hsucc
  simp (disch := first | with_reducible assumption | omega) only [push_cast, x_blk, x_cd, ↓reduceIte, Nat.reduceEqDiff, List.map_cons, List.map_nil, Int.reduceEq, Int.lt_irrefl, fr, hd, k16.setA (wordsOf_words _) ty_ag_76 ty_sz_76, v_lookup, hlk, Option.getD_none, Option.isSome_none]
  have hg15 := k15.lt
  refine hψm.put W6 (st.nodes.length : Int) ?_
  intro w31 mN31 g31 z31
  have oN31 := M30.oN.grew g31 (.inr (fun h => M30.oN.ne_ltV (Nat.lt_succ_self gN) h.symm))
  have k15b := k15.grown g31.by_ (by simp; omega)
  have k16b := k16.grown g31.by_ (by simp; omega)
  simp (disch := first | with_reducible assumption | omega) only [push_cast, x_blk, x_cd, ↓reduceIte, Nat.reduceEqDiff, List.map_cons, List.map_nil, Int.reduceEq, Int.lt_irrefl, fr, k16b.setA (wordsOf_words _) ty_ag_76 ty_sz_76, bs_rec setEnc slT_72 _ (by decide)]
  refine app_rec setEnc slT_72 oN31 W (by omega) (by omega) (by have := M30.kV.lt; omega) ?_
  intro ANx cNx w32 oN32 g32 hA32 hs32 z32
  have hix := ixL_none hW
  have M32 := M30.node (y := W) (ψ' := putF ψ W (st.nodes.length : Int)) (by omega) (by omega) q3 (by omega) hgV2 g31 mN31 (fun t ht => by
    unfold putF
    by_cases c : t = W
    · rw [if_pos c, if_pos (by simp [c]), c]
      have : ixL W (st.nodes ++ [W]) = st.nodes.length := ixL_first (by simp) (fun i hi hh => hW (by rw [List.getElem?_append_left hi] at hh; exact List.mem_of_getElem? hh))
      rw [this]
    · rw [if_neg c, hψ t ht]
      by_cases c2 : t ∈ st.nodes
      · rw [if_pos c2, if_pos (by simp [c2])]
        have := ixL_lt c2
        have h2 : ixL t (st.nodes ++ [W]) = ixL t st.nodes := ixL_first (by rw [List.getElem?_append_left this.1]; exact this.2) (fun i hi hh => by
          rw [List.getElem?_append_left (by omega)] at hh
          exact ixL_min hi hh)
        rw [h2]
      · rw [if_neg c2, if_neg (by simp [c2, c])]) oN32 g32
  have rO32 := (rO30.keepT (KeepT.grewM M30.mN g31)).keepT (KeepT.grew (es := [3]) oN31 (Nat.zero_le _) (by decide) g32)
  have k15 := k15b.grown g32.by_ (oN31.ne_blk k15b (by decide)).symm
  have hndl : (st.nodes ++ [W]).length = st.nodes.length + 1 := by simp
  generalize hNd2 : st.nodes ++ [W] = nd at *
  simp (disch := first | with_reducible assumption | omega) only [push_cast, x_blk, x_cd, ↓reduceIte, Nat.reduceEqDiff, List.map_cons, List.map_nil, Int.reduceEq, Int.lt_irrefl, fr]
  refine sto_cell k15 (by kernel_rfl) 0 (by simp [MvH.cells]) .i64 (n : Int) ?_
  intro w40 k40 g40 z40
  simp (disch := first | with_reducible assumption | omega) only [push_cast, x_blk, x_cd, ↓reduceIte, Nat.reduceEqDiff, List.map_cons, List.map_nil, Int.reduceEq, Int.lt_irrefl, fr]
  refine sto_cell k40 (by kernel_rfl) 3 (by simp [MvH.cells]) .i64 _ ?_
  intro w41 k41 g41 z41
  replace k41 : Blk w41 w26.heap.size 56 (MvH.cells ⟨n, e, A26, c26, S, (ixL W st.nodes : Nat)⟩) := by first | exact k41 | (rw [hix]; exact k41)
  have M41 := (M32.grownF k15 (by omega) hAm g40).grownF k40 (by omega) hAm g41
  have rO41 := (rO32.keepT (KeepT.grewB k15 (Nat.zero_le _) (by decide) g40)).keepT (KeepT.grewB k40 (Nat.zero_le _) (by decide) g41)
  simp (disch := first | with_reducible assumption | omega) only [push_cast, x_blk, x_cd, ↓reduceIte, Nat.reduceEqDiff, List.map_cons, List.map_nil, Int.reduceEq, Int.lt_irrefl, fr, M41.kV.w1 ty_ag_45, k41.vA, bs_rec mvEnc slT_45 _ (by decide)]
  refine app_rec mvEnc slT_45 M41.oM ⟨n, e, A26, c26, S, (ixL W st.nodes : Nat)⟩ (by omega) (by omega) (by have := M41.kV.lt; omega) ?_
  intro A42 c42 w42 o42 g42 hA42 hs42 z42
  have kV42 := M41.kV.grown g42.by_ (M41.oM.ne_blk M41.kV (by decide)).symm
  simp (disch := first | with_reducible assumption | omega) only [push_cast, x_blk, x_cd, ↓reduceIte, Nat.reduceEqDiff, List.map_cons, List.map_nil, Int.reduceEq, Int.lt_irrefl, fr]
  refine sto_slice kV42 (by kernel_rfl) 1 (by simp) A42 _ c42 ?_
  intro w43 k43 g43 z43
  have e43 : (vlC A23 hs.length c23 Am ms.length cm).set 1 (.slice A42 (ms.length + 1) c42) = vlC A23 hs.length c23 A42 (ms ++ [(⟨n, e, A26, c26, S, (ixL W st.nodes : Nat)⟩ : MvH)]).length c42 := by rw [List.length_append]; rfl
  rw [e43] at k43
  have M43 := M41.move (st' := ⟨nd, st.moves ++ [⟨n, e, S, ixL W st.nodes⟩]⟩) q1 q2 (by omega) (by omega) hgV2 rO41 rfl (by rw [List.map_append]; rfl) o42 g42 k43 g43
  simp (disch := first | with_reducible assumption | omega) only [push_cast, x_blk, x_cd, ↓reduceIte, Nat.reduceEqDiff, List.map_cons, List.map_nil, Int.reduceEq, Int.lt_irrefl, fr]
  exact hJ2 _ _ ⟨j + 1, ANx, cNx, ms ++ [⟨n, e, A26, c26, S, (ixL W st.nodes : Nat)⟩], A42, c42, hjl, (by simp only [push_cast, ↓reduceIte, Nat.reduceEqDiff, true_and, and_true, and_self, eq_self, fr, hsucc, hndl, List.length_append, List.length_cons, List.length_nil]), by rw [hsucc]; exact M43⟩ (by rw [hmu2]; simp only [push_cast, ↓reduceIte, Nat.reduceEqDiff, intOf, fr]; omega)
end Go.Proofs.YtcjedgiglimipaaDoor

/-
  Chapter 15's reference: Plain, Make: by their contracts.
-/
namespace Go.Proofs.YtcjedgiglimipaaDoor
set_option linter.unusedSimpArgs false
set_option linter.unusedVariables false
set_option linter.unusedSectionVars false
open Go.RowKit

theorem ref15_Plain2 {w : World} {a : PV} {p : Plt} (ha : IsP (· < w.heap.size) w a p) (hf : p.Fits) (hm : p.m.May) :
    Cal Tryd.prog 74 [a.val p] w fun v w' => (∃ b : Bool, v = .bool b ∧ (b = true ↔ PlainM p.m)) ∧ Below w.heap.size w w' := by
  have nS := hf.m.lenS
  have m256 := hm.2.1
  have e8 := hm.2.2.2.1
  have e0 := hm.2.2.1
  refine cal_ref15_Plain (by simp) 100000 fun Q hQ => ?_
  simp (disch := first | with_reducible assumption | omega) only [push_cast, x_blk, x_cd, ↓reduceIte, Nat.reduceEqDiff, List.map_cons, List.map_nil, Int.reduceEq, Int.lt_irrefl, F_ref15_Plain]
  refine blk_of (box_agg _ (a.cells p)) ?_
  intro w1 k1 b1 z1
  by_cases c1 : (1 : Int) < (p.m.starts.length : Int)
  · simp (disch := first | with_reducible assumption | omega) only [push_cast, x_blk, x_cd, ↓reduceIte, Nat.reduceEqDiff, List.map_cons, List.map_nil, Int.reduceEq, Int.lt_irrefl, k1.p2, c1]
    exact fin_1 (hQ _ _ ⟨⟨false, (by simp only [push_cast, ↓reduceIte, Nat.reduceEqDiff, Int.reduceEq]), ⟨fun h => (by cases h), fun h => absurd h.1 (by omega)⟩⟩, b1⟩)
  simp (disch := first | with_reducible assumption | omega) only [push_cast, x_blk, x_cd, ↓reduceIte, Nat.reduceEqDiff, List.map_cons, List.map_nil, Int.reduceEq, Int.lt_irrefl, k1.p2, c1]
  refine loop_rule (fun f w' => ∃ k : Nat, (k : Int) ≤ p.m.states ∧ (f 1 = .pointer (some ⟨w.heap.size, 0, none⟩) ∧ f 3 = .int .i64 k) ∧ (∀ s e : Int, 0 ≤ s → s < k → 0 ≤ e → e < p.m.events → (stepL p.m [s] e).length ≤ 1) ∧ Below w1.heap.size w1 w')
    (fun f _ => p.m.states.toNat - (intOf (f 3)).toNat) ⟨0, by have := hm.1; omega, ⟨rfl, rfl⟩, fun s e h0 h1 => absurd h1 (by omega), Below.refl _ _⟩ ?_
  rintro f w2 ⟨k, hk, fr, hpre, b2⟩ J hJ
  have k2 := k1.below b2 k1.lt
  have hmu : (intOf (f 3)).toNat = k := by rw [fr.2]; simp [intOf]
  by_cases hlt : (k : Int) < p.m.states
  case neg =>
    simp (disch := first | with_reducible assumption | omega) only [push_cast, x_blk, x_cd, ↓reduceIte, Nat.reduceEqDiff, List.map_cons, List.map_nil, Int.reduceEq, Int.lt_irrefl, L_ref15_Plain_1, fr, hlt, k2.p0]
    exact fin_1 (hQ _ _ ⟨⟨true, (by simp only [push_cast, ↓reduceIte, Nat.reduceEqDiff, Int.reduceEq]), ⟨fun _ => ⟨by omega, fun s e h0 h1 => hpre s e h0 (by omega)⟩, fun _ => rfl⟩⟩, b1.trans (b2.mono b1.size)⟩)
  simp (disch := first | with_reducible assumption | omega) only [push_cast, x_blk, x_cd, ↓reduceIte, Nat.reduceEqDiff, List.map_cons, List.map_nil, Int.reduceEq, Int.lt_irrefl, L_ref15_Plain_1, fr, hlt, k2.p0]
  refine loop_rule (fun f w' => ∃ j : Nat, (j : Int) ≤ p.m.events ∧ (f 1 = .pointer (some ⟨w.heap.size, 0, none⟩) ∧ f 3 = .int .i64 k ∧ f 4 = .int .i64 j) ∧ (∀ e : Int, 0 ≤ e → e < j → (stepL p.m [(k : Int)] e).length ≤ 1) ∧ Below w1.heap.size w1 w')
    (fun f _ => p.m.events.toNat - (intOf (f 4)).toNat) ⟨0, by omega, (by simp only [push_cast, ↓reduceIte, Nat.reduceEqDiff, true_and, and_true, and_self, eq_self, fr]), fun e h0 h1 => absurd h1 (by omega), b2⟩ ?_
  clear fr k2 b2
  rintro f w2 ⟨j, hj, fr, hpre2, b2⟩ J2 hJ2
  have k2 := k1.below b2 k1.lt
  have bb := b1.trans (b2.mono b1.size)
  by_cases hjt : (j : Int) < p.m.events
  case neg =>
    simp (disch := first | with_reducible assumption | omega) only [push_cast, x_blk, x_cd, ↓reduceIte, Nat.reduceEqDiff, List.map_cons, List.map_nil, Int.reduceEq, Int.lt_irrefl, L_ref15_Plain_0, fr, hjt, k2.p1]
    exact hJ _ _ ⟨k + 1, by omega, (by simp only [push_cast, ↓reduceIte, Nat.reduceEqDiff, true_and, and_true, and_self, eq_self, fr]), fun s e h0 h1 h2 h3 => by
      by_cases e1 : s = k
      · rw [e1]; exact hpre2 e h2 (by omega)
      · exact hpre s e h0 (by omega) h2 h3, b2⟩ (by rw [hmu]; simp only [push_cast, ↓reduceIte, Nat.reduceEqDiff, intOf, fr]; omega)
  have oE := own_int1 w2 (k : Int) 3
  have b3 : Below w2.heap.size w2 (w2.alloc (.cells [.int .i64 (k : Int)].toArray 3)) := (Below.refl _ _).alloc (Nat.le_refl _) _
  simp (disch := first | with_reducible assumption | omega) only [push_cast, x_blk, x_cd, ↓reduceIte, Nat.reduceEqDiff, List.map_cons, List.map_nil, Int.reduceEq, Int.lt_irrefl, L_ref15_Plain_0, fr, hjt, k2.p1, k2.pM, bs_22]
  generalize w2.alloc (.cells [.int .i64 (k : Int)].toArray 3) = w3 at *
  have bb3 := bb.trans (b3.mono bb.size)
  refine call_of (ref2_Step (l := [(k : Int)]) (ha.up bb3).m hf.m (OwnI.ints oE).lt (by simp) (j : Int)) ?_
  rintro v w4 ⟨A4, c4, rfl, o4, b4⟩
  have b14 := b2.trans ((b3.trans (b4.mono b3.size)).mono b2.size)
  by_cases q : (1 : Int) < ((stepL p.m [(k : Int)] j).length : Int)
  · simp (disch := first | with_reducible assumption | omega) only [push_cast, x_blk, x_cd, ↓reduceIte, Nat.reduceEqDiff, List.map_cons, List.map_nil, Int.reduceEq, Int.lt_irrefl, fr, q]
    exact fin_1 (hQ _ _ ⟨⟨false, (by simp only [push_cast, ↓reduceIte, Nat.reduceEqDiff, Int.reduceEq]), ⟨fun h => (by cases h), fun h => absurd (h.2 k j (by omega) hlt (by omega) hjt) (by omega)⟩⟩, b1.trans (b14.mono b1.size)⟩)
  have hrl := row_lenV (stepL_row hm [(k : Int)] (j : Int))
  simp (disch := first | with_reducible assumption | omega) only [push_cast, x_blk, x_cd, ↓reduceIte, Nat.reduceEqDiff, List.map_cons, List.map_nil, Int.reduceEq, Int.lt_irrefl, fr, q]
  exact hJ2 _ _ ⟨j + 1, by omega, (by simp only [push_cast, ↓reduceIte, Nat.reduceEqDiff, true_and, and_true, and_self, eq_self, fr]), fun e h0 h1 => by
    by_cases e1 : e = j
    · rw [e1]; omega
    · exact hpre2 e h0 (by omega), b14⟩ (by simp only [push_cast, ↓reduceIte, Nat.reduceEqDiff, intOf, fr]; omega)
structure RMem (w0 : World) (a : PV) (p : Plt) (G : List Bool) (gR gG gV : Nat) (w : World) (st : VS) (hs : List Hd) (An : Option Addr) (cn : Nat) (ms : List MvH) (Am : Option Addr) (cm : Nat) : Prop where
  kP : Blk w w0.heap.size 43 (a.cells p)
  kR : Blk w gR 47 veil0
  kG : Blk w gG 4 (G.map Value.bool)
  kV : Blk w gV 47 (vlC An hs.length cn Am ms.length cm)
  oH : OwnR Hd.cells (gG + 1) 22 1 w An cn hs
  oM : OwnR MvH.cells (gG + 1) 56 4 w Am cm ms
  rH : ∀ x ∈ hs, Ints (TyB [3] 0 w) w x.A x.l
  rM : ∀ x ∈ ms, Ints (TyB [3] 0 w) w x.A x.st
  nd : hs.map (·.l) = st.nodes
  ab : ms.map MvH.abs = st.moves.map Mv.abs
  bel : Below w0.heap.size w0 w
section
variable {w0 : World} {a : PV} {p : Plt} {G : List Bool} {gR gG gV : Nat} {w w' : World} {st : VS} {hs : List Hd} {An : Option Addr} {cn : Nat} {ms : List MvH} {Am : Option Addr} {cm : Nat}
theorem RMem.below (h : RMem w0 a p G gR gG gV w st hs An cn ms Am cm) (b : Below w.heap.size w w') : RMem w0 a p G gR gG gV w' st hs An cn ms Am cm :=
  { kP := h.kP.below b h.kP.lt
    kR := h.kR.below b h.kR.lt
    kG := h.kG.below b h.kG.lt
    kV := h.kV.below b h.kV.lt
    oH := h.oH.below b (Nat.le_refl _)
    oM := h.oM.below b (Nat.le_refl _)
    rH := fun x hx => (h.rH x hx).keepT (.below b)
    rM := fun x hx => (h.rM x hx).keepT (.below b)
    nd := h.nd
    ab := h.ab
    bel := h.bel.trans (b.mono h.bel.size) }
theorem RMem.row (h : RMem w0 a p G gR gG gV w st hs An cn ms Am cm) (q1 : w0.heap.size < gG + 1) (q2 : gR < gG + 1) (q5 : gG < gV) {x : Hd} (hx : Ints (TyB [3] 0 w) w x.A x.l) {A' : Option Addr} {c' : Nat} {w2 : World}
    (o : OwnR Hd.cells (gG + 1) 22 1 w' A' c' (hs ++ [x])) (g : Grew w w' An) (k : Blk w2 gV 47 (vlC A' (hs ++ [x]).length c' Am ms.length cm)) (g2 : Grew w' w2 (some ⟨gV, 0, none⟩)) : RMem w0 a p G gR gG gV w2 ⟨st.nodes ++ [x.l], st.moves⟩ (hs ++ [x]) A' c' ms Am cm := by
  have kV' := h.kV.grown g.by_ (h.oH.ne_blk h.kV (by decide)).symm
  have kt := (KeepT.grew (es := [3]) h.oH (Nat.zero_le _) (by decide) g).trans (KeepT.grewB kV' (Nat.zero_le _) (by decide) g2)
  have nv : ∀ y, y < gG + 1 → some y ≠ (some (⟨gV, 0, none⟩ : Addr)).map (·.block) := fun y hy => by simp; omega
  have oM' := h.oM.grew g (Own.apart h.oM h.oH (by decide))
  have b1 := g.below h.bel h.bel.size (fun a ha => by have := h.oH.geB a ha; omega)
  exact {
    kP := (h.kP.grown g.by_ (h.oH.ne_ltV q1)).grown g2.by_ (nv _ q1)
    kR := (h.kR.grown g.by_ (h.oH.ne_ltV q2)).grown g2.by_ (nv _ q2)
    kG := (h.kG.grown g.by_ (h.oH.ne_ltV (Nat.lt_succ_self _))).grown g2.by_ (nv _ (Nat.lt_succ_self _))
    kV := k
    oH := o.grew g2 (.inr (o.ne_blk kV' (by decide)))
    oM := oM'.grew g2 (.inr (oM'.ne_blk kV' (by decide)))
    rH := fun y hy => by
      rcases List.mem_append.1 hy with hy | hy
      · exact (h.rH y hy).keepT kt
      · rw [List.mem_singleton.1 hy]; exact hx.keepT kt
    rM := fun y hy => (h.rM y hy).keepT kt
    nd := by rw [List.map_append, h.nd]; rfl
    ab := h.ab
    bel := g2.below b1 b1.size (by intro a ha; injection ha with ha; subst ha; show w0.heap.size ≤ gV; omega) }
theorem RMem.move (h : RMem w0 a p G gR gG gV w st hs An cn ms Am cm) (q1 : w0.heap.size < gG + 1) (q2 : gR < gG + 1) (q5 : gG < gV) {x : MvH} (hx : Ints (TyB [3] 0 w) w x.A x.st) {A' : Option Addr} {c' : Nat} {w2 : World} {st' : VS} (e1 : st'.nodes = st.nodes) (e2 : st'.moves.map Mv.abs = st.moves.map Mv.abs ++ [x.abs])
    (o : OwnR MvH.cells (gG + 1) 56 4 w' A' c' (ms ++ [x])) (g : Grew w w' Am) (k : Blk w2 gV 47 (vlC An hs.length cn A' (ms ++ [x]).length c')) (g2 : Grew w' w2 (some ⟨gV, 0, none⟩)) : RMem w0 a p G gR gG gV w2 st' hs An cn (ms ++ [x]) A' c' := by
  have kV' := h.kV.grown g.by_ (h.oM.ne_blk h.kV (by decide)).symm
  have kt := (KeepT.grew (es := [3]) h.oM (Nat.zero_le _) (by decide) g).trans (KeepT.grewB kV' (Nat.zero_le _) (by decide) g2)
  have nv : ∀ y, y < gG + 1 → some y ≠ (some (⟨gV, 0, none⟩ : Addr)).map (·.block) := fun y hy => by simp; omega
  have oH' := h.oH.grew g (Own.apart h.oH h.oM (by decide))
  have b1 := g.below h.bel h.bel.size (fun a ha => by have := h.oM.geB a ha; omega)
  exact {
    kP := (h.kP.grown g.by_ (h.oM.ne_ltV q1)).grown g2.by_ (nv _ q1)
    kR := (h.kR.grown g.by_ (h.oM.ne_ltV q2)).grown g2.by_ (nv _ q2)
    kG := (h.kG.grown g.by_ (h.oM.ne_ltV (Nat.lt_succ_self _))).grown g2.by_ (nv _ (Nat.lt_succ_self _))
    kV := k
    oH := oH'.grew g2 (.inr (oH'.ne_blk kV' (by decide)))
    oM := o.grew g2 (.inr (o.ne_blk kV' (by decide)))
    rH := fun y hy => (h.rH y hy).keepT kt
    rM := fun y hy => by
      rcases List.mem_append.1 hy with hy | hy
      · exact (h.rM y hy).keepT kt
      · rw [List.mem_singleton.1 hy]; exact hx.keepT kt
    nd := by rw [e1]; exact h.nd
    ab := by rw [List.map_append, h.ab, e2]; rfl
    bel := g2.below b1 b1.size (by intro a ha; injection ha with ha; subst ha; show w0.heap.size ≤ gV; omega) }
end
def RMakeRes (p : Plt) (free : List Int) (w : World) (v : Value) (w' : World) : Prop := Below w.heap.size w w' ∧
  ((¬ (firstP p ≠ [] ∧ Kp p free (firstP p)) ∧ v = .tuple #[.agg veil0.toArray, .bool false]) ∨
   ((firstP p ≠ [] ∧ Kp p free (firstP p)) ∧ ∃ k V, (vIter p free k).nodes.length = k ∧ VeilAt w' V (vIter p free k) ∧ v = .tuple #[V, .bool true]))
end Go.Proofs.YtcjedgiglimipaaDoor

/-
  Chapter 15: the law VeilMakes: by its contract.
-/
namespace Go.Proofs.YtcjedgiglimipaaDoor
set_option linter.unusedSimpArgs false
set_option linter.unusedVariables false
set_option linter.unusedSectionVars false
open Go.RowKit

theorem only_nilV {l m : List Int} : onlyL l m false = [] ↔ AllIn l m := by
  unfold onlyL AllIn
  rw [List.filter_eq_nil_iff]
  simp
def VeiledP (p : Plt) (free : List Int) : Prop := (p.May ∧ IsRow free p.m.events) ∧ VeilOkP p free
theorem law_veiled {w : World} {a : PV} {p : Plt} (ha : IsP (· < w.heap.size) w a p) (hf : p.Fits) {A1 : Option Addr} {c1 : Nat} {free : List Int} (h1 : Ints (· < w.heap.size) w A1 free) (n1 : free.length ≤ 17592186043904) :
    Cal Tryd.prog 32 [a.val p, .slice A1 free.length c1] w fun v w' => (∃ b : Bool, v = .bool b ∧ (b = true ↔ VeiledP p free)) ∧ Below w.heap.size w w' := by
  refine cal_law_veiled (by simp) 100000 fun Q hQ => ?_
  simp (disch := first | with_reducible assumption | omega) only [push_cast, x_blk, x_cd, ↓reduceIte, Nat.reduceEqDiff, List.map_cons, List.map_nil, Int.reduceEq, Int.lt_irrefl, F_law_veiled]
  refine blk_of (box_agg _ (a.cells p)) ?_
  intro w1 k1 b1 z1
  simp (disch := first | with_reducible assumption | omega) only [push_cast, x_blk, x_cd, ↓reduceIte, Nat.reduceEqDiff, List.map_cons, List.map_nil, Int.reduceEq, Int.lt_irrefl, k1.pA']
  refine call_of (ref9_May (ha.up b1) hf) ?_
  rintro v w2 ⟨rfl, b2⟩
  have bb2 := b1.trans (b2.mono b1.size)
  replace k1 := k1.below b2 k1.lt
  by_cases pm : p.May
  case neg =>
    simp (disch := first | with_reducible assumption | omega) only [push_cast, x_blk, x_cd, ↓reduceIte, Nat.reduceEqDiff, List.map_cons, List.map_nil, Int.reduceEq, Int.lt_irrefl, decide_eq_false pm]
    exact fin_1 (hQ _ _ ⟨⟨false, (by simp only [push_cast, ↓reduceIte, Nat.reduceEqDiff, Int.reduceEq]), ⟨fun h => (by cases h), fun h => absurd h.1.1 pm⟩⟩, bb2⟩)
  simp (disch := first | with_reducible assumption | omega) only [push_cast, x_blk, x_cd, ↓reduceIte, Nat.reduceEqDiff, List.map_cons, List.map_nil, Int.reduceEq, Int.lt_irrefl, decide_eq_true pm, k1.p1]
  refine call_of (ref1_Is (h1.up bb2) c1 p.m.events (by omega)) ?_
  rintro v w3 ⟨rfl, s3⟩
  have bb3 := bb2.trans (s3.below _)
  replace k1 := k1.same s3
  by_cases pr : IsRow free p.m.events
  case neg =>
    simp (disch := first | with_reducible assumption | omega) only [push_cast, x_blk, x_cd, ↓reduceIte, Nat.reduceEqDiff, List.map_cons, List.map_nil, Int.reduceEq, Int.lt_irrefl, decide_eq_false pr]
    exact fin_1 (hQ _ _ ⟨⟨false, (by simp only [push_cast, ↓reduceIte, Nat.reduceEqDiff, Int.reduceEq]), ⟨fun h => (by cases h), fun h => absurd h.1.2 pr⟩⟩, bb3⟩)
  simp (disch := first | with_reducible assumption | omega) only [push_cast, x_blk, x_cd, ↓reduceIte, Nat.reduceEqDiff, List.map_cons, List.map_nil, Int.reduceEq, Int.lt_irrefl, decide_eq_true pr, k1.pA']
  refine call_of (ref15_Plain2 (ha.up bb3) hf pm.1) ?_
  rintro v w4 ⟨⟨bp, rfl, hbp⟩, b4⟩
  have bb4 := bb3.trans (b4.mono bb3.size)
  replace k1 := k1.below b4 k1.lt
  cases bp with
  | false =>
    simp (disch := first | with_reducible assumption | omega) only [push_cast, x_blk, x_cd, ↓reduceIte, Nat.reduceEqDiff, List.map_cons, List.map_nil, Int.reduceEq, Int.lt_irrefl]
    exact fin_1 (hQ _ _ ⟨⟨false, (by simp only [push_cast, ↓reduceIte, Nat.reduceEqDiff, Int.reduceEq]), ⟨fun h => (by cases h), fun h => by have := hbp.2 h.2.2; cases this⟩⟩, bb4⟩)
  | true =>
  have hpl := hbp.1 rfl
  simp (disch := first | with_reducible assumption | omega) only [push_cast, x_blk, x_cd, ↓reduceIte, Nat.reduceEqDiff, List.map_cons, List.map_nil, Int.reduceEq, Int.lt_irrefl, k1.p5]
  refine call_of (ref1_Only (h1.up bb4) (ha.up bb4).seen c1 a.cp false n1 (by have := hf.lenP; omega)) ?_
  rintro v w5 ⟨A5, c5, rfl, o5, b5⟩
  have hiff : ((onlyL free p.seen false).length : Int) = 0 ↔ AllIn free p.seen := by
    rw [← only_nilV]
    constructor
    · intro h; exact List.eq_nil_of_length_eq_zero (by omega)
    · intro h; rw [h]; rfl
  simp (disch := first | with_reducible assumption | omega) only [push_cast, x_blk, x_cd, ↓reduceIte, Nat.reduceEqDiff, List.map_cons, List.map_nil, Int.reduceEq, Int.lt_irrefl]
  exact fin_1 (hQ _ _ ⟨⟨decide (((onlyL free p.seen false).length : Int) = 0), (by simp only [push_cast, ↓reduceIte, Nat.reduceEqDiff, Int.reduceEq]), by
    rw [decide_eq_true_iff, hiff]
    exact ⟨fun h => ⟨⟨pm, pr⟩, h, hpl⟩, fun h => h.2.1⟩⟩, bb4.trans (b5.mono bb4.size)⟩)
def VRd (w : World) (An : Option Addr) (hs : List Hd) (Am : Option Addr) (ms : List MvH) (st : VS) : Prop :=
  Recs Hd.cells 1 (· < w.heap.size) w An hs ∧ RowsAt (· < w.heap.size) w hs ∧ hs.map (·.l) = st.nodes ∧ Recs MvH.cells 4 (· < w.heap.size) w Am ms ∧ (∀ x ∈ ms, Ints (· < w.heap.size) w x.A x.st) ∧ ms.map MvH.abs = st.moves.map Mv.abs
theorem VRd.below {w w' : World} {An : Option Addr} {hs : List Hd} {Am : Option Addr} {ms : List MvH} {st : VS} (h : VRd w An hs Am ms st) (b : Below w.heap.size w w') : VRd w' An hs Am ms st := by
  obtain ⟨r1, r2, r3, r4, r5, r6⟩ := h
  have up : ∀ k, k < w.heap.size → w'.heap[k]? = w.heap[k]? ∧ k < w'.heap.size := fun k hk => ⟨b.block k hk, Nat.lt_of_lt_of_le hk b.size⟩
  exact ⟨r1.keep' up, fun x hx => (r2 x hx).keep' up, r3, r4.keep' up, fun x hx => (r5 x hx).keep' up, r6⟩
theorem VeilAt.rd {w : World} {v : Value} {st : VS} (h : VeilAt w v st) : ∃ (An : Option Addr) (cn : Nat) (hs : List Hd) (Am : Option Addr) (cm : Nat) (ms : List MvH), v = .agg (vlC An hs.length cn Am ms.length cm).toArray ∧ VRd w An hs Am ms st := h
theorem VeilAt.below {w w' : World} {v : Value} {st : VS} (h : VeilAt w v st) (b : Below w.heap.size w w') : VeilAt w' v st := by
  obtain ⟨An, cn, hs, Am, cm, ms, e, r1, r2, r3, r4, r5, r6⟩ := h
  have up : ∀ k, k < w.heap.size → w'.heap[k]? = w.heap[k]? ∧ k < w'.heap.size := fun k hk => ⟨b.block k hk, Nat.lt_of_lt_of_le hk b.size⟩
  exact ⟨An, cn, hs, Am, cm, ms, e, r1.keep' up, fun x hx => (r2 x hx).keep' up, r3, r4.keep' up, fun x hx => (r5 x hx).keep' up, r6⟩
theorem VeilAt.zero (w : World) : VeilAt w (.agg veil0.toArray) ⟨[], []⟩ := ⟨none, 0, [], none, 0, [], rfl, Recs.nil _ _ _, fun x hx => absurd hx (by simp), rfl, Recs.nil _ _ _, fun x hx => absurd hx (by simp), rfl⟩
/-- What a maker of a veil answers of a plain plant. -/
def VOut (p : Plt) (free : List Int) (is : Bool) (st : VS) : Prop :=
  (¬ (firstP p ≠ [] ∧ Kp p free (firstP p)) ∧ is = false ∧ st = ⟨[], []⟩) ∨ ((firstP p ≠ [] ∧ Kp p free (firstP p)) ∧ is = true ∧ ∃ k, (vIter p free k).nodes.length = k ∧ st = vIter p free k)
theorem VOut.same {p : Plt} {free : List Int} {is is' : Bool} {st st' : VS} (h : VOut p free is st) (h' : VOut p free is' st') : is = is' ∧ st = st' := by
  rcases h with ⟨h1, rfl, rfl⟩ | ⟨h1, rfl, k, hk, rfl⟩ <;> rcases h' with ⟨g1, rfl, rfl⟩ | ⟨g1, rfl, k', hk', rfl⟩
  · exact ⟨rfl, rfl⟩
  · exact absurd g1 h1
  · exact absurd h1 g1
  · exact ⟨rfl, vIter_same hk hk'⟩
theorem vE_stay {p : Plt} {free : List Int} (hm : p.m.May) {k : Nat} {st : VS} (hG : VGood p st) (h : ∀ mv ∈ st.moves, (mv.stay.length : Int) ≤ p.m.states) (e : Int) : ∀ mv ∈ (vE p free k st e).moves, (mv.stay.length : Int) ≤ p.m.states := by
  unfold vE
  split
  · exact h
  · rename_i hne
    intro mv hmv
    rcases List.mem_append.1 hmv with hmv | hmv
    · exact h mv hmv
    · rw [List.mem_singleton.1 hmv]
      dsimp only
      have h1 := stayL_len p.m (toL p free (st.nodes.getD k []) e) (st.nodes.getD k []) e
      by_cases hk : k < st.nodes.length
      · have := row_lenV (hG.row _ (getD_mem st.nodes [] k hk))
        have := hm.1
        omega
      · have : st.nodes.getD k [] = [] := by rw [List.getD_eq_getElem?_getD, List.getElem?_eq_none (by omega)]; rfl
        rw [this] at hne
        exact absurd (by simp [stayL]) hne
theorem vFold_stay {p : Plt} {free : List Int} (hm : p.m.May) (k : Nat) : ∀ (es : List Int) {st : VS}, VGood p st → (∀ mv ∈ st.moves, (mv.stay.length : Int) ≤ p.m.states) → ∀ mv ∈ (es.foldl (vE p free k) st).moves, (mv.stay.length : Int) ≤ p.m.states
  | [], _, _, h => h
  | e :: es, st, hG, h => vFold_stay hm k es (hG.step hm k e) (vE_stay hm hG h e)
theorem vIter_stay {p : Plt} {free : List Int} (hm : p.m.May) : ∀ k, ∀ mv ∈ (vIter p free k).moves, (mv.stay.length : Int) ≤ p.m.states
  | 0 => fun mv hmv => by simp [vIter] at hmv
  | k + 1 => vFold_stay hm k p.seen (vIter_good hm k) (vIter_stay hm k)
theorem VOut.len {p : Plt} {free : List Int} (pm : p.May) {is : Bool} {st : VS} (h : VOut p free is st) : st.nodes.length ≤ 64 ∧ st.moves.length ≤ 512 ∧ (∀ l ∈ st.nodes, l.length ≤ 256) ∧ ∀ m ∈ st.moves.map Mv.abs, m.2.2.1.length ≤ 9223372036854775807 := by
  rcases h with ⟨_, _, rfl⟩ | ⟨_, _, k, hk, rfl⟩
  · simp
  · have n8 : p.seen.length ≤ 8 := by have := row_lenV pm.2.2.1; have := pm.1.2.2.2.1; omega
    have h1 := (vIter_good (free := free) pm.1 k).len pm.2.1
    have h2 := vIter_len (p := p) (free := free) n8 k
    refine ⟨h1, by omega, fun l hl => ?_, fun m hm => ?_⟩
    · have := row_lenV ((vIter_good (free := free) pm.1 k).row l hl)
      have := pm.2.1
      omega
    · obtain ⟨mv, hmv, rfl⟩ := List.mem_map.1 hm
      have h3 := vIter_stay (p := p) (free := free) pm.1 k mv hmv
      have := pm.2.1
      show mv.stay.length ≤ _
      omega
theorem VMakeRes.out {p : Plt} {free : List Int} {w w' : World} {v : Value} (h : VMakeRes p free w v w') (hv : VeiledP p free) : Below w.heap.size w w' ∧ ∃ (V : Value) (is : Bool) (st : VS), v = .tuple #[V, .bool is, .int .i64 0] ∧ VeilAt w' V st ∧ VOut p free is st := by
  obtain ⟨b, h⟩ := h
  refine ⟨b, ?_⟩
  rcases h with ⟨h1, _⟩ | ⟨_, h2, _⟩ | ⟨_, _, h3, rfl⟩ | ⟨_, _, h3, k, V, h4, h5, rfl⟩
  · exact absurd hv.1 h1
  · exact absurd hv.2 h2
  · exact ⟨_, false, _, rfl, VeilAt.zero w', .inl ⟨h3, rfl, rfl⟩⟩
  · exact ⟨V, true, _, rfl, h5, .inr ⟨h3, rfl, k, h4, rfl⟩⟩
theorem RMakeRes.out {p : Plt} {free : List Int} {w w' : World} {v : Value} (h : RMakeRes p free w v w') : Below w.heap.size w w' ∧ ∃ (V : Value) (is : Bool) (st : VS), v = .tuple #[V, .bool is] ∧ VeilAt w' V st ∧ VOut p free is st := by
  obtain ⟨b, h⟩ := h
  refine ⟨b, ?_⟩
  rcases h with ⟨h3, rfl⟩ | ⟨h3, k, V, h4, h5, rfl⟩
  · exact ⟨_, false, _, rfl, VeilAt.zero w', .inl ⟨h3, rfl, rfl⟩⟩
  · exact ⟨V, true, _, rfl, h5, .inr ⟨h3, rfl, k, h4, rfl⟩⟩
end Go.Proofs.YtcjedgiglimipaaDoor

/-
  Chapter 15's reference: Move, Lets: by their contracts.
-/
namespace Go.Proofs.YtcjedgiglimipaaDoor
set_option linter.unusedSimpArgs false
set_option linter.unusedVariables false
set_option linter.unusedSectionVars false
open Go.RowKit

def MvIs (n : Nat) (e : Int) (mv : Mv) : Prop := mv.node = n ∧ mv.evt = e
instance (n : Nat) (e : Int) (mv : Mv) : Decidable (MvIs n e mv) := inferInstanceAs (Decidable (_ ∧ _))
theorem mvFind_first {n : Nat} {e : Int} : ∀ {ms : List Mv} {i : Nat} {mv : Mv}, (∀ i' m', i' < i → ms[i']? = some m' → ¬ MvIs n e m') → ms[i]? = some mv → MvIs n e mv → mvFind ms n e = some mv
  | [], i, mv, _, h, _ => by simp at h
  | m :: ms, 0, mv, _, h, hm => by
    simp only [List.getElem?_cons_zero, Option.some.injEq] at h
    subst h
    unfold mvFind
    rw [List.find?_cons_of_pos]
    simp only [Bool.and_eq_true, decide_eq_true_eq]
    exact hm
  | m :: ms, i + 1, mv, hno, h, hm => by
    have h0 := hno 0 m (by omega) rfl
    have ih := mvFind_first (ms := ms) (i := i) (mv := mv) (fun i' m' hi' hm' => hno (i' + 1) m' (by omega) (by simpa using hm')) (by simpa using h) hm
    unfold mvFind at ih ⊢
    rw [List.find?_cons_of_neg]
    · exact ih
    · simp only [Bool.and_eq_true, decide_eq_true_eq]; exact h0
theorem mvFind_no {n : Nat} {e : Int} {ms : List Mv} (hno : ∀ (i' : Nat) (m' : Mv), ms[i']? = some m' → ¬ MvIs n e m') : mvFind ms n e = none := by
  unfold mvFind
  refine List.find?_eq_none.2 fun mv hmv => ?_
  simp only [Bool.and_eq_true, decide_eq_true_eq]
  obtain ⟨i, hi⟩ := List.mem_iff_getElem?.1 hmv
  exact hno i mv hi
theorem mv_at {ms : List MvH} {mvs : List Mv} (h : ms.map MvH.abs = mvs.map Mv.abs) {i : Nat} {x : MvH} (hx : ms[i]? = some x) : ∃ mv, mvs[i]? = some mv ∧ x.abs = mv.abs := by
  have e1 : (ms.map MvH.abs)[i]? = some x.abs := by rw [List.getElem?_map, hx]; rfl
  rw [h, List.getElem?_map] at e1
  cases hm : mvs[i]? with
  | none => rw [hm] at e1; cases e1
  | some mv => rw [hm] at e1; exact ⟨mv, rfl, (Option.some.inj e1).symm⟩
theorem bl_mv0 {K : Fr → World → Prop} {u : World} {f : Fr} {d : Option Nat} {w : World} : Val1 Tryd.prog K (Instr.build 56 #[]) u f d w = K (updO f d (.agg (MvH.cells ⟨0, 0, none, 0, [], 0⟩).toArray)) w := bld_of (by kernel_rfl)
def MoveOut (ms : List MvH) (mv : Option Mv) (v : Value) : Prop := match mv with
  | some mv => ∃ x ∈ ms, x.abs = mv.abs ∧ v = .tuple #[.agg x.cells.toArray, .bool true]
  | none => v = .tuple #[.agg (MvH.cells ⟨0, 0, none, 0, [], 0⟩).toArray, .bool false]
theorem ref15_Move {w : World} {An : Option Addr} {cn : Nat} {hs : List Hd} {Am : Option Addr} {cm : Nat} {ms : List MvH} {st : VS} (rV : VRd w An hs Am ms st) (n : Nat) (e : Int) (nM : ms.length ≤ 100000) :
    Cal Tryd.prog 79 [.agg (vlC An hs.length cn Am ms.length cm).toArray, .int .i64 n, .int .i64 e] w fun v w' => MoveOut ms (mvFind st.moves n e) v ∧ Below w.heap.size w w' := by
  refine cal_ref15_Move (by simp) 100000 fun Q hQ => ?_
  simp (disch := first | with_reducible assumption | omega) only [push_cast, x_blk, x_cd, ↓reduceIte, Nat.reduceEqDiff, List.map_cons, List.map_nil, Int.reduceEq, Int.lt_irrefl, F_ref15_Move]
  refine blk_of (box_agg _ (vlC An hs.length cn Am ms.length cm)) ?_
  intro w1 k1 b1 z1
  simp (disch := first | with_reducible assumption | omega) only [push_cast, x_blk, x_cd, ↓reduceIte, Nat.reduceEqDiff, List.map_cons, List.map_nil, Int.reduceEq, Int.lt_irrefl]
  refine blk_of (cs := MvH.cells ⟨0, 0, none, 0, [], 0⟩) al_56 ?_
  intro w2 k2 b2 z2
  have b02 := b1.trans (b2.mono b1.size)
  replace k1 := k1.below b2 k1.lt
  have l1 := k1.lt
  have l2 := k2.lt
  have rV2 := rV.below b02
  have hR := rV2.2.2.2.1
  have hab := rV2.2.2.2.2.2
  simp (disch := first | with_reducible assumption | omega) only [push_cast, x_blk, x_cd, ↓reduceIte, Nat.reduceEqDiff, List.map_cons, List.map_nil, Int.reduceEq, Int.lt_irrefl]
  refine loop_rule (fun f w' => ∃ i : Nat, i ≤ ms.length ∧ (f 1 = .int .i64 n ∧ f 2 = .int .i64 e ∧ f 3 = .pointer (some ⟨w.heap.size, 0, none⟩) ∧ f 6 = .pointer (some ⟨w1.heap.size, 0, none⟩) ∧ f 8 = .int .i64 i) ∧ (∀ i' m', i' < i → st.moves[i']? = some m' → ¬ MvIs n e m') ∧ w' = w2)
    (fun f _ => ms.length - (intOf (f 8)).toNat) ⟨0, Nat.zero_le _, ⟨rfl, rfl, rfl, rfl, rfl⟩, fun i' m' hi' => absurd hi' (by omega), rfl⟩ ?_
  rintro f w3 ⟨i, hi, fr, hno, rfl⟩ J hJ
  have hmu : (intOf (f 8)).toNat = i := by rw [fr.2.2.2.2]; simp [intOf]
  have hml : ms.length = st.moves.length := by have := congrArg List.length hab; simpa using this
  by_cases hil : i < ms.length
  case neg =>
    obtain rfl : i = ms.length := by omega
    have hnone : mvFind st.moves n e = none := mvFind_no fun i' m' hm' => hno i' m' (by have := (List.getElem?_eq_some_iff.1 hm').1; omega) hm'
    simp (disch := first | with_reducible assumption | omega) only [push_cast, x_blk, x_cd, ↓reduceIte, Nat.reduceEqDiff, List.map_cons, List.map_nil, Int.reduceEq, Int.lt_irrefl, L_ref15_Move_0, fr, k1.w1 ty_ag_45, Nat.lt_irrefl, bl_mv0]
    refine sto_blk k2 (cs := MvH.cells ⟨0, 0, none, 0, [], 0⟩) (e4_mv _) rfl (mv_one _) ?_
    intro w4 k4 g4 z4
    simp (disch := first | with_reducible assumption | omega) only [push_cast, x_blk, x_cd, ↓reduceIte, Nat.reduceEqDiff, List.map_cons, List.map_nil, Int.reduceEq, Int.lt_irrefl, fr]
    exact fin_c2 k4 ty_ag_56 (e4_mv _) (by simp only [push_cast, ↓reduceIte, Nat.reduceEqDiff, Int.reduceEq, fr]) (hQ _ _ ⟨by rw [hnone]; exact (by simp only [push_cast, ↓reduceIte, Nat.reduceEqDiff, Int.reduceEq, fr, MoveOut]), g4.below b02 b02.size (by intro a ha; injection ha with ha; subst ha; exact b1.size)⟩)
  obtain ⟨x, hx⟩ : ∃ x, ms[i]? = some x := ⟨_, List.getElem?_eq_getElem hil⟩
  obtain ⟨mv, hmv, hxm⟩ := mv_at hab hx
  have hx1 : x.n = (mv.node : Int) := congrArg (·.1) hxm
  have hx2 : x.e = mv.evt := congrArg (·.2.1) hxm
  have sA := hR.isSome (by omega)
  have ld0 := fun {K : Fr → World → Prop} {f : Fr} {d : Option Nat} {w' : World} => hR.ld (P := Tryd.prog) (K := K) (f := f) (d := d) (w := w') ty_ag_3 hx (j := 0) (v := .int .i64 x.n) rfl
  have ld1 := fun {K : Fr → World → Prop} {f : Fr} {d : Option Nat} {w' : World} => hR.ld (P := Tryd.prog) (K := K) (f := f) (d := d) (w := w') ty_ag_3 hx (j := 1) (v := .int .i64 x.e) rfl
  have ldw := fun {K : Fr → World → Prop} {f : Fr} {d : Option Nat} {w' : World} => hR.ldAll (P := Tryd.prog) (K := K) (f := f) (d := d) (w := w') mvEnc ty_ag_56 hx ty_sz_56
  have hnext : ¬ MvIs n e mv → ∀ i' m', i' < i + 1 → st.moves[i']? = some m' → ¬ MvIs n e m' := fun hn i' m' hi' hm' => by
    by_cases c : i' = i
    · subst c; rw [hmv] at hm'; injection hm' with hm'; subst hm'; exact hn
    · exact hno i' m' (by omega) hm'
  by_cases q1 : x.n = (n : Int)
  case neg =>
    simp (disch := first | with_reducible assumption | omega) only [push_cast, x_blk, x_cd, ↓reduceIte, Nat.reduceEqDiff, List.map_cons, List.map_nil, Int.reduceEq, Int.lt_irrefl, L_ref15_Move_0, fr, k1.w1 ty_ag_45, hil, sA, ld0, q1]
    exact hJ _ _ ⟨i + 1, hil, (by simp only [push_cast, ↓reduceIte, Nat.reduceEqDiff, true_and, and_true, and_self, eq_self, fr]), hnext fun h => q1 (by rw [hx1, h.1]), rfl⟩ (by rw [hmu]; simp only [push_cast, ↓reduceIte, Nat.reduceEqDiff, intOf, fr]; omega)
  by_cases q2 : x.e = e
  case neg =>
    simp (disch := first | with_reducible assumption | omega) only [push_cast, x_blk, x_cd, ↓reduceIte, Nat.reduceEqDiff, List.map_cons, List.map_nil, Int.reduceEq, Int.lt_irrefl, L_ref15_Move_0, fr, k1.w1 ty_ag_45, hil, sA, ld0, eq_true q1, ld1, q2]
    exact hJ _ _ ⟨i + 1, hil, (by simp only [push_cast, ↓reduceIte, Nat.reduceEqDiff, true_and, and_true, and_self, eq_self, fr]), hnext fun h => q2 (by rw [hx2, h.2]), rfl⟩ (by rw [hmu]; simp only [push_cast, ↓reduceIte, Nat.reduceEqDiff, intOf, fr]; omega)
  have hfind : mvFind st.moves n e = some mv := mvFind_first hno hmv ⟨by omega, by rw [← hx2, q2]⟩
  simp (disch := first | with_reducible assumption | omega) only [push_cast, x_blk, x_cd, ↓reduceIte, Nat.reduceEqDiff, List.map_cons, List.map_nil, Int.reduceEq, Int.lt_irrefl, L_ref15_Move_0, fr, k1.w1 ty_ag_45, hil, sA, ld0, eq_true q1, ld1, eq_true q2, ldw]
  refine sto_blk k2 (cs := MvH.cells x) (e4_mv x) rfl (mv_one x) ?_
  intro w4 k4 g4 z4
  simp (disch := first | with_reducible assumption | omega) only [push_cast, x_blk, x_cd, ↓reduceIte, Nat.reduceEqDiff, List.map_cons, List.map_nil, Int.reduceEq, Int.lt_irrefl, fr]
  exact fin_c2 k4 ty_ag_56 (e4_mv x) (by simp only [push_cast, ↓reduceIte, Nat.reduceEqDiff, Int.reduceEq, fr]) (hQ _ _ ⟨by rw [hfind]; exact ⟨x, List.mem_of_getElem? hx, hxm, (by simp only [push_cast, ↓reduceIte, Nat.reduceEqDiff, Int.reduceEq, fr])⟩, g4.below b02 b02.size (by intro a ha; injection ha with ha; subst ha; exact b1.size)⟩)
end Go.Proofs.YtcjedgiglimipaaDoor

/-
  Chapter 15: the law VeilKeeps: by its contract.
-/
namespace Go.Proofs.YtcjedgiglimipaaDoor
set_option linter.unusedSimpArgs false
set_option linter.unusedVariables false
set_option linter.unusedSectionVars false
open Go.RowKit

end Go.Proofs.YtcjedgiglimipaaDoor

/-
  Chapter 15's reference: places of another way to forbid: ats, on, wide, same, holds: by their contracts.
-/
namespace Go.Proofs.YtcjedgiglimipaaDoor
set_option linter.unusedSimpArgs false
set_option linter.unusedVariables false
set_option linter.unusedSectionVars false
open Go.RowKit

structure Pt5 where
  M : Int
  R : Option Addr
  cr : Nat
  s : List Int
def Pt5.cells (p : Pt5) : List Value := [.int .i64 p.M, .slice p.R p.s.length p.cr]
def Pt5.abs (p : Pt5) : Int × List Int := (p.M, p.s)
theorem ptEnc : Enc Pt5.cells 2 := ⟨fun _ => rfl, fun p u hu => by
  unfold Pt5.cells at hu
  simp only [List.mem_cons, List.not_mem_nil, or_false] at hu
  rcases hu with rfl | rfl <;> rfl⟩
theorem pt_one (x : Pt5) : (Pt5.cells x).all (·.oneCell') = true := List.all_eq_true.2 (ptEnc.one x)
theorem e2_pt (x : Pt5) : tySize Tryd.prog 126 = some (Pt5.cells x).length := ty_sz_126
section
variable {K : Fr → World → Prop} {u : World} {f : Fr} {d : Option Nat} {w : World} {g t ty : Nat} {p : Pt5}
theorem Blk.pt0 (h : Blk u g t (Pt5.cells p)) (ht : tyAgg Tryd.prog ty = some false) : Val1 Tryd.prog K (Instr.loadAt ty (.pointer (some ⟨g, 0, none⟩))) u f d w = K (updO f d (.int .i64 p.M)) w := h.ld ht 0 (by simp [Pt5.cells])
theorem Blk.pt1 (h : Blk u g t (Pt5.cells p)) (ht : tyAgg Tryd.prog ty = some false) : Val1 Tryd.prog K (Instr.loadAt ty (.pointer (some ⟨g, 1, none⟩))) u f d w = K (updO f d (.slice p.R p.s.length p.cr)) w := h.ld ht 1 (by simp [Pt5.cells])
end
/-- A place that can be read. -/
abbrev esI : List Nat := [3]
structure PtAt (B : Nat) (w : World) (x : Pt5) : Prop where
  r : Ints (TyB esI B w) w x.R x.s
  n : x.s.length ≤ 256
theorem PtAt.keep {B : Nat} {w w' : World} {x : Pt5} (h : PtAt B w x) (k : KeepT esI B w w') : PtAt B w' x := ⟨h.r.keepT k, h.n⟩
theorem PtAt.lt {B : Nat} {w : World} {x : Pt5} (h : PtAt B w x) : Ints (· < w.heap.size) w x.R x.s := h.r.tlt
theorem ref15_ats {w : World} {L : Option Addr} {c : Nat} {ps : List Pt5} (hR : Recs Pt5.cells 2 (· < w.heap.size) w L ps) (hn : ps.length ≤ 100000) (hg : ∀ p ∈ ps, Ints (· < w.heap.size) w p.R p.s ∧ p.s.length ≤ 256) {x : Pt5} (hx : Ints (· < w.heap.size) w x.R x.s) :
    Cal Tryd.prog 112 [.slice L ps.length c, .agg x.cells.toArray] w fun v w' => v = .bool (decide (x.abs ∈ ps.map Pt5.abs)) ∧ Below w.heap.size w w' := by
  refine cal_ref15_ats (by simp) 100000 fun Q hQ => ?_
  simp (disch := first | with_reducible assumption | omega) only [push_cast, x_blk, x_cd, ↓reduceIte, Nat.reduceEqDiff, List.map_cons, List.map_nil, Int.reduceEq, Int.lt_irrefl, F_ref15_ats]
  refine blk_of (box_agg _ (Pt5.cells x)) ?_
  intro w1 k1 b1 z1
  simp (disch := first | with_reducible assumption | omega) only [push_cast, x_blk, x_cd, ↓reduceIte, Nat.reduceEqDiff, List.map_cons, List.map_nil, Int.reduceEq, Int.lt_irrefl]
  refine loop_rule (fun f w' => ∃ k : Nat, k ≤ ps.length ∧ (f 0 = .slice L ps.length c ∧ f 3 = .pointer (some ⟨w.heap.size, 0, none⟩) ∧ f 5 = .int .i64 k) ∧ (∀ (i : Nat) (p : Pt5), i < k → ps[i]? = some p → p.abs ≠ x.abs) ∧ Below w1.heap.size w1 w')
    (fun f _ => ps.length - (intOf (f 5)).toNat) ⟨0, Nat.zero_le _, ⟨rfl, rfl, rfl⟩, fun i p hi => absurd hi (by omega), Below.refl _ _⟩ ?_
  rintro f w2 ⟨k, hk, fr, hp, b2⟩ J hJ
  by_cases hlt : k < ps.length
  case neg =>
    have r : decide (x.abs ∈ ps.map Pt5.abs) = false := decide_eq_false fun h => by
      obtain ⟨p, hp1, hp2⟩ := List.mem_map.1 h
      obtain ⟨i, hi, hpi⟩ := List.getElem_of_mem hp1
      exact hp i p (by omega) (by rw [List.getElem?_eq_getElem hi, hpi]) hp2
    simp (disch := first | with_reducible assumption | omega) only [push_cast, x_blk, x_cd, ↓reduceIte, Nat.reduceEqDiff, List.map_cons, List.map_nil, Int.reduceEq, Int.lt_irrefl, L_ref15_ats_0, fr, hlt]
    exact fin_1 (hQ _ _ ⟨(by simp only [push_cast, ↓reduceIte, Nat.reduceEqDiff, Int.reduceEq, r]), b1.trans (b2.mono b1.size)⟩)
  have hpk : ps[k]? = some (ps[k]'hlt) := List.getElem?_eq_getElem hlt
  have hmem : ps[k]'hlt ∈ ps := List.getElem_mem hlt
  generalize ps[k]'hlt = p at hpk hmem
  obtain ⟨ga, na⟩ := hg p hmem
  have bd : Below w1.heap.size w1 w2.drew := drawn b2
  have bw := b1.trans (bd.mono b1.size)
  have hR1 := hR.below bw
  have hA := hR1.isSome (by omega)
  have k2 := k1.below bd k1.lt
  have l0 := fun {K : Fr → World → Prop} {f : Fr} {d : Option Nat} {w' : World} => hR1.ld (P := Tryd.prog) (K := K) (f := f) (d := d) (w := w') ty_ag_3 hpk (j := 0) (v := .int .i64 p.M) rfl
  have l1 := fun {K : Fr → World → Prop} {f : Fr} {d : Option Nat} {w' : World} => hR1.ld (P := Tryd.prog) (K := K) (f := f) (d := d) (w := w') ty_ag_22 hpk (j := 1) (v := .slice p.R p.s.length p.cr) rfl
  by_cases c0 : p.M = x.M
  case neg =>
    simp (disch := first | with_reducible assumption | omega) only [push_cast, x_blk, x_cd, ↓reduceIte, Nat.reduceEqDiff, List.map_cons, List.map_nil, Int.reduceEq, Int.lt_irrefl, L_ref15_ats_0, fr, hlt, l0, k2.pt0 ty_ag_3, c0]
    exact hJ _ _ ⟨k + 1, hlt, (by simp only [push_cast, ↓reduceIte, Nat.reduceEqDiff, true_and, and_true, and_self, eq_self, fr]), fun i p' hi hpi hh => by
      by_cases e : i = k
      · subst e; rw [hpk] at hpi; obtain rfl := Option.some.inj hpi; exact c0 (congrArg Prod.fst hh)
      · exact hp i p' (by omega) hpi hh, bd⟩ (by simp only [push_cast, ↓reduceIte, Nat.reduceEqDiff, intOf, fr]; omega)
  simp (disch := first | with_reducible assumption | omega) only [push_cast, x_blk, x_cd, ↓reduceIte, Nat.reduceEqDiff, List.map_cons, List.map_nil, Int.reduceEq, Int.lt_irrefl, L_ref15_ats_0, fr, hlt, l0, l1, k2.pt0 ty_ag_3, k2.pt1 ty_ag_22, eq_true c0]
  refine call_of (ref1_Same (ga.up bw) (hx.up bw) p.cr x.cr (by omega)) ?_
  rintro v w3 ⟨rfl, s3⟩
  have b3 := bd.trans (s3.below _)
  by_cases c1 : p.s = x.s
  · have r : decide (x.abs ∈ ps.map Pt5.abs) = true := decide_eq_true (List.mem_map.2 ⟨p, hmem, by unfold Pt5.abs; rw [c0, c1]⟩)
    simp (disch := first | with_reducible assumption | omega) only [push_cast, x_blk, x_cd, ↓reduceIte, Nat.reduceEqDiff, List.map_cons, List.map_nil, Int.reduceEq, Int.lt_irrefl, c1, eq_self]
    exact fin_1 (hQ _ _ ⟨(by simp only [push_cast, ↓reduceIte, Nat.reduceEqDiff, Int.reduceEq, r]), b1.trans (b3.mono b1.size)⟩)
  · simp (disch := first | with_reducible assumption | omega) only [push_cast, x_blk, x_cd, ↓reduceIte, Nat.reduceEqDiff, List.map_cons, List.map_nil, Int.reduceEq, Int.lt_irrefl, c1, fr]
    exact hJ _ _ ⟨k + 1, hlt, (by simp only [push_cast, ↓reduceIte, Nat.reduceEqDiff, true_and, and_true, and_self, eq_self, fr]), fun i p' hi hpi hh => by
      by_cases e : i = k
      · subst e; rw [hpk] at hpi; obtain rfl := Option.some.inj hpi; exact c1 (congrArg Prod.snd hh)
      · exact hp i p' (by omega) hpi hh, b3⟩ (by simp only [push_cast, ↓reduceIte, Nat.reduceEqDiff, intOf, fr]; omega)
/-- As many, and the ones are all among the others. -/
def SameC (a b : List (Int × List Int)) : Prop := a.length = b.length ∧ ∀ x ∈ a, x ∈ b
instance (a b : List (Int × List Int)) : Decidable (SameC a b) := by unfold SameC; exact inferInstance
theorem ref15_same {w : World} {L : Option Addr} {c : Nat} {ps : List Pt5} (hR : Recs Pt5.cells 2 (· < w.heap.size) w L ps) (hn : ps.length ≤ 100000) (hg : ∀ p ∈ ps, Ints (· < w.heap.size) w p.R p.s ∧ p.s.length ≤ 256)
    {L2 : Option Addr} {c2 : Nat} {qs : List Pt5} (hR2 : Recs Pt5.cells 2 (· < w.heap.size) w L2 qs) (hn2 : qs.length ≤ 100000) (hg2 : ∀ p ∈ qs, Ints (· < w.heap.size) w p.R p.s ∧ p.s.length ≤ 256) :
    Cal Tryd.prog 113 [.slice L ps.length c, .slice L2 qs.length c2] w fun v w' => v = .bool (decide (SameC (ps.map Pt5.abs) (qs.map Pt5.abs))) ∧ Below w.heap.size w w' := by
  refine cal_ref15_same (by simp) 100000 fun Q hQ => ?_
  by_cases hlen : (ps.length : Int) = (qs.length : Int)
  case neg =>
    have r : decide (SameC (ps.map Pt5.abs) (qs.map Pt5.abs)) = false := decide_eq_false fun h => by
      have := h.1
      rw [List.length_map, List.length_map] at this; omega
    simp (disch := first | with_reducible assumption | omega) only [push_cast, x_blk, x_cd, ↓reduceIte, Nat.reduceEqDiff, List.map_cons, List.map_nil, Int.reduceEq, Int.lt_irrefl, F_ref15_same, hlen]
    exact fin_1 (hQ _ _ ⟨(by simp only [push_cast, ↓reduceIte, Nat.reduceEqDiff, Int.reduceEq, r]), Below.refl _ _⟩)
  have hne : ((ps.length : Int) ≠ (qs.length : Int)) = False := by simp [hlen]
  simp (disch := first | with_reducible assumption | omega) only [push_cast, x_blk, x_cd, ↓reduceIte, Nat.reduceEqDiff, List.map_cons, List.map_nil, Int.reduceEq, Int.lt_irrefl, F_ref15_same, eq_true hlen]
  refine loop_rule (fun f w' => ∃ k : Nat, k ≤ ps.length ∧ (f 0 = .slice L ps.length c ∧ f 1 = .slice L2 qs.length c2 ∧ f 5 = .int .i64 k) ∧ (∀ (i : Nat) (p : Pt5), i < k → ps[i]? = some p → p.abs ∈ qs.map Pt5.abs) ∧ Below w.heap.size w w')
    (fun f _ => ps.length - (intOf (f 5)).toNat) ⟨0, Nat.zero_le _, ⟨rfl, rfl, rfl⟩, fun i p hi => absurd hi (by omega), Below.refl _ _⟩ ?_
  rintro f w2 ⟨k, hk, fr, hp, b2⟩ J hJ
  by_cases hlt : k < ps.length
  case neg =>
    have r : decide (SameC (ps.map Pt5.abs) (qs.map Pt5.abs)) = true := decide_eq_true ⟨by rw [List.length_map, List.length_map]; omega, fun x hx => by
      obtain ⟨p, hp1, rfl⟩ := List.mem_map.1 hx
      obtain ⟨i, hi, hpi⟩ := List.getElem_of_mem hp1
      exact hp i p (by omega) (by rw [List.getElem?_eq_getElem hi, hpi])⟩
    simp (disch := first | with_reducible assumption | omega) only [push_cast, x_blk, x_cd, ↓reduceIte, Nat.reduceEqDiff, List.map_cons, List.map_nil, Int.reduceEq, Int.lt_irrefl, L_ref15_same_0, fr, hlt]
    exact fin_1 (hQ _ _ ⟨(by simp only [push_cast, ↓reduceIte, Nat.reduceEqDiff, Int.reduceEq, r]), b2⟩)
  have hpk : ps[k]? = some (ps[k]'hlt) := List.getElem?_eq_getElem hlt
  have hmem : ps[k]'hlt ∈ ps := List.getElem_mem hlt
  generalize ps[k]'hlt = p at hpk hmem
  have hR1 := hR.below b2
  have hA := hR1.isSome (by omega)
  have hldx := fun {K : Fr → World → Prop} {f : Fr} {d : Option Nat} {w' : World} => hR1.ldAll (P := Tryd.prog) (K := K) (f := f) (d := d) (w := w') ptEnc ty_ag_126 hpk ty_sz_126
  simp (disch := first | with_reducible assumption | omega) only [push_cast, x_blk, x_cd, ↓reduceIte, Nat.reduceEqDiff, List.map_cons, List.map_nil, Int.reduceEq, Int.lt_irrefl, L_ref15_same_0, fr, hlt, hldx]
  refine call_of (ref15_ats ((hR2.below b2).mono fun b hb => Nat.lt_of_lt_of_le hb b2.size) hn2 (fun q hq => ⟨(hg2 q hq).1.up b2, (hg2 q hq).2⟩) ((hg p hmem).1.up b2)) ?_
  rintro v w3 ⟨rfl, b3⟩
  have bb3 := b2.trans (b3.mono b2.size)
  by_cases c1 : p.abs ∈ qs.map Pt5.abs
  · simp (disch := first | with_reducible assumption | omega) only [push_cast, x_blk, x_cd, ↓reduceIte, Nat.reduceEqDiff, List.map_cons, List.map_nil, Int.reduceEq, Int.lt_irrefl, decide_eq_true c1, fr]
    exact hJ _ _ ⟨k + 1, hlt, (by simp only [push_cast, ↓reduceIte, Nat.reduceEqDiff, true_and, and_true, and_self, eq_self, fr]), fun i p' hi hpi => by
      by_cases e : i = k
      · subst e; rw [hpk] at hpi; obtain rfl := Option.some.inj hpi; exact c1
      · exact hp i p' (by omega) hpi, bb3⟩ (by simp only [push_cast, ↓reduceIte, Nat.reduceEqDiff, intOf, fr]; omega)
  · have r : decide (SameC (ps.map Pt5.abs) (qs.map Pt5.abs)) = false := decide_eq_false fun h => c1 (h.2 _ (List.mem_map.2 ⟨p, hmem, rfl⟩))
    simp (disch := first | with_reducible assumption | omega) only [push_cast, x_blk, x_cd, ↓reduceIte, Nat.reduceEqDiff, List.map_cons, List.map_nil, Int.reduceEq, Int.lt_irrefl, decide_eq_false c1, fr]
    exact fin_1 (hQ _ _ ⟨(by simp only [push_cast, ↓reduceIte, Nat.reduceEqDiff, Int.reduceEq, r]), bb3⟩)

theorem blt_pt : builtPl Tryd.prog 126 = some ([(0, 1), (1, 1)], [.int .i64 0, .slice none 0 0]) := by kernel_rfl
theorem bl_pt {K : Fr → World → Prop} {u : World} {f : Fr} {d : Option Nat} {w : World} (p : Pt5) :
    Val1 Tryd.prog K (Instr.build 126 #[(0, .int .i64 p.M), (1, .slice p.R p.s.length p.cr)]) u f d w = K (updO f d (.agg p.cells.toArray)) w := by
  have := bld_2 (P := Tryd.prog) (K := K) (u := u) (f := f) (d := d) (w := w) blt_pt rfl rfl rfl (v0 := .int .i64 p.M) (v1 := .slice p.R p.s.length p.cr) rfl rfl
  rw [this]; rfl

theorem bl_pt0 {K : Fr → World → Prop} {u : World} {f : Fr} {d : Option Nat} {w : World} : Val1 Tryd.prog K (Instr.build 126 #[]) u f d w = K (updO f d (.agg (Pt5.cells ⟨0, none, 0, []⟩).toArray)) w := bld_of (by kernel_rfl)
/-- Where a place leads to. -/
def OnOut (o : Option Plc) (w : World) (v : Value) (w' : World) : Prop := match o with
  | some y => ∃ (A : Option Addr) (c : Nat), v = .tuple #[.agg (Pt5.cells ⟨y.1, A, c, y.2⟩).toArray, .bool true] ∧ OwnI w.heap.size 3 w' A c y.2
  | none => v = .tuple #[.agg (Pt5.cells ⟨0, none, 0, []⟩).toArray, .bool false]
theorem onP_not {p : Plt} {o : Mach} {x : Plc} {e : Int} (h : ¬ ((stepL p.m [x.1] e).length = 1 ∧ stepL o x.2 e ≠ [])) : onP p o x e = none := by
  cases hh : onP p o x e with
  | none => rfl
  | some y =>
    obtain ⟨h1, h2, _⟩ := onP_some.1 hh
    exact absurd ⟨by rw [h1]; rfl, h2⟩ h
theorem onP_at {p : Plt} {o : Mach} {x : Plc} {e : Int} (h1 : (stepL p.m [x.1] e).length = 1) (h2 : stepL o x.2 e ≠ []) : onP p o x e = some ((stepL p.m [x.1] e).getD 0 0, stepL o x.2 e) := by
  refine onP_some.2 ⟨?_, h2, rfl⟩
  generalize stepL p.m [x.1] e = l at *
  match l, h1 with
  | [s], _ => rfl
theorem ref15_on {w : World} {a : PV} {p : Plt} (ha : IsP (· < w.heap.size) w a p) (hf : p.Fits) (hm : p.m.May) {ov : MV} {o : Mach} (ho : IsM (· < w.heap.size) w ov o) (fo : o.Fits) (om : o.May) {x : Pt5} (hx : Ints (· < w.heap.size) w x.R x.s) (nx : x.s.length ≤ 256) (e : Int) :
    Cal Tryd.prog 83 [a.val p, ov.val o, .agg x.cells.toArray, .int .i64 e] w fun v w' => OnOut (onP p o x.abs e) w v w' ∧ Below w.heap.size w w' := by
  refine cal_ref15_on (by simp) 1000000 fun Q hQ => ?_
  simp (disch := first | with_reducible assumption | omega) only [push_cast, x_blk, x_cd, ↓reduceIte, Nat.reduceEqDiff, List.map_cons, List.map_nil, Int.reduceEq, Int.lt_irrefl, F_ref15_on]
  refine blk_of (box_agg _ (a.cells p)) ?_
  intro w1 kP b1 z1
  simp (disch := first | with_reducible assumption | omega) only [push_cast, x_blk, x_cd, ↓reduceIte, Nat.reduceEqDiff, List.map_cons, List.map_nil, Int.reduceEq, Int.lt_irrefl]
  refine blk_of (box_agg _ (ov.cells o)) ?_
  intro w2 kO b2 z2
  replace kP := kP.below b2 kP.lt
  have bb2 := b1.trans (b2.mono b1.size)
  simp (disch := first | with_reducible assumption | omega) only [push_cast, x_blk, x_cd, ↓reduceIte, Nat.reduceEqDiff, List.map_cons, List.map_nil, Int.reduceEq, Int.lt_irrefl]
  refine blk_of (box_agg _ x.cells) ?_
  intro w3 kX b3 z3
  replace kP := kP.below b3 kP.lt
  replace kO := kO.below b3 kO.lt
  have bb3 := bb2.trans (b3.mono bb2.size)
  simp (disch := first | with_reducible assumption | omega) only [push_cast, x_blk, x_cd, ↓reduceIte, Nat.reduceEqDiff, List.map_cons, List.map_nil, Int.reduceEq, Int.lt_irrefl]
  refine blk_of (cs := Pt5.cells ⟨0, none, 0, []⟩) al_126 ?_
  intro w4 kR b4 z4
  replace kP := kP.below b4 kP.lt
  replace kO := kO.below b4 kO.lt
  replace kX := kX.below b4 kX.lt
  have bb4 := bb3.trans (b4.mono bb3.size)
  have lR := kR.lt
  have oE := own_int1 w4 x.M 3
  have bE : Below w4.heap.size w4 (w4.alloc (.cells [.int .i64 x.M].toArray 3)) := (Below.refl _ _).alloc (Nat.le_refl _) _
  simp (disch := first | with_reducible assumption | omega) only [push_cast, x_blk, x_cd, ↓reduceIte, Nat.reduceEqDiff, List.map_cons, List.map_nil, Int.reduceEq, Int.lt_irrefl, kP.pM, kX.pt0 ty_ag_3, bs_22]
  generalize w4.alloc (.cells [.int .i64 x.M].toArray 3) = w5 at *
  have bb5 := bb4.trans (bE.mono bb4.size)
  replace kO := kO.below bE kO.lt
  replace kX := kX.below bE kX.lt
  replace kR := kR.below bE kR.lt
  refine call_of (ref2_Step (c1 := 1) (ha.up bb5).m hf.m (OwnI.ints oE).lt (by simp) e) ?_
  rintro v w6 ⟨A6, c6, rfl, o6, b6⟩
  have bb6 := bb5.trans (b6.mono bb5.size)
  replace kO := kO.below b6 kO.lt
  replace kX := kX.below b6 kX.lt
  replace kR := kR.below b6 kR.lt
  simp (disch := first | with_reducible assumption | omega) only [push_cast, x_blk, x_cd, ↓reduceIte, Nat.reduceEqDiff, List.map_cons, List.map_nil, Int.reduceEq, Int.lt_irrefl, kO.mA ty_ag_25 ty_sz_25, kX.pt1 ty_ag_22]
  refine call_of (ref2_Step (ho.up bb6) fo (hx.up bb6) (by omega) e) ?_
  rintro v w7 ⟨A7, c7, rfl, o7, b7⟩
  have bb7 := bb6.trans (b7.mono bb6.size)
  replace kR := kR.below b7 kR.lt
  have i6 := (OwnI.ints o6).lt.up b7
  have r1 := row_lenV (stepL_row hm [x.M] e)
  have r2 := row_lenV (stepL_row om x.s e)
  have hz6 := bb6.size
  by_cases q1 : ((stepL p.m [x.M] e).length : Int) = 1
  case neg =>
    have hn : onP p o x.abs e = none := onP_not fun h => q1 (by have := h.1; show ((stepL p.m [x.M] e).length : Int) = 1; have h1 : (stepL p.m [x.M] e).length = 1 := this; omega)
    simp (disch := first | with_reducible assumption | omega) only [push_cast, x_blk, x_cd, ↓reduceIte, Nat.reduceEqDiff, List.map_cons, List.map_nil, Int.reduceEq, Int.lt_irrefl, q1, bl_pt0]
    refine sto_blk kR (cs := Pt5.cells ⟨0, none, 0, []⟩) (e2_pt _) rfl (pt_one _) ?_
    intro w8 k8 g8 z8
    have fr := True.intro
    simp (disch := first | with_reducible assumption | omega) only [push_cast, x_blk, x_cd, ↓reduceIte, Nat.reduceEqDiff, List.map_cons, List.map_nil, Int.reduceEq, Int.lt_irrefl, fr]
    exact fin_c2 k8 ty_ag_126 (e2_pt _) (by simp only [push_cast, ↓reduceIte, Nat.reduceEqDiff, Int.reduceEq]) (hQ _ _ ⟨by rw [hn]; exact (by simp only [push_cast, ↓reduceIte, Nat.reduceEqDiff, Int.reduceEq, OnOut]), g8.below bb7 bb7.size (by intro a ha; injection ha with ha; subst ha; exact bb3.size)⟩)
  by_cases q2 : ((stepL o x.s e).length : Int) = 0
  · have hn : onP p o x.abs e = none := onP_not fun h => h.2 (List.eq_nil_of_length_eq_zero (by show (stepL o x.s e).length = 0; omega))
    simp (disch := first | with_reducible assumption | omega) only [push_cast, x_blk, x_cd, ↓reduceIte, Nat.reduceEqDiff, List.map_cons, List.map_nil, Int.reduceEq, Int.lt_irrefl, eq_true q1, eq_true q2, bl_pt0]
    refine sto_blk kR (cs := Pt5.cells ⟨0, none, 0, []⟩) (e2_pt _) rfl (pt_one _) ?_
    intro w8 k8 g8 z8
    have fr := True.intro
    simp (disch := first | with_reducible assumption | omega) only [push_cast, x_blk, x_cd, ↓reduceIte, Nat.reduceEqDiff, List.map_cons, List.map_nil, Int.reduceEq, Int.lt_irrefl, fr]
    exact fin_c2 k8 ty_ag_126 (e2_pt _) (by simp only [push_cast, ↓reduceIte, Nat.reduceEqDiff, Int.reduceEq]) (hQ _ _ ⟨by rw [hn]; exact (by simp only [push_cast, ↓reduceIte, Nat.reduceEqDiff, Int.reduceEq, OnOut]), g8.below bb7 bb7.size (by intro a ha; injection ha with ha; subst ha; exact bb3.size)⟩)
  have hy := onP_at (p := p) (o := o) (x := x.abs) (e := e) (by show (stepL p.m [x.M] e).length = 1; omega) (fun h => q2 (by
    have h' : stepL o x.s e = [] := h
    rw [h']; rfl))
  have sA := i6.isSome (by omega)
  have hld := fun {K : Fr → World → Prop} {f : Fr} {d : Option Nat} {w : World} => i6.ld (P := Tryd.prog) (K := K) (f := f) (d := d) (w := w) ty_ag_3 0 (by omega)
  have h01 : (0 : Int) < ((stepL p.m [x.M] e).length : Int) := by omega
  have hy' : onP p o x.abs e = some ((stepL p.m [x.M] e).getD 0 0, stepL o x.s e) := hy
  generalize (stepL p.m [x.M] e).getD 0 0 = t0 at *
  generalize hT : stepL o x.s e = T at *
  simp (disch := first | with_reducible assumption | omega) only [push_cast, x_blk, x_cd, ↓reduceIte, Nat.reduceEqDiff, List.map_cons, List.map_nil, Int.reduceEq, Int.lt_irrefl, eq_true q1, eq_false q2, sA, h01, Int.le_refl, Int.toNat_zero, hld, bl_pt ⟨t0, A7, c7, T⟩]
  refine sto_blk kR (cs := Pt5.cells ⟨t0, A7, c7, T⟩) (e2_pt _) rfl (pt_one _) ?_
  intro w8 k8 g8 z8
  have fr := True.intro
  have lR7 := kR.lt
  simp (disch := first | with_reducible assumption | omega) only [push_cast, x_blk, x_cd, ↓reduceIte, Nat.reduceEqDiff, List.map_cons, List.map_nil, Int.reduceEq, Int.lt_irrefl, fr]
  exact fin_c2 k8 ty_ag_126 (e2_pt _) (by simp only [push_cast, ↓reduceIte, Nat.reduceEqDiff, Int.reduceEq]) (hQ _ _ ⟨by rw [hy']; exact ⟨A7, c7, (by simp only [push_cast, ↓reduceIte, Nat.reduceEqDiff, Int.reduceEq]), (o7.grew g8 (.inr (o7.ne_blk kR (by decide)))).base (by omega)⟩, g8.below bb7 bb7.size (by intro a ha; injection ha with ha; subst ha; exact bb3.size)⟩)
end Go.Proofs.YtcjedgiglimipaaDoor

/-
  Chapter 15's reference: places of another way to forbid: wide: by its contract.
-/
namespace Go.Proofs.YtcjedgiglimipaaDoor
set_option linter.unusedSimpArgs false
set_option linter.unusedVariables false
set_option linter.unusedSectionVars false
open Go.RowKit

def OnZ (o : Option Plc) (B : Nat) (w : World) (z : Pt5) (b : Bool) : Prop := (b = true ∧ o = some z.abs ∧ PtAt B w z) ∨ (b = false ∧ o = none)
theorem OnZ.keep {o : Option Plc} {B : Nat} {w w' : World} {z : Pt5} {b : Bool} (h : OnZ o B w z b) (k : KeepT esI B w w') : OnZ o B w' z b := h.imp (fun ⟨h1, h2, h3⟩ => ⟨h1, h2, h3.keep k⟩) id
theorem OnOut.split {p : Plt} {o : Mach} {x : Plc} {e : Int} {w w' : World} {v : Value} (h : OnOut (onP p o x e) w v w') (B : Nat) (om : o.May) : ∃ (z : Pt5) (b : Bool), v = .tuple #[.agg z.cells.toArray, .bool b] ∧ OnZ (onP p o x e) B w' z b := by
  cases hh : onP p o x e with
  | none => rw [hh] at h; exact ⟨_, false, h, .inr ⟨rfl, rfl⟩⟩
  | some y =>
    rw [hh] at h
    obtain ⟨A, c, hv, ho⟩ := h
    have hr : IsRow y.2 o.states := by rw [(onP_some.1 hh).2.2]; exact stepL_row om _ _
    have := row_lenV hr
    have : o.states ≤ 256 := om.2.1
    exact ⟨⟨y.1, A, c, y.2⟩, true, hv, .inl ⟨rfl, rfl, OwnI.tyb ho (by decide), by show y.2.length ≤ 256; omega⟩⟩
set_option maxHeartbeats 2000000 in
theorem ref15_wide {B B2 : Nat} {w : World} (hB : B ≤ w.heap.size) (hB2 : B2 ≤ B) {a : PV} {p : Plt} (ha : IsP (· < B) w a p) (hf : p.Fits) (pm : p.May) {ov : MV} {o : Mach} (ho : IsM (· < B) w ov o) (fo : o.Fits) (om : o.May) (o6 : o.states ≤ 6)
    {L : Option Addr} {c : Nat} {ps0 : List Pt5} (hl : OwnR Pt5.cells B 126 2 w L c ps0) (hg : ∀ x ∈ ps0, PtAt B2 w x) (hgp : GoodC p o (ps0.map Pt5.abs)) :
    Cal Tryd.prog 111 [a.val p, ov.val o, .slice L ps0.length c] w fun v w' => ∃ (ps : List Pt5) (L' : Option Addr) (c' : Nat), v = .slice L' ps.length c' ∧ ps.map Pt5.abs = oIter p o (ps0.map Pt5.abs) ps.length ∧
      OwnR Pt5.cells B 126 2 w' L' c' ps ∧ (∀ x ∈ ps, PtAt B2 w' x) ∧ Below B w w' := by
  have hm := pm.1
  have h6 := pm.2.1
  have ev0 := hm.2.2.1
  have ev8 := hm.2.2.2.1
  have nP := hf.lenP
  have good := fun k => GoodC.iter (p := p) hm om hgp k
  refine cal_ref15_wide (by simp) 1000000 fun Q hQ => ?_
  simp (disch := first | with_reducible assumption | omega) only [push_cast, x_blk, x_cd, ↓reduceIte, Nat.reduceEqDiff, List.map_cons, List.map_nil, Int.reduceEq, Int.lt_irrefl, F_ref15_wide]
  refine blk_of (box_agg _ (a.cells p)) ?_
  intro w1 k1 b1 z1
  simp (disch := first | with_reducible assumption | omega) only [push_cast, x_blk, x_cd, ↓reduceIte, Nat.reduceEqDiff, List.map_cons, List.map_nil, Int.reduceEq, Int.lt_irrefl]
  refine blk_of (box_agg _ (ov.cells o)) ?_
  intro w2 k2 b2 z2
  replace k1 := k1.below b2 k1.lt
  have bb := b1.trans (b2.mono b1.size)
  have hl2 := hl.below bb (Nat.le_refl _)
  have hg2 : ∀ x ∈ ps0, PtAt B2 w2 x := fun x hx => (hg x hx).keep (.below bb)
  simp (disch := first | with_reducible assumption | omega) only [push_cast, x_blk, x_cd, ↓reduceIte, Nat.reduceEqDiff, List.map_cons, List.map_nil, Int.reduceEq, Int.lt_irrefl]
  refine loop_rule (fun f w' => ∃ (k : Nat) (ps : List Pt5) (L' : Option Addr) (c' : Nat), k ≤ ps.length ∧ (f 2 = .slice L' ps.length c' ∧ f 3 = .pointer (some ⟨w.heap.size, 0, none⟩) ∧ f 4 = .pointer (some ⟨w1.heap.size, 0, none⟩) ∧ f 7 = .int .i64 k) ∧ ps.map Pt5.abs = oIter p o (ps0.map Pt5.abs) k ∧
      OwnR Pt5.cells B 126 2 w' L' c' ps ∧ (∀ x ∈ ps, PtAt B2 w' x) ∧ Blk w' w.heap.size 43 (a.cells p) ∧ Blk w' w1.heap.size 25 (ov.cells o) ∧ Below B w w')
    (fun f _ => 385 - (intOf (f 7)).toNat) ⟨0, ps0, L, c, Nat.zero_le _, ⟨rfl, rfl, rfl, rfl⟩, rfl, hl2, hg2, k1, k2, bb.mono hB⟩ ?_
  clear k1 k2 bb hl2 hg2 hl hg b1 b2 z1 z2
  rintro f w3 ⟨k, ps, L', c', hk, fr, habs, hl, hg, k1, k2, bb⟩ J hJ
  have hpl : ps.length = (oIter p o (ps0.map Pt5.abs) k).length := by rw [← habs, List.length_map]
  have hp384 := (good k).len h6 o6
  have hmu : (intOf (f 7)).toNat = k := by rw [fr.2.2.2]; simp [intOf]
  by_cases hlt : k < ps.length
  case neg =>
    obtain rfl : k = ps.length := by omega
    simp (disch := first | with_reducible assumption | omega) only [push_cast, x_blk, x_cd, ↓reduceIte, Nat.reduceEqDiff, List.map_cons, List.map_nil, Int.reduceEq, Int.lt_irrefl, L_ref15_wide_1, fr, Nat.lt_irrefl]
    exact fin_1 (hQ _ _ ⟨ps, L', c', (by simp only [push_cast, ↓reduceIte, Nat.reduceEqDiff, Int.reduceEq, fr]), habs, hl, hg, bb⟩)
  have hxk : ps[k]? = some (ps[k]'hlt) := List.getElem?_eq_getElem hlt
  generalize ps[k]'hlt = x at hxk
  have hx : (oIter p o (ps0.map Pt5.abs) k)[k]? = some x.abs := by rw [← habs, List.getElem?_map, hxk]; rfl
  have gpart := fun i => (good k).part hm om x.abs i
  simp (disch := first | with_reducible assumption | omega) only [push_cast, x_blk, x_cd, ↓reduceIte, Nat.reduceEqDiff, List.map_cons, List.map_nil, Int.reduceEq, Int.lt_irrefl, L_ref15_wide_1, fr, hlt]
  refine loop_rule (fun f' w' => ∃ (i : Nat) (ps : List Pt5) (L' : Option Addr) (c' : Nat), (i : Int) ≤ p.m.events ∧ (f' 2 = .slice L' ps.length c' ∧ f' 3 = .pointer (some ⟨w.heap.size, 0, none⟩) ∧ f' 4 = .pointer (some ⟨w1.heap.size, 0, none⟩) ∧ f' 7 = .int .i64 k ∧ f' 8 = .int .i64 i) ∧ ps.map Pt5.abs = oPart p o x.abs (oIter p o (ps0.map Pt5.abs) k) i ∧
      OwnR Pt5.cells B 126 2 w' L' c' ps ∧ (∀ x ∈ ps, PtAt B2 w' x) ∧ Blk w' w.heap.size 43 (a.cells p) ∧ Blk w' w1.heap.size 25 (ov.cells o) ∧ Below B w w')
    (fun f' _ => p.m.events.toNat - (intOf (f' 8)).toNat) ⟨0, ps, L', c', ev0, (by simp only [push_cast, ↓reduceIte, Nat.reduceEqDiff, true_and, and_true, and_self, eq_self, fr]), by rw [oPart_zero]; exact habs, hl, hg, k1, k2, bb⟩ ?_
  clear hl hg k1 k2 bb habs fr hxk hlt hpl hk
  clear ps L' c'
  rintro f w4 ⟨i, ps, L', c', hi, fr, habs, hl, hg, k1, k2, bb⟩ J2 hJ2
  have hp384 := (gpart i).len h6 o6
  rw [← habs, List.length_map] at hp384
  have hkl := (List.getElem?_eq_some_iff.1 hx).1
  have hpre := oPart_prefix (p := p) (o := o) x.abs (oIter p o (ps0.map Pt5.abs) k) i
  have hlt : k < ps.length := by
    have := hpre.length_le
    have h2 : ps.length = (oPart p o x.abs (oIter p o (ps0.map Pt5.abs) k) i).length := by rw [← habs, List.length_map]
    omega
  have hmu2 : (intOf (f 8)).toNat = i := by rw [fr.2.2.2.2]; simp [intOf]
  by_cases hit : (i : Int) < p.m.events
  case neg =>
    obtain rfl : i = p.m.events.toNat := by omega
    rw [← oIter_succ hx] at habs
    simp (disch := first | with_reducible assumption | omega) only [push_cast, x_blk, x_cd, ↓reduceIte, Nat.reduceEqDiff, List.map_cons, List.map_nil, Int.reduceEq, Int.lt_irrefl, L_ref15_wide_0, fr, hit, k1.p1]
    exact hJ _ _ ⟨k + 1, ps, L', c', hlt, (by simp only [push_cast, ↓reduceIte, Nat.reduceEqDiff, true_and, and_true, and_self, eq_self, fr]), habs, hl, hg, k1, k2, bb⟩ (by rw [hmu]; simp only [push_cast, ↓reduceIte, Nat.reduceEqDiff, intOf, fr]; omega)
  have hyk : ps[k]? = some (ps[k]'hlt) := List.getElem?_eq_getElem hlt
  have hym : ps[k]'hlt ∈ ps := List.getElem_mem hlt
  generalize ps[k]'hlt = y at hyk hym
  have hyx : y.abs = x.abs := by
    have h1 : (ps.map Pt5.abs)[k]? = some y.abs := by rw [List.getElem?_map, hyk]; rfl
    rw [habs, prefix_getElem? hpre hkl, hx] at h1
    exact (Option.some.inj h1).symm
  have hsucc := oPart_succ (p := p) (o := o) x.abs (oIter p o (ps0.map Pt5.abs) k) i
  rw [← hyx] at hsucc habs
  have hzB := bb.size
  have haU := (ha.below bb).mono fun b hb => (Nat.lt_of_lt_of_le hb (by omega) : b < w4.heap.size)
  simp (disch := first | with_reducible assumption | omega) only [push_cast, x_blk, x_cd, ↓reduceIte, Nat.reduceEqDiff, List.map_cons, List.map_nil, Int.reduceEq, Int.lt_irrefl, L_ref15_wide_0, fr, hit, k1.p1, k1.p5]
  refine call_of (ref1_Has haU.seen a.cp (i : Int) (by omega)) ?_
  rintro v w5 ⟨rfl, s5⟩
  have b45 := s5.below w4.heap.size
  replace k1 := k1.below b45 k1.lt
  replace k2 := k2.below b45 k2.lt
  replace hl := hl.below b45 (Nat.le_refl _)
  replace hg : ∀ x ∈ ps, PtAt B2 w5 x := fun x hx => (hg x hx).keep (.below b45)
  replace bb := bb.trans (b45.mono (by omega))
  generalize oPart p o y.abs (oIter p o (ps0.map Pt5.abs) k) i = l0 at *
  by_cases hes : (i : Int) ∈ p.seen
  · have hs2 : oPart p o y.abs (oIter p o (ps0.map Pt5.abs) k) (i + 1) = l0 := by rw [hsucc]; unfold oAdd; rw [if_pos hes]
    simp (disch := first | with_reducible assumption | omega) only [push_cast, x_blk, x_cd, ↓reduceIte, Nat.reduceEqDiff, List.map_cons, List.map_nil, Int.reduceEq, Int.lt_irrefl, fr, decide_eq_true hes]
    exact hJ2 _ _ ⟨i + 1, ps, L', c', by omega, (by simp only [push_cast, ↓reduceIte, Nat.reduceEqDiff, true_and, and_true, and_self, eq_self, fr]), by rw [← hyx, hs2]; exact habs, hl, hg, k1, k2, bb⟩ (by rw [hmu2]; simp only [push_cast, ↓reduceIte, Nat.reduceEqDiff, intOf, fr]; omega)
  have hs2 : oPart p o y.abs (oIter p o (ps0.map Pt5.abs) k) (i + 1) = putO l0 (onP p o y.abs (i : Int)) := by rw [hsucc]; unfold oAdd; rw [if_neg hes]
  have bd := (Same.refl w5).drew.below w5.heap.size
  have bd : Below w5.heap.size w5 w5.drew := bd
  replace k1 := k1.below bd k1.lt
  replace k2 := k2.below bd k2.lt
  replace hl := hl.below bd (Nat.le_refl _)
  replace hg : ∀ x ∈ ps, PtAt B2 w5.drew x := fun x hx => (hg x hx).keep (.below bd)
  have hzB5 := bb.size
  replace bb := bb.trans (bd.mono (by omega))
  generalize hu8 : w5.drew = u8 at *
  have hzB8 := bb.size
  have hRw := Recs.lt ptEnc (by decide) (OwnR.recs hl ptEnc (by decide))
  have sL := hRw.isSome (by omega)
  have ly := fun {K : Fr → World → Prop} {f : Fr} {d : Option Nat} {w' : World} => hRw.ldAll (P := Tryd.prog) (K := K) (f := f) (d := d) (w := w') ptEnc ty_ag_126 hyk ty_sz_126
  obtain ⟨e, he⟩ : ∃ e : Int, e = (i : Int) := ⟨_, rfl⟩
  have haU8 := (ha.below bb).mono fun b hb => (Nat.lt_of_lt_of_le hb (by omega) : b < u8.heap.size)
  have hoU8 := (ho.below bb).mono fun b hb => (Nat.lt_of_lt_of_le hb (by omega) : b < u8.heap.size)
  have hon8 := fun (W : World) (bW : Below u8.heap.size u8 W) => ref15_on (haU8.up bW) hf hm (hoU8.up bW) fo om ((hg y hym).lt.up bW) (hg y hym).n e
  obtain ⟨Bz, hBze⟩ : ∃ b : Nat, b = B2 := ⟨_, rfl⟩
  have hBz : Bz ≤ u8.heap.size := by omega
  rw [← he] at fr hs2
  simp (disch := first | with_reducible assumption | omega) only [push_cast, x_blk, x_cd, ↓reduceIte, Nat.reduceEqDiff, List.map_cons, List.map_nil, Int.reduceEq, Int.lt_irrefl, fr, he, decide_eq_false hes, hu8, k1.pA', k2.mA ty_ag_25 ty_sz_25, hlt, sL, ly]
  rw [← he]
  refine cutT (fun f' w' => ∃ (g : Nat) (z : Pt5) (b : Bool), (f' 2 = .slice L' ps.length c' ∧ f' 3 = .pointer (some ⟨w.heap.size, 0, none⟩) ∧ f' 4 = .pointer (some ⟨w1.heap.size, 0, none⟩) ∧ f' 7 = .int .i64 k ∧ f' 8 = .int .i64 e ∧ f' 9 = .pointer (some ⟨g, 0, none⟩) ∧ f' 10 = .bool b) ∧ Blk w' g 126 z.cells ∧ OnZ (onP p o y.abs e) Bz w' z b ∧ u8.heap.size ≤ g ∧ Below u8.heap.size u8 w') 20000 40000 (by decide) ?_ ?_
  · intro E hE
    rw [x_t_two]
    refine ⟨?_, ?_⟩
    · simp (disch := first | with_reducible assumption | omega) only [push_cast, x_blk, x_cd, ↓reduceIte, Nat.reduceEqDiff, List.map_cons, List.map_nil, Int.reduceEq, Int.lt_irrefl, fr]
      refine call_of (hon8 u8 (Below.refl _ _)) ?_
      rintro v w9 ⟨hmo, b9⟩
      obtain ⟨z, b, rfl, hz⟩ := hmo.split Bz om
      simp (disch := first | with_reducible assumption | omega) only [push_cast, x_blk, x_cd, ↓reduceIte, Nat.reduceEqDiff, List.map_cons, List.map_nil, Int.reduceEq, Int.lt_irrefl, fr]
      refine ⟨b9, ?_⟩
      refine blk_of (cs := Pt5.cells ⟨0, none, 0, []⟩) al_126 ?_
      intro w10 k10 b10 z10
      have b810 := b9.trans (b10.mono b9.size)
      simp (disch := first | with_reducible assumption | omega) only [push_cast, x_blk, x_cd, ↓reduceIte, Nat.reduceEqDiff, List.map_cons, List.map_nil, Int.reduceEq, Int.lt_irrefl, fr]
      refine ⟨b810, ?_⟩
      refine sto_blk k10 (cs := z.cells) (e2_pt z) rfl (pt_one z) ?_
      intro w11 k11 g11 z11
      have b811 := g11.below b810 b810.size (by intro a ha; injection ha with ha; subst ha; exact b9.size)
      have hz11 := (hz.keep (.below b10)).keep (KeepT.grewB k10 (Nat.le_trans hBz b9.size) (by decide) g11)
      simp (disch := first | with_reducible assumption | omega) only [push_cast, x_blk, x_cd, ↓reduceIte, Nat.reduceEqDiff, List.map_cons, List.map_nil, Int.reduceEq, Int.lt_irrefl, fr]
      refine ⟨b811, ?_⟩
      first | exact hE _ _ ⟨_, z, b, (by simp only [push_cast, ↓reduceIte, Nat.reduceEqDiff, true_and, and_true, and_self, eq_self, fr]), k11, hz11, b9.size, b811⟩ | (simp (disch := first | with_reducible assumption | omega) only [push_cast, x_blk, x_cd, ↓reduceIte, Nat.reduceEqDiff, List.map_cons, List.map_nil, Int.reduceEq, Int.lt_irrefl, fr]; exact hE _ _ ⟨_, z, b, (by simp only [push_cast, ↓reduceIte, Nat.reduceEqDiff, true_and, and_true, and_self, eq_self, fr]), k11, hz11, b9.size, b811⟩)
    · simp (disch := first | with_reducible assumption | omega) only [push_cast, x_blk, x_cd, ↓reduceIte, Nat.reduceEqDiff, List.map_cons, List.map_nil, Int.reduceEq, Int.lt_irrefl, fr]
      refine blk_of (cs := Pt5.cells ⟨0, none, 0, []⟩) al_126 ?_
      intro w10 k10 b10 z10
      simp (disch := first | with_reducible assumption | omega) only [push_cast, x_blk, x_cd, ↓reduceIte, Nat.reduceEqDiff, List.map_cons, List.map_nil, Int.reduceEq, Int.lt_irrefl, fr]
      refine ⟨b10, ?_⟩
      refine call_of (hon8 w10 b10) ?_
      rintro v w9 ⟨hmo, b9⟩
      obtain ⟨z, b, rfl, hz⟩ := hmo.split Bz om
      have b810 := b10.trans (b9.mono b10.size)
      replace k10 := k10.below b9 k10.lt
      simp (disch := first | with_reducible assumption | omega) only [push_cast, x_blk, x_cd, ↓reduceIte, Nat.reduceEqDiff, List.map_cons, List.map_nil, Int.reduceEq, Int.lt_irrefl, fr]
      refine ⟨b810, ?_⟩
      refine sto_blk k10 (cs := z.cells) (e2_pt z) rfl (pt_one z) ?_
      intro w11 k11 g11 z11
      have b811 := g11.below b810 b810.size (by intro a ha; injection ha with ha; subst ha; exact Nat.le_refl _)
      have hz11 := hz.keep (KeepT.grewB k10 hBz (by decide) g11)
      simp (disch := first | with_reducible assumption | omega) only [push_cast, x_blk, x_cd, ↓reduceIte, Nat.reduceEqDiff, List.map_cons, List.map_nil, Int.reduceEq, Int.lt_irrefl, fr]
      refine ⟨b811, ?_⟩
      first | exact hE _ _ ⟨_, z, b, (by simp only [push_cast, ↓reduceIte, Nat.reduceEqDiff, true_and, and_true, and_self, eq_self, fr]), k11, hz11, Nat.le_refl _, b811⟩ | (simp (disch := first | with_reducible assumption | omega) only [push_cast, x_blk, x_cd, ↓reduceIte, Nat.reduceEqDiff, List.map_cons, List.map_nil, Int.reduceEq, Int.lt_irrefl, fr]; exact hE _ _ ⟨_, z, b, (by simp only [push_cast, ↓reduceIte, Nat.reduceEqDiff, true_and, and_true, and_self, eq_self, fr]), k11, hz11, Nat.le_refl _, b811⟩)
  clear fr
  rintro f w9 ⟨g, z, b, fr, kZ, hz, hg9, b9⟩
  subst he
  subst hBze
  replace k1 := k1.below b9 k1.lt
  replace k2 := k2.below b9 k2.lt
  replace hl := hl.below b9 (Nat.le_refl _)
  replace hg : ∀ x ∈ ps, PtAt Bz w9 x := fun x hx => (hg x hx).keep (.below b9)
  replace bb := bb.trans (b9.mono (by omega))
  have hzB9 := bb.size
  rcases hz with ⟨rfl, ho1, hz1⟩ | ⟨rfl, ho1⟩
  case inr =>
    rw [ho1] at hs2
    simp (disch := first | with_reducible assumption | omega) only [push_cast, x_blk, x_cd, ↓reduceIte, Nat.reduceEqDiff, List.map_cons, List.map_nil, Int.reduceEq, Int.lt_irrefl, fr]
    exact hJ2 _ _ ⟨i + 1, ps, L', c', by omega, (by simp only [push_cast, ↓reduceIte, Nat.reduceEqDiff, true_and, and_true, and_self, eq_self, fr]), by rw [← hyx, hs2]; exact habs, hl, hg, k1, k2, bb⟩ (by rw [hmu2]; simp only [push_cast, ↓reduceIte, Nat.reduceEqDiff, intOf, fr]; omega)
  rw [ho1] at hs2
  have hlZ := fun {w' : World} (h : Blk w' g 126 z.cells) {K : Fr → World → Prop} {f : Fr} {d : Option Nat} {w : World} => h.ldAll (P := Tryd.prog) (K := K) (f := f) (d := d) (w := w) ty_ag_126 (e2_pt z)
  simp (disch := first | with_reducible assumption | omega) only [push_cast, x_blk, x_cd, ↓reduceIte, Nat.reduceEqDiff, List.map_cons, List.map_nil, Int.reduceEq, Int.lt_irrefl, fr, hlZ kZ]
  refine call_of (ref15_ats (x := z) (Recs.lt ptEnc (by decide) (OwnR.recs hl ptEnc (by decide))) (by omega) (fun q hq => ⟨(hg q hq).lt, (hg q hq).n⟩) hz1.lt) ?_
  rintro v w10 ⟨rfl, b10⟩
  replace k1 := k1.below b10 k1.lt
  replace k2 := k2.below b10 k2.lt
  replace kZ := kZ.below b10 kZ.lt
  replace hl := hl.below b10 (Nat.le_refl _)
  replace hg : ∀ x ∈ ps, PtAt Bz w10 x := fun x hx => (hg x hx).keep (.below b10)
  replace hz1 := hz1.keep (.below b10)
  replace bb := bb.trans (b10.mono (by omega))
  have hzB10 := bb.size
  rw [habs]
  by_cases q2 : z.abs ∈ l0
  · rw [show putO l0 (some z.abs) = l0 from if_pos q2] at hs2
    simp (disch := first | with_reducible assumption | omega) only [push_cast, x_blk, x_cd, ↓reduceIte, Nat.reduceEqDiff, List.map_cons, List.map_nil, Int.reduceEq, Int.lt_irrefl, decide_eq_true q2, fr]
    exact hJ2 _ _ ⟨i + 1, ps, L', c', by omega, (by simp only [push_cast, ↓reduceIte, Nat.reduceEqDiff, true_and, and_true, and_self, eq_self, fr]), by rw [← hyx, hs2]; exact habs, hl, hg, k1, k2, bb⟩ (by rw [hmu2]; simp only [push_cast, ↓reduceIte, Nat.reduceEqDiff, intOf, fr]; omega)
  · rw [show putO l0 (some z.abs) = l0 ++ [z.abs] from if_neg q2] at hs2
    simp (disch := first | with_reducible assumption | omega) only [push_cast, x_blk, x_cd, ↓reduceIte, Nat.reduceEqDiff, List.map_cons, List.map_nil, Int.reduceEq, Int.lt_irrefl, decide_eq_false q2, fr, hlZ kZ, bs_rec ptEnc slT_124 _ (by decide)]
    refine app_rec ptEnc slT_124 hl z (by omega) (by omega) (by omega) ?_
    intro A15 c15 w15 oR g15 hA15 hs15 z15
    have kt := KeepT.grew (es := esI) hl hB2 (by decide) g15
    simp (disch := first | with_reducible assumption | omega) only [push_cast, x_blk, x_cd, ↓reduceIte, Nat.reduceEqDiff, List.map_cons, List.map_nil, Int.reduceEq, Int.lt_irrefl, fr]
    refine hJ2 _ _ ⟨i + 1, ps ++ [z], A15, c15, by omega, (by simp only [push_cast, ↓reduceIte, Nat.reduceEqDiff, true_and, and_true, and_self, eq_self, fr, List.length_append, List.length_cons, List.length_nil]), by rw [← hyx, hs2, List.map_append, habs]; rfl, oR, fun r hr => ?_, k1.grown g15.by_ (hl.ne_blk k1 (by decide)).symm, k2.grown g15.by_ (hl.ne_blk k2 (by decide)).symm, g15.below bb (by omega) hl.geB⟩ (by rw [hmu2]; simp only [push_cast, ↓reduceIte, Nat.reduceEqDiff, intOf, fr]; omega)
    rcases List.mem_append.1 hr with hr | hr
    · exact (hg r hr).keep kt
    · rw [List.mem_singleton.1 hr]; exact hz1.keep kt
end Go.Proofs.YtcjedgiglimipaaDoor
