/-
  Chapter 13's reference: Delay: by its contract.
-/
import Derived.Test.YtfckamjbeplceaaZRef13B
namespace Go.Proofs.Ytfckamjbeplceaa
set_option linter.unusedSimpArgs false
set_option linter.unusedVariables false
set_option linter.unusedSectionVars false
open Go.RowKit

theorem rlx_le {s : List Int × Bool} {q : Eg} {B : Int} (h0 : 0 ≤ B) (h : ∀ j, s.1.getD j 0 ≤ B) (j : Nat) : (rlx s q).1.getD j 0 ≤ B + 1 := by
  unfold rlx
  have hc := cnt_le q.2.2
  split
  · rename_i hlt
    simp only
    by_cases hl : q.2.1 < s.1.length
    · rw [getD_set_if hl]
      split
      · have := h q.1; omega
      · have := h j; omega
    · rw [List.set_eq_of_length_le (by omega)]
      have := h j; omega
  · have := h j; omega
theorem rlxs_le {es : List Eg} {L : List Int} {B : Nat} (h : ∀ j, L.getD j 0 ≤ (B : Int)) : ∀ (i j : Nat), (rlxs es L i).1.getD j 0 ≤ ((B + i : Nat) : Int)
  | 0, j => h j
  | i + 1, j => by
      rcases Nat.lt_or_ge i es.length with hi | hi
      · rw [rlxs_succ hi]
        have := rlx_le (s := rlxs es L i) (q := es.getD i default) (B := ((B + i : Nat) : Int)) (by omega) (fun j => rlxs_le (es := es) h i j) j
        omega
      · have : rlxs es L (i + 1) = rlxs es L i := by unfold rlxs; rw [List.take_of_length_le (by omega), List.take_of_length_le hi]
        rw [this]
        have := rlxs_le (es := es) h i j
        omega
theorem rnds_le (es : List Eg) (n : Nat) : ∀ (r j : Nat), (rnds es n r).1.getD j 0 ≤ ((r * es.length : Nat) : Int)
  | 0, j => by
      show (List.replicate n (0 : Int)).getD j 0 ≤ _
      rw [List.getD_eq_getElem?_getD, List.getElem?_replicate]
      split <;> simp
  | r + 1, j => by
      have := rlxs_le (es := es) (rnds_le es n r) es.length j
      rw [Nat.succ_mul]; exact this
theorem rlxs_ge {St : Tw → Prop} {E : Tw → Tw → Nat → Prop} {l : List Tw} {es : List Eg} {k : Nat} (hE : EdOk E l k es) {L : List Int} (h : RGood St E l L) (i : Nat) (hi : i ≤ es.length) {j : Nat} (hj : j < l.length) : 0 ≤ (rlxs es L i).1.getD j 0 := by
  have := (rIn hE h i hi).good
  exact (this.real j _ (List.getElem?_eq_getElem hj)).1
theorem twI_delay {m : Mach} (_hm : m.May) {seen faults : List Int} {l : List Tw} {es : List Eg} (hI : TwI m seen faults l l.length 0 es) :
    DelIs m seen faults (if (rnds es l.length (l.length + 2)).2 = true then -1 else mostT (fun i => (l.getD i (0, 0, false)).2.2) (rnds es l.length (l.length + 2)).1 l.length + 1) := by
  obtain ⟨hl, hE⟩ := hI.end_
  have hin : ∀ t n, Wk (StW m) (EdW m seen faults) t n → ∃ i : Nat, l[i]? = some t := fun t n hw => by
    obtain ⟨s, k, hs, hp⟩ := hw
    induction hp with
    | nil =>
      obtain ⟨i, hi, hix⟩ := List.getElem_of_mem (hl.st s hs)
      exact ⟨i, by rw [List.getElem?_eq_getElem hi, hix]⟩
    | snoc _ he ih =>
      obtain ⟨i, hi⟩ := ih
      obtain ⟨q, _, _, hu, _⟩ := hE.all i _ _ _ (lt_of_some hi) hi he
      exact ⟨_, hu⟩
  let code : Tw → Nat := fun t => open Classical in if h : ∃ i : Nat, l[i]? = some t then Classical.choose h else 0
  have hcode : ∀ t n, Wk (StW m) (EdW m seen faults) t n → l[code t]? = some t := fun t n hw => by
    have h := hin t n hw
    simp only [code, dif_pos h]
    exact Classical.choose_spec h
  exact rnds_delay hl hE code (fun t n hw => lt_of_some (hcode t n hw)) (fun t u n k hw hw' e => by
    have h1 := hcode t n hw
    have h2 := hcode u k hw'
    rw [e, h2] at h1
    exact (Option.some.inj h1).symm) (fun u c k hp hc => pthW_round u c k hp hc) _ fun i x hx => by
      rw [List.getD_eq_getElem?_getD, hx]; rfl

set_option maxHeartbeats 1000000 in
theorem ref13_Delay {w : World} {a : MV} {m : Mach} (h : IsM (· < w.heap.size) w a m) (hf : m.Fits) (p1 : m.May) (p3 : m.states ≤ 6) {A1 : Option Addr} {c1 : Nat} {seen : List Int} (h1 : Ints (· < w.heap.size) w A1 seen) (n1 : seen.length ≤ 17592186043904)
    {A2 : Option Addr} {c2 : Nat} {faults : List Int} (h2 : Ints (· < w.heap.size) w A2 faults) (n2 : faults.length ≤ 17592186043904) :
    Cal Try.prog 9 [a.val m, .slice A1 seen.length c1, .slice A2 faults.length c2] w fun v w' => ∃ d : Int, v = .int .i64 d ∧ DelIs m seen faults d ∧ Below w.heap.size w w' := by
  refine cal_ref13_Delay (by simp) 100000 fun Q hQ => ?_
  simp (disch := first | with_reducible assumption | omega) only [push_cast, x_blk, x_cd, ↓reduceIte, Nat.reduceEqDiff, List.map_cons, List.map_nil, Int.reduceEq, Int.lt_irrefl, F_ref13_Delay]
  refine blk_of (box_agg _ (a.cells m)) ?_
  intro w1 k1 b1 z1
  simp (disch := first | with_reducible assumption | omega) only [push_cast, x_blk, x_cd, ↓reduceIte, Nat.reduceEqDiff, List.map_cons, List.map_nil, Int.reduceEq, Int.lt_irrefl, k1.mA ty_ag_25 ty_sz_25]
  refine call_of (ref13_Twins (h.up b1) hf p1 p3 (h1.up b1) n1 (h2.up b1) n2) ?_
  rintro v w2 ⟨l, es, A, D, ca, cd, rfl, o, oe, b2, hI⟩
  have few := hI.few p1 p3
  have hel := hI.len
  have bb := b1.trans (b2.mono b1.size)
  have hdel := twI_delay p1 hI
  obtain ⟨hl, hE⟩ := hI.end_
  replace o := o.base b1.size
  replace oe := oe.base b1.size
  clear k1 b1 z1 b2
  simp (disch := first | with_reducible assumption | omega) only [push_cast, x_blk, x_cd, ↓reduceIte, Nat.reduceEqDiff, List.map_cons, List.map_nil, Int.reduceEq, Int.lt_irrefl, e_makeSlice]
  refine mk_ints slT_22 (by kernel_rfl) l.length (by omega) ?_
  intro w3 oL b3
  have o3 := o.below b3 (Nat.le_refl _)
  have oe3 := oe.below b3 (Nat.le_refl _)
  have bb3 := bb.trans (b3.mono bb.size)
  replace oL := oL.base (B' := w.heap.size) bb.size
  generalize (some (⟨w2.heap.size, 0, none⟩ : Addr)) = AL at *
  simp (disch := first | with_reducible assumption | omega) only [push_cast, x_blk, x_cd, ↓reduceIte, Nat.reduceEqDiff, List.map_cons, List.map_nil, Int.reduceEq, Int.lt_irrefl]
  refine loop_rule (fun f w' => ∃ (r : Nat), r ≤ l.length + 2 ∧ (f 7 = .slice A l.length ca ∧ f 8 = .slice D es.length cd ∧ f 9 = .slice AL l.length l.length ∧ f 10 = .int .i64 r) ∧ (r = l.length + 2 → (rnds es l.length r).2 = false) ∧
      OwnR twC w.heap.size 61 3 w' A ca l ∧ OwnR egC w.heap.size 59 3 w' D cd es ∧ OwnI w.heap.size 3 w' AL l.length (rnds es l.length r).1 ∧ Below w.heap.size w w')
    (fun f _ => l.length + 2 - (intOf (f 10)).toNat) ⟨0, Nat.zero_le _, ⟨rfl, rfl, rfl, rfl⟩, fun h => absurd h (by omega), o3, oe3, oL, bb3⟩ ?_
  clear o oe bb b3 o3 oe3 oL bb3
  rintro f w4 ⟨r, hr, fr, hst, o, oe, oL, bb⟩ J hJ
  have hmu : (intOf (f 10)).toNat = r := by rw [fr.2.2.2]; simp [intOf]
  have hLn := rnds_len es l.length r
  by_cases hrl : r ≤ l.length + 1
  case neg =>
    obtain rfl : r = l.length + 2 := by omega
    have hnr : ¬ (l.length : Int) + 2 ≤ (l.length : Int) + 1 := by omega
    have hnr2 : ((l.length + 2 : Nat) : Int) = (l.length : Int) + 2 := by omega
    simp (disch := first | with_reducible assumption | omega) only [push_cast, x_blk, x_cd, ↓reduceIte, Nat.reduceEqDiff, List.map_cons, List.map_nil, Int.reduceEq, Int.lt_irrefl, L_ref13_Delay_2, fr, hnr2, hnr, decide_false]
    rw [hst rfl] at hdel
    simp only [Bool.false_eq_true, if_false] at hdel
    have hle : ∀ j, (rnds es l.length (l.length + 2)).1.getD j 0 ≤ 2000000 := fun j => by
      have := rnds_le es l.length (l.length + 2) j
      have h3 : (l.length + 2) * es.length ≤ 74 * 20736 := Nat.mul_le_mul (by omega) (by omega)
      omega
    generalize (rnds es l.length (l.length + 2)).1 = L at *
    generalize hFb : (fun i => (l.getD i (0, 0, false)).2.2) = Fb at hdel
    refine loop_rule (fun f' w' => ∃ k : Nat, k ≤ l.length ∧ (f' 7 = .slice A l.length ca ∧ f' 9 = .slice AL l.length l.length ∧ f' 14 = .int .i64 (mostT Fb L k) ∧ f' 15 = .int .i64 k) ∧ Same w4 w')
      (fun f' _ => l.length - (intOf (f' 15)).toNat) ⟨0, Nat.zero_le _, (by simp only [push_cast, ↓reduceIte, Nat.reduceEqDiff, true_and, and_true, and_self, eq_self, fr, fr, mostT]), Same.refl _⟩ ?_
    clear fr hst hr hmu hrl hnr
    rintro f w5 ⟨k, hk, fr, s5⟩ J2 hJ2
    by_cases hkl : k < l.length
    case neg =>
      obtain rfl : k = l.length := by omega
      have hm1 := mostT_ge Fb L l.length
      have hm2 : mostT Fb L l.length ≤ 2000000 := by
        rcases mostT_one Fb L l.length with h | ⟨i, _, _, h⟩
        · omega
        · rw [h]; exact hle i
      simp (disch := first | with_reducible assumption | omega) only [push_cast, x_blk, x_cd, ↓reduceIte, Nat.reduceEqDiff, List.map_cons, List.map_nil, Int.reduceEq, Int.lt_irrefl, L_ref13_Delay_0, fr, Nat.lt_irrefl]
      exact fin_1 (hQ _ _ ⟨_, (by simp only [push_cast, ↓reduceIte, Nat.reduceEqDiff, Int.reduceEq, fr]), hdel, bb.trans (s5.below _)⟩)
    obtain ⟨x, hx⟩ : ∃ x, l[k]? = some x := ⟨_, List.getElem?_eq_getElem hkl⟩
    have hFx : Fb k = x.2.2 := by rw [← hFb]; simp only; rw [List.getD_eq_getElem?_getD, hx]; rfl
    have hmu2 : (intOf (f 15)).toNat = k := by rw [fr.2.2.2]; simp [intOf]
    have hR := (Recs.lt twEnc (by decide) (OwnR.recs (o.same s5) twEnc (by decide)))
    have sA := hR.isSome (by omega)
    have lx := fun {K : Fr → World → Prop} {f : Fr} {d : Option Nat} {w' : World} => hR.ld (P := Try.prog) (K := K) (f := f) (d := d) (w := w') ty_ag_3 hx (j := 2) (v := .int .i64 (cnt x.2.2 : Int)) rfl
    have oL5 := oL.same s5
    have iL := OwnI.ints oL5
    have sL := iL.isSome (by omega)
    have lL := fun {K : Fr → World → Prop} {f : Fr} {d : Option Nat} {w : World} => iL.ld (P := Try.prog) (K := K) (f := f) (d := d) (w := w) ty_ag_3 k (by omega)
    have hT : mostT Fb L (k + 1) = if Fb k = true ∧ mostT Fb L k < L.getD k 0 then L.getD k 0 else mostT Fb L k := rfl
    rw [hFx] at hT
    cases hxf : x.2.2 with
    | false =>
      rw [hxf] at hT lx
      simp only [Bool.false_eq_true, false_and, if_false] at hT
      have hc0 : ((cnt false : Nat) : Int) = 0 := rfl
      rw [hc0] at lx
      simp (disch := first | with_reducible assumption | omega) only [push_cast, x_blk, x_cd, ↓reduceIte, Nat.reduceEqDiff, List.map_cons, List.map_nil, Int.reduceEq, Int.lt_irrefl, L_ref13_Delay_0, fr, hkl, lx]
      exact hJ2 _ _ ⟨k + 1, hkl, (by simp only [push_cast, ↓reduceIte, Nat.reduceEqDiff, true_and, and_true, and_self, eq_self, fr, hT]), s5⟩ (by simp only [push_cast, ↓reduceIte, Nat.reduceEqDiff, intOf, fr]; omega)
    | true =>
      rw [hxf] at hT lx
      simp only [true_and] at hT
      have hc1 : ((cnt true : Nat) : Int) = 1 := rfl
      rw [hc1] at lx
      by_cases c : mostT Fb L k < L.getD k 0
      · rw [if_pos c] at hT
        simp (disch := first | with_reducible assumption | omega) only [push_cast, x_blk, x_cd, ↓reduceIte, Nat.reduceEqDiff, List.map_cons, List.map_nil, Int.reduceEq, Int.lt_irrefl, L_ref13_Delay_0, fr, hkl, lx, lL, c]
        exact hJ2 _ _ ⟨k + 1, hkl, (by simp only [push_cast, ↓reduceIte, Nat.reduceEqDiff, true_and, and_true, and_self, eq_self, fr, hT]), s5⟩ (by simp only [push_cast, ↓reduceIte, Nat.reduceEqDiff, intOf, fr]; omega)
      · rw [if_neg c] at hT
        simp (disch := first | with_reducible assumption | omega) only [push_cast, x_blk, x_cd, ↓reduceIte, Nat.reduceEqDiff, List.map_cons, List.map_nil, Int.reduceEq, Int.lt_irrefl, L_ref13_Delay_0, fr, hkl, lx, lL, c]
        exact hJ2 _ _ ⟨k + 1, hkl, (by simp only [push_cast, ↓reduceIte, Nat.reduceEqDiff, true_and, and_true, and_self, eq_self, fr, hT]), s5⟩ (by simp only [push_cast, ↓reduceIte, Nat.reduceEqDiff, intOf, fr]; omega)
  have hrI : (r : Int) ≤ (l.length : Int) + 1 := by omega
  have hgood := rnds_good hl hE r
  have hle := rnds_le es l.length r
  have hre : r * es.length ≤ 74 * 20736 := Nat.mul_le_mul (by omega) (by omega)
  have hnext : rnds es l.length (r + 1) = rlxs es (rnds es l.length r).1 es.length := rfl
  generalize hL0 : (rnds es l.length r).1 = L0 at *
  simp (disch := first | with_reducible assumption | omega) only [push_cast, x_blk, x_cd, ↓reduceIte, Nat.reduceEqDiff, List.map_cons, List.map_nil, Int.reduceEq, Int.lt_irrefl, L_ref13_Delay_2, fr, hrI]
  refine loop_rule (fun f' w' => ∃ i : Nat, i ≤ es.length ∧ (f' 7 = .slice A l.length ca ∧ f' 8 = .slice D es.length cd ∧ f' 9 = .slice AL l.length l.length ∧ f' 10 = .int .i64 r ∧ f' 11 = .bool (rlxs es L0 i).2 ∧ f' 12 = .int .i64 i) ∧
      OwnR twC w.heap.size 61 3 w' A ca l ∧ OwnR egC w.heap.size 59 3 w' D cd es ∧ OwnI w.heap.size 3 w' AL l.length (rlxs es L0 i).1 ∧ Below w.heap.size w w')
    (fun f' _ => es.length - (intOf (f' 12)).toNat) ⟨0, Nat.zero_le _, (by simp only [push_cast, ↓reduceIte, Nat.reduceEqDiff, true_and, and_true, and_self, eq_self, fr, fr, rlxs_zero]), o, oe, oL, bb⟩ ?_
  clear fr o oe oL bb hst
  rintro f w5 ⟨i, hi, fr, o, oe, oL, bb⟩ J2 hJ2
  have hmu2 : (intOf (f 12)).toNat = i := by rw [fr.2.2.2.2.2]; simp [intOf]
  by_cases hil : i < es.length
  case neg =>
    obtain rfl : i = es.length := by omega
    rw [← hnext] at fr oL
    by_cases c : (rnds es l.length (r + 1)).2 = true
    · by_cases c2 : r = l.length + 1
      · subst c2
        rw [if_pos c] at hdel
        have e2 : ((l.length + 1 : Nat) : Int) = (l.length : Int) + 1 := by omega
        simp (disch := first | with_reducible assumption | omega) only [push_cast, x_blk, x_cd, ↓reduceIte, Nat.reduceEqDiff, List.map_cons, List.map_nil, Int.reduceEq, Int.lt_irrefl, L_ref13_Delay_1, fr, Nat.lt_irrefl, c, e2, eq_self, decide_true]
        exact fin_1 (hQ _ _ ⟨-1, (by simp only [push_cast, ↓reduceIte, Nat.reduceEqDiff, Int.reduceEq, fr]), hdel, bb⟩)
      · have e2 : ¬ (r : Int) = (l.length : Int) + 1 := by omega
        simp (disch := first | with_reducible assumption | omega) only [push_cast, x_blk, x_cd, ↓reduceIte, Nat.reduceEqDiff, List.map_cons, List.map_nil, Int.reduceEq, Int.lt_irrefl, L_ref13_Delay_1, fr, Nat.lt_irrefl, c, e2, decide_false]
        exact hJ _ _ ⟨r + 1, by omega, (by simp only [push_cast, ↓reduceIte, Nat.reduceEqDiff, true_and, and_true, and_self, eq_self, fr]), fun h => absurd h (by omega), o, oe, oL, bb⟩ (by rw [hmu]; simp only [push_cast, ↓reduceIte, Nat.reduceEqDiff, intOf, fr]; omega)
    · have c' : (rnds es l.length (r + 1)).2 = false := by simpa using c
      simp (disch := first | with_reducible assumption | omega) only [push_cast, x_blk, x_cd, ↓reduceIte, Nat.reduceEqDiff, List.map_cons, List.map_nil, Int.reduceEq, Int.lt_irrefl, L_ref13_Delay_1, fr, Nat.lt_irrefl, c']
      exact hJ _ _ ⟨r + 1, by omega, (by simp only [push_cast, ↓reduceIte, Nat.reduceEqDiff, true_and, and_true, and_self, eq_self, fr]), fun _ => c', o, oe, oL, bb⟩ (by rw [hmu]; simp only [push_cast, ↓reduceIte, Nat.reduceEqDiff, intOf, fr]; omega)
  have hq : es[i]? = some (es.getD i default) := by rw [List.getD_eq_getElem?_getD, List.getElem?_eq_getElem hil]; rfl
  have hsucc := rlxs_succ (L := L0) hil
  generalize es.getD i default = q at hq hsucc
  obtain ⟨x, y, hx, hy, _⟩ := hE.is q (List.mem_of_getElem? hq)
  have hxl := lt_of_some hx
  have hyl := lt_of_some hy
  have hsl := rlxs_len es L0 i
  have hg1 := rlxs_ge hE hgood i (by omega) hxl
  have hg2 := rlxs_le (es := es) hle i q.1
  have hL0l := hgood.len
  have hrx : rlx (rlxs es L0 i) q = if (rlxs es L0 i).1.getD q.2.1 0 < (rlxs es L0 i).1.getD q.1 0 + cnt q.2.2 then ((rlxs es L0 i).1.set q.2.1 ((rlxs es L0 i).1.getD q.1 0 + cnt q.2.2), true) else rlxs es L0 i := rfl
  rw [← hsucc] at hrx
  generalize hs : rlxs es L0 i = s at *
  obtain ⟨L, g⟩ := s
  simp only at hrx hg1 hg2 hsl oL fr
  have hR := Recs.lt egEnc (by decide) (OwnR.recs oe egEnc (by decide))
  have sD := hR.isSome (by omega)
  have e0 := fun {K : Fr → World → Prop} {f : Fr} {d : Option Nat} {w' : World} => hR.ld (P := Try.prog) (K := K) (f := f) (d := d) (w := w') ty_ag_3 hq (j := 0) (v := .int .i64 (q.1 : Int)) rfl
  have e1 := fun {w2 : World} (h : OwnR egC w.heap.size 59 3 w2 D cd es) {K : Fr → World → Prop} {f : Fr} {d : Option Nat} {w' : World} => (Recs.lt egEnc (by decide) (OwnR.recs h egEnc (by decide))).ld (P := Try.prog) (K := K) (f := f) (d := d) (w := w') ty_ag_3 hq (j := 1) (v := .int .i64 (q.2.1 : Int)) rfl
  have e2 := fun {K : Fr → World → Prop} {f : Fr} {d : Option Nat} {w' : World} => hR.ld (P := Try.prog) (K := K) (f := f) (d := d) (w := w') ty_ag_4 hq (j := 2) (v := .bool q.2.2) rfl
  have iL := OwnI.ints oL
  have sL := iL.isSome (by omega)
  have lx := fun {K : Fr → World → Prop} {f : Fr} {d : Option Nat} {w : World} => iL.ld (P := Try.prog) (K := K) (f := f) (d := d) (w := w) ty_ag_3 q.1 (by omega)
  have ly := fun {K : Fr → World → Prop} {f : Fr} {d : Option Nat} {w : World} => iL.ld (P := Try.prog) (K := K) (f := f) (d := d) (w := w) ty_ag_3 q.2.1 (by omega)
  have hxl' : q.1 < l.length := hxl
  have hyl' : q.2.1 < l.length := hyl
  generalize L.getD q.1 0 = V at *
  generalize L.getD q.2.1 0 = U at *
  cases hb : q.2.2 with
  | false =>
    rw [hb] at e2
    have hc0 : ((cnt q.2.2 : Nat) : Int) = 0 := by rw [hb]; rfl
    rw [hc0, Int.add_zero] at hrx
    by_cases c : U < V
    · rw [if_pos c] at hrx
      simp (disch := first | with_reducible assumption | omega) only [push_cast, x_blk, x_cd, ↓reduceIte, Nat.reduceEqDiff, List.map_cons, List.map_nil, Int.reduceEq, Int.lt_irrefl, L_ref13_Delay_1, fr, hil, e0, e1 oe, e2, lx, ly, hxl', hyl', c]
      refine sto_int ty_ag_3 (by kernel_rfl) oL q.2.1 (by omega) V ?_
      intro w6 oL6 g6 z6
      have b6 := g6.below bb bb.size oL.geB
      simp (disch := first | with_reducible assumption | omega) only [push_cast, x_blk, x_cd, ↓reduceIte, Nat.reduceEqDiff, List.map_cons, List.map_nil, Int.reduceEq, Int.lt_irrefl, fr]
      exact hJ2 _ _ ⟨i + 1, by omega, (by simp only [push_cast, ↓reduceIte, Nat.reduceEqDiff, true_and, and_true, and_self, eq_self, fr, hrx]), o.grew g6 (Own.apart o oL (by decide)), oe.grew g6 (Own.apart oe oL (by decide)), by rw [hrx]; exact oL6, b6⟩ (by simp only [push_cast, ↓reduceIte, Nat.reduceEqDiff, intOf, fr]; omega)
    · rw [if_neg c] at hrx
      simp (disch := first | with_reducible assumption | omega) only [push_cast, x_blk, x_cd, ↓reduceIte, Nat.reduceEqDiff, List.map_cons, List.map_nil, Int.reduceEq, Int.lt_irrefl, L_ref13_Delay_1, fr, hil, e0, e1 oe, e2, lx, ly, hxl', hyl', c]
      exact hJ2 _ _ ⟨i + 1, by omega, (by simp only [push_cast, ↓reduceIte, Nat.reduceEqDiff, true_and, and_true, and_self, eq_self, fr, hrx]), o, oe, by rw [hrx]; exact oL, bb⟩ (by simp only [push_cast, ↓reduceIte, Nat.reduceEqDiff, intOf, fr]; omega)
  | true =>
    rw [hb] at e2
    have hc1 : ((cnt q.2.2 : Nat) : Int) = 1 := by rw [hb]; rfl
    rw [hc1] at hrx
    by_cases c : U < V + 1
    · rw [if_pos c] at hrx
      simp (disch := first | with_reducible assumption | omega) only [push_cast, x_blk, x_cd, ↓reduceIte, Nat.reduceEqDiff, List.map_cons, List.map_nil, Int.reduceEq, Int.lt_irrefl, L_ref13_Delay_1, fr, hil, e0, e1 oe, e2, lx, ly, hxl', hyl', c]
      refine sto_int ty_ag_3 (by kernel_rfl) oL q.2.1 (by omega) (V + 1) ?_
      intro w6 oL6 g6 z6
      have b6 := g6.below bb bb.size oL.geB
      simp (disch := first | with_reducible assumption | omega) only [push_cast, x_blk, x_cd, ↓reduceIte, Nat.reduceEqDiff, List.map_cons, List.map_nil, Int.reduceEq, Int.lt_irrefl, fr]
      exact hJ2 _ _ ⟨i + 1, by omega, (by simp only [push_cast, ↓reduceIte, Nat.reduceEqDiff, true_and, and_true, and_self, eq_self, fr, hrx]), o.grew g6 (Own.apart o oL (by decide)), oe.grew g6 (Own.apart oe oL (by decide)), by rw [hrx]; exact oL6, b6⟩ (by simp only [push_cast, ↓reduceIte, Nat.reduceEqDiff, intOf, fr]; omega)
    · rw [if_neg c] at hrx
      simp (disch := first | with_reducible assumption | omega) only [push_cast, x_blk, x_cd, ↓reduceIte, Nat.reduceEqDiff, List.map_cons, List.map_nil, Int.reduceEq, Int.lt_irrefl, L_ref13_Delay_1, fr, hil, e0, e1 oe, e2, lx, ly, hxl', hyl', c]
      exact hJ2 _ _ ⟨i + 1, by omega, (by simp only [push_cast, ↓reduceIte, Nat.reduceEqDiff, true_and, and_true, and_self, eq_self, fr, hrx]), o, oe, by rw [hrx]; exact oL, bb⟩ (by simp only [push_cast, ↓reduceIte, Nat.reduceEqDiff, intOf, fr]; omega)
end Go.Proofs.Ytfckamjbeplceaa
