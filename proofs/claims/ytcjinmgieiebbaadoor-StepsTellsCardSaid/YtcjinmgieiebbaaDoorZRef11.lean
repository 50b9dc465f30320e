/-
  Chapter 11's reference: meet, Was, Leak: by their contracts; the law StepsTells.
-/
import Derived.Test.YtcjinmgieiebbaaDoorZWas
import Derived.Test.YtcjinmgieiebbaaDoorZIniE
namespace Go.Proofs.YtcjinmgieiebbaaDoor
set_option linter.unusedSimpArgs false
set_option linter.unusedVariables false
set_option linter.unusedSectionVars false
open Go.RowKit

theorem onlyT_snoc (l b : List Int) (x : Int) : onlyL (l ++ [x]) b true = onlyL l b true ++ (if x ∈ b then [x] else []) := by
  unfold onlyL
  rw [List.filter_append]
  congr 1
  by_cases h : x ∈ b <;> simp [h]
theorem onlyT_len (l b : List Int) : (onlyL l b true).length ≤ l.length := by unfold onlyL; exact List.length_filter_le _ _
theorem ref11_meet {w : World} {A : Option Addr} {c : Nat} {a : List Int} (ha : Ints (· < w.heap.size) w A a) {A1 : Option Addr} {c1 : Nat} {b : List Int} (hb : Ints (· < w.heap.size) w A1 b) (na : a.length ≤ 256) (nb : b.length ≤ 256) (sb : Strict b) :
    Cal Tryd.prog 82 [.slice A a.length c, .slice A1 b.length c1] w fun v w' => ∃ O co, v = .slice O (onlyL a b true).length co ∧ OwnI w.heap.size 3 w' O co (onlyL a b true) ∧ Below w.heap.size w w' := by
  refine cal_ref11_meet (by simp) 100000 fun Q hQ => ?_
  simp (disch := first | with_reducible assumption | omega) only [push_cast, x_blk, x_cd, ↓reduceIte, Nat.reduceEqDiff, List.map_cons, List.map_nil, Int.reduceEq, Int.lt_irrefl, F_ref11_meet]
  refine loop_rule (fun f w' => ∃ (i : Nat) (O : Option Addr) (co : Nat), i ≤ a.length ∧ (f 0 = .slice A a.length c ∧ f 1 = .slice A1 b.length c1 ∧ f 5 = .slice O (onlyL (a.take i) b true).length co ∧ f 6 = .int .i64 i) ∧ OwnI w.heap.size 3 w' O co (onlyL (a.take i) b true) ∧ Below w.heap.size w w')
    (fun f _ => a.length - (intOf (f 6)).toNat) ⟨0, none, 0, Nat.zero_le _, ⟨rfl, rfl, rfl, rfl⟩, Own.nil _ _ _ _, Below.refl _ _⟩ ?_
  rintro f w1 ⟨i, O, co, hi, fr, ho, b1⟩ J hJ
  by_cases hlt : i < a.length
  case neg =>
    obtain rfl : i = a.length := by omega
    rw [List.take_length] at ho fr
    simp (disch := first | with_reducible assumption | omega) only [push_cast, x_blk, x_cd, ↓reduceIte, Nat.reduceEqDiff, List.map_cons, List.map_nil, Int.reduceEq, Int.lt_irrefl, L_ref11_meet_1, fr, Nat.lt_irrefl]
    exact fin_1 (hQ _ _ ⟨O, co, (by simp only [push_cast, ↓reduceIte, Nat.reduceEqDiff, Int.reduceEq, fr]), ho, b1⟩)
  have hmu : (intOf (f 6)).toNat = i := by rw [fr.2.2.2]; simp [intOf]
  have htk := take_snoc a 0 i hlt
  have hsn := onlyT_snoc (a.take i) b (a.getD i 0)
  rw [← htk] at hsn
  have hl1 := onlyT_len (a.take i) b
  have hl2 := List.length_take_le i a
  have hldx := fun {w' : World} (h : Ints (· < w.heap.size) w' A a) {K : Fr → World → Prop} {f : Fr} {d : Option Nat} {w : World} => h.ld (P := Tryd.prog) (K := K) (f := f) (d := d) (w := w) ty_ag_3 i hlt
  generalize a.getD i 0 = x at *
  generalize onlyL (a.take i) b true = r at *
  simp (disch := first | with_reducible assumption | omega) only [push_cast, x_blk, x_cd, ↓reduceIte, Nat.reduceEqDiff, List.map_cons, List.map_nil, Int.reduceEq, Int.lt_irrefl, L_ref11_meet_1, fr, hlt]
  refine loop_rule (fun f' w' => ∃ (k : Nat) (O : Option Addr) (co : Nat), k ≤ b.length ∧ (f' 0 = .slice A a.length c ∧ f' 1 = .slice A1 b.length c1 ∧ f' 5 = .slice O (r ++ if x ∈ b.take k then [x] else []).length co ∧ f' 6 = .int .i64 i ∧ f' 7 = .int .i64 k) ∧ OwnI w.heap.size 3 w' O co (r ++ if x ∈ b.take k then [x] else []) ∧ Below w.heap.size w w')
    (fun f' _ => b.length - (intOf (f' 7)).toNat) ⟨0, O, co, Nat.zero_le _, (by simp only [push_cast, ↓reduceIte, Nat.reduceEqDiff, true_and, and_true, and_self, eq_self, fr, List.take_zero, List.not_mem_nil, List.append_nil, if_false]), by simpa using ho, b1⟩ ?_
  clear ho b1 fr
  rintro f w2 ⟨k, O, co, hk, fr, ho, b2⟩ J2 hJ2
  by_cases hkt : k < b.length
  case neg =>
    obtain rfl : k = b.length := by omega
    rw [List.take_length, ← hsn] at ho fr
    simp (disch := first | with_reducible assumption | omega) only [push_cast, x_blk, x_cd, ↓reduceIte, Nat.reduceEqDiff, List.map_cons, List.map_nil, Int.reduceEq, Int.lt_irrefl, L_ref11_meet_0, fr, Nat.lt_irrefl]
    exact hJ _ _ ⟨i + 1, O, co, hlt, (by simp only [push_cast, ↓reduceIte, Nat.reduceEqDiff, true_and, and_true, and_self, eq_self, fr]), ho, b2⟩ (by rw [hmu]; simp only [push_cast, ↓reduceIte, Nat.reduceEqDiff, intOf, fr]; omega)
  have bd : Below w.heap.size w w2.drew := drawn b2
  have hAd := ha.below bd
  have hBd := hb.below bd
  have hA := hAd.isSome (by omega)
  have hB := hBd.isSome (by omega)
  have hod := ho.same (Same.refl w2).drew
  have hbk := take_snoc b 0 k hkt
  have hnd : b.getD k 0 ∉ b.take k := fun h => by
    obtain ⟨j, hj, hje⟩ := (mem_iff_getD (b.take k) 0 _).1 h
    rw [List.length_take] at hj
    have hjk : j < k := by omega
    have h1 : (b.take k).getD j 0 = b.getD j 0 := by rw [List.getD_eq_getElem?_getD, List.getD_eq_getElem?_getD, List.getElem?_take_of_lt hjk]
    rw [h1] at hje
    have h2 := List.pairwise_iff_getElem.1 sb j k (by omega) hkt hjk
    rw [List.getD_eq_getElem?_getD, List.getD_eq_getElem?_getD, List.getElem?_eq_getElem (by omega), List.getElem?_eq_getElem hkt] at hje
    simp only [Option.getD_some] at hje
    omega
  have hldy := fun {K : Fr → World → Prop} {f : Fr} {d : Option Nat} {w : World} => hBd.ld (P := Tryd.prog) (K := K) (f := f) (d := d) (w := w) ty_ag_3 k hkt
  generalize b.getD k 0 = y at *
  have hm : x ∈ b.take (k + 1) ↔ (x ∈ b.take k ∨ x = y) := by rw [hbk, List.mem_append, List.mem_singleton]
  by_cases hxy : x = y
  · subst hxy
    have hlr : r.length + 1 ≤ 300 := by omega
    rw [if_neg hnd, List.append_nil] at hod fr
    simp (disch := first | with_reducible assumption | omega) only [push_cast, x_blk, x_cd, ↓reduceIte, Nat.reduceEqDiff, List.map_cons, List.map_nil, Int.reduceEq, Int.lt_irrefl, L_ref11_meet_0, fr, hlt, hkt, hldx hAd, hldy, eq_self, bs_22]
    refine app_int slT_22 hod x (by omega) bd.size ?_
    intro A' c' w3 ho3 hg3 hA3 hs3 hz3
    simp (disch := first | with_reducible assumption | omega) only [push_cast, x_blk, x_cd, ↓reduceIte, Nat.reduceEqDiff, List.map_cons, List.map_nil, Int.reduceEq, Int.lt_irrefl, fr]
    exact hJ2 _ _ ⟨k + 1, A', c', hkt, (by simp only [push_cast, ↓reduceIte, Nat.reduceEqDiff, true_and, and_true, and_self, eq_self, fr, hm, or_true, if_true, List.length_append, List.length_cons, List.length_nil]), by rw [if_pos (hm.2 (.inr rfl))]; exact ho3, hg3.below bd bd.size hod.geB⟩ (by simp only [push_cast, ↓reduceIte, Nat.reduceEqDiff, intOf, fr]; omega)
  · have he : (if x ∈ b.take (k + 1) then [x] else []) = (if x ∈ b.take k then [x] else []) := by
      by_cases h1 : x ∈ b.take k
      · rw [if_pos h1, if_pos (hm.2 (.inl h1))]
      · rw [if_neg h1, if_neg fun h => (hm.1 h).elim h1 hxy]
    simp (disch := first | with_reducible assumption | omega) only [push_cast, x_blk, x_cd, ↓reduceIte, Nat.reduceEqDiff, List.map_cons, List.map_nil, Int.reduceEq, Int.lt_irrefl, L_ref11_meet_0, fr, hlt, hkt, hldx hAd, hldy, hxy]
    exact hJ2 _ _ ⟨k + 1, O, co, hkt, (by simp only [push_cast, ↓reduceIte, Nat.reduceEqDiff, true_and, and_true, and_self, eq_self, fr, he]), by rw [he]; exact hod, bd⟩ (by simp only [push_cast, ↓reduceIte, Nat.reduceEqDiff, intOf, fr]; omega)

theorem ref11_Was {w : World} {a : PV} {p : Plt} (ha : IsP (· < w.heap.size) w a p) (hf : p.Fits) (hm : p.m.May) {A1 : Option Addr} {c1 : Nat} {l : List Int} (h1 : Ints (· < w.heap.size) w A1 l) (n1 : l.length ≤ 17592186043904) {A2 : Option Addr} {c2 : Nat} {l2 : List Int} (h2 : Ints (· < w.heap.size) w A2 l2) (n2 : l2.length ≤ 17592186043904) :
    Cal Tryd.prog 38 [a.val p, .slice A1 l.length c1, .slice A2 l2.length c2] w fun v w' => ∃ O co, v = .slice O ((estL p l).filter (begT p l2)).length co ∧ OwnI w.heap.size 3 w' O co ((estL p l).filter (begT p l2)) ∧ Below w.heap.size w w' := by
  have hst : p.m.states ≤ 256 := hm.2.1
  refine cal_ref11_Was (by simp) 100000 fun Q hQ => ?_
  simp (disch := first | with_reducible assumption | omega) only [push_cast, x_blk, x_cd, ↓reduceIte, Nat.reduceEqDiff, List.map_cons, List.map_nil, Int.reduceEq, Int.lt_irrefl, F_ref11_Was]
  refine blk_of (box_agg _ (a.cells p)) ?_
  intro w1 k1 b1 z1
  simp (disch := first | with_reducible assumption | omega) only [push_cast, x_blk, x_cd, ↓reduceIte, Nat.reduceEqDiff, List.map_cons, List.map_nil, Int.reduceEq, Int.lt_irrefl, k1.pA']
  refine call_of (ref9_Estimate (ha.up b1) hf hm (h1.up b1) n1) ?_
  rintro v w0 ⟨E, ce, rfl, oE0, b0⟩
  have k0 := k1.below b0 k1.lt
  have bb0 := b1.trans (b0.mono b1.size)
  have hrow := estL_row hm l
  have hes := row_range hrow
  have hel := small_len hrow.strict (hrow.small hst)
  have iE : Ints (· < w0.heap.size) w0 E (estL p l) := Ints.lt (OwnI.ints oE0)
  clear oE0
  generalize estL p l = at_ at *
  simp (disch := first | with_reducible assumption | omega) only [push_cast, x_blk, x_cd, ↓reduceIte, Nat.reduceEqDiff, List.map_cons, List.map_nil, Int.reduceEq, Int.lt_irrefl]
  refine loop_rule (fun f w' => ∃ (k : Nat) (O : Option Addr) (co : Nat), k ≤ at_.length ∧ (f 2 = .slice A2 l2.length c2 ∧ f 3 = .pointer (some ⟨w.heap.size, 0, none⟩) ∧ f 7 = .slice E at_.length ce ∧ f 8 = .slice O ((at_.take k).filter (begT p l2)).length co ∧ f 9 = .int .i64 k) ∧
      OwnI w0.heap.size 3 w' O co ((at_.take k).filter (begT p l2)) ∧ Below w0.heap.size w0 w')
    (fun f _ => at_.length - (intOf (f 9)).toNat) ⟨0, none, 0, Nat.zero_le _, ⟨rfl, rfl, rfl, rfl, rfl⟩, Own.nil _ _ _ _, Below.refl _ _⟩ ?_
  rintro f w2 ⟨k, O, co, hk, fr, ho, b2⟩ J hJ
  by_cases hlt : k < at_.length
  case neg =>
    obtain rfl : k = at_.length := by omega
    rw [List.take_length] at ho fr
    simp (disch := first | with_reducible assumption | omega) only [push_cast, x_blk, x_cd, ↓reduceIte, Nat.reduceEqDiff, List.map_cons, List.map_nil, Int.reduceEq, Int.lt_irrefl, L_ref11_Was_0, fr, Nat.lt_irrefl]
    exact fin_1 (hQ _ _ ⟨O, co, (by simp only [push_cast, ↓reduceIte, Nat.reduceEqDiff, Int.reduceEq, fr]), ho.base bb0.size, bb0.trans (b2.mono bb0.size)⟩)
  have sd : Same w2 w2.drew := (Same.refl w2).drew
  have k2 := (k0.below b2 k0.lt).same sd
  replace b2 := b2.trans (sd.below _)
  replace ho := ho.same sd
  have hfl : ((at_.take k).filter (begT p l2)).length ≤ k := Nat.le_trans (List.length_filter_le _ _) (List.length_take_le _ _)
  have hin := getD_mem at_ 0 k hlt
  have htk := take_snoc at_ 0 k hlt
  have iE2 := iE.below b2
  have hA := iE2.isSome (by omega)
  have hld := fun {w' : World} (h : Ints (· < w0.heap.size) w' E at_) {K : Fr → World → Prop} {f : Fr} {d : Option Nat} {w : World} => h.ld (P := Tryd.prog) (K := K) (f := f) (d := d) (w := w) ty_ag_3 k hlt
  generalize at_.getD k 0 = s at *
  have hs := hes s hin
  have hsn : (at_.take (k + 1)).filter (begT p l2) = (at_.take k).filter (begT p l2) ++ if begT p l2 s = true then [s] else [] := by rw [htk, filter_snoc]
  generalize hu : w2.drew = u at *
  have oE := own_int1 u s 3
  have bE : Below u.heap.size u (u.alloc (.cells [.int .i64 s].toArray 3)) := (Below.refl _ _).alloc (Nat.le_refl _) _
  simp (disch := first | with_reducible assumption | omega) only [push_cast, x_blk, x_cd, ↓reduceIte, Nat.reduceEqDiff, List.map_cons, List.map_nil, Int.reduceEq, Int.lt_irrefl, L_ref11_Was_0, fr, hlt, hu, k2.pA', hld iE2, bs_22]
  refine ⟨bE, ?_⟩
  generalize u.alloc (Obj.cells [.int .i64 s].toArray 3) = w3 at *
  have b3 := b2.trans (bE.mono b2.size)
  have bb3 := bb0.trans (b3.mono bb0.size)
  refine call_of (ref9_From (l0 := [s]) (ha.up bb3) hf hm (Ints.lt (OwnI.ints oE)) (one_row hs.1 hs.2 hst) (h2.up bb3) n2) ?_
  rintro v w4 ⟨O4, c4, rfl, o4, b4⟩
  have b24 := bE.trans (b4.mono bE.size)
  replace b3 := b3.trans (b4.mono b3.size)
  replace ho := ho.below b24 (Nat.le_refl _)
  have iE4 := iE.below b3
  simp (disch := first | with_reducible assumption | omega) only [push_cast, x_blk, x_cd, ↓reduceIte, Nat.reduceEqDiff, List.map_cons, List.map_nil, Int.reduceEq, Int.lt_irrefl]
  refine ⟨b24, ?_⟩
  by_cases c : 0 < (fromL p [s] l2).length
  · have hpos : (0 : Int) < ((fromL p [s] l2).length : Int) := by omega
    rw [if_pos (show begT p l2 s = true from decide_eq_true c)] at hsn
    simp (disch := first | with_reducible assumption | omega) only [push_cast, x_blk, x_cd, ↓reduceIte, Nat.reduceEqDiff, List.map_cons, List.map_nil, Int.reduceEq, Int.lt_irrefl, fr, hpos, hlt, hld iE4, bs_22]
    refine app_int slT_22 ho s (by omega) b3.size ?_
    intro A' c' w7 ho7 hg7 hA7 hs7 hz7
    simp (disch := first | with_reducible assumption | omega) only [push_cast, x_blk, x_cd, ↓reduceIte, Nat.reduceEqDiff, List.map_cons, List.map_nil, Int.reduceEq, Int.lt_irrefl, fr]
    exact hJ _ _ ⟨k + 1, A', c', hlt, (by simp only [push_cast, ↓reduceIte, Nat.reduceEqDiff, true_and, and_true, and_self, eq_self, fr, hsn, List.length_append, List.length_cons, List.length_nil]), by rw [hsn]; exact ho7, hg7.below b3 b3.size ho.geB⟩ (by simp only [push_cast, ↓reduceIte, Nat.reduceEqDiff, intOf, fr]; omega)
  · have hpos : ¬ (0 : Int) < ((fromL p [s] l2).length : Int) := by omega
    rw [if_neg (show ¬ begT p l2 s = true from fun h => c (of_decide_eq_true h)), List.append_nil] at hsn
    simp (disch := first | with_reducible assumption | omega) only [push_cast, x_blk, x_cd, ↓reduceIte, Nat.reduceEqDiff, List.map_cons, List.map_nil, Int.reduceEq, Int.lt_irrefl, fr, hpos]
    exact hJ _ _ ⟨k + 1, O, co, hlt, (by simp only [push_cast, ↓reduceIte, Nat.reduceEqDiff, true_and, and_true, and_self, eq_self, fr, hsn]), by rw [hsn]; exact ho, b3⟩ (by simp only [push_cast, ↓reduceIte, Nat.reduceEqDiff, intOf, fr]; omega)
theorem was_eq {p : Plt} (h : p.m.May) (u v : List Int) : (estL p u).filter (begT p v) = wasL p u v := by
  have hes := row_range (estL_row h u)
  refine Strict.ext ((estL_row h u).strict.filter _) (wasL_row h u v).strict fun x => ?_
  rw [List.mem_filter, mem_onlyT]
  unfold begT
  rw [decide_eq_true_eq, List.length_pos_iff]
  exact ⟨fun ⟨h1, h2⟩ => ⟨h1, (from_one h v (hes x h1)).1 h2⟩, fun ⟨h1, h2⟩ => ⟨h1, (from_one h v (hes x h1)).2 h2⟩⟩

def SelA (p : Plt) (most : Int) (ps qs : List Kn) (i : Nat) (z : List Int × List Int) : Prop :=
  ∃ (i' : Nat) (x : Kn), i' < i ∧ ps[i']? = some x ∧ ∃ y ∈ qs, (most < 0 ∨ (y.w.length : Int) ≤ most) ∧ TellsL (onlyL x.r y.r true) p.secret ∧ z = (x.w, y.w)
def SelB (p : Plt) (most : Int) (x : Kn) (qs : List Kn) (j : Nat) (z : List Int × List Int) : Prop :=
  ∃ (j' : Nat) (y : Kn), j' < j ∧ qs[j']? = some y ∧ ((most < 0 ∨ (y.w.length : Int) ≤ most) ∧ TellsL (onlyL x.r y.r true) p.secret) ∧ z = (x.w, y.w)
theorem SelA.succ {p : Plt} {most : Int} {ps qs : List Kn} {i : Nat} {x : Kn} (hx : ps[i]? = some x) (z : List Int × List Int) : SelA p most ps qs (i + 1) z ↔ (SelA p most ps qs i z ∨ SelB p most x qs qs.length z) := by
  constructor
  · rintro ⟨i', x', hi, hx', y, hy, h1, h2, hz⟩
    by_cases e : i' = i
    · subst e; rw [hx] at hx'; obtain rfl := Option.some.inj hx'
      obtain ⟨j, hj⟩ := List.mem_iff_getElem?.1 hy
      exact .inr ⟨j, y, getElem?_lt hj, hj, ⟨h1, h2⟩, hz⟩
    · exact .inl ⟨i', x', by omega, hx', y, hy, h1, h2, hz⟩
  · rintro (⟨i', x', hi, hr⟩ | ⟨j, y, _, hj, ⟨h1, h2⟩, hz⟩)
    · exact ⟨i', x', by omega, hr⟩
    · exact ⟨i, x, by omega, hx, y, List.mem_of_getElem? hj, h1, h2, hz⟩
theorem SelB.succ_no {p : Plt} {most : Int} {x : Kn} {qs : List Kn} {j : Nat} {y : Kn} (hy : qs[j]? = some y) (h : ¬ ((most < 0 ∨ (y.w.length : Int) ≤ most) ∧ TellsL (onlyL x.r y.r true) p.secret)) (z : List Int × List Int) : SelB p most x qs (j + 1) z ↔ SelB p most x qs j z := by
  constructor
  · rintro ⟨j', y', hj, hy', ht, hz⟩
    by_cases e : j' = j
    · subst e; rw [hy] at hy'; obtain rfl := Option.some.inj hy'; exact absurd ht h
    · exact ⟨j', y', by omega, hy', ht, hz⟩
  · rintro ⟨j', y', hj, hr⟩
    exact ⟨j', y', by omega, hr⟩
theorem SelB.succ_yes {p : Plt} {most : Int} {x : Kn} {qs : List Kn} {j : Nat} {y : Kn} (hy : qs[j]? = some y) (h : (most < 0 ∨ (y.w.length : Int) ≤ most) ∧ TellsL (onlyL x.r y.r true) p.secret) (z : List Int × List Int) : SelB p most x qs (j + 1) z ↔ (SelB p most x qs j z ∨ z = (x.w, y.w)) := by
  constructor
  · rintro ⟨j', y', hj, hy', ht, hz⟩
    by_cases e : j' = j
    · subst e; rw [hy] at hy'; obtain rfl := Option.some.inj hy'; exact .inr hz
    · exact .inl ⟨j', y', by omega, hy', ht, hz⟩
  · rintro (⟨j', y', hj, hr⟩ | hz)
    · exact ⟨j', y', by omega, hr⟩
    · exact ⟨j, y, by omega, hy, h, hz⟩
theorem SelA.all {p : Plt} {most : Int} {ps qs : List Kn} (z : List Int × List Int) : SelA p most ps qs ps.length z ↔ StpSel p most (ps.map Kn.abs) (qs.map Kn.abs) z := by
  constructor
  · rintro ⟨i', x, hi, hx, y, hy, h1, h2, rfl⟩
    exact ⟨y.abs, List.mem_map.2 ⟨y, hy, rfl⟩, h1, x.abs, List.mem_map.2 ⟨x, List.mem_of_getElem? hx, rfl⟩, h2, rfl⟩
  · rintro ⟨y, hy, hs, x, hx, ht, rfl⟩
    obtain ⟨y', hy', rfl⟩ := List.mem_map.1 hy
    obtain ⟨x', hx', rfl⟩ := List.mem_map.1 hx
    obtain ⟨i, hi⟩ := List.mem_iff_getElem?.1 hx'
    exact ⟨i, x', getElem?_lt hi, hi, y', hy', hs, ht, rfl⟩
theorem best_yes {Q Q' : List Int × List Int → Prop} {o : Option (List Int × List Int)} {z : List Int × List Int} (h : BestIs Q o) (hq : ∀ y, Q' y ↔ (Q y ∨ y = z)) (hc : ∀ y, o = some y → PLt z y) : BestIs Q' (some z) := by
  have := h.add z
  rw [if_pos hc] at this
  exact this.congr fun y => (hq y).symm
theorem best_no {Q Q' : List Int × List Int → Prop} {o : Option (List Int × List Int)} {z y : List Int × List Int} (h : BestIs Q o) (hq : ∀ y, Q' y ↔ (Q y ∨ y = z)) (ho : o = some y) (hc : ¬ PLt z y) : BestIs Q' o := by
  have := h.add z
  rw [if_neg fun hh => hc (hh y ho)] at this
  exact this.congr fun y => (hq y).symm
def Lk11 (p : Plt) (most : Int) (w : World) (v : Value) (w' : World) : Prop :=
  ∃ (b : Bool) (U : Option Addr) (cu : Nat) (u : List Int) (V : Option Addr) (cv : Nat) (x : List Int), v = .tuple #[.bool b, .slice U u.length cu, .slice V x.length cv] ∧ Ints (· < w'.heap.size) w' U u ∧ Ints (· < w'.heap.size) w' V x ∧ u.length ≤ 100000 ∧ x.length ≤ 100000 ∧ Below w.heap.size w w' ∧ ∃ o, BestIs (StpQ p most) o ∧ Opt2 o b u x
set_option maxHeartbeats 4000000 in
theorem ref11_Leak {w : World} {a : PV} {p : Plt} (ha : IsP (· < w.heap.size) w a p) (hf : p.Fits) (p1 : p.May) (most : Int) : Cal Tryd.prog 39 [a.val p, .int .i64 most] w (Lk11 p most w) := by
  have nQ := hf.lenQ
  have hst : p.m.states ≤ 256 := p1.1.2.1
  refine cal_ref11_Leak (by simp) 100000 fun Q hQ => ?_
  simp (disch := first | with_reducible assumption | omega) only [push_cast, x_blk, x_cd, ↓reduceIte, Nat.reduceEqDiff, List.map_cons, List.map_nil, Int.reduceEq, Int.lt_irrefl, F_ref11_Leak]
  refine blk_of (box_agg _ (a.cells p)) ?_
  intro w1 k1 b1 z1
  simp (disch := first | with_reducible assumption | omega) only [push_cast, x_blk, x_cd, ↓reduceIte, Nat.reduceEqDiff, List.map_cons, List.map_nil, Int.reduceEq, Int.lt_irrefl, k1.pA']
  refine call_of (ref9_Forward (ha.up b1) hf p1) ?_
  rintro v w2 ⟨k, ps, L, c, rfl, habs, hlen, hk64, hR, hgood, b2⟩
  replace k1 := k1.below b2 k1.lt
  have bb := b1.trans (b2.mono b1.size)
  simp (disch := first | with_reducible assumption | omega) only [push_cast, x_blk, x_cd, ↓reduceIte, Nat.reduceEqDiff, List.map_cons, List.map_nil, Int.reduceEq, Int.lt_irrefl, k1.pA']
  refine call_of (ref9_Backward (ha.up bb) hf p1) ?_
  rintro v w5 ⟨n, qs, L2, c2, rfl, habs2, hnil, hq64, hR2, hgood2, b5⟩
  have k5 := k1.below b5 k1.lt
  have bb5 := bb.trans (b5.mono bb.size)
  have hR5 : Recs Kn.cells 2 (· < w5.heap.size) w5 L ps := (hR.below b5).mono fun b hb => by have := b5.size; omega
  have hga : ∀ x ∈ ps, KnAt w1.heap.size w5 x := fun x hx => (hgood x hx).below b5
  have hkk : (bIter (nextP p) p.seen (firstP p) k).length = k := by rw [← habs, List.length_map]; exact hlen
  have hsx : ∀ x ∈ ps, IsRow x.r 6 := fun x hx => (bIter_good (step := nextP p) (es := p.seen) (U := fun s => IsRow s 6) (fun s _ e _ => nextP_row6 p1 s e) (firstP_row6 p1) k).univ x.abs (by rw [← habs]; exact List.mem_map.2 ⟨x, hx, rfl⟩)
  have hsy : ∀ y ∈ qs, UB p y.r := fun y hy => (lays_good (step := backP p) (es := p.seen) (first := allP p) (U := UB p) (fun s _ e _ => UB.back p1.1 s e) (UB.all p1.1) n).univ y.abs (by rw [← habs2]; exact List.mem_map.2 ⟨y, hy, rfl⟩)
  clear hR hgood b2 b5 k1
  simp (disch := first | with_reducible assumption | omega) only [push_cast, x_blk, x_cd, ↓reduceIte, Nat.reduceEqDiff, List.map_cons, List.map_nil, Int.reduceEq, Int.lt_irrefl]
  refine loop_rule (fun f w' => ∃ (i : Nat) (U : Option Addr) (cu : Nat) (u : List Int) (V : Option Addr) (cv : Nat) (v' : List Int) (b : Bool) (o : Option (List Int × List Int)), i ≤ ps.length ∧ (f 1 = .int .i64 most ∧ f 2 = .pointer (some ⟨w.heap.size, 0, none⟩) ∧ f 7 = .slice L ps.length c ∧ f 8 = .slice L2 qs.length c2 ∧ f 9 = .bool b ∧ f 10 = .slice U u.length cu ∧ f 11 = .slice V v'.length cv ∧ f 12 = .int .i64 i) ∧
      Ints (· < w5.heap.size) w5 U u ∧ Ints (· < w5.heap.size) w5 V v' ∧ u.length ≤ 100000 ∧ v'.length ≤ 100000 ∧ BestIs (SelA p most ps qs i) o ∧ Opt2 o b u v' ∧ Below w5.heap.size w5 w')
    (fun f _ => ps.length - (intOf (f 12)).toNat) ⟨0, none, 0, [], none, 0, [], false, none, Nat.zero_le _, ⟨rfl, rfl, rfl, rfl, rfl, rfl, rfl, rfl⟩, Ints.nil _ _ _, Ints.nil _ _ _, by simp, by simp, fun z ⟨_, _, h, _⟩ => absurd h (by omega), ⟨rfl, rfl, rfl⟩, Below.refl _ _⟩ ?_
  rintro f w6 ⟨i, U, cu, u, V, cv, v', b, o, hi, fr, hU, hV, nu, nv, hbo, hopt, b6⟩ J hJ
  by_cases hlt : i < ps.length
  case neg =>
    obtain rfl : i = ps.length := by omega
    simp (disch := first | with_reducible assumption | omega) only [push_cast, x_blk, x_cd, ↓reduceIte, Nat.reduceEqDiff, List.map_cons, List.map_nil, Int.reduceEq, Int.lt_irrefl, L_ref11_Leak_1, fr, Nat.lt_irrefl]
    exact fin_3 (hQ _ _ ⟨b, U, cu, u, V, cv, v', (by simp only [push_cast, ↓reduceIte, Nat.reduceEqDiff, Int.reduceEq, fr]), (hU.below b6).mono fun b hb => by have := b6.size; omega, (hV.below b6).mono fun b hb => by have := b6.size; omega, nu, nv, bb5.trans (b6.mono bb5.size), o, best_sel p1 hkk hnil (hbo.congr fun z => by rw [SelA.all, habs, habs2]), hopt⟩)
  have hmu : (intOf (f 12)).toNat = i := by rw [fr.2.2.2.2.2.2.2]; simp [intOf]
  have hxk : ps[i]? = some (ps[i]'hlt) := List.getElem?_eq_getElem hlt
  have hxm : ps[i]'hlt ∈ ps := List.getElem_mem hlt
  generalize ps[i]'hlt = x at hxk hxm
  have gx := hga x hxm
  have gxw := gx.w.lt
  have nxw := gx.nw
  have nxr := gx.nr
  have hxr := hsx x hxm
  simp (disch := first | with_reducible assumption | omega) only [push_cast, x_blk, x_cd, ↓reduceIte, Nat.reduceEqDiff, List.map_cons, List.map_nil, Int.reduceEq, Int.lt_irrefl, L_ref11_Leak_1, fr, hlt]
  refine loop_rule (fun f' w' => ∃ (j : Nat) (U : Option Addr) (cu : Nat) (u : List Int) (V : Option Addr) (cv : Nat) (v' : List Int) (b : Bool) (o : Option (List Int × List Int)), j ≤ qs.length ∧ (f' 1 = .int .i64 most ∧ f' 2 = .pointer (some ⟨w.heap.size, 0, none⟩) ∧ f' 7 = .slice L ps.length c ∧ f' 8 = .slice L2 qs.length c2 ∧ f' 9 = .bool b ∧ f' 10 = .slice U u.length cu ∧ f' 11 = .slice V v'.length cv ∧ f' 12 = .int .i64 i ∧ f' 13 = .int .i64 j) ∧
      Ints (· < w5.heap.size) w5 U u ∧ Ints (· < w5.heap.size) w5 V v' ∧ u.length ≤ 100000 ∧ v'.length ≤ 100000 ∧ BestIs (fun z => SelA p most ps qs i z ∨ SelB p most x qs j z) o ∧ Opt2 o b u v' ∧ Below w5.heap.size w5 w')
    (fun f' _ => qs.length - (intOf (f' 13)).toNat) ⟨0, U, cu, u, V, cv, v', b, o, Nat.zero_le _, (by simp only [push_cast, ↓reduceIte, Nat.reduceEqDiff, true_and, and_true, and_self, eq_self, fr]), hU, hV, nu, nv, hbo.congr fun z => ⟨.inl, fun h => h.elim id fun ⟨_, _, h, _⟩ => absurd h (by omega)⟩, hopt, b6⟩ ?_
  clear hU hV nu nv hbo hopt b6 fr
  clear U cu u V cv v' b o
  rintro f w7 ⟨j, U, cu, u, V, cv, v', b, o, hj, fr, hU, hV, nu, nv, hbo, hopt, b7⟩ J2 hJ2
  by_cases hjt : j < qs.length
  case neg =>
    obtain rfl : j = qs.length := by omega
    simp (disch := first | with_reducible assumption | omega) only [push_cast, x_blk, x_cd, ↓reduceIte, Nat.reduceEqDiff, List.map_cons, List.map_nil, Int.reduceEq, Int.lt_irrefl, L_ref11_Leak_0, fr, Nat.lt_irrefl]
    exact hJ _ _ ⟨i + 1, U, cu, u, V, cv, v', b, o, hlt, (by simp only [push_cast, ↓reduceIte, Nat.reduceEqDiff, true_and, and_true, and_self, eq_self, fr]), hU, hV, nu, nv, hbo.congr fun z => (SelA.succ hxk z).symm, hopt, b7⟩ (by rw [hmu]; simp only [push_cast, ↓reduceIte, Nat.reduceEqDiff, intOf, fr]; omega)
  have hmu2 : (intOf (f 13)).toNat = j := by rw [fr.2.2.2.2.2.2.2.2]; simp [intOf]
  have hyk : qs[j]? = some (qs[j]'hjt) := List.getElem?_eq_getElem hjt
  have hym : qs[j]'hjt ∈ qs := List.getElem_mem hjt
  generalize qs[j]'hjt = y at hyk hym
  have gy := hgood2 y hym
  have gyw := gy.w.lt
  have nyw := gy.nw
  have nyr := gy.nr
  have hyU := hsy y hym
  have hnone : b = false → o = none := fun hb => by
    cases o with
    | none => rfl
    | some m => rw [hopt.1] at hb; cases hb
  have hsome : b = true → o = some (u, v') := fun hb => by
    cases o with
    | none => rw [hopt.1] at hb; cases hb
    | some m => obtain ⟨_, rfl, rfl⟩ := hopt; rfl
  have hRa := hR5.below b7
  have hRb := hR2.below b7
  have hAa := hRa.isSome (by omega)
  have hAb := hRb.isSome (by omega)
  have bd : Below w5.heap.size w5 w7.drew := drawn b7
  have hRad := hR5.below bd
  have hRbd := hR2.below bd
  have ly1 := fun {K : Fr → World → Prop} {f : Fr} {d : Option Nat} {w' : World} => hRb.ld (P := Tryd.prog) (K := K) (f := f) (d := d) (w := w') ty_ag_22 hyk (j := 1) (v := .slice y.W y.w.length y.cw) rfl
  have lx1 := fun {K : Fr → World → Prop} {f : Fr} {d : Option Nat} {w' : World} => hRa.ld (P := Tryd.prog) (K := K) (f := f) (d := d) (w := w') ty_ag_22 hxk (j := 1) (v := .slice x.W x.w.length x.cw) rfl
  have ly0 := fun {K : Fr → World → Prop} {f : Fr} {d : Option Nat} {w' : World} => hRbd.ld (P := Tryd.prog) (K := K) (f := f) (d := d) (w := w') ty_ag_22 hyk (j := 0) (v := .slice y.R y.r.length y.cr) rfl
  have lx0 := fun {K : Fr → World → Prop} {f : Fr} {d : Option Nat} {w' : World} => hRad.ld (P := Tryd.prog) (K := K) (f := f) (d := d) (w := w') ty_ag_22 hxk (j := 0) (v := .slice x.R x.r.length x.cr) rfl
  by_cases c1 : 0 ≤ most
  case neg =>
    simp (disch := first | with_reducible assumption | omega) only [push_cast, x_blk, x_cd, ↓reduceIte, Nat.reduceEqDiff, List.map_cons, List.map_nil, Int.reduceEq, Int.lt_irrefl, L_ref11_Leak_0, fr, hjt, hlt, ly1, lx1, ly0, lx0, c1]
    refine call_of (ref11_meet ((gx.r.lt.below bd).mono fun b hb => Nat.lt_of_lt_of_le hb bd.size) ((gy.r.lt.below bd).mono fun b hb => Nat.lt_of_lt_of_le hb bd.size) (by omega) (by omega) hyU.1.strict) ?_
    rintro v w10 ⟨X, cx, rfl, ox, b10⟩
    have b510 := bd.trans (b10.mono bd.size)
    have bb10 := bb5.trans (b510.mono bb5.size)
    have k10 := k5.below b510 k5.lt
    have hol := onlyT_len x.r y.r
    simp (disch := first | with_reducible assumption | omega) only [push_cast, x_blk, x_cd, ↓reduceIte, Nat.reduceEqDiff, List.map_cons, List.map_nil, Int.reduceEq, Int.lt_irrefl, fr, k10.p6]
    refine call_of (ref9_Tells (Ints.lt (OwnI.ints ox)) (by omega) (ha.up bb10).secret (by omega)) ?_
    rintro v w12 ⟨rfl, b1012⟩
    have b12 := b510.trans (b1012.mono b510.size)
    by_cases ht : TellsL (onlyL x.r y.r true) p.secret
    case neg =>
      simp (disch := first | with_reducible assumption | omega) only [push_cast, x_blk, x_cd, ↓reduceIte, Nat.reduceEqDiff, List.map_cons, List.map_nil, Int.reduceEq, Int.lt_irrefl, decide_eq_false ht, fr]
      exact hJ2 _ _ ⟨j + 1, U, cu, u, V, cv, v', b, o, hjt, (by simp only [push_cast, ↓reduceIte, Nat.reduceEqDiff, true_and, and_true, and_self, eq_self, fr]), hU, hV, nu, nv, hbo.congr fun z => or_congr Iff.rfl (SelB.succ_no hyk (fun hh => ht hh.2) z).symm, hopt, b12⟩ (by rw [hmu2]; simp only [push_cast, ↓reduceIte, Nat.reduceEqDiff, intOf, fr]; omega)
    rw [decide_eq_true ht]
    have hshort : (most < 0 ∨ (y.w.length : Int) ≤ most) := by omega
    have hq : ∀ z, (SelA p most ps qs i z ∨ SelB p most x qs (j + 1) z) ↔ ((SelA p most ps qs i z ∨ SelB p most x qs j z) ∨ z = (x.w, y.w)) := fun z => by rw [SelB.succ_yes hyk ⟨hshort, ht⟩ z, or_assoc]
    by_cases h1 : (x.w.length : Int) + y.w.length < (u.length : Int) + v'.length
    · have hP : PLt (x.w, y.w) (u, v') := .inl (by simp only; omega)
      cases b with
      | false =>
        have hc : ∀ z, o = some z → PLt (x.w, y.w) z := fun z hz => by rw [hnone rfl] at hz; cases hz
        simp (disch := first | with_reducible assumption | omega) only [push_cast, x_blk, x_cd, ↓reduceIte, Nat.reduceEqDiff, List.map_cons, List.map_nil, Int.reduceEq, Int.lt_irrefl, h1, eq_self, fr]
        exact hJ2 _ _ ⟨j + 1, x.W, x.cw, x.w, y.W, y.cw, y.w, true, some (x.w, y.w), hjt, (by simp only [push_cast, ↓reduceIte, Nat.reduceEqDiff, true_and, and_true, and_self, eq_self, fr]), gxw, gyw, nxw, nyw, best_yes hbo hq hc, ⟨rfl, rfl, rfl⟩, b12⟩ (by rw [hmu2]; simp only [push_cast, ↓reduceIte, Nat.reduceEqDiff, intOf, fr]; omega)
      | true =>
        have hc : ∀ z, o = some z → PLt (x.w, y.w) z := fun z hz => by rw [hsome rfl] at hz; rw [← Option.some.inj hz]; exact hP
        simp (disch := first | with_reducible assumption | omega) only [push_cast, x_blk, x_cd, ↓reduceIte, Nat.reduceEqDiff, List.map_cons, List.map_nil, Int.reduceEq, Int.lt_irrefl, h1, eq_self, fr]
        exact hJ2 _ _ ⟨j + 1, x.W, x.cw, x.w, y.W, y.cw, y.w, true, some (x.w, y.w), hjt, (by simp only [push_cast, ↓reduceIte, Nat.reduceEqDiff, true_and, and_true, and_self, eq_self, fr]), gxw, gyw, nxw, nyw, best_yes hbo hq hc, ⟨rfl, rfl, rfl⟩, b12⟩ (by rw [hmu2]; simp only [push_cast, ↓reduceIte, Nat.reduceEqDiff, intOf, fr]; omega)
    by_cases h2 : (x.w.length : Int) + y.w.length = (u.length : Int) + v'.length
    case neg =>
      have hP : ¬ PLt (x.w, y.w) (u, v') := by
        rintro (hh | ⟨hh, _⟩) <;> simp only at hh <;> omega
      cases b with
      | false =>
        have hc : ∀ z, o = some z → PLt (x.w, y.w) z := fun z hz => by rw [hnone rfl] at hz; cases hz
        simp (disch := first | with_reducible assumption | omega) only [push_cast, x_blk, x_cd, ↓reduceIte, Nat.reduceEqDiff, List.map_cons, List.map_nil, Int.reduceEq, Int.lt_irrefl, h1, h2, eq_self, fr]
        exact hJ2 _ _ ⟨j + 1, x.W, x.cw, x.w, y.W, y.cw, y.w, true, some (x.w, y.w), hjt, (by simp only [push_cast, ↓reduceIte, Nat.reduceEqDiff, true_and, and_true, and_self, eq_self, fr]), gxw, gyw, nxw, nyw, best_yes hbo hq hc, ⟨rfl, rfl, rfl⟩, b12⟩ (by rw [hmu2]; simp only [push_cast, ↓reduceIte, Nat.reduceEqDiff, intOf, fr]; omega)
      | true =>
        simp (disch := first | with_reducible assumption | omega) only [push_cast, x_blk, x_cd, ↓reduceIte, Nat.reduceEqDiff, List.map_cons, List.map_nil, Int.reduceEq, Int.lt_irrefl, h1, h2, eq_self, fr]
        exact hJ2 _ _ ⟨j + 1, U, cu, u, V, cv, v', true, o, hjt, (by simp only [push_cast, ↓reduceIte, Nat.reduceEqDiff, true_and, and_true, and_self, eq_self, fr]), hU, hV, nu, nv, best_no hbo hq (hsome rfl) hP, hopt, b12⟩ (by rw [hmu2]; simp only [push_cast, ↓reduceIte, Nat.reduceEqDiff, intOf, fr]; omega)
    by_cases h3 : (y.w.length : Int) < (v'.length : Int)
    · have hP : PLt (x.w, y.w) (u, v') := .inr ⟨by simp only; omega, .inl (by simp only; omega)⟩
      cases b with
      | false =>
        have hc : ∀ z, o = some z → PLt (x.w, y.w) z := fun z hz => by rw [hnone rfl] at hz; cases hz
        simp (disch := first | with_reducible assumption | omega) only [push_cast, x_blk, x_cd, ↓reduceIte, Nat.reduceEqDiff, List.map_cons, List.map_nil, Int.reduceEq, Int.lt_irrefl, h1, eq_true h2, h3, fr]
        exact hJ2 _ _ ⟨j + 1, x.W, x.cw, x.w, y.W, y.cw, y.w, true, some (x.w, y.w), hjt, (by simp only [push_cast, ↓reduceIte, Nat.reduceEqDiff, true_and, and_true, and_self, eq_self, fr]), gxw, gyw, nxw, nyw, best_yes hbo hq hc, ⟨rfl, rfl, rfl⟩, b12⟩ (by rw [hmu2]; simp only [push_cast, ↓reduceIte, Nat.reduceEqDiff, intOf, fr]; omega)
      | true =>
        have hc : ∀ z, o = some z → PLt (x.w, y.w) z := fun z hz => by rw [hsome rfl] at hz; rw [← Option.some.inj hz]; exact hP
        simp (disch := first | with_reducible assumption | omega) only [push_cast, x_blk, x_cd, ↓reduceIte, Nat.reduceEqDiff, List.map_cons, List.map_nil, Int.reduceEq, Int.lt_irrefl, h1, eq_true h2, h3, fr]
        exact hJ2 _ _ ⟨j + 1, x.W, x.cw, x.w, y.W, y.cw, y.w, true, some (x.w, y.w), hjt, (by simp only [push_cast, ↓reduceIte, Nat.reduceEqDiff, true_and, and_true, and_self, eq_self, fr]), gxw, gyw, nxw, nyw, best_yes hbo hq hc, ⟨rfl, rfl, rfl⟩, b12⟩ (by rw [hmu2]; simp only [push_cast, ↓reduceIte, Nat.reduceEqDiff, intOf, fr]; omega)
    by_cases h4 : (y.w.length : Int) = (v'.length : Int)
    case neg =>
      have hP : ¬ PLt (x.w, y.w) (u, v') := by
        rintro (hh | ⟨_, hh | ⟨hh, _⟩⟩) <;> simp only at hh <;> omega
      cases b with
      | false =>
        have hc : ∀ z, o = some z → PLt (x.w, y.w) z := fun z hz => by rw [hnone rfl] at hz; cases hz
        simp (disch := first | with_reducible assumption | omega) only [push_cast, x_blk, x_cd, ↓reduceIte, Nat.reduceEqDiff, List.map_cons, List.map_nil, Int.reduceEq, Int.lt_irrefl, h1, eq_true h2, h3, h4, fr]
        exact hJ2 _ _ ⟨j + 1, x.W, x.cw, x.w, y.W, y.cw, y.w, true, some (x.w, y.w), hjt, (by simp only [push_cast, ↓reduceIte, Nat.reduceEqDiff, true_and, and_true, and_self, eq_self, fr]), gxw, gyw, nxw, nyw, best_yes hbo hq hc, ⟨rfl, rfl, rfl⟩, b12⟩ (by rw [hmu2]; simp only [push_cast, ↓reduceIte, Nat.reduceEqDiff, intOf, fr]; omega)
      | true =>
        simp (disch := first | with_reducible assumption | omega) only [push_cast, x_blk, x_cd, ↓reduceIte, Nat.reduceEqDiff, List.map_cons, List.map_nil, Int.reduceEq, Int.lt_irrefl, h1, eq_true h2, h3, h4, fr]
        exact hJ2 _ _ ⟨j + 1, U, cu, u, V, cv, v', true, o, hjt, (by simp only [push_cast, ↓reduceIte, Nat.reduceEqDiff, true_and, and_true, and_self, eq_self, fr]), hU, hV, nu, nv, best_no hbo hq (hsome rfl) hP, hopt, b12⟩ (by rw [hmu2]; simp only [push_cast, ↓reduceIte, Nat.reduceEqDiff, intOf, fr]; omega)
    have hUn := (hU.below b12)
    have hVn := (hV.below b12)
    have hXn := (gxw.below b12)
    have hYn := (gyw.below b12)
    simp (disch := first | with_reducible assumption | omega) only [push_cast, x_blk, x_cd, ↓reduceIte, Nat.reduceEqDiff, List.map_cons, List.map_nil, Int.reduceEq, Int.lt_irrefl, h1, eq_true h2, h3, eq_true h4, fr]
    refine call_of (ref9_Lesser hXn hUn x.cw cu (by omega)) ?_
    rintro v w13 ⟨rfl, s13⟩
    have b13 := b12.trans (s13.below _)
    by_cases h5 : Shl x.w u
    · have hP : PLt (x.w, y.w) (u, v') := .inr ⟨by simp only; omega, .inr ⟨by simp only; omega, .inl h5⟩⟩
      cases b with
      | false =>
        have hc : ∀ z, o = some z → PLt (x.w, y.w) z := fun z hz => by rw [hnone rfl] at hz; cases hz
        simp (disch := first | with_reducible assumption | omega) only [push_cast, x_blk, x_cd, ↓reduceIte, Nat.reduceEqDiff, List.map_cons, List.map_nil, Int.reduceEq, Int.lt_irrefl, decide_eq_true h5, eq_self, fr]
        exact hJ2 _ _ ⟨j + 1, x.W, x.cw, x.w, y.W, y.cw, y.w, true, some (x.w, y.w), hjt, (by simp only [push_cast, ↓reduceIte, Nat.reduceEqDiff, true_and, and_true, and_self, eq_self, fr]), gxw, gyw, nxw, nyw, best_yes hbo hq hc, ⟨rfl, rfl, rfl⟩, b13⟩ (by rw [hmu2]; simp only [push_cast, ↓reduceIte, Nat.reduceEqDiff, intOf, fr]; omega)
      | true =>
        have hc : ∀ z, o = some z → PLt (x.w, y.w) z := fun z hz => by rw [hsome rfl] at hz; rw [← Option.some.inj hz]; exact hP
        simp (disch := first | with_reducible assumption | omega) only [push_cast, x_blk, x_cd, ↓reduceIte, Nat.reduceEqDiff, List.map_cons, List.map_nil, Int.reduceEq, Int.lt_irrefl, decide_eq_true h5, eq_self, fr]
        exact hJ2 _ _ ⟨j + 1, x.W, x.cw, x.w, y.W, y.cw, y.w, true, some (x.w, y.w), hjt, (by simp only [push_cast, ↓reduceIte, Nat.reduceEqDiff, true_and, and_true, and_self, eq_self, fr]), gxw, gyw, nxw, nyw, best_yes hbo hq hc, ⟨rfl, rfl, rfl⟩, b13⟩ (by rw [hmu2]; simp only [push_cast, ↓reduceIte, Nat.reduceEqDiff, intOf, fr]; omega)
    simp (disch := first | with_reducible assumption | omega) only [push_cast, x_blk, x_cd, ↓reduceIte, Nat.reduceEqDiff, List.map_cons, List.map_nil, Int.reduceEq, Int.lt_irrefl, decide_eq_false h5, fr]
    refine call_of (ref9_Lesser (hUn.same s13) (hXn.same s13) cu x.cw (by omega)) ?_
    rintro v w14 ⟨rfl, s14⟩
    have b14 := b13.trans (s14.below _)
    by_cases h6 : Shl u x.w
    · have hP : ¬ PLt (x.w, y.w) (u, v') := by
        rintro (hh | ⟨_, hh | ⟨_, hh | ⟨hh, _⟩⟩⟩)
        · simp only at hh; omega
        · simp only at hh; omega
        · exact h5 hh
        · simp only at hh; rw [hh] at h6; exact Shl.irrefl _ h6
      cases b with
      | false =>
        have hc : ∀ z, o = some z → PLt (x.w, y.w) z := fun z hz => by rw [hnone rfl] at hz; cases hz
        simp (disch := first | with_reducible assumption | omega) only [push_cast, x_blk, x_cd, ↓reduceIte, Nat.reduceEqDiff, List.map_cons, List.map_nil, Int.reduceEq, Int.lt_irrefl, decide_eq_true h6, eq_self, fr]
        exact hJ2 _ _ ⟨j + 1, x.W, x.cw, x.w, y.W, y.cw, y.w, true, some (x.w, y.w), hjt, (by simp only [push_cast, ↓reduceIte, Nat.reduceEqDiff, true_and, and_true, and_self, eq_self, fr]), gxw, gyw, nxw, nyw, best_yes hbo hq hc, ⟨rfl, rfl, rfl⟩, b14⟩ (by rw [hmu2]; simp only [push_cast, ↓reduceIte, Nat.reduceEqDiff, intOf, fr]; omega)
      | true =>
        simp (disch := first | with_reducible assumption | omega) only [push_cast, x_blk, x_cd, ↓reduceIte, Nat.reduceEqDiff, List.map_cons, List.map_nil, Int.reduceEq, Int.lt_irrefl, decide_eq_true h6, eq_self, fr]
        exact hJ2 _ _ ⟨j + 1, U, cu, u, V, cv, v', true, o, hjt, (by simp only [push_cast, ↓reduceIte, Nat.reduceEqDiff, true_and, and_true, and_self, eq_self, fr]), hU, hV, nu, nv, best_no hbo hq (hsome rfl) hP, hopt, b14⟩ (by rw [hmu2]; simp only [push_cast, ↓reduceIte, Nat.reduceEqDiff, intOf, fr]; omega)
    have hxu : x.w = u := by
      rcases Shl.total x.w u with hh | hh | hh
      · exact absurd hh h5
      · exact hh
      · exact absurd hh h6
    simp (disch := first | with_reducible assumption | omega) only [push_cast, x_blk, x_cd, ↓reduceIte, Nat.reduceEqDiff, List.map_cons, List.map_nil, Int.reduceEq, Int.lt_irrefl, decide_eq_false h6, fr]
    refine call_of (ref9_Lesser ((hYn.same s13).same s14) ((hVn.same s13).same s14) y.cw cv (by omega)) ?_
    rintro v w15 ⟨rfl, s15⟩
    have b15 := b14.trans (s15.below _)
    by_cases h7 : Shl y.w v'
    · have hP : PLt (x.w, y.w) (u, v') := .inr ⟨by simp only; omega, .inr ⟨by simp only; omega, .inr ⟨hxu, h7⟩⟩⟩
      cases b with
      | false =>
        have hc : ∀ z, o = some z → PLt (x.w, y.w) z := fun z hz => by rw [hnone rfl] at hz; cases hz
        simp (disch := first | with_reducible assumption | omega) only [push_cast, x_blk, x_cd, ↓reduceIte, Nat.reduceEqDiff, List.map_cons, List.map_nil, Int.reduceEq, Int.lt_irrefl, decide_eq_true h7, eq_self, fr]
        exact hJ2 _ _ ⟨j + 1, x.W, x.cw, x.w, y.W, y.cw, y.w, true, some (x.w, y.w), hjt, (by simp only [push_cast, ↓reduceIte, Nat.reduceEqDiff, true_and, and_true, and_self, eq_self, fr]), gxw, gyw, nxw, nyw, best_yes hbo hq hc, ⟨rfl, rfl, rfl⟩, b15⟩ (by rw [hmu2]; simp only [push_cast, ↓reduceIte, Nat.reduceEqDiff, intOf, fr]; omega)
      | true =>
        have hc : ∀ z, o = some z → PLt (x.w, y.w) z := fun z hz => by rw [hsome rfl] at hz; rw [← Option.some.inj hz]; exact hP
        simp (disch := first | with_reducible assumption | omega) only [push_cast, x_blk, x_cd, ↓reduceIte, Nat.reduceEqDiff, List.map_cons, List.map_nil, Int.reduceEq, Int.lt_irrefl, decide_eq_true h7, eq_self, fr]
        exact hJ2 _ _ ⟨j + 1, x.W, x.cw, x.w, y.W, y.cw, y.w, true, some (x.w, y.w), hjt, (by simp only [push_cast, ↓reduceIte, Nat.reduceEqDiff, true_and, and_true, and_self, eq_self, fr]), gxw, gyw, nxw, nyw, best_yes hbo hq hc, ⟨rfl, rfl, rfl⟩, b15⟩ (by rw [hmu2]; simp only [push_cast, ↓reduceIte, Nat.reduceEqDiff, intOf, fr]; omega)
    · have hP : ¬ PLt (x.w, y.w) (u, v') := by
        rintro (hh | ⟨_, hh | ⟨_, hh | ⟨_, hh⟩⟩⟩)
        · simp only at hh; omega
        · simp only at hh; omega
        · exact h5 hh
        · exact h7 hh
      cases b with
      | false =>
        have hc : ∀ z, o = some z → PLt (x.w, y.w) z := fun z hz => by rw [hnone rfl] at hz; cases hz
        simp (disch := first | with_reducible assumption | omega) only [push_cast, x_blk, x_cd, ↓reduceIte, Nat.reduceEqDiff, List.map_cons, List.map_nil, Int.reduceEq, Int.lt_irrefl, decide_eq_false h7, eq_self, fr]
        exact hJ2 _ _ ⟨j + 1, x.W, x.cw, x.w, y.W, y.cw, y.w, true, some (x.w, y.w), hjt, (by simp only [push_cast, ↓reduceIte, Nat.reduceEqDiff, true_and, and_true, and_self, eq_self, fr]), gxw, gyw, nxw, nyw, best_yes hbo hq hc, ⟨rfl, rfl, rfl⟩, b15⟩ (by rw [hmu2]; simp only [push_cast, ↓reduceIte, Nat.reduceEqDiff, intOf, fr]; omega)
      | true =>
        simp (disch := first | with_reducible assumption | omega) only [push_cast, x_blk, x_cd, ↓reduceIte, Nat.reduceEqDiff, List.map_cons, List.map_nil, Int.reduceEq, Int.lt_irrefl, decide_eq_false h7, eq_self, fr]
        exact hJ2 _ _ ⟨j + 1, U, cu, u, V, cv, v', true, o, hjt, (by simp only [push_cast, ↓reduceIte, Nat.reduceEqDiff, true_and, and_true, and_self, eq_self, fr]), hU, hV, nu, nv, best_no hbo hq (hsome rfl) hP, hopt, b15⟩ (by rw [hmu2]; simp only [push_cast, ↓reduceIte, Nat.reduceEqDiff, intOf, fr]; omega)
  by_cases q2 : most < (y.w.length : Int)
  case pos =>
    simp (disch := first | with_reducible assumption | omega) only [push_cast, x_blk, x_cd, ↓reduceIte, Nat.reduceEqDiff, List.map_cons, List.map_nil, Int.reduceEq, Int.lt_irrefl, L_ref11_Leak_0, fr, hjt, hlt, ly1, lx1, c1, q2]
    exact hJ2 _ _ ⟨j + 1, U, cu, u, V, cv, v', b, o, hjt, (by simp only [push_cast, ↓reduceIte, Nat.reduceEqDiff, true_and, and_true, and_self, eq_self, fr]), hU, hV, nu, nv, hbo.congr fun z => or_congr Iff.rfl (SelB.succ_no hyk (fun hh => by have := hh.1; omega) z).symm, hopt, b7⟩ (by rw [hmu2]; simp only [push_cast, ↓reduceIte, Nat.reduceEqDiff, intOf, fr]; omega)
  simp (disch := first | with_reducible assumption | omega) only [push_cast, x_blk, x_cd, ↓reduceIte, Nat.reduceEqDiff, List.map_cons, List.map_nil, Int.reduceEq, Int.lt_irrefl, L_ref11_Leak_0, fr, hjt, hlt, ly1, lx1, ly0, lx0, c1, q2]
  refine call_of (ref11_meet ((gx.r.lt.below bd).mono fun b hb => Nat.lt_of_lt_of_le hb bd.size) ((gy.r.lt.below bd).mono fun b hb => Nat.lt_of_lt_of_le hb bd.size) (by omega) (by omega) hyU.1.strict) ?_
  rintro v w10 ⟨X, cx, rfl, ox, b10⟩
  have b510 := bd.trans (b10.mono bd.size)
  have bb10 := bb5.trans (b510.mono bb5.size)
  have k10 := k5.below b510 k5.lt
  have hol := onlyT_len x.r y.r
  simp (disch := first | with_reducible assumption | omega) only [push_cast, x_blk, x_cd, ↓reduceIte, Nat.reduceEqDiff, List.map_cons, List.map_nil, Int.reduceEq, Int.lt_irrefl, fr, k10.p6]
  refine call_of (ref9_Tells (Ints.lt (OwnI.ints ox)) (by omega) (ha.up bb10).secret (by omega)) ?_
  rintro v w12 ⟨rfl, b1012⟩
  have b12 := b510.trans (b1012.mono b510.size)
  by_cases ht : TellsL (onlyL x.r y.r true) p.secret
  case neg =>
    simp (disch := first | with_reducible assumption | omega) only [push_cast, x_blk, x_cd, ↓reduceIte, Nat.reduceEqDiff, List.map_cons, List.map_nil, Int.reduceEq, Int.lt_irrefl, decide_eq_false ht, fr]
    exact hJ2 _ _ ⟨j + 1, U, cu, u, V, cv, v', b, o, hjt, (by simp only [push_cast, ↓reduceIte, Nat.reduceEqDiff, true_and, and_true, and_self, eq_self, fr]), hU, hV, nu, nv, hbo.congr fun z => or_congr Iff.rfl (SelB.succ_no hyk (fun hh => ht hh.2) z).symm, hopt, b12⟩ (by rw [hmu2]; simp only [push_cast, ↓reduceIte, Nat.reduceEqDiff, intOf, fr]; omega)
  rw [decide_eq_true ht]
  have hshort : (most < 0 ∨ (y.w.length : Int) ≤ most) := by omega
  have hq : ∀ z, (SelA p most ps qs i z ∨ SelB p most x qs (j + 1) z) ↔ ((SelA p most ps qs i z ∨ SelB p most x qs j z) ∨ z = (x.w, y.w)) := fun z => by rw [SelB.succ_yes hyk ⟨hshort, ht⟩ z, or_assoc]
  by_cases h1 : (x.w.length : Int) + y.w.length < (u.length : Int) + v'.length
  · have hP : PLt (x.w, y.w) (u, v') := .inl (by simp only; omega)
    cases b with
    | false =>
      have hc : ∀ z, o = some z → PLt (x.w, y.w) z := fun z hz => by rw [hnone rfl] at hz; cases hz
      simp (disch := first | with_reducible assumption | omega) only [push_cast, x_blk, x_cd, ↓reduceIte, Nat.reduceEqDiff, List.map_cons, List.map_nil, Int.reduceEq, Int.lt_irrefl, h1, eq_self, fr]
      exact hJ2 _ _ ⟨j + 1, x.W, x.cw, x.w, y.W, y.cw, y.w, true, some (x.w, y.w), hjt, (by simp only [push_cast, ↓reduceIte, Nat.reduceEqDiff, true_and, and_true, and_self, eq_self, fr]), gxw, gyw, nxw, nyw, best_yes hbo hq hc, ⟨rfl, rfl, rfl⟩, b12⟩ (by rw [hmu2]; simp only [push_cast, ↓reduceIte, Nat.reduceEqDiff, intOf, fr]; omega)
    | true =>
      have hc : ∀ z, o = some z → PLt (x.w, y.w) z := fun z hz => by rw [hsome rfl] at hz; rw [← Option.some.inj hz]; exact hP
      simp (disch := first | with_reducible assumption | omega) only [push_cast, x_blk, x_cd, ↓reduceIte, Nat.reduceEqDiff, List.map_cons, List.map_nil, Int.reduceEq, Int.lt_irrefl, h1, eq_self, fr]
      exact hJ2 _ _ ⟨j + 1, x.W, x.cw, x.w, y.W, y.cw, y.w, true, some (x.w, y.w), hjt, (by simp only [push_cast, ↓reduceIte, Nat.reduceEqDiff, true_and, and_true, and_self, eq_self, fr]), gxw, gyw, nxw, nyw, best_yes hbo hq hc, ⟨rfl, rfl, rfl⟩, b12⟩ (by rw [hmu2]; simp only [push_cast, ↓reduceIte, Nat.reduceEqDiff, intOf, fr]; omega)
  by_cases h2 : (x.w.length : Int) + y.w.length = (u.length : Int) + v'.length
  case neg =>
    have hP : ¬ PLt (x.w, y.w) (u, v') := by
      rintro (hh | ⟨hh, _⟩) <;> simp only at hh <;> omega
    cases b with
    | false =>
      have hc : ∀ z, o = some z → PLt (x.w, y.w) z := fun z hz => by rw [hnone rfl] at hz; cases hz
      simp (disch := first | with_reducible assumption | omega) only [push_cast, x_blk, x_cd, ↓reduceIte, Nat.reduceEqDiff, List.map_cons, List.map_nil, Int.reduceEq, Int.lt_irrefl, h1, h2, eq_self, fr]
      exact hJ2 _ _ ⟨j + 1, x.W, x.cw, x.w, y.W, y.cw, y.w, true, some (x.w, y.w), hjt, (by simp only [push_cast, ↓reduceIte, Nat.reduceEqDiff, true_and, and_true, and_self, eq_self, fr]), gxw, gyw, nxw, nyw, best_yes hbo hq hc, ⟨rfl, rfl, rfl⟩, b12⟩ (by rw [hmu2]; simp only [push_cast, ↓reduceIte, Nat.reduceEqDiff, intOf, fr]; omega)
    | true =>
      simp (disch := first | with_reducible assumption | omega) only [push_cast, x_blk, x_cd, ↓reduceIte, Nat.reduceEqDiff, List.map_cons, List.map_nil, Int.reduceEq, Int.lt_irrefl, h1, h2, eq_self, fr]
      exact hJ2 _ _ ⟨j + 1, U, cu, u, V, cv, v', true, o, hjt, (by simp only [push_cast, ↓reduceIte, Nat.reduceEqDiff, true_and, and_true, and_self, eq_self, fr]), hU, hV, nu, nv, best_no hbo hq (hsome rfl) hP, hopt, b12⟩ (by rw [hmu2]; simp only [push_cast, ↓reduceIte, Nat.reduceEqDiff, intOf, fr]; omega)
  by_cases h3 : (y.w.length : Int) < (v'.length : Int)
  · have hP : PLt (x.w, y.w) (u, v') := .inr ⟨by simp only; omega, .inl (by simp only; omega)⟩
    cases b with
    | false =>
      have hc : ∀ z, o = some z → PLt (x.w, y.w) z := fun z hz => by rw [hnone rfl] at hz; cases hz
      simp (disch := first | with_reducible assumption | omega) only [push_cast, x_blk, x_cd, ↓reduceIte, Nat.reduceEqDiff, List.map_cons, List.map_nil, Int.reduceEq, Int.lt_irrefl, h1, eq_true h2, h3, fr]
      exact hJ2 _ _ ⟨j + 1, x.W, x.cw, x.w, y.W, y.cw, y.w, true, some (x.w, y.w), hjt, (by simp only [push_cast, ↓reduceIte, Nat.reduceEqDiff, true_and, and_true, and_self, eq_self, fr]), gxw, gyw, nxw, nyw, best_yes hbo hq hc, ⟨rfl, rfl, rfl⟩, b12⟩ (by rw [hmu2]; simp only [push_cast, ↓reduceIte, Nat.reduceEqDiff, intOf, fr]; omega)
    | true =>
      have hc : ∀ z, o = some z → PLt (x.w, y.w) z := fun z hz => by rw [hsome rfl] at hz; rw [← Option.some.inj hz]; exact hP
      simp (disch := first | with_reducible assumption | omega) only [push_cast, x_blk, x_cd, ↓reduceIte, Nat.reduceEqDiff, List.map_cons, List.map_nil, Int.reduceEq, Int.lt_irrefl, h1, eq_true h2, h3, fr]
      exact hJ2 _ _ ⟨j + 1, x.W, x.cw, x.w, y.W, y.cw, y.w, true, some (x.w, y.w), hjt, (by simp only [push_cast, ↓reduceIte, Nat.reduceEqDiff, true_and, and_true, and_self, eq_self, fr]), gxw, gyw, nxw, nyw, best_yes hbo hq hc, ⟨rfl, rfl, rfl⟩, b12⟩ (by rw [hmu2]; simp only [push_cast, ↓reduceIte, Nat.reduceEqDiff, intOf, fr]; omega)
  by_cases h4 : (y.w.length : Int) = (v'.length : Int)
  case neg =>
    have hP : ¬ PLt (x.w, y.w) (u, v') := by
      rintro (hh | ⟨_, hh | ⟨hh, _⟩⟩) <;> simp only at hh <;> omega
    cases b with
    | false =>
      have hc : ∀ z, o = some z → PLt (x.w, y.w) z := fun z hz => by rw [hnone rfl] at hz; cases hz
      simp (disch := first | with_reducible assumption | omega) only [push_cast, x_blk, x_cd, ↓reduceIte, Nat.reduceEqDiff, List.map_cons, List.map_nil, Int.reduceEq, Int.lt_irrefl, h1, eq_true h2, h3, h4, fr]
      exact hJ2 _ _ ⟨j + 1, x.W, x.cw, x.w, y.W, y.cw, y.w, true, some (x.w, y.w), hjt, (by simp only [push_cast, ↓reduceIte, Nat.reduceEqDiff, true_and, and_true, and_self, eq_self, fr]), gxw, gyw, nxw, nyw, best_yes hbo hq hc, ⟨rfl, rfl, rfl⟩, b12⟩ (by rw [hmu2]; simp only [push_cast, ↓reduceIte, Nat.reduceEqDiff, intOf, fr]; omega)
    | true =>
      simp (disch := first | with_reducible assumption | omega) only [push_cast, x_blk, x_cd, ↓reduceIte, Nat.reduceEqDiff, List.map_cons, List.map_nil, Int.reduceEq, Int.lt_irrefl, h1, eq_true h2, h3, h4, fr]
      exact hJ2 _ _ ⟨j + 1, U, cu, u, V, cv, v', true, o, hjt, (by simp only [push_cast, ↓reduceIte, Nat.reduceEqDiff, true_and, and_true, and_self, eq_self, fr]), hU, hV, nu, nv, best_no hbo hq (hsome rfl) hP, hopt, b12⟩ (by rw [hmu2]; simp only [push_cast, ↓reduceIte, Nat.reduceEqDiff, intOf, fr]; omega)
  have hUn := (hU.below b12)
  have hVn := (hV.below b12)
  have hXn := (gxw.below b12)
  have hYn := (gyw.below b12)
  simp (disch := first | with_reducible assumption | omega) only [push_cast, x_blk, x_cd, ↓reduceIte, Nat.reduceEqDiff, List.map_cons, List.map_nil, Int.reduceEq, Int.lt_irrefl, h1, eq_true h2, h3, eq_true h4, fr]
  refine call_of (ref9_Lesser hXn hUn x.cw cu (by omega)) ?_
  rintro v w13 ⟨rfl, s13⟩
  have b13 := b12.trans (s13.below _)
  by_cases h5 : Shl x.w u
  · have hP : PLt (x.w, y.w) (u, v') := .inr ⟨by simp only; omega, .inr ⟨by simp only; omega, .inl h5⟩⟩
    cases b with
    | false =>
      have hc : ∀ z, o = some z → PLt (x.w, y.w) z := fun z hz => by rw [hnone rfl] at hz; cases hz
      simp (disch := first | with_reducible assumption | omega) only [push_cast, x_blk, x_cd, ↓reduceIte, Nat.reduceEqDiff, List.map_cons, List.map_nil, Int.reduceEq, Int.lt_irrefl, decide_eq_true h5, eq_self, fr]
      exact hJ2 _ _ ⟨j + 1, x.W, x.cw, x.w, y.W, y.cw, y.w, true, some (x.w, y.w), hjt, (by simp only [push_cast, ↓reduceIte, Nat.reduceEqDiff, true_and, and_true, and_self, eq_self, fr]), gxw, gyw, nxw, nyw, best_yes hbo hq hc, ⟨rfl, rfl, rfl⟩, b13⟩ (by rw [hmu2]; simp only [push_cast, ↓reduceIte, Nat.reduceEqDiff, intOf, fr]; omega)
    | true =>
      have hc : ∀ z, o = some z → PLt (x.w, y.w) z := fun z hz => by rw [hsome rfl] at hz; rw [← Option.some.inj hz]; exact hP
      simp (disch := first | with_reducible assumption | omega) only [push_cast, x_blk, x_cd, ↓reduceIte, Nat.reduceEqDiff, List.map_cons, List.map_nil, Int.reduceEq, Int.lt_irrefl, decide_eq_true h5, eq_self, fr]
      exact hJ2 _ _ ⟨j + 1, x.W, x.cw, x.w, y.W, y.cw, y.w, true, some (x.w, y.w), hjt, (by simp only [push_cast, ↓reduceIte, Nat.reduceEqDiff, true_and, and_true, and_self, eq_self, fr]), gxw, gyw, nxw, nyw, best_yes hbo hq hc, ⟨rfl, rfl, rfl⟩, b13⟩ (by rw [hmu2]; simp only [push_cast, ↓reduceIte, Nat.reduceEqDiff, intOf, fr]; omega)
  simp (disch := first | with_reducible assumption | omega) only [push_cast, x_blk, x_cd, ↓reduceIte, Nat.reduceEqDiff, List.map_cons, List.map_nil, Int.reduceEq, Int.lt_irrefl, decide_eq_false h5, fr]
  refine call_of (ref9_Lesser (hUn.same s13) (hXn.same s13) cu x.cw (by omega)) ?_
  rintro v w14 ⟨rfl, s14⟩
  have b14 := b13.trans (s14.below _)
  by_cases h6 : Shl u x.w
  · have hP : ¬ PLt (x.w, y.w) (u, v') := by
      rintro (hh | ⟨_, hh | ⟨_, hh | ⟨hh, _⟩⟩⟩)
      · simp only at hh; omega
      · simp only at hh; omega
      · exact h5 hh
      · simp only at hh; rw [hh] at h6; exact Shl.irrefl _ h6
    cases b with
    | false =>
      have hc : ∀ z, o = some z → PLt (x.w, y.w) z := fun z hz => by rw [hnone rfl] at hz; cases hz
      simp (disch := first | with_reducible assumption | omega) only [push_cast, x_blk, x_cd, ↓reduceIte, Nat.reduceEqDiff, List.map_cons, List.map_nil, Int.reduceEq, Int.lt_irrefl, decide_eq_true h6, eq_self, fr]
      exact hJ2 _ _ ⟨j + 1, x.W, x.cw, x.w, y.W, y.cw, y.w, true, some (x.w, y.w), hjt, (by simp only [push_cast, ↓reduceIte, Nat.reduceEqDiff, true_and, and_true, and_self, eq_self, fr]), gxw, gyw, nxw, nyw, best_yes hbo hq hc, ⟨rfl, rfl, rfl⟩, b14⟩ (by rw [hmu2]; simp only [push_cast, ↓reduceIte, Nat.reduceEqDiff, intOf, fr]; omega)
    | true =>
      simp (disch := first | with_reducible assumption | omega) only [push_cast, x_blk, x_cd, ↓reduceIte, Nat.reduceEqDiff, List.map_cons, List.map_nil, Int.reduceEq, Int.lt_irrefl, decide_eq_true h6, eq_self, fr]
      exact hJ2 _ _ ⟨j + 1, U, cu, u, V, cv, v', true, o, hjt, (by simp only [push_cast, ↓reduceIte, Nat.reduceEqDiff, true_and, and_true, and_self, eq_self, fr]), hU, hV, nu, nv, best_no hbo hq (hsome rfl) hP, hopt, b14⟩ (by rw [hmu2]; simp only [push_cast, ↓reduceIte, Nat.reduceEqDiff, intOf, fr]; omega)
  have hxu : x.w = u := by
    rcases Shl.total x.w u with hh | hh | hh
    · exact absurd hh h5
    · exact hh
    · exact absurd hh h6
  simp (disch := first | with_reducible assumption | omega) only [push_cast, x_blk, x_cd, ↓reduceIte, Nat.reduceEqDiff, List.map_cons, List.map_nil, Int.reduceEq, Int.lt_irrefl, decide_eq_false h6, fr]
  refine call_of (ref9_Lesser ((hYn.same s13).same s14) ((hVn.same s13).same s14) y.cw cv (by omega)) ?_
  rintro v w15 ⟨rfl, s15⟩
  have b15 := b14.trans (s15.below _)
  by_cases h7 : Shl y.w v'
  · have hP : PLt (x.w, y.w) (u, v') := .inr ⟨by simp only; omega, .inr ⟨by simp only; omega, .inr ⟨hxu, h7⟩⟩⟩
    cases b with
    | false =>
      have hc : ∀ z, o = some z → PLt (x.w, y.w) z := fun z hz => by rw [hnone rfl] at hz; cases hz
      simp (disch := first | with_reducible assumption | omega) only [push_cast, x_blk, x_cd, ↓reduceIte, Nat.reduceEqDiff, List.map_cons, List.map_nil, Int.reduceEq, Int.lt_irrefl, decide_eq_true h7, eq_self, fr]
      exact hJ2 _ _ ⟨j + 1, x.W, x.cw, x.w, y.W, y.cw, y.w, true, some (x.w, y.w), hjt, (by simp only [push_cast, ↓reduceIte, Nat.reduceEqDiff, true_and, and_true, and_self, eq_self, fr]), gxw, gyw, nxw, nyw, best_yes hbo hq hc, ⟨rfl, rfl, rfl⟩, b15⟩ (by rw [hmu2]; simp only [push_cast, ↓reduceIte, Nat.reduceEqDiff, intOf, fr]; omega)
    | true =>
      have hc : ∀ z, o = some z → PLt (x.w, y.w) z := fun z hz => by rw [hsome rfl] at hz; rw [← Option.some.inj hz]; exact hP
      simp (disch := first | with_reducible assumption | omega) only [push_cast, x_blk, x_cd, ↓reduceIte, Nat.reduceEqDiff, List.map_cons, List.map_nil, Int.reduceEq, Int.lt_irrefl, decide_eq_true h7, eq_self, fr]
      exact hJ2 _ _ ⟨j + 1, x.W, x.cw, x.w, y.W, y.cw, y.w, true, some (x.w, y.w), hjt, (by simp only [push_cast, ↓reduceIte, Nat.reduceEqDiff, true_and, and_true, and_self, eq_self, fr]), gxw, gyw, nxw, nyw, best_yes hbo hq hc, ⟨rfl, rfl, rfl⟩, b15⟩ (by rw [hmu2]; simp only [push_cast, ↓reduceIte, Nat.reduceEqDiff, intOf, fr]; omega)
  · have hP : ¬ PLt (x.w, y.w) (u, v') := by
      rintro (hh | ⟨_, hh | ⟨_, hh | ⟨_, hh⟩⟩⟩)
      · simp only at hh; omega
      · simp only at hh; omega
      · exact h5 hh
      · exact h7 hh
    cases b with
    | false =>
      have hc : ∀ z, o = some z → PLt (x.w, y.w) z := fun z hz => by rw [hnone rfl] at hz; cases hz
      simp (disch := first | with_reducible assumption | omega) only [push_cast, x_blk, x_cd, ↓reduceIte, Nat.reduceEqDiff, List.map_cons, List.map_nil, Int.reduceEq, Int.lt_irrefl, decide_eq_false h7, eq_self, fr]
      exact hJ2 _ _ ⟨j + 1, x.W, x.cw, x.w, y.W, y.cw, y.w, true, some (x.w, y.w), hjt, (by simp only [push_cast, ↓reduceIte, Nat.reduceEqDiff, true_and, and_true, and_self, eq_self, fr]), gxw, gyw, nxw, nyw, best_yes hbo hq hc, ⟨rfl, rfl, rfl⟩, b15⟩ (by rw [hmu2]; simp only [push_cast, ↓reduceIte, Nat.reduceEqDiff, intOf, fr]; omega)
    | true =>
      simp (disch := first | with_reducible assumption | omega) only [push_cast, x_blk, x_cd, ↓reduceIte, Nat.reduceEqDiff, List.map_cons, List.map_nil, Int.reduceEq, Int.lt_irrefl, decide_eq_false h7, eq_self, fr]
      exact hJ2 _ _ ⟨j + 1, U, cu, u, V, cv, v', true, o, hjt, (by simp only [push_cast, ↓reduceIte, Nat.reduceEqDiff, true_and, and_true, and_self, eq_self, fr]), hU, hV, nu, nv, best_no hbo hq (hsome rfl) hP, hopt, b15⟩ (by rw [hmu2]; simp only [push_cast, ↓reduceIte, Nat.reduceEqDiff, intOf, fr]; omega)
end Go.Proofs.YtcjinmgieiebbaaDoor
