/-
  Chapter 9's reference: From, Estimate, Tells, Has, Forward, Lesser, Best; the laws' seen, all, best: by their contracts.
-/
import Derived.Test.YtcjinmgieiebbaaDoorZRef5
import Derived.Test.YtcjinmgieiebbaaDoorZCur
import Derived.Test.YtcjinmgieiebbaaDoorZCurB
import Derived.Test.YtcjinmgieiebbaaDoorZLay
namespace Go.Proofs.YtcjinmgieiebbaaDoor
set_option linter.unusedSimpArgs false
set_option linter.unusedVariables false
set_option linter.unusedSectionVars false
open Go.RowKit

theorem only_nil {s l : List Int} : onlyL s l false = [] ↔ AllIn s l := by
  unfold onlyL AllIn
  rw [List.filter_eq_nil_iff]
  simp
theorem only_sub (l m : List Int) (b : Bool) : (onlyL l m b).length ≤ l.length := by unfold onlyL; exact List.length_filter_le _ _
theorem ref9_Tells {w : World} {A : Option Addr} {c : Nat} {s : List Int} (h : Ints (· < w.heap.size) w A s) (n1 : s.length ≤ 17592186043904) {A2 : Option Addr} {c2 : Nat} {l : List Int} (h2 : Ints (· < w.heap.size) w A2 l) (n2 : l.length ≤ 17592186043904) :
    Cal Tryd.prog 83 [.slice A s.length c, .slice A2 l.length c2] w fun v w' => v = .bool (decide (TellsL s l)) ∧ Below w.heap.size w w' := by
  refine cal_ref9_Tells (by simp) 100000 fun Q hQ => ?_
  simp (disch := first | with_reducible assumption | omega) only [push_cast, x_blk, x_cd, ↓reduceIte, Nat.reduceEqDiff, List.map_cons, List.map_nil, Int.reduceEq, Int.lt_irrefl, F_ref9_Tells]
  refine call_of (ref1_Only h h2 c c2 false n1 (by omega)) ?_
  rintro v w2 ⟨O, co, rfl, o2, b2⟩
  have hlen := only_sub s l false
  by_cases e : s = []
  · subst e
    have r : decide (TellsL [] l) = false := decide_eq_false fun hh => hh.1 rfl
    simp (disch := first | with_reducible assumption | omega) only [push_cast, x_blk, x_cd, ↓reduceIte, Nat.reduceEqDiff, List.map_cons, List.map_nil, Int.reduceEq, Int.lt_irrefl, List.length_nil]
    exact fin_1 (hQ _ _ ⟨(by simp only [push_cast, ↓reduceIte, Nat.reduceEqDiff, Int.reduceEq, r]), b2⟩)
  have hpos : (0 : Int) < (s.length : Int) := by have := List.length_pos_iff.2 e; omega
  have r : decide (TellsL s l) = decide (((onlyL s l false).length : Int) = 0) := decide_eq_decide.2 ⟨fun hh => by
    rw [only_nil.2 hh.2]; rfl, fun hh => ⟨e, only_nil.1 (List.length_eq_zero_iff.1 (by omega))⟩⟩
  simp (disch := first | with_reducible assumption | omega) only [push_cast, x_blk, x_cd, ↓reduceIte, Nat.reduceEqDiff, List.map_cons, List.map_nil, Int.reduceEq, Int.lt_irrefl, hpos]
  exact fin_1 (hQ _ _ ⟨(by simp only [push_cast, ↓reduceIte, Nat.reduceEqDiff, Int.reduceEq, r]), b2⟩)
theorem ref9_Lesser {ok ok' : Nat → Prop} {w : World} {A A' : Option Addr} {l m : List Int} (h : Ints ok w A l) (h' : Ints ok' w A' m) (c c' : Nat) (hl : l.length ≤ 9223372036854775807) :
    Cal Tryd.prog 31 [.slice A l.length c, .slice A' m.length c'] w fun v w' => v = .bool (decide (Shl l m)) ∧ Same w w' := by
  refine cal_ref9_Lesser (by simp) 100000 fun Q hQ => ?_
  by_cases hlen : (l.length : Int) = (m.length : Int)
  case neg =>
    have r : decide (Shl l m) = decide ((l.length : Int) < (m.length : Int)) := decide_eq_decide.2 ⟨fun h => by rcases h with h | ⟨h, _⟩ <;> omega, fun h => .inl (by omega)⟩
    simp (disch := first | with_reducible assumption | omega) only [push_cast, x_blk, x_cd, ↓reduceIte, Nat.reduceEqDiff, List.map_cons, List.map_nil, Int.reduceEq, Int.lt_irrefl, F_ref9_Lesser, hlen]
    exact fin_1 (hQ _ _ ⟨(by simp only [push_cast, ↓reduceIte, Nat.reduceEqDiff, Int.reduceEq, r]), Same.refl _⟩)
  have hlen' : l.length = m.length := by omega
  simp (disch := first | with_reducible assumption | omega) only [push_cast, x_blk, x_cd, ↓reduceIte, Nat.reduceEqDiff, List.map_cons, List.map_nil, Int.reduceEq, Int.lt_irrefl, F_ref9_Lesser, hlen, eq_self]
  refine loop_rule (fun f w' => ∃ k : Nat, k ≤ l.length ∧ (f 0 = .slice A l.length c ∧ f 1 = .slice A' m.length c' ∧ f 5 = .int .i64 k) ∧ (∀ i, i < k → l.getD i 0 = m.getD i 0) ∧ Same w w')
    (fun f _ => l.length - (intOf (f 5)).toNat) ⟨0, Nat.zero_le _, ⟨rfl, rfl, rfl⟩, fun i hi => absurd hi (by omega), Same.refl w⟩ ?_
  rintro f w1 ⟨k, hk, fr, hp, s1⟩ J hJ
  by_cases hlt : k < l.length
  case neg =>
    have r : decide (Shl l m) = false := decide_eq_false fun h => by
      rcases h with h | ⟨_, i, hi, _, h⟩
      · omega
      · rw [hp i (by omega)] at h; omega
    simp (disch := first | with_reducible assumption | omega) only [push_cast, x_blk, x_cd, ↓reduceIte, Nat.reduceEqDiff, List.map_cons, List.map_nil, Int.reduceEq, Int.lt_irrefl, L_ref9_Lesser_0, fr, hlt]
    exact fin_1 (hQ _ _ ⟨(by simp only [push_cast, ↓reduceIte, Nat.reduceEqDiff, Int.reduceEq, r]), s1⟩)
  have hI := (h.same s1).drew
  have hI' := (h'.same s1).drew
  have hA := hI.isSome (by omega)
  have hA' := hI'.isSome (by omega)
  have hlt' : k < m.length := by omega
  by_cases c1 : l.getD k 0 = m.getD k 0
  · simp (disch := first | with_reducible assumption | omega) only [push_cast, x_blk, x_cd, ↓reduceIte, Nat.reduceEqDiff, List.map_cons, List.map_nil, Int.reduceEq, Int.lt_irrefl, L_ref9_Lesser_0, fr, hlt, hlt', hI.ld ty_ag_3, hI'.ld ty_ag_3, c1, eq_self]
    exact hJ _ _ ⟨k + 1, hlt, (by simp only [push_cast, ↓reduceIte, Nat.reduceEqDiff, true_and, and_true, and_self, eq_self, fr]), fun i hi => if e : i = k then e ▸ c1 else hp i (by omega), s1.drew⟩ (by simp only [push_cast, ↓reduceIte, Nat.reduceEqDiff, intOf, fr]; omega)
  · have r : decide (Shl l m) = decide (l.getD k 0 < m.getD k 0) := decide_eq_decide.2 ⟨fun h => by
      rcases h with h | ⟨_, i, hi, he, h⟩
      · omega
      · rcases Nat.lt_trichotomy i k with d | rfl | d
        · rw [hp i d] at h; omega
        · exact h
        · exact absurd (he k d) c1, fun h => .inr ⟨hlen', k, hlt, hp, h⟩⟩
    have hI2 := hI.drew
    have hI2' := hI'.drew
    simp (disch := first | with_reducible assumption | omega) only [push_cast, x_blk, x_cd, ↓reduceIte, Nat.reduceEqDiff, List.map_cons, List.map_nil, Int.reduceEq, Int.lt_irrefl, L_ref9_Lesser_0, fr, hlt, hlt', hI.ld ty_ag_3, hI'.ld ty_ag_3, hI2.ld ty_ag_3, hI2'.ld ty_ag_3, c1]
    exact fin_1 (hQ _ _ ⟨(by simp only [push_cast, ↓reduceIte, Nat.reduceEqDiff, Int.reduceEq, r]), s1.drew.drew⟩)

theorem ref5_Seen {w : World} {A : Option Addr} {l : List Int} (h : Ints (· < w.heap.size) w A l) (c : Nat) {A1 : Option Addr} {m : List Int} (h' : Ints (· < w.heap.size) w A1 m) (c1 : Nat) (hl : l.length ≤ 17592186043904) (hm : m.length ≤ 9223372036854775807) :
    Cal Tryd.prog 28 [.slice A l.length c, .slice A1 m.length c1] w fun v w' => ∃ O co, v = .slice O (onlyL l m true).length co ∧ OwnI w.heap.size 3 w' O co (onlyL l m true) ∧ Below w.heap.size w w' := by
  refine cal_ref5_Seen (by simp) 100000 fun Q hQ => ?_
  simp (disch := first | with_reducible assumption | omega) only [push_cast, x_blk, x_cd, ↓reduceIte, Nat.reduceEqDiff, List.map_cons, List.map_nil, Int.reduceEq, Int.lt_irrefl, F_ref5_Seen]
  refine call_of (ref1_Only h h' c c1 true hl hm) ?_
  rintro v w2 ⟨O, co, rfl, o2, b2⟩
  simp (disch := first | with_reducible assumption | omega) only [push_cast, x_blk, x_cd, ↓reduceIte, Nat.reduceEqDiff, List.map_cons, List.map_nil, Int.reduceEq, Int.lt_irrefl]
  exact fin_1 (hQ _ _ ⟨O, co, rfl, o2, b2⟩)

structure Kn where
  R : Option Addr
  cr : Nat
  r : List Int
  W : Option Addr
  cw : Nat
  w : List Int
def Kn.cells (p : Kn) : List Value := [.slice p.R p.r.length p.cr, .slice p.W p.w.length p.cw]
def Kn.abs (p : Kn) : List Int × List Int := (p.r, p.w)
theorem knEnc : Enc Kn.cells 2 := ⟨fun _ => rfl, fun p u hu => by
  unfold Kn.cells at hu
  simp only [List.mem_cons, List.not_mem_nil, or_false] at hu
  rcases hu with rfl | rfl <;> rfl⟩
theorem blt_kn : builtPl Tryd.prog 76 = some ([(0, 1), (1, 1)], [.slice none 0 0, .slice none 0 0]) := by kernel_rfl
theorem bl_kn {K : Fr → World → Prop} {u : World} {f : Fr} {d : Option Nat} {w : World} (p : Kn) :
    Val1 Tryd.prog K (Instr.build 76 #[(0, .slice p.R p.r.length p.cr), (1, .slice p.W p.w.length p.cw)]) u f d w = K (updO f d (.agg p.cells.toArray)) w := by
  have := bld_2 (P := Tryd.prog) (K := K) (u := u) (f := f) (d := d) (w := w) blt_kn rfl rfl rfl (v0 := .slice p.R p.r.length p.cr) (v1 := .slice p.W p.w.length p.cw) rfl rfl
  rw [this]; rfl
theorem bl_kn0 {K : Fr → World → Prop} {u : World} {f : Fr} {d : Option Nat} {w : World} (A : Option Addr) (n c : Nat) :
    Val1 Tryd.prog K (Instr.build 76 #[(0, .slice A n c)]) u f d w = K (updO f d (.agg [.slice A n c, .slice none 0 0].toArray)) w := by
  refine bld_of ?_
  rw [built_of blt_kn]
  rw [fill_cons (off := 0) (size := 1) rfl rfl (by decide), fill_nil]
  simp [putL, Value.cells]
/-- What is known, and can be read. -/
structure KnAt (B : Nat) (w : World) (p : Kn) : Prop where
  r : RowT B 3 w p.R p.r
  w : RowT B 3 w p.W p.w
  nr : p.r.length ≤ 256
  nw : p.w.length ≤ 100000
theorem KnAt.below {B : Nat} {w w' : World} {p : Kn} (h : KnAt B w p) (b : Below w.heap.size w w') : KnAt B w' p := ⟨h.r.below b, h.w.below b, h.nr, h.nw⟩
theorem KnAt.grew {B e' sz c n : Nat} {w w' : World} {p : Kn} {A2 : Option Addr} {xs : List Value} (h : KnAt B w p) (ho : Own B e' sz w A2 c n xs) (hne : e' ≠ 3) (hg : Grew w w' A2) : KnAt B w' p := ⟨h.r.grew ho hne hg, h.w.grew ho hne hg, h.nr, h.nw⟩
theorem ref9_Has {w : World} {L : Option Addr} {c : Nat} {ps : List Kn} (hR : Recs Kn.cells 2 (· < w.heap.size) w L ps) (hn : ps.length ≤ 100000) (hg : ∀ p ∈ ps, Ints (· < w.heap.size) w p.R p.r ∧ p.r.length ≤ 256) {A : Option Addr} {ca : Nat} {a : List Int} (h1 : Ints (· < w.heap.size) w A a) :
    Cal Tryd.prog 54 [.slice L ps.length c, .slice A a.length ca] w fun v w' => v = .bool (decide (a ∈ ps.map (·.r))) ∧ Same w w' := by
  refine cal_ref9_Has (by simp) 100000 fun Q hQ => ?_
  simp (disch := first | with_reducible assumption | omega) only [push_cast, x_blk, x_cd, ↓reduceIte, Nat.reduceEqDiff, List.map_cons, List.map_nil, Int.reduceEq, Int.lt_irrefl, F_ref9_Has]
  refine loop_rule (fun f w' => ∃ k : Nat, k ≤ ps.length ∧ (f 0 = .slice L ps.length c ∧ f 1 = .slice A a.length ca ∧ f 5 = .int .i64 k) ∧ (∀ (i : Nat) (p : Kn), i < k → ps[i]? = some p → p.r ≠ a) ∧ Same w w')
    (fun f _ => ps.length - (intOf (f 5)).toNat) ⟨0, Nat.zero_le _, ⟨rfl, rfl, rfl⟩, fun i p hi => absurd hi (by omega), Same.refl w⟩ ?_
  rintro f w1 ⟨k, hk, fr, hp, s1⟩ J hJ
  by_cases hlt : k < ps.length
  case neg =>
    have r : decide (a ∈ ps.map (·.r)) = false := decide_eq_false fun h => by
      obtain ⟨p, hp1, hp2⟩ := List.mem_map.1 h
      obtain ⟨i, hi, hpi⟩ := List.getElem_of_mem hp1
      exact hp i p (by omega) (by rw [List.getElem?_eq_getElem hi, hpi]) hp2
    simp (disch := first | with_reducible assumption | omega) only [push_cast, x_blk, x_cd, ↓reduceIte, Nat.reduceEqDiff, List.map_cons, List.map_nil, Int.reduceEq, Int.lt_irrefl, L_ref9_Has_0, fr, hlt]
    exact fin_1 (hQ _ _ ⟨(by simp only [push_cast, ↓reduceIte, Nat.reduceEqDiff, Int.reduceEq, r]), s1⟩)
  have hpk : ps[k]? = some (ps[k]'hlt) := List.getElem?_eq_getElem hlt
  have hmem : ps[k]'hlt ∈ ps := List.getElem_mem hlt
  generalize ps[k]'hlt = p at hpk hmem
  obtain ⟨ga, na⟩ := hg p hmem
  have hR1 := hR.same s1
  have hA := hR1.isSome (by omega)
  have l0 := fun {K : Fr → World → Prop} {f : Fr} {d : Option Nat} {w' : World} => hR1.ld (P := Tryd.prog) (K := K) (f := f) (d := d) (w := w') ty_ag_22 hpk (j := 0) (v := .slice p.R p.r.length p.cr) rfl
  simp (disch := first | with_reducible assumption | omega) only [push_cast, x_blk, x_cd, ↓reduceIte, Nat.reduceEqDiff, List.map_cons, List.map_nil, Int.reduceEq, Int.lt_irrefl, L_ref9_Has_0, fr, hlt, l0]
  refine call_of (ref1_Same (ga.same s1) (h1.same s1) p.cr ca (by omega)) ?_
  rintro v w2 ⟨rfl, s2⟩
  have s2 := s1.trans s2
  by_cases c1 : p.r = a
  · have r : decide (a ∈ ps.map (·.r)) = true := decide_eq_true (List.mem_map.2 ⟨p, hmem, c1⟩)
    simp (disch := first | with_reducible assumption | omega) only [push_cast, x_blk, x_cd, ↓reduceIte, Nat.reduceEqDiff, List.map_cons, List.map_nil, Int.reduceEq, Int.lt_irrefl, c1, eq_self]
    exact fin_1 (hQ _ _ ⟨(by simp only [push_cast, ↓reduceIte, Nat.reduceEqDiff, Int.reduceEq, r]), s2⟩)
  · simp (disch := first | with_reducible assumption | omega) only [push_cast, x_blk, x_cd, ↓reduceIte, Nat.reduceEqDiff, List.map_cons, List.map_nil, Int.reduceEq, Int.lt_irrefl, c1, fr]
    exact hJ _ _ ⟨k + 1, hlt, (by simp only [push_cast, ↓reduceIte, Nat.reduceEqDiff, true_and, and_true, and_self, eq_self, fr]), fun i p' hi hpi hh => by
      by_cases e : i = k
      · subst e; rw [hpk] at hpi; obtain rfl := Option.some.inj hpi; exact c1 hh
      · exact hp i p' (by omega) hpi hh, s2⟩ (by simp only [push_cast, ↓reduceIte, Nat.reduceEqDiff, intOf, fr]; omega)

noncomputable def fromL (p : Plt) (states word : List Int) : List Int := word.foldl (nextP p) (wideL p.m p.seen states)
theorem fromL_row {p : Plt} (h : p.m.May) {states : List Int} (hs : IsRow states p.m.states) (word : List Int) : IsRow (fromL p states word) p.m.states := by
  have key : ∀ (word : List Int) (l : List Int), IsRow l p.m.states → IsRow (word.foldl (nextP p) l) p.m.states := by
    intro word
    induction word with
    | nil => intro l hl; exact hl
    | cons e word ih => intro l _; exact ih _ (seeL_row h _ _ _)
  exact key word _ (wideL_row h (row_range hs))
theorem ref9_From {w : World} {a : PV} {p : Plt} (ha : IsP (· < w.heap.size) w a p) (hf : p.Fits) (hm : p.m.May) {A1 : Option Addr} {c1 : Nat} {l0 : List Int} (h1 : Ints (· < w.heap.size) w A1 l0) (hl0 : IsRow l0 p.m.states) {A : Option Addr} {c : Nat} {l : List Int} (h : Ints (· < w.heap.size) w A l) (n1 : l.length ≤ 17592186043904) :
    Cal Tryd.prog 51 [a.val p, .slice A1 l0.length c1, .slice A l.length c] w fun v w' => ∃ O co, v = .slice O (fromL p l0 l).length co ∧ OwnI w.heap.size 3 w' O co (fromL p l0 l) ∧ Below w.heap.size w w' := by
  have nP := hf.lenP
  have hst : p.m.states ≤ 256 := hm.2.1
  refine cal_ref9_From (by simp) 100000 fun Q hQ => ?_
  simp (disch := first | with_reducible assumption | omega) only [push_cast, x_blk, x_cd, ↓reduceIte, Nat.reduceEqDiff, List.map_cons, List.map_nil, Int.reduceEq, Int.lt_irrefl, F_ref9_From]
  refine blk_of (box_agg _ (a.cells p)) ?_
  intro w1 k1 b1 z1
  simp (disch := first | with_reducible assumption | omega) only [push_cast, x_blk, x_cd, ↓reduceIte, Nat.reduceEqDiff, List.map_cons, List.map_nil, Int.reduceEq, Int.lt_irrefl, k1.pM, k1.p5]
  refine call_of (ref5_Wide (ha.up b1).m hm (h1.up b1) hl0 (ha.up b1).seen nP) ?_
  rintro v w2 ⟨O2, c2, rfl, o2, b2⟩
  have hsn : ∀ k, k < l.length → fromL p l0 (l.take (k + 1)) = nextP p (fromL p l0 (l.take k)) (l.getD k 0) := fun k hk => by
    unfold fromL
    rw [take_snoc _ 0 k hk, List.foldl_append]; rfl
  simp (disch := first | with_reducible assumption | omega) only [push_cast, x_blk, x_cd, ↓reduceIte, Nat.reduceEqDiff, List.map_cons, List.map_nil, Int.reduceEq, Int.lt_irrefl]
  refine loop_rule (fun f w' => ∃ (k : Nat) (O : Option Addr) (co : Nat), k ≤ l.length ∧ (f 2 = .slice A l.length c ∧ f 3 = .pointer (some ⟨w.heap.size, 0, none⟩) ∧ f 7 = .slice O (fromL p l0 (l.take k)).length co ∧ f 8 = .int .i64 k) ∧
      OwnI w1.heap.size 3 w' O co (fromL p l0 (l.take k)) ∧ Below w1.heap.size w1 w')
    (fun f _ => l.length - (intOf (f 8)).toNat) ⟨0, O2, c2, Nat.zero_le _, ⟨rfl, rfl, rfl, rfl⟩, o2, b2⟩ ?_
  clear o2
  rintro f w3 ⟨k, O, co, hk, fr, ho, b3⟩ J hJ
  have bb := b1.trans (b3.mono b1.size)
  by_cases hlt : k < l.length
  case neg =>
    obtain rfl : k = l.length := by omega
    rw [List.take_length] at ho fr
    simp (disch := first | with_reducible assumption | omega) only [push_cast, x_blk, x_cd, ↓reduceIte, Nat.reduceEqDiff, List.map_cons, List.map_nil, Int.reduceEq, Int.lt_irrefl, L_ref9_From_0, fr, Nat.lt_irrefl]
    exact fin_1 (hQ _ _ ⟨O, co, (by simp only [push_cast, ↓reduceIte, Nat.reduceEqDiff, Int.reduceEq, fr]), ho.base b1.size, bb⟩)
  have k3 := k1.below b3 k1.lt
  have sd : Same w3 w3.drew := (Same.refl w3).drew
  replace k3 := k3.same sd
  replace ho := ho.same sd
  replace b3 := b3.trans (sd.below _)
  generalize hu : w3.drew = u at *
  have bb := b1.trans (b3.mono b1.size)
  have hI := h.up bb
  have hA := hI.isSome (by omega)
  have hrow := fromL_row hm hl0 (l.take k)
  have hrl := hrow.len
  simp (disch := first | with_reducible assumption | omega) only [push_cast, x_blk, x_cd, ↓reduceIte, Nat.reduceEqDiff, List.map_cons, List.map_nil, Int.reduceEq, Int.lt_irrefl, L_ref9_From_0, fr, hlt, hu, k3.pM, k3.p5, hI.ld ty_ag_3]
  refine call_of (ref5_Seeing (ha.up bb).m hm hf.m (Ints.lt (OwnI.ints ho)) (by omega) (ha.up bb).seen nP _) ?_
  rintro v w4 ⟨O4, c4, rfl, o4, b4⟩
  simp (disch := first | with_reducible assumption | omega) only [push_cast, x_blk, x_cd, ↓reduceIte, Nat.reduceEqDiff, List.map_cons, List.map_nil, Int.reduceEq, Int.lt_irrefl, fr]
  exact hJ _ _ ⟨k + 1, O4, c4, hlt, (by simp only [push_cast, ↓reduceIte, Nat.reduceEqDiff, true_and, and_true, and_self, eq_self, fr, hsn k hlt]), by rw [hsn k hlt]; exact o4.base b3.size, b3.trans (b4.mono b3.size)⟩ (by simp only [push_cast, ↓reduceIte, Nat.reduceEqDiff, intOf, fr]; omega)
theorem ref9_Estimate {w : World} {a : PV} {p : Plt} (ha : IsP (· < w.heap.size) w a p) (hf : p.Fits) (hm : p.m.May) {A : Option Addr} {c : Nat} {l : List Int} (h : Ints (· < w.heap.size) w A l) (n1 : l.length ≤ 17592186043904) :
    Cal Tryd.prog 17 [a.val p, .slice A l.length c] w fun v w' => ∃ O co, v = .slice O (estL p l).length co ∧ OwnI w.heap.size 3 w' O co (estL p l) ∧ Below w.heap.size w w' := by
  refine cal_ref9_Estimate (by simp) 100000 fun Q hQ => ?_
  simp (disch := first | with_reducible assumption | omega) only [push_cast, x_blk, x_cd, ↓reduceIte, Nat.reduceEqDiff, List.map_cons, List.map_nil, Int.reduceEq, Int.lt_irrefl, F_ref9_Estimate]
  refine blk_of (box_agg _ (a.cells p)) ?_
  intro w1 k1 b1 z1
  simp (disch := first | with_reducible assumption | omega) only [push_cast, x_blk, x_cd, ↓reduceIte, Nat.reduceEqDiff, List.map_cons, List.map_nil, Int.reduceEq, Int.lt_irrefl, k1.pA', k1.p2]
  refine call_of (ref9_From (ha.up b1) hf hm (ha.up b1).m.starts (may_starts hm) (h.up b1) n1) ?_
  rintro v w2 ⟨O2, c2, rfl, o2, b2⟩
  simp (disch := first | with_reducible assumption | omega) only [push_cast, x_blk, x_cd, ↓reduceIte, Nat.reduceEqDiff, List.map_cons, List.map_nil, Int.reduceEq, Int.lt_irrefl]
  exact fin_1 (hQ _ _ ⟨O2, c2, rfl, o2.base b1.size, b1.trans (b2.mono b1.size)⟩)

theorem row6_few {step : List Int → Int → List Int} {es first : List Int} (h0 : IsRow first 6) (hU : ∀ s, IsRow s 6 → ∀ e ∈ es, IsRow (step s e) 6) (k j : Nat) : (bPart step es first k j).length ≤ 64 :=
  (bPart_good (U := fun s => IsRow s 6) hU h0 k j).len codeR 64 (fun _ h => codeR_lt h) (fun _ _ h h' e => codeR_inj h h' e)
theorem nextP_row6 {p : Plt} (h : p.May) (s : List Int) (e : Int) : IsRow (nextP p s e) 6 := (seeL_row h.1 _ _ _).more h.2.1
theorem firstP_row6 {p : Plt} (h : p.May) : IsRow (firstP p) 6 := (firstP_row h.1).more h.2.1
def FwdRes (p : Plt) (w : World) (v : Value) (w' : World) : Prop :=
  ∃ (k : Nat) (ps : List Kn) (L : Option Addr) (c : Nat), v = .slice L ps.length c ∧ ps.map Kn.abs = bIter (nextP p) p.seen (firstP p) k ∧ ps.length = k ∧ k ≤ 64 ∧
    Recs Kn.cells 2 (· < w'.heap.size) w' L ps ∧ (∀ x ∈ ps, KnAt w.heap.size w' x) ∧ Below w.heap.size w w'
theorem ref9_Forward {w : World} {a : PV} {p : Plt} (ha : IsP (· < w.heap.size) w a p) (hf : p.Fits) (hp : p.May) : Cal Tryd.prog 19 [a.val p] w (FwdRes p w) := by
  have hm := hp.1
  have nP := hf.lenP
  have few := row6_few (step := nextP p) (es := p.seen) (firstP_row6 hp) fun s _ e _ => nextP_row6 hp s e
  have hfl : (firstP p).length ≤ 256 := small_len (wideL_strict _ _ _) (wideL_small _ _ _)
  refine cal_ref9_Forward (by simp) 100000 fun Q hQ => ?_
  simp (disch := first | with_reducible assumption | omega) only [push_cast, x_blk, x_cd, ↓reduceIte, Nat.reduceEqDiff, List.map_cons, List.map_nil, Int.reduceEq, Int.lt_irrefl, F_ref9_Forward]
  refine blk_of (box_agg _ (a.cells p)) ?_
  intro w1 k1 b1 z1
  simp (disch := first | with_reducible assumption | omega) only [push_cast, x_blk, x_cd, ↓reduceIte, Nat.reduceEqDiff, List.map_cons, List.map_nil, Int.reduceEq, Int.lt_irrefl, k1.pM, k1.p2, k1.p5]
  refine call_of (ref5_Wide (ha.up b1).m hm (ha.up b1).m.starts (may_starts hm) (ha.up b1).seen nP) ?_
  rintro v w2 ⟨O2, c2, rfl, o2, b2⟩
  have bb := b1.trans (b2.mono b1.size)
  have hb1 := b1.size
  have ro := (RowT.of_own (B := w.heap.size) o2)
  simp (disch := first | with_reducible assumption | omega) only [push_cast, x_blk, x_cd, ↓reduceIte, Nat.reduceEqDiff, List.map_cons, List.map_nil, Int.reduceEq, Int.lt_irrefl, bl_kn0]
  change LoopX _ _ _ _ (w2.alloc (.cells (Kn.cells ⟨O2, c2, firstP p, none, 0, []⟩).toArray 76))
  have o3 := own_rec knEnc w2 ⟨O2, c2, firstP p, none, 0, []⟩ 76
  have b3 : Below w2.heap.size w2 (w2.alloc (.cells (Kn.cells ⟨O2, c2, firstP p, none, 0, []⟩).toArray 76)) := (Below.refl _ _).alloc (Nat.le_refl _) _
  generalize w2.alloc (.cells (Kn.cells ⟨O2, c2, firstP p, none, 0, []⟩).toArray 76) = w3 at *
  have hg0 : KnAt w.heap.size w3 ⟨O2, c2, firstP p, none, 0, []⟩ := ⟨ro.below b3, ⟨Ints.nil _ _ _⟩, hfl, by simp⟩
  replace b3 := b2.trans (b3.mono b2.size)
  have zb := b2.size
  refine loop_rule (fun f w' => ∃ (k : Nat) (ps : List Kn) (L : Option Addr) (c : Nat), k ≤ ps.length ∧ (f 1 = .pointer (some ⟨w.heap.size, 0, none⟩) ∧ f 4 = .slice L ps.length c ∧ f 5 = .int .i64 k) ∧
      ps.map Kn.abs = bIter (nextP p) p.seen (firstP p) k ∧
      OwnR Kn.cells w1.heap.size 76 2 w' L c ps ∧ (∀ x ∈ ps, KnAt w.heap.size w' x) ∧ Below w1.heap.size w1 w')
    (fun f _ => 65 - (intOf (f 5)).toNat) ⟨0, [⟨O2, c2, firstP p, none, 0, []⟩], _, 1, by simp, ⟨rfl, rfl, rfl⟩, rfl, o3.base zb, fun x hx => by rw [List.mem_singleton.1 hx]; exact hg0, b3⟩ ?_
  clear o3 b3 hg0 o2 ro bb b2
  rintro f w4 ⟨k, ps, L, c, hk, fr, habs, ho, hgood, b4⟩ J hJ
  have hln : ps.length = (bIter (nextP p) p.seen (firstP p) k).length := by rw [← habs]; simp
  have fewk := few k 0
  rw [bPart_zero] at fewk
  have hmu : (intOf (f 5)).toNat = k := by rw [fr.2.2]; simp [intOf]
  by_cases hlt : k < ps.length
  case neg =>
    simp (disch := first | with_reducible assumption | omega) only [push_cast, x_blk, x_cd, ↓reduceIte, Nat.reduceEqDiff, List.map_cons, List.map_nil, Int.reduceEq, Int.lt_irrefl, L_ref9_Forward_1, fr, hlt]
    exact fin_1 (hQ _ _ ⟨k, ps, L, c, (by simp only [push_cast, ↓reduceIte, Nat.reduceEqDiff, Int.reduceEq]), habs, by omega, by omega, Recs.lt knEnc (by decide) (OwnR.recs ho knEnc (by decide)), hgood, b1.trans (b4.mono b1.size)⟩)
  have hpk0 : ps[k]? = some (ps[k]'hlt) := List.getElem?_eq_getElem hlt
  generalize ps[k]'hlt = x at hpk0
  have hq : (bIter (nextP p) p.seen (firstP p) k)[k]? = some x.abs := by rw [← habs, List.getElem?_map, hpk0]; rfl
  have hpre := bPart_prefix (step := nextP p) (es := p.seen) (firstP p) k
  simp (disch := first | with_reducible assumption | omega) only [push_cast, x_blk, x_cd, ↓reduceIte, Nat.reduceEqDiff, List.map_cons, List.map_nil, Int.reduceEq, Int.lt_irrefl, L_ref9_Forward_1, fr, hlt]
  refine loop_rule (fun f' w' => ∃ (j : Nat) (ps : List Kn) (L : Option Addr) (c : Nat), j ≤ p.seen.length ∧ (f' 1 = .pointer (some ⟨w.heap.size, 0, none⟩) ∧ f' 4 = .slice L ps.length c ∧ f' 5 = .int .i64 k ∧ f' 6 = .int .i64 j) ∧
      ps.map Kn.abs = bPart (nextP p) p.seen (firstP p) k j ∧
      OwnR Kn.cells w1.heap.size 76 2 w' L c ps ∧ (∀ x ∈ ps, KnAt w.heap.size w' x) ∧ Below w1.heap.size w1 w')
    (fun f' _ => p.seen.length - (intOf (f' 6)).toNat) ⟨0, ps, L, c, Nat.zero_le _, (by simp only [push_cast, ↓reduceIte, Nat.reduceEqDiff, true_and, and_true, and_self, eq_self, fr]), habs, ho, hgood, b4⟩ ?_
  have hkl := getElem?_lt hq
  clear ho hgood b4 fr habs hk hlt hln
  rintro f w4 ⟨j, ps, L, c, hj, fr, habs, ho, hgood, b4⟩ J2 hJ2
  have bb := b1.trans (b4.mono b1.size)
  have k1' := k1.below b4 k1.lt
  have hln : ps.length = (bPart (nextP p) p.seen (firstP p) k j).length := by rw [← habs]; simp
  have fewj := few k j
  have hlt : k < ps.length := by have := (hpre j).length_le; omega
  by_cases hjt : j < p.seen.length
  case neg =>
    obtain rfl : j = p.seen.length := by omega
    rw [bPart_all] at habs
    simp (disch := first | with_reducible assumption | omega) only [push_cast, x_blk, x_cd, ↓reduceIte, Nat.reduceEqDiff, List.map_cons, List.map_nil, Int.reduceEq, Int.lt_irrefl, L_ref9_Forward_0, fr, Nat.lt_irrefl, k1'.p5]
    exact hJ _ _ ⟨k + 1, ps, L, c, hlt, (by simp only [push_cast, ↓reduceIte, Nat.reduceEqDiff, true_and, and_true, and_self, eq_self, fr]), habs, ho, hgood, b4⟩ (by rw [hmu]; simp only [push_cast, ↓reduceIte, Nat.reduceEqDiff, intOf, fr]; omega)
  have hq2 : (bPart (nextP p) p.seen (firstP p) k j)[k]? = some x.abs := by rw [prefix_getElem? (hpre j) hkl]; exact hq
  have hpk : ps[k]? = some (ps[k]'hlt) := List.getElem?_eq_getElem hlt
  have hmem : ps[k]'hlt ∈ ps := List.getElem_mem hlt
  generalize ps[k]'hlt = y at hpk hmem
  have hpp : y.abs = x.abs := by
    have : (ps.map Kn.abs)[k]? = some y.abs := by rw [List.getElem?_map, hpk]; rfl
    rw [habs, hq2] at this
    exact (Option.some.inj this).symm
  rw [← hpp] at hq2
  clear hpp
  have sd : Same w4 w4.drew := (Same.refl w4).drew
  have k4 := k1'
  replace k1' := k1'.same sd
  replace ho := ho.same sd
  replace hgood : ∀ x ∈ ps, KnAt w.heap.size w4.drew x := fun x hx => (hgood x hx).below (sd.below _)
  replace b4 := b4.trans (sd.below _)
  generalize hu : w4.drew = u at *
  replace bb := b1.trans (b4.mono b1.size)
  have gy := hgood y hmem
  have hA := ho.isSome (by omega)
  have hR := Recs.lt knEnc (by decide) (OwnR.recs ho knEnc (by decide))
  have hIs := (ha.up bb).seen
  have hAs := hIs.isSome (by omega)
  have hsucc := bPart_succ (nextP p) p.seen (firstP p) k j hjt
  have l0 := fun {K : Fr → World → Prop} {f : Fr} {d : Option Nat} {w' : World} => hR.ld (P := Tryd.prog) (K := K) (f := f) (d := d) (w := w') ty_ag_22 hpk (j := 0) (v := .slice y.R y.r.length y.cr) rfl
  have le := fun {u' : World} (hI : Ints (· < u'.heap.size) u' a.Ap p.seen) {K : Fr → World → Prop} {f : Fr} {d : Option Nat} {w : World} => hI.ld (P := Tryd.prog) (K := K) (f := f) (d := d) (w := w) ty_ag_3 j hjt
  generalize hee : p.seen.getD j 0 = e at *
  simp (disch := first | with_reducible assumption | omega) only [push_cast, x_blk, x_cd, ↓reduceIte, Nat.reduceEqDiff, List.map_cons, List.map_nil, Int.reduceEq, Int.lt_irrefl, L_ref9_Forward_0, fr, hjt, hlt, hu, k4.p5, k1'.pM, k1'.p5, l0, le hIs]
  refine call_of (ref5_Seeing (ha.up bb).m hm hf.m gy.r.lt (by have := gy.nr; omega) (ha.up bb).seen nP e) ?_
  rintro v w5 ⟨X, cx, rfl, ox, b5⟩
  have hto : seeL p.m p.seen y.r e = nextP p y.abs.1 e := rfl
  have hxl : (seeL p.m p.seen y.r e).length ≤ 256 := small_len (wideL_strict _ _ _) (wideL_small _ _ _)
  generalize seeL p.m p.seen y.r e = t at *
  replace ho := ho.below b5 (Nat.le_refl _)
  replace hgood : ∀ x ∈ ps, KnAt w.heap.size w5 x := fun x hx => (hgood x hx).below b5
  replace k1' := k1'.below b5 k1'.lt
  replace b4 := b4.trans (b5.mono b4.size)
  simp (disch := first | with_reducible assumption | omega) only [push_cast, x_blk, x_cd, ↓reduceIte, Nat.reduceEqDiff, List.map_cons, List.map_nil, Int.reduceEq, Int.lt_irrefl, fr]
  refine call_of (ref9_Has (Recs.lt knEnc (by decide) (OwnR.recs ho knEnc (by decide))) (by omega) (fun p hp => ⟨(hgood p hp).r.lt, (hgood p hp).nr⟩) (Ints.lt (OwnI.ints ox))) ?_
  rintro v w6 ⟨rfl, s6⟩
  replace ho := ho.same s6
  replace ox := ox.same s6
  replace hgood : ∀ x ∈ ps, KnAt w.heap.size w6 x := fun x hx => (hgood x hx).below (s6.below _)
  replace k1' := k1'.same s6
  replace b4 := b4.trans (s6.below _)
  have hmp : ps.map (·.r) = (bPart (nextP p) p.seen (firstP p) k j).map (·.1) := by rw [← habs, List.map_map]; rfl
  rw [hmp]
  by_cases hin : t ∈ (bPart (nextP p) p.seen (firstP p) k j).map (·.1)
  · rw [bAdd_old hq2 (by rw [← hto]; exact hin)] at hsucc
    simp (disch := first | with_reducible assumption | omega) only [push_cast, x_blk, x_cd, ↓reduceIte, Nat.reduceEqDiff, List.map_cons, List.map_nil, Int.reduceEq, Int.lt_irrefl, hin, fr]
    exact hJ2 _ _ ⟨j + 1, ps, L, c, by omega, (by simp only [push_cast, ↓reduceIte, Nat.reduceEqDiff, true_and, and_true, and_self, eq_self, fr]), by rw [hsucc]; exact habs, ho, hgood, b4⟩ (by simp only [push_cast, ↓reduceIte, Nat.reduceEqDiff, intOf, fr]; omega)
  rw [bAdd_new hq2 (by rw [← hto]; exact hin), ← hto] at hsucc
  have hwl := bPart_word _ _ _ _ _ hq2
  have sd6 : Same w6 w6.drew := (Same.refl w6).drew
  replace k1' := k1'.same sd6
  replace ho := ho.same sd6
  replace ox := ox.same sd6
  replace hgood : ∀ x ∈ ps, KnAt w.heap.size w6.drew x := fun x hx => (hgood x hx).below (sd6.below _)
  replace b4 := b4.trans (sd6.below _)
  generalize hu6 : w6.drew = u6 at *
  have hR := Recs.lt knEnc (by decide) (OwnR.recs ho knEnc (by decide))
  have gy := (hgood y hmem).w.lt
  have hIs := (ha.up (b1.trans (b4.mono b1.size))).seen
  have l1 := fun {K : Fr → World → Prop} {f : Fr} {d : Option Nat} {w' : World} => hR.ld (P := Tryd.prog) (K := K) (f := f) (d := d) (w := w') ty_ag_22 hpk (j := 1) (v := .slice y.W y.w.length y.cw) rfl
  have hwl' : y.w.length ≤ k := hwl
  have hmu2 : (intOf (f 6)).toNat = j := by rw [fr.2.2.2]; simp [intOf]
  simp (disch := first | with_reducible assumption | omega) only [push_cast, x_blk, x_cd, ↓reduceIte, Nat.reduceEqDiff, List.map_cons, List.map_nil, Int.reduceEq, Int.lt_irrefl, hin, fr, hlt, hjt, hu6, k1'.p5, l1, le hIs]
  refine cutT (fun f' w' => ∃ (A12 : Option Addr) (c12 : Nat), (f' 1 = .pointer (some ⟨w.heap.size, 0, none⟩) ∧ f' 4 = .slice L ps.length c ∧ f' 5 = .int .i64 k ∧ f' 6 = .int .i64 j ∧ f' 7 = .slice X t.length cx ∧ f' 8 = .slice A12 (y.w ++ [e]).length c12) ∧
      OwnI u6.heap.size 3 w' A12 c12 (y.w ++ [e]) ∧ Below u6.heap.size u6 w') 20000 40000 (by decide) ?_ ?_
  · intro E hE
    have hlw : y.w.length + 1 = (y.w ++ [e]).length := by simp
    rw [x_t_two]
    refine ⟨?_, ?_⟩
    · have b0 : Below u6.heap.size u6 (u6.alloc (.cells [].toArray 3)) := (Below.refl _ _).alloc (Nat.le_refl _) _
      have o0 : OwnI u6.heap.size 3 (u6.alloc (.cells [].toArray 3)) (some ⟨u6.heap.size, 0, none⟩) 0 [] := ⟨World.ownsRow_made u6 #[] 0 (Nat.le_refl _) (by decide) (by simp)⟩
      have z0 : (u6.alloc (.cells [].toArray 3)).heap.size = u6.heap.size + 1 := by simp
      simp (disch := first | with_reducible assumption | omega) only [push_cast, x_blk, x_cd, ↓reduceIte, Nat.reduceEqDiff, List.map_cons, List.map_nil, Int.reduceEq, Int.lt_irrefl, bs0_22]
      refine ⟨b0, ?_⟩
      generalize u6.alloc (Obj.cells [].toArray 3) = v1 at *
      rw [x_t_two]
      refine ⟨?_, ?_⟩
      · simp (disch := first | with_reducible assumption | omega) only [push_cast, x_blk, x_cd, ↓reduceIte, Nat.reduceEqDiff, List.map_cons, List.map_nil, Int.reduceEq, Int.lt_irrefl]
        refine app_ints (l := []) slT_22 o0 (gy.up b0) (by simp; omega) b0.size ?_
        intro A9 c9 w9 o9 hg9 _ z9
        have b9 := hg9.below b0 b0.size o0.geB
        rw [List.nil_append] at o9
        simp (disch := first | with_reducible assumption | omega) only [push_cast, x_blk, x_cd, ↓reduceIte, Nat.reduceEqDiff, List.map_cons, List.map_nil, Int.reduceEq, Int.lt_irrefl, List.length_nil, Nat.zero_add, bs_22]
        refine ⟨b9, b9.alloc b9.size _, ?_⟩
        refine app_int slT_22 o9 e (by omega) b9.size ?_
        intro A10 c10 w10 o10 hg10 _ _ z10
        have b10 := hg10.below b9 b9.size o9.geB
        simp (disch := first | with_reducible assumption | omega) only [push_cast, x_blk, x_cd, ↓reduceIte, Nat.reduceEqDiff, List.map_cons, List.map_nil, Int.reduceEq, Int.lt_irrefl, fr]
        exact hE _ _ ⟨A10, c10, (by simp only [push_cast, ↓reduceIte, Nat.reduceEqDiff, true_and, and_true, and_self, eq_self, fr, hlw]), o10, b10⟩
      · have oE := own_int1 v1 e 3
        have oo := o0.alloc (.cells [.int .i64 e].toArray 3)
        have b1' := b0.alloc b0.size (.cells [.int .i64 e].toArray 3)
        simp (disch := first | with_reducible assumption | omega) only [push_cast, x_blk, x_cd, ↓reduceIte, Nat.reduceEqDiff, List.map_cons, List.map_nil, Int.reduceEq, Int.lt_irrefl, bs_22]
        refine ⟨b1', ?_⟩
        generalize v1.alloc (Obj.cells [.int .i64 e].toArray 3) = v2 at *
        refine app_ints (l := []) slT_22 oo (gy.up b1') (by simp; omega) b1'.size ?_
        intro A9 c9 w9 o9 hg9 _ z9
        have b9 := hg9.below b1' b1'.size oo.geB
        rw [List.nil_append] at o9
        replace oE := oE.grew hg9 (.inr (by simp; omega))
        simp (disch := first | with_reducible assumption | omega) only [push_cast, x_blk, x_cd, ↓reduceIte, Nat.reduceEqDiff, List.map_cons, List.map_nil, Int.reduceEq, Int.lt_irrefl, List.length_nil, Nat.zero_add]
        refine ⟨b9, ?_⟩
        refine app_ints (m := [e]) slT_22 o9 (OwnI.ints oE) (by simp; omega) b9.size ?_
        intro A10 c10 w10 o10 hg10 _ z10
        have b10 := hg10.below b9 b9.size o9.geB
        simp (disch := first | with_reducible assumption | omega) only [push_cast, x_blk, x_cd, ↓reduceIte, Nat.reduceEqDiff, List.map_cons, List.map_nil, Int.reduceEq, Int.lt_irrefl, fr]
        exact hE _ _ ⟨A10, c10, (by simp only [push_cast, ↓reduceIte, Nat.reduceEqDiff, true_and, and_true, and_self, eq_self, fr, List.length_append]), o10, b10⟩
    · have oE := own_int1 u6 e 3
      have b0 : Below u6.heap.size u6 (u6.alloc (.cells [.int .i64 e].toArray 3)) := (Below.refl _ _).alloc (Nat.le_refl _) _
      simp (disch := first | with_reducible assumption | omega) only [push_cast, x_blk, x_cd, ↓reduceIte, Nat.reduceEqDiff, List.map_cons, List.map_nil, Int.reduceEq, Int.lt_irrefl, bs_22, bs0_22]
      refine ⟨b0, ?_⟩
      have z0 : (u6.alloc (.cells [.int .i64 e].toArray 3)).heap.size = u6.heap.size + 1 := by simp
      generalize u6.alloc (Obj.cells [.int .i64 e].toArray 3) = v1 at *
      have b1' := b0.alloc b0.size (.cells [].toArray 3)
      have oo : OwnI v1.heap.size 3 (v1.alloc (.cells [].toArray 3)) (some ⟨v1.heap.size, 0, none⟩) 0 [] := ⟨World.ownsRow_made v1 #[] 0 (Nat.le_refl _) (by decide) (by simp)⟩
      replace oE := oE.alloc (.cells [].toArray 3)
      refine ⟨b1', ?_⟩
      have z1 : (v1.alloc (.cells [].toArray 3)).heap.size = v1.heap.size + 1 := by simp
      generalize v1.alloc (Obj.cells [].toArray 3) = v2 at *
      refine app_ints (l := []) slT_22 oo (gy.up b1') (by simp; omega) (by omega) ?_
      intro A9 c9 w9 o9 hg9 _ z9
      have b9 := hg9.below b1' b1'.size (fun a ha => by have := oo.geB a ha; omega)
      rw [List.nil_append] at o9
      replace oE := oE.grew hg9 (.inr (by simp; omega))
      simp (disch := first | with_reducible assumption | omega) only [push_cast, x_blk, x_cd, ↓reduceIte, Nat.reduceEqDiff, List.map_cons, List.map_nil, Int.reduceEq, Int.lt_irrefl, List.length_nil, Nat.zero_add]
      refine ⟨b9, ?_⟩
      refine app_ints (m := [e]) slT_22 (o9.base (B' := u6.heap.size) (by omega)) (OwnI.ints oE) (by simp; omega) b9.size ?_
      intro A10 c10 w10 o10 hg10 _ z10
      have b10 := hg10.below b9 b9.size (fun a ha => by have := o9.geB a ha; omega)
      simp (disch := first | with_reducible assumption | omega) only [push_cast, x_blk, x_cd, ↓reduceIte, Nat.reduceEqDiff, List.map_cons, List.map_nil, Int.reduceEq, Int.lt_irrefl, fr]
      exact hE _ _ ⟨A10, c10, (by simp only [push_cast, ↓reduceIte, Nat.reduceEqDiff, true_and, and_true, and_self, eq_self, fr, List.length_append]), o10, b10⟩
  · rintro f w7 ⟨A12, c12, fr, o12, b7⟩
    have ho7 := ho.below b7 (Nat.le_refl _)
    have ox7 := ox.below b7 (Nat.le_refl _)
    have b47 := b4.trans (b7.mono b4.size)
    have z6 := b4.size
    simp (disch := first | with_reducible assumption | omega) only [push_cast, x_blk, x_cd, ↓reduceIte, Nat.reduceEqDiff, List.map_cons, List.map_nil, Int.reduceEq, Int.lt_irrefl, fr, bl_kn ⟨X, cx, t, A12, c12, y.w ++ [e]⟩, bs_rec knEnc slT_37 _ (by decide)]
    refine app_rec knEnc slT_37 ho7 ⟨X, cx, t, A12, c12, y.w ++ [e]⟩ (by omega) (by omega) b47.size ?_
    intro A14 c14 w14 oR g14 hA14 hs14 z14
    simp (disch := first | with_reducible assumption | omega) only [push_cast, x_blk, x_cd, ↓reduceIte, Nat.reduceEqDiff, List.map_cons, List.map_nil, Int.reduceEq, Int.lt_irrefl, fr]
    refine hJ2 _ _ ⟨j + 1, ps ++ [⟨X, cx, t, A12, c12, y.w ++ [e]⟩], A14, c14, hjt, (by simp only [push_cast, ↓reduceIte, Nat.reduceEqDiff, true_and, and_true, and_self, eq_self, fr, List.length_append, List.length_cons, List.length_nil]), by rw [hsucc, List.map_append, habs]; rfl, oR, fun r hr => ?_, g14.below b47 b47.size ho7.geB⟩ (by rw [hmu2]; simp only [push_cast, ↓reduceIte, Nat.reduceEqDiff, intOf, fr]; omega)
    rcases List.mem_append.1 hr with hr | hr
    · exact ((hgood r hr).below b7).grew (ho7.base hb1) (by decide) g14
    · rw [List.mem_singleton.1 hr]
      exact ⟨(RowT.of_own ox7).grew (ho7.base hb1) (by decide) g14, (RowT.of_own o12).grew (ho7.base hb1) (by decide) g14, hxl, by simp; omega⟩

def OptIs (o : Option (List Int)) (b : Bool) (w : List Int) : Prop := match o with
  | some v => b = true ∧ w = v
  | none => b = false ∧ w = []
theorem OptIs.unique {o : Option (List Int)} {b b' : Bool} {w w' : List Int} (h : OptIs o b w) (h' : OptIs o b' w') : b = b' ∧ w = w' := by
  cases o with
  | none => exact ⟨h.1.trans h'.1.symm, h.2.trans h'.2.symm⟩
  | some v => exact ⟨h.1.trans h'.1.symm, h.2.trans h'.2.symm⟩
theorem law_seen {w : World} {a : PV} {p : Plt} (ha : IsP (· < w.heap.size) w a p) (hf : p.Fits) {A : Option Addr} {c : Nat} {l : List Int} (h : Ints (· < w.heap.size) w A l) (n1 : l.length ≤ 17592186043904) :
    Cal Tryd.prog 16 [a.val p, .slice A l.length c] w fun v w' => v = .bool (decide (AllIn l p.seen)) ∧ Below w.heap.size w w' := by
  have nP := hf.lenP
  refine cal_law_seen (by simp) 100000 fun Q hQ => ?_
  simp (disch := first | with_reducible assumption | omega) only [push_cast, x_blk, x_cd, ↓reduceIte, Nat.reduceEqDiff, List.map_cons, List.map_nil, Int.reduceEq, Int.lt_irrefl, F_law_seen]
  refine blk_of (box_agg _ (a.cells p)) ?_
  intro w1 k1 b1 z1
  simp (disch := first | with_reducible assumption | omega) only [push_cast, x_blk, x_cd, ↓reduceIte, Nat.reduceEqDiff, List.map_cons, List.map_nil, Int.reduceEq, Int.lt_irrefl, k1.p5]
  refine call_of (ref5_Seen (h.up b1) c (ha.up b1).seen a.cp n1 (by omega)) ?_
  rintro v w2 ⟨O, co, rfl, o2, b2⟩
  have r : decide (AllIn l p.seen) = decide (((onlyL l p.seen true).length : Int) = (l.length : Int)) := decide_eq_decide.2 (by
    rw [Int.ofNat_inj]
    unfold onlyL AllIn
    rw [List.length_filter_eq_length_iff]
    simp)
  simp (disch := first | with_reducible assumption | omega) only [push_cast, x_blk, x_cd, ↓reduceIte, Nat.reduceEqDiff, List.map_cons, List.map_nil, Int.reduceEq, Int.lt_irrefl]
  exact fin_1 (hQ _ _ ⟨(by simp only [push_cast, ↓reduceIte, Nat.reduceEqDiff, Int.reduceEq, r]), b1.trans (b2.mono b1.size)⟩)
end Go.Proofs.YtcjinmgieiebbaaDoor
