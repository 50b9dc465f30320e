/-
  Chapter 9's reference: From, Estimate, Tells, Has, Forward, Lesser, Best; the laws' seen, all, best: by their contracts.
-/
import Derived.Test.YtfckamjbeplceaaZRef5
import Derived.Test.YtfckamjbeplceaaZCur
import Derived.Test.YtfckamjbeplceaaZCurB
import Derived.Test.YtfckamjbeplceaaZLay
namespace Go.Proofs.Ytfckamjbeplceaa
set_option linter.unusedSimpArgs false
set_option linter.unusedVariables false
set_option linter.unusedSectionVars false
open Go.RowKit

theorem ref5_Seen {w : World} {A : Option Addr} {l : List Int} (h : Ints (· < w.heap.size) w A l) (c : Nat) {A1 : Option Addr} {m : List Int} (h' : Ints (· < w.heap.size) w A1 m) (c1 : Nat) (hl : l.length ≤ 17592186043904) (hm : m.length ≤ 9223372036854775807) :
    Cal Try.prog 14 [.slice A l.length c, .slice A1 m.length c1] w fun v w' => ∃ O co, v = .slice O (onlyL l m true).length co ∧ OwnI w.heap.size 3 w' O co (onlyL l m true) ∧ Below w.heap.size w w' := by
  refine cal_ref5_Seen (by simp) 100000 fun Q hQ => ?_
  simp (disch := first | with_reducible assumption | omega) only [push_cast, x_blk, x_cd, ↓reduceIte, Nat.reduceEqDiff, List.map_cons, List.map_nil, Int.reduceEq, Int.lt_irrefl, F_ref5_Seen]
  refine call_of (ref1_Only h h' c c1 true hl hm) ?_
  rintro v w2 ⟨O, co, rfl, o2, b2⟩
  simp (disch := first | with_reducible assumption | omega) only [push_cast, x_blk, x_cd, ↓reduceIte, Nat.reduceEqDiff, List.map_cons, List.map_nil, Int.reduceEq, Int.lt_irrefl]
  exact fin_1 (hQ _ _ ⟨O, co, rfl, o2, b2⟩)

structure Kn where
  R : Option Addr
  cr : Nat
  r : List Int
  W : Option Addr
  cw : Nat
  w : List Int
def Kn.cells (p : Kn) : List Value := [.slice p.R p.r.length p.cr, .slice p.W p.w.length p.cw]
/-- What is known, and can be read. -/
structure KnAt (B : Nat) (w : World) (p : Kn) : Prop where
  r : RowT B 3 w p.R p.r
  w : RowT B 3 w p.W p.w
  nr : p.r.length ≤ 256
  nw : p.w.length ≤ 100000
theorem KnAt.below {B : Nat} {w w' : World} {p : Kn} (h : KnAt B w p) (b : Below w.heap.size w w') : KnAt B w' p := ⟨h.r.below b, h.w.below b, h.nr, h.nw⟩
theorem KnAt.grew {B e' sz c n : Nat} {w w' : World} {p : Kn} {A2 : Option Addr} {xs : List Value} (h : KnAt B w p) (ho : Own B e' sz w A2 c n xs) (hne : e' ≠ 3) (hg : Grew w w' A2) : KnAt B w' p := ⟨h.r.grew ho hne hg, h.w.grew ho hne hg, h.nr, h.nw⟩
noncomputable def fromL (p : Plt) (states word : List Int) : List Int := word.foldl (nextP p) (wideL p.m p.seen states)
theorem fromL_row {p : Plt} (h : p.m.May) {states : List Int} (hs : IsRow states p.m.states) (word : List Int) : IsRow (fromL p states word) p.m.states := by
  have key : ∀ (word : List Int) (l : List Int), IsRow l p.m.states → IsRow (word.foldl (nextP p) l) p.m.states := by
    intro word
    induction word with
    | nil => intro l hl; exact hl
    | cons e word ih => intro l _; exact ih _ (seeL_row h _ _ _)
  exact key word _ (wideL_row h (row_range hs))
theorem ref9_From {w : World} {a : PV} {p : Plt} (ha : IsP (· < w.heap.size) w a p) (hf : p.Fits) (hm : p.m.May) {A1 : Option Addr} {c1 : Nat} {l0 : List Int} (h1 : Ints (· < w.heap.size) w A1 l0) (hl0 : IsRow l0 p.m.states) {A : Option Addr} {c : Nat} {l : List Int} (h : Ints (· < w.heap.size) w A l) (n1 : l.length ≤ 17592186043904) :
    Cal Try.prog 25 [a.val p, .slice A1 l0.length c1, .slice A l.length c] w fun v w' => ∃ O co, v = .slice O (fromL p l0 l).length co ∧ OwnI w.heap.size 3 w' O co (fromL p l0 l) ∧ Below w.heap.size w w' := by
  have nP := hf.lenP
  have hst : p.m.states ≤ 256 := hm.2.1
  refine cal_ref9_From (by simp) 100000 fun Q hQ => ?_
  simp (disch := first | with_reducible assumption | omega) only [push_cast, x_blk, x_cd, ↓reduceIte, Nat.reduceEqDiff, List.map_cons, List.map_nil, Int.reduceEq, Int.lt_irrefl, F_ref9_From]
  refine blk_of (box_agg _ (a.cells p)) ?_
  intro w1 k1 b1 z1
  simp (disch := first | with_reducible assumption | omega) only [push_cast, x_blk, x_cd, ↓reduceIte, Nat.reduceEqDiff, List.map_cons, List.map_nil, Int.reduceEq, Int.lt_irrefl, k1.pM, k1.p5]
  refine call_of (ref5_Wide (ha.up b1).m hm (h1.up b1) hl0 (ha.up b1).seen nP) ?_
  rintro v w2 ⟨O2, c2, rfl, o2, b2⟩
  have hsn : ∀ k, k < l.length → fromL p l0 (l.take (k + 1)) = nextP p (fromL p l0 (l.take k)) (l.getD k 0) := fun k hk => by
    unfold fromL
    rw [take_snoc _ 0 k hk, List.foldl_append]; rfl
  simp (disch := first | with_reducible assumption | omega) only [push_cast, x_blk, x_cd, ↓reduceIte, Nat.reduceEqDiff, List.map_cons, List.map_nil, Int.reduceEq, Int.lt_irrefl]
  refine loop_rule (fun f w' => ∃ (k : Nat) (O : Option Addr) (co : Nat), k ≤ l.length ∧ (f 2 = .slice A l.length c ∧ f 3 = .pointer (some ⟨w.heap.size, 0, none⟩) ∧ f 7 = .slice O (fromL p l0 (l.take k)).length co ∧ f 8 = .int .i64 k) ∧
      OwnI w1.heap.size 3 w' O co (fromL p l0 (l.take k)) ∧ Below w1.heap.size w1 w')
    (fun f _ => l.length - (intOf (f 8)).toNat) ⟨0, O2, c2, Nat.zero_le _, ⟨rfl, rfl, rfl, rfl⟩, o2, b2⟩ ?_
  clear o2
  rintro f w3 ⟨k, O, co, hk, fr, ho, b3⟩ J hJ
  have bb := b1.trans (b3.mono b1.size)
  by_cases hlt : k < l.length
  case neg =>
    obtain rfl : k = l.length := by omega
    rw [List.take_length] at ho fr
    simp (disch := first | with_reducible assumption | omega) only [push_cast, x_blk, x_cd, ↓reduceIte, Nat.reduceEqDiff, List.map_cons, List.map_nil, Int.reduceEq, Int.lt_irrefl, L_ref9_From_0, fr, Nat.lt_irrefl]
    exact fin_1 (hQ _ _ ⟨O, co, (by simp only [push_cast, ↓reduceIte, Nat.reduceEqDiff, Int.reduceEq, fr]), ho.base b1.size, bb⟩)
  have k3 := k1.below b3 k1.lt
  have sd : Same w3 w3.drew := (Same.refl w3).drew
  replace k3 := k3.same sd
  replace ho := ho.same sd
  replace b3 := b3.trans (sd.below _)
  generalize hu : w3.drew = u at *
  have bb := b1.trans (b3.mono b1.size)
  have hI := h.up bb
  have hA := hI.isSome (by omega)
  have hrow := fromL_row hm hl0 (l.take k)
  have hrl := hrow.len
  simp (disch := first | with_reducible assumption | omega) only [push_cast, x_blk, x_cd, ↓reduceIte, Nat.reduceEqDiff, List.map_cons, List.map_nil, Int.reduceEq, Int.lt_irrefl, L_ref9_From_0, fr, hlt, hu, k3.pM, k3.p5, hI.ld ty_ag_3]
  refine call_of (ref5_Seeing (ha.up bb).m hm hf.m (Ints.lt (OwnI.ints ho)) (by omega) (ha.up bb).seen nP _) ?_
  rintro v w4 ⟨O4, c4, rfl, o4, b4⟩
  simp (disch := first | with_reducible assumption | omega) only [push_cast, x_blk, x_cd, ↓reduceIte, Nat.reduceEqDiff, List.map_cons, List.map_nil, Int.reduceEq, Int.lt_irrefl, fr]
  exact hJ _ _ ⟨k + 1, O4, c4, hlt, (by simp only [push_cast, ↓reduceIte, Nat.reduceEqDiff, true_and, and_true, and_self, eq_self, fr, hsn k hlt]), by rw [hsn k hlt]; exact o4.base b3.size, b3.trans (b4.mono b3.size)⟩ (by simp only [push_cast, ↓reduceIte, Nat.reduceEqDiff, intOf, fr]; omega)
theorem ref9_Estimate {w : World} {a : PV} {p : Plt} (ha : IsP (· < w.heap.size) w a p) (hf : p.Fits) (hm : p.m.May) {A : Option Addr} {c : Nat} {l : List Int} (h : Ints (· < w.heap.size) w A l) (n1 : l.length ≤ 17592186043904) :
    Cal Try.prog 15 [a.val p, .slice A l.length c] w fun v w' => ∃ O co, v = .slice O (estL p l).length co ∧ OwnI w.heap.size 3 w' O co (estL p l) ∧ Below w.heap.size w w' := by
  refine cal_ref9_Estimate (by simp) 100000 fun Q hQ => ?_
  simp (disch := first | with_reducible assumption | omega) only [push_cast, x_blk, x_cd, ↓reduceIte, Nat.reduceEqDiff, List.map_cons, List.map_nil, Int.reduceEq, Int.lt_irrefl, F_ref9_Estimate]
  refine blk_of (box_agg _ (a.cells p)) ?_
  intro w1 k1 b1 z1
  simp (disch := first | with_reducible assumption | omega) only [push_cast, x_blk, x_cd, ↓reduceIte, Nat.reduceEqDiff, List.map_cons, List.map_nil, Int.reduceEq, Int.lt_irrefl, k1.pA', k1.p2]
  refine call_of (ref9_From (ha.up b1) hf hm (ha.up b1).m.starts (may_starts hm) (h.up b1) n1) ?_
  rintro v w2 ⟨O2, c2, rfl, o2, b2⟩
  simp (disch := first | with_reducible assumption | omega) only [push_cast, x_blk, x_cd, ↓reduceIte, Nat.reduceEqDiff, List.map_cons, List.map_nil, Int.reduceEq, Int.lt_irrefl]
  exact fin_1 (hQ _ _ ⟨O2, c2, rfl, o2.base b1.size, b1.trans (b2.mono b1.size)⟩)

end Go.Proofs.Ytfckamjbeplceaa
