/-
  Chapter 1: two rows gone over at once (merge), and the three functions made of it: by their contracts.
-/
import Derived.Test.YtiabkafgmanhiaaDoorRowC
namespace Go.Proofs.YtiabkafgmanhiaaDoor
set_option linter.unusedSimpArgs false
set_option linter.unusedVariables false
set_option linter.unusedSectionVars false
open Go.RowKit

/-- Two rows gone over at once: what stays is told by the function. -/
def mergeL (g : Bool → Bool → Bool) : List Int → List Int → List Int
  | [], [] => []
  | x :: a, [] => (if g true false = true then [x] else []) ++ mergeL g a []
  | [], y :: b => (if g false true = true then [y] else []) ++ mergeL g [] b
  | x :: a, y :: b =>
    if x < y then (if g true false = true then [x] else []) ++ mergeL g a (y :: b)
    else if y < x then (if g false true = true then [y] else []) ++ mergeL g (x :: a) b
    else (if g true true = true then [x] else []) ++ mergeL g a b
termination_by a b => a.length + b.length

theorem IsRow.len {l : List Int} {b : Int} (h : IsRow l b) : l.length ≤ 2147483648 := by
  have key : ∀ i : Nat, i < l.length → (i : Int) ≤ l.getD i 0 := by
    intro i
    induction i with
    | zero => intro hi; exact (h 0 hi).1
    | succ i ih => intro hi; have := ih (by omega); have := (h (i + 1) hi).2.2.2 (by omega); simp only [Nat.add_sub_cancel] at this; omega
  rcases Nat.eq_zero_or_pos l.length with h0 | h0
  · omega
  · have := key (l.length - 1) (by omega); have := (h (l.length - 1) (by omega)).2.2.1; omega

def tlA (A : Option Addr) (c : Nat) : Option Addr := if c = 1 then A else A.map (·.add (1 * 1))
theorem Ints.tail1 {ok : Nat → Prop} {w : World} {A : Option Addr} {x : Int} {l : List Int} (h : Ints ok w A (x :: l)) {c : Nat} (hc : (x :: l).length ≤ c) : Ints ok w (tlA A c) l := by
  have := h.tail 1 (by simp) hc
  exact this
theorem tail_eq {P : Program} {K : Fr → World → Prop} {f : Fr} {d : Option Nat} {u w : World} {t e bytes : Nat} (hT : SlT P t e 1 bytes) (x : Int) (l : List Int) (A : Option Addr) (c : Nat) (hc : (x :: l).length ≤ c) :
    Val1 P K (Instr.sliceAt t (.slice A (x :: l).length c) (some (.int .i64 1)) none none) u f d w = K (updO f d (.slice (tlA A c) l.length (c - 1))) w := by
  have := slice_tail (P := P) (K := K) (f := f) (d := d) (u := u) (w := w) (A := A) hT 1 (n := (x :: l).length) (c := c) (by simp) hc
  simpa [tlA] using this


def lenOf : Value → Nat
  | .slice _ n _ => n
  | _ => 0
theorem lenOf_slice (A : Option Addr) (n c : Nat) : lenOf (.slice A n c) = n := rfl

theorem row_merge {F : FuncId} {g : Bool → Bool → Bool} (hg : ∀ (p q : Bool) (w : World), Cal Tryd.prog F [.bool p, .bool q] w fun v w1 => v = .bool (g p q) ∧ Same w w1)
    {w : World} {A A1 : Option Addr} {a b : List Int} (h : Ints (· < w.heap.size) w A a) (h' : Ints (· < w.heap.size) w A1 b) {c c1 : Nat} (hc : a.length ≤ c) (hc1 : b.length ≤ c1) (ha : a.length ≤ 17592186043904) (hb : b.length ≤ 17592186043904) :
    Cal Tryd.prog 109 [.slice A a.length c, .slice A1 b.length c1, .func (.func F) #[] #[]] w fun v w' =>
      ∃ O co o e, v = .tuple #[.slice O o.length co, .int .i64 e] ∧ OwnI w.heap.size 3 w' O co o ∧ Below w.heap.size w w' ∧ (IsRow a 2147483648 ∧ IsRow b 2147483648 → e = 0 ∧ o = mergeL g a b) ∧ (¬ (IsRow a 2147483648 ∧ IsRow b 2147483648) → e = 2 ∧ o = []) := by
  refine cal_row_merge (by simp) 100000 fun Q hQ => ?_
  simp (disch := first | with_reducible assumption | omega) only [push_cast, x_blk, x_cd, ↓reduceIte, Nat.reduceEqDiff, List.map_cons, List.map_nil, Int.reduceEq, Int.lt_irrefl, F_row_merge]
  refine call_of (row_Is h c 2147483648 (by omega)) ?_
  rintro v w1 ⟨rfl, hs1⟩
  by_cases ra : IsRow a 2147483648
  · simp (disch := first | with_reducible assumption | omega) only [push_cast, x_blk, x_cd, ↓reduceIte, Nat.reduceEqDiff, List.map_cons, List.map_nil, Int.reduceEq, Int.lt_irrefl, ra]
    refine call_of (row_Is (h'.same hs1) c1 2147483648 (by omega)) ?_
    rintro v w2 ⟨rfl, hs2⟩
    by_cases rb : IsRow b 2147483648
    · have na := ra.len
      have nb := rb.len
      have hss := hs1.trans hs2
      simp (disch := first | with_reducible assumption | omega) only [push_cast, x_blk, x_cd, ↓reduceIte, Nat.reduceEqDiff, List.map_cons, List.map_nil, Int.reduceEq, Int.lt_irrefl, rb]
      generalize hMM : mergeL g a b = M at *
      refine loop_rule (fun f w' => ∃ x y X Y cx cy o O co, f 0 = .slice X x.length cx ∧ f 1 = .slice Y y.length cy ∧ f 2 = .func (.func F) #[] #[] ∧ f 8 = .slice O o.length co ∧ Ints (· < w.heap.size) w' X x ∧ Ints (· < w.heap.size) w' Y y ∧ x.length ≤ cx ∧ y.length ≤ cy ∧
          OwnI w.heap.size 3 w' O co o ∧ Below w.heap.size w w' ∧ o ++ mergeL g x y = M ∧ o.length + x.length + y.length ≤ 4294967296)
        (fun f _ => lenOf (f 0) + lenOf (f 1)) ⟨a, b, A, A1, c, c1, [], none, 0, rfl, rfl, rfl, rfl, h.same hss, h'.same hss, hc, hc1, Own.nil _ _ _ _, hss.below _, by rw [List.nil_append]; exact hMM, by simp; omega⟩ ?_
      rintro f w1 ⟨x, y, X, Y, cx, cy, o, O, co, h0, h1, h2, h8, hA, hB, hcA, hcB, ho, hb, hmm, hlen⟩ J hJ
      have nn : ¬ ((0 : Int) < (([] : List Int).length : Int)) := by decide
      have nz : (([] : List Int).length : Int) = 0 := rfl
      have cp : ∀ (x : Int) (l : List Int), (0 : Int) < ((x :: l).length : Int) := fun x l => by simp only [List.length_cons]; omega
      have cz : ∀ (x : Int) (l : List Int), ¬ (((x :: l).length : Int) = 0) := fun x l => by simp only [List.length_cons]; omega
      cases x with
      | nil =>
        cases y with
        | nil =>
          simp (disch := first | with_reducible assumption | omega) only [push_cast, x_blk, x_cd, ↓reduceIte, Nat.reduceEqDiff, List.map_cons, List.map_nil, Int.reduceEq, Int.lt_irrefl, L_row_merge_0, h0, h1, h2, h8, nn, Int.lt_irrefl]
          rw [mergeL, List.append_nil] at hmm
          exact fin_2 (hQ _ _ ⟨O, co, o, 0, (by simp only [push_cast, ↓reduceIte, Nat.reduceEqDiff, Int.reduceEq, h8]), ho, hb, fun _ => ⟨rfl, hmm⟩, fun hh => absurd ⟨ra, rb⟩ hh⟩)
        | cons y b =>
          have hBs := hB.isSome (by simp)
          have p1 := cp y b
          have p2 := cz y b
          have hA2 := hA
          have hB2 := hB.tail1 hcB
          have hcB2 : b.length ≤ cy - 1 := by simp at hcB; omega
          have hcA2 := hcA
          have hm : mergeL g [] (y :: b) = (if g false true = true then [y] else []) ++ mergeL g [] b := by rw [mergeL]
          simp (disch := first | with_reducible assumption | omega) only [push_cast, x_blk, x_cd, ↓reduceIte, Nat.reduceEqDiff, List.map_cons, List.map_nil, Int.reduceEq, Int.lt_irrefl, L_row_merge_0, h0, h1, h2, h8, p1, p2, hB.drew.drew.drew.ld ty_ag_3, tail_eq slT_22 y b Y cy hcB, Int.toNat_zero, List.getD_cons_zero, callv_func, Int.lt_irrefl, eq_self, List.map_cons, List.map_nil, List.nil_append, List.append_nil, nn, nz]
          refine call_of (hg _ _ _) ?_
          rintro v w2 ⟨rfl, hs2⟩
          have hs : Same w1 w2 := Same.trans (Same.refl w1).drew.drew.drew hs2
          have hI' := hA2.same hs
          have hJ' := hB2.same hs
          have hsz2 : w.heap.size ≤ w2.heap.size := by have := hb.size; rw [hs.heap]; exact this
          by_cases hgv : g false true = true
          · rw [if_pos hgv] at hm
            simp (disch := first | with_reducible assumption | omega) only [push_cast, x_blk, x_cd, ↓reduceIte, Nat.reduceEqDiff, List.map_cons, List.map_nil, Int.reduceEq, Int.lt_irrefl, h0, h1, h2, h8, hgv]
            refine app_int slT_22 (ho.same hs) _ (by omega) hsz2 ?_
            intro A2 c2 w3 ho3 hg3 hA3 hs3 hz
            have hb3 := hg3.below (hb.trans (hs.below _)) hsz2 ho.geB
            have hX2 := hI'.keep fun b hb' => (hb3.block b hb').trans ((hb.trans (hs.below _)).block b hb').symm
            have hY2 := hJ'.keep fun b hb' => (hb3.block b hb').trans ((hb.trans (hs.below _)).block b hb').symm
            simp (disch := first | with_reducible assumption | omega) only [push_cast, x_blk, x_cd, ↓reduceIte, Nat.reduceEqDiff, List.map_cons, List.map_nil, Int.reduceEq, Int.lt_irrefl]
            exact hJ _ _ ⟨_, _, _, _, _, _, _, _, _, (by simp only [push_cast, ↓reduceIte, Nat.reduceEqDiff, Int.reduceEq, h0]), (by simp only [push_cast, ↓reduceIte, Nat.reduceEqDiff, Int.reduceEq, h1]), (by simp only [push_cast, ↓reduceIte, Nat.reduceEqDiff, Int.reduceEq, h2]), (by simp only [push_cast, ↓reduceIte, Nat.reduceEqDiff, Int.reduceEq, List.length_append, List.length_cons, List.length_nil]), hX2, hY2, hcA2, hcB2, ho3, hb3, by rw [← hmm, hm, List.append_assoc], by simp at hlen ⊢; omega⟩ (by simp only [push_cast, ↓reduceIte, Nat.reduceEqDiff, lenOf, h0, h1, List.length_cons]; omega)
          · rw [if_neg hgv, List.nil_append] at hm
            simp (disch := first | with_reducible assumption | omega) only [push_cast, x_blk, x_cd, ↓reduceIte, Nat.reduceEqDiff, List.map_cons, List.map_nil, Int.reduceEq, Int.lt_irrefl, h0, h1, h2, h8, hgv]
            exact hJ _ _ ⟨_, _, _, _, _, _, _, _, _, (by simp only [push_cast, ↓reduceIte, Nat.reduceEqDiff, Int.reduceEq, h0]), (by simp only [push_cast, ↓reduceIte, Nat.reduceEqDiff, Int.reduceEq, h1]), (by simp only [push_cast, ↓reduceIte, Nat.reduceEqDiff, Int.reduceEq, h2]), (by simp only [push_cast, ↓reduceIte, Nat.reduceEqDiff, Int.reduceEq, h8]), hI', hJ', hcA2, hcB2, ho.same hs, hb.trans (hs.below _), by rw [← hmm, hm], by simp at hlen ⊢; omega⟩ (by simp only [push_cast, ↓reduceIte, Nat.reduceEqDiff, lenOf, h0, h1, List.length_cons]; omega)
      | cons x a =>
        have hAs := hA.isSome (by simp)
        have r1 := cp x a
        have r2 := cz x a
        cases y with
        | nil =>
          have hA2 := hA.tail1 hcA
          have hB2 := hB
          have hcA2 : a.length ≤ cx - 1 := by simp at hcA; omega
          have hcB2 := hcB
          have hm : mergeL g (x :: a) [] = (if g true false = true then [x] else []) ++ mergeL g a [] := by rw [mergeL]
          simp (disch := first | with_reducible assumption | omega) only [push_cast, x_blk, x_cd, ↓reduceIte, Nat.reduceEqDiff, List.map_cons, List.map_nil, Int.reduceEq, Int.lt_irrefl, L_row_merge_0, h0, h1, h2, h8, r1, r2, hA.drew.drew.drew.ld ty_ag_3, tail_eq slT_22 x a X cx hcA, Int.toNat_zero, List.getD_cons_zero, callv_func, Int.lt_irrefl, eq_self, List.map_cons, List.map_nil, List.nil_append, List.append_nil, nn, nz]
          refine call_of (hg _ _ _) ?_
          rintro v w2 ⟨rfl, hs2⟩
          have hs : Same w1 w2 := Same.trans (Same.refl w1).drew.drew.drew hs2
          have hI' := hA2.same hs
          have hJ' := hB2.same hs
          have hsz2 : w.heap.size ≤ w2.heap.size := by have := hb.size; rw [hs.heap]; exact this
          by_cases hgv : g true false = true
          · rw [if_pos hgv] at hm
            simp (disch := first | with_reducible assumption | omega) only [push_cast, x_blk, x_cd, ↓reduceIte, Nat.reduceEqDiff, List.map_cons, List.map_nil, Int.reduceEq, Int.lt_irrefl, h0, h1, h2, h8, hgv]
            refine app_int slT_22 (ho.same hs) _ (by omega) hsz2 ?_
            intro A2 c2 w3 ho3 hg3 hA3 hs3 hz
            have hb3 := hg3.below (hb.trans (hs.below _)) hsz2 ho.geB
            have hX2 := hI'.keep fun b hb' => (hb3.block b hb').trans ((hb.trans (hs.below _)).block b hb').symm
            have hY2 := hJ'.keep fun b hb' => (hb3.block b hb').trans ((hb.trans (hs.below _)).block b hb').symm
            simp (disch := first | with_reducible assumption | omega) only [push_cast, x_blk, x_cd, ↓reduceIte, Nat.reduceEqDiff, List.map_cons, List.map_nil, Int.reduceEq, Int.lt_irrefl]
            exact hJ _ _ ⟨_, _, _, _, _, _, _, _, _, (by simp only [push_cast, ↓reduceIte, Nat.reduceEqDiff, Int.reduceEq, h0]), (by simp only [push_cast, ↓reduceIte, Nat.reduceEqDiff, Int.reduceEq, h1]), (by simp only [push_cast, ↓reduceIte, Nat.reduceEqDiff, Int.reduceEq, h2]), (by simp only [push_cast, ↓reduceIte, Nat.reduceEqDiff, Int.reduceEq, List.length_append, List.length_cons, List.length_nil]), hX2, hY2, hcA2, hcB2, ho3, hb3, by rw [← hmm, hm, List.append_assoc], by simp at hlen ⊢; omega⟩ (by simp only [push_cast, ↓reduceIte, Nat.reduceEqDiff, lenOf, h0, h1, List.length_cons]; omega)
          · rw [if_neg hgv, List.nil_append] at hm
            simp (disch := first | with_reducible assumption | omega) only [push_cast, x_blk, x_cd, ↓reduceIte, Nat.reduceEqDiff, List.map_cons, List.map_nil, Int.reduceEq, Int.lt_irrefl, h0, h1, h2, h8, hgv]
            exact hJ _ _ ⟨_, _, _, _, _, _, _, _, _, (by simp only [push_cast, ↓reduceIte, Nat.reduceEqDiff, Int.reduceEq, h0]), (by simp only [push_cast, ↓reduceIte, Nat.reduceEqDiff, Int.reduceEq, h1]), (by simp only [push_cast, ↓reduceIte, Nat.reduceEqDiff, Int.reduceEq, h2]), (by simp only [push_cast, ↓reduceIte, Nat.reduceEqDiff, Int.reduceEq, h8]), hI', hJ', hcA2, hcB2, ho.same hs, hb.trans (hs.below _), by rw [← hmm, hm], by simp at hlen ⊢; omega⟩ (by simp only [push_cast, ↓reduceIte, Nat.reduceEqDiff, lenOf, h0, h1, List.length_cons]; omega)
        | cons y b =>
          have hBs := hB.isSome (by simp)
          have p1 := cp y b
          have p2 := cz y b
          by_cases c1 : x < y
          · have hA2 := hA.tail1 hcA
            have hB2 := hB
            have hcA2 : a.length ≤ cx - 1 := by simp at hcA; omega
            have hcB2 := hcB
            have l1 : x ≤ y := by omega
            have l2 : ¬ y ≤ x := by omega
            have hm : mergeL g (x :: a) (y :: b) = (if g true false = true then [x] else []) ++ mergeL g a (y :: b) := by rw [mergeL, if_pos c1]
            simp (disch := first | with_reducible assumption | omega) only [push_cast, x_blk, x_cd, ↓reduceIte, Nat.reduceEqDiff, List.map_cons, List.map_nil, Int.reduceEq, Int.lt_irrefl, L_row_merge_0, h0, h1, h2, h8, r1, r2, p1, p2, l1, l2, hA.drew.ld ty_ag_3, hA.drew.drew.ld ty_ag_3, hA.drew.drew.drew.ld ty_ag_3, hB.drew.ld ty_ag_3, hB.drew.drew.ld ty_ag_3, tail_eq slT_22 x a X cx hcA, Int.toNat_zero, List.getD_cons_zero, callv_func, Int.lt_irrefl, eq_self, List.map_cons, List.map_nil, List.nil_append, List.append_nil, nn, nz]
            refine call_of (hg _ _ _) ?_
            rintro v w2 ⟨rfl, hs2⟩
            have hs : Same w1 w2 := Same.trans (Same.refl w1).drew.drew.drew hs2
            have hI' := hA2.same hs
            have hJ' := hB2.same hs
            have hsz2 : w.heap.size ≤ w2.heap.size := by have := hb.size; rw [hs.heap]; exact this
            by_cases hgv : g true false = true
            · rw [if_pos hgv] at hm
              simp (disch := first | with_reducible assumption | omega) only [push_cast, x_blk, x_cd, ↓reduceIte, Nat.reduceEqDiff, List.map_cons, List.map_nil, Int.reduceEq, Int.lt_irrefl, h0, h1, h2, h8, hgv]
              refine app_int slT_22 (ho.same hs) _ (by omega) hsz2 ?_
              intro A2 c2 w3 ho3 hg3 hA3 hs3 hz
              have hb3 := hg3.below (hb.trans (hs.below _)) hsz2 ho.geB
              have hX2 := hI'.keep fun b hb' => (hb3.block b hb').trans ((hb.trans (hs.below _)).block b hb').symm
              have hY2 := hJ'.keep fun b hb' => (hb3.block b hb').trans ((hb.trans (hs.below _)).block b hb').symm
              simp (disch := first | with_reducible assumption | omega) only [push_cast, x_blk, x_cd, ↓reduceIte, Nat.reduceEqDiff, List.map_cons, List.map_nil, Int.reduceEq, Int.lt_irrefl]
              exact hJ _ _ ⟨_, _, _, _, _, _, _, _, _, (by simp only [push_cast, ↓reduceIte, Nat.reduceEqDiff, Int.reduceEq, h0]), (by simp only [push_cast, ↓reduceIte, Nat.reduceEqDiff, Int.reduceEq, h1]), (by simp only [push_cast, ↓reduceIte, Nat.reduceEqDiff, Int.reduceEq, h2]), (by simp only [push_cast, ↓reduceIte, Nat.reduceEqDiff, Int.reduceEq, List.length_append, List.length_cons, List.length_nil]), hX2, hY2, hcA2, hcB2, ho3, hb3, by rw [← hmm, hm, List.append_assoc], by simp at hlen ⊢; omega⟩ (by simp only [push_cast, ↓reduceIte, Nat.reduceEqDiff, lenOf, h0, h1, List.length_cons]; omega)
            · rw [if_neg hgv, List.nil_append] at hm
              simp (disch := first | with_reducible assumption | omega) only [push_cast, x_blk, x_cd, ↓reduceIte, Nat.reduceEqDiff, List.map_cons, List.map_nil, Int.reduceEq, Int.lt_irrefl, h0, h1, h2, h8, hgv]
              exact hJ _ _ ⟨_, _, _, _, _, _, _, _, _, (by simp only [push_cast, ↓reduceIte, Nat.reduceEqDiff, Int.reduceEq, h0]), (by simp only [push_cast, ↓reduceIte, Nat.reduceEqDiff, Int.reduceEq, h1]), (by simp only [push_cast, ↓reduceIte, Nat.reduceEqDiff, Int.reduceEq, h2]), (by simp only [push_cast, ↓reduceIte, Nat.reduceEqDiff, Int.reduceEq, h8]), hI', hJ', hcA2, hcB2, ho.same hs, hb.trans (hs.below _), by rw [← hmm, hm], by simp at hlen ⊢; omega⟩ (by simp only [push_cast, ↓reduceIte, Nat.reduceEqDiff, lenOf, h0, h1, List.length_cons]; omega)
          · by_cases c2 : y < x
            · have hA2 := hA
              have hB2 := hB.tail1 hcB
              have hcA2 := hcA
              have hcB2 : b.length ≤ cy - 1 := by simp at hcB; omega
              have l1 : ¬ x ≤ y := by omega
              have l2 : y ≤ x := by omega
              have hm : mergeL g (x :: a) (y :: b) = (if g false true = true then [y] else []) ++ mergeL g (x :: a) b := by rw [mergeL, if_neg c1, if_pos c2]
              simp (disch := first | with_reducible assumption | omega) only [push_cast, x_blk, x_cd, ↓reduceIte, Nat.reduceEqDiff, List.map_cons, List.map_nil, Int.reduceEq, Int.lt_irrefl, L_row_merge_0, h0, h1, h2, h8, r1, r2, p1, p2, l1, l2, hA.drew.ld ty_ag_3, hA.drew.drew.ld ty_ag_3, hB.drew.ld ty_ag_3, hB.drew.drew.ld ty_ag_3, hB.drew.drew.drew.ld ty_ag_3, tail_eq slT_22 y b Y cy hcB, Int.toNat_zero, List.getD_cons_zero, callv_func, Int.lt_irrefl, eq_self, List.map_cons, List.map_nil, List.nil_append, List.append_nil, nn, nz]
              refine call_of (hg _ _ _) ?_
              rintro v w2 ⟨rfl, hs2⟩
              have hs : Same w1 w2 := Same.trans (Same.refl w1).drew.drew.drew hs2
              have hI' := hA2.same hs
              have hJ' := hB2.same hs
              have hsz2 : w.heap.size ≤ w2.heap.size := by have := hb.size; rw [hs.heap]; exact this
              by_cases hgv : g false true = true
              · rw [if_pos hgv] at hm
                simp (disch := first | with_reducible assumption | omega) only [push_cast, x_blk, x_cd, ↓reduceIte, Nat.reduceEqDiff, List.map_cons, List.map_nil, Int.reduceEq, Int.lt_irrefl, h0, h1, h2, h8, hgv]
                refine app_int slT_22 (ho.same hs) _ (by omega) hsz2 ?_
                intro A2 c2 w3 ho3 hg3 hA3 hs3 hz
                have hb3 := hg3.below (hb.trans (hs.below _)) hsz2 ho.geB
                have hX2 := hI'.keep fun b hb' => (hb3.block b hb').trans ((hb.trans (hs.below _)).block b hb').symm
                have hY2 := hJ'.keep fun b hb' => (hb3.block b hb').trans ((hb.trans (hs.below _)).block b hb').symm
                simp (disch := first | with_reducible assumption | omega) only [push_cast, x_blk, x_cd, ↓reduceIte, Nat.reduceEqDiff, List.map_cons, List.map_nil, Int.reduceEq, Int.lt_irrefl]
                exact hJ _ _ ⟨_, _, _, _, _, _, _, _, _, (by simp only [push_cast, ↓reduceIte, Nat.reduceEqDiff, Int.reduceEq, h0]), (by simp only [push_cast, ↓reduceIte, Nat.reduceEqDiff, Int.reduceEq, h1]), (by simp only [push_cast, ↓reduceIte, Nat.reduceEqDiff, Int.reduceEq, h2]), (by simp only [push_cast, ↓reduceIte, Nat.reduceEqDiff, Int.reduceEq, List.length_append, List.length_cons, List.length_nil]), hX2, hY2, hcA2, hcB2, ho3, hb3, by rw [← hmm, hm, List.append_assoc], by simp at hlen ⊢; omega⟩ (by simp only [push_cast, ↓reduceIte, Nat.reduceEqDiff, lenOf, h0, h1, List.length_cons]; omega)
              · rw [if_neg hgv, List.nil_append] at hm
                simp (disch := first | with_reducible assumption | omega) only [push_cast, x_blk, x_cd, ↓reduceIte, Nat.reduceEqDiff, List.map_cons, List.map_nil, Int.reduceEq, Int.lt_irrefl, h0, h1, h2, h8, hgv]
                exact hJ _ _ ⟨_, _, _, _, _, _, _, _, _, (by simp only [push_cast, ↓reduceIte, Nat.reduceEqDiff, Int.reduceEq, h0]), (by simp only [push_cast, ↓reduceIte, Nat.reduceEqDiff, Int.reduceEq, h1]), (by simp only [push_cast, ↓reduceIte, Nat.reduceEqDiff, Int.reduceEq, h2]), (by simp only [push_cast, ↓reduceIte, Nat.reduceEqDiff, Int.reduceEq, h8]), hI', hJ', hcA2, hcB2, ho.same hs, hb.trans (hs.below _), by rw [← hmm, hm], by simp at hlen ⊢; omega⟩ (by simp only [push_cast, ↓reduceIte, Nat.reduceEqDiff, lenOf, h0, h1, List.length_cons]; omega)
            · have hA2 := hA.tail1 hcA
              have hB2 := hB.tail1 hcB
              have hcA2 : a.length ≤ cx - 1 := by simp at hcA; omega
              have hcB2 : b.length ≤ cy - 1 := by simp at hcB; omega
              obtain rfl : x = y := by omega
              have hm : mergeL g (x :: a) (x :: b) = (if g true true = true then [x] else []) ++ mergeL g a b := by rw [mergeL, if_neg (Int.lt_irrefl x), if_neg (Int.lt_irrefl x)]
              simp (disch := first | with_reducible assumption | omega) only [push_cast, x_blk, x_cd, ↓reduceIte, Nat.reduceEqDiff, List.map_cons, List.map_nil, Int.reduceEq, Int.lt_irrefl, L_row_merge_0, h0, h1, h2, h8, r1, r2, p1, p2, Int.le_refl, hA.drew.ld ty_ag_3, hA.drew.drew.ld ty_ag_3, hA.drew.drew.drew.ld ty_ag_3, hB.drew.ld ty_ag_3, hB.drew.drew.ld ty_ag_3, hB.drew.drew.drew.ld ty_ag_3, hB.drew.drew.drew.drew.ld ty_ag_3, tail_eq slT_22 x a X cx hcA, tail_eq slT_22 x b Y cy hcB, Int.toNat_zero, List.getD_cons_zero, callv_func, Int.lt_irrefl, eq_self, List.map_cons, List.map_nil, List.nil_append, List.append_nil, nn, nz]
              refine call_of (hg _ _ _) ?_
              rintro v w2 ⟨rfl, hs2⟩
              have hs : Same w1 w2 := Same.trans (Same.refl w1).drew.drew.drew.drew hs2
              have hI' := hA2.same hs
              have hJ' := hB2.same hs
              have hsz2 : w.heap.size ≤ w2.heap.size := by have := hb.size; rw [hs.heap]; exact this
              by_cases hgv : g true true = true
              · rw [if_pos hgv] at hm
                simp (disch := first | with_reducible assumption | omega) only [push_cast, x_blk, x_cd, ↓reduceIte, Nat.reduceEqDiff, List.map_cons, List.map_nil, Int.reduceEq, Int.lt_irrefl, h0, h1, h2, h8, hgv]
                refine app_int slT_22 (ho.same hs) _ (by omega) hsz2 ?_
                intro A2 c2 w3 ho3 hg3 hA3 hs3 hz
                have hb3 := hg3.below (hb.trans (hs.below _)) hsz2 ho.geB
                have hX2 := hI'.keep fun b hb' => (hb3.block b hb').trans ((hb.trans (hs.below _)).block b hb').symm
                have hY2 := hJ'.keep fun b hb' => (hb3.block b hb').trans ((hb.trans (hs.below _)).block b hb').symm
                simp (disch := first | with_reducible assumption | omega) only [push_cast, x_blk, x_cd, ↓reduceIte, Nat.reduceEqDiff, List.map_cons, List.map_nil, Int.reduceEq, Int.lt_irrefl]
                exact hJ _ _ ⟨_, _, _, _, _, _, _, _, _, (by simp only [push_cast, ↓reduceIte, Nat.reduceEqDiff, Int.reduceEq, h0]), (by simp only [push_cast, ↓reduceIte, Nat.reduceEqDiff, Int.reduceEq, h1]), (by simp only [push_cast, ↓reduceIte, Nat.reduceEqDiff, Int.reduceEq, h2]), (by simp only [push_cast, ↓reduceIte, Nat.reduceEqDiff, Int.reduceEq, List.length_append, List.length_cons, List.length_nil]), hX2, hY2, hcA2, hcB2, ho3, hb3, by rw [← hmm, hm, List.append_assoc], by simp at hlen ⊢; omega⟩ (by simp only [push_cast, ↓reduceIte, Nat.reduceEqDiff, lenOf, h0, h1, List.length_cons]; omega)
              · rw [if_neg hgv, List.nil_append] at hm
                simp (disch := first | with_reducible assumption | omega) only [push_cast, x_blk, x_cd, ↓reduceIte, Nat.reduceEqDiff, List.map_cons, List.map_nil, Int.reduceEq, Int.lt_irrefl, h0, h1, h2, h8, hgv]
                exact hJ _ _ ⟨_, _, _, _, _, _, _, _, _, (by simp only [push_cast, ↓reduceIte, Nat.reduceEqDiff, Int.reduceEq, h0]), (by simp only [push_cast, ↓reduceIte, Nat.reduceEqDiff, Int.reduceEq, h1]), (by simp only [push_cast, ↓reduceIte, Nat.reduceEqDiff, Int.reduceEq, h2]), (by simp only [push_cast, ↓reduceIte, Nat.reduceEqDiff, Int.reduceEq, h8]), hI', hJ', hcA2, hcB2, ho.same hs, hb.trans (hs.below _), by rw [← hmm, hm], by simp at hlen ⊢; omega⟩ (by simp only [push_cast, ↓reduceIte, Nat.reduceEqDiff, lenOf, h0, h1, List.length_cons]; omega)
    · simp (disch := first | with_reducible assumption | omega) only [push_cast, x_blk, x_cd, ↓reduceIte, Nat.reduceEqDiff, List.map_cons, List.map_nil, Int.reduceEq, Int.lt_irrefl, rb]
      exact fin_2 (hQ _ _ ⟨none, 0, [], 2, (by simp only [push_cast, ↓reduceIte, Nat.reduceEqDiff, Int.reduceEq, List.length_nil]), Own.nil _ _ _ _, (hs1.trans hs2).below _, fun hh => absurd hh.2 rb, fun _ => ⟨rfl, rfl⟩⟩)
  · simp (disch := first | with_reducible assumption | omega) only [push_cast, x_blk, x_cd, ↓reduceIte, Nat.reduceEqDiff, List.map_cons, List.map_nil, Int.reduceEq, Int.lt_irrefl, ra]
    exact fin_2 (hQ _ _ ⟨none, 0, [], 2, (by simp only [push_cast, ↓reduceIte, Nat.reduceEqDiff, Int.reduceEq, List.length_nil]), Own.nil _ _ _ _, hs1.below _, fun hh => absurd hh.1 ra, fun _ => ⟨rfl, rfl⟩⟩)
end Go.Proofs.YtiabkafgmanhiaaDoor
