/-
  The parser: peek, need, name, sign: by their contracts.
-/
import Derived.Test.YtpinjiikiaakaaaDoorZM9
import Derived.Test.YtpinjiikiaakaaaDoorZM8
import Derived.Shelf.SlSortCmp.NoneTotal
import Derived.Recover
namespace Go.Proofs.YtpinjiikiaakaaaDoor
set_option linter.unusedSimpArgs false
set_option linter.unusedVariables false
set_option linter.unusedSectionVars false
open Go.RowKit

/-- All blocks below B but one are kept. -/
structure But (B g : Nat) (w w' : World) : Prop where
  os : w'.os = w.os
  tape : w'.tape = w.tape
  output : w'.output = w.output
  size : w.heap.size ≤ w'.heap.size
  block : ∀ k, k < B → k ≠ g → w'.heap[k]? = w.heap[k]?
theorem But.refl (B g : Nat) (w : World) : But B g w w := ⟨rfl, rfl, rfl, Nat.le_refl _, fun _ _ _ => rfl⟩
theorem But.trans {B g : Nat} {w1 w2 w3 : World} (h : But B g w1 w2) (h' : But B g w2 w3) : But B g w1 w3 := ⟨h'.os.trans h.os, h'.tape.trans h.tape, h'.output.trans h.output, Nat.le_trans h.size h'.size, fun k hk hg => (h'.block k hk hg).trans (h.block k hk hg)⟩
theorem But.of {B B' g : Nat} {w w' : World} (h : Below B' w w') (hB : B ≤ B') : But B g w w' := ⟨h.os, h.tape, h.output, h.size, fun k hk _ => h.block k (by omega)⟩
theorem But.mono {B B' g : Nat} {w w' : World} (h : But B' g w w') (hB : B ≤ B') : But B g w w' := ⟨h.os, h.tape, h.output, h.size, fun k hk hg => h.block k (by omega) hg⟩
theorem But.cell {B g : Nat} {w w' : World} (h : Grew w w' (some ⟨g, 0, none⟩)) (hB : B ≤ w.heap.size) : But B g w w' := ⟨h.by_.os, h.by_.tape, h.by_.output, h.by_.size, fun k hk hg => h.by_.block k (by omega) (by simpa using hg)⟩
theorem But.below {B g : Nat} {w w' : World} (h : But B g w w') (hg : B ≤ g) : Below B w w' := ⟨h.os, h.tape, h.output, h.size, fun k hk => h.block k hk (by omega)⟩
theorem But.grew {B g : Nat} {w w' : World} {A : Option Addr} (h : Grew w w' A) (hA : ∀ a, A = some a → B ≤ a.block) (hB : B ≤ w.heap.size) : But B g w w' :=
  ⟨h.by_.os, h.by_.tape, h.by_.output, h.by_.size, fun k hk _ => h.by_.block k (by omega) (by
    cases A with
    | none => simp
    | some a => have := hA a rfl; simp; omega)⟩
theorem Blk.but {B g b t : Nat} {cs : List Value} {w w' : World} (h : Blk w b t cs) (hb : But B g w w') (h1 : b < B) (h2 : b ≠ g) : Blk w' b t cs := (hb.block b h1 h2).trans h
/-- A parser's cells: tokens, place, end, the names of the parts. -/
abbrev pcells (At : Option Addr) (n ct : Nat) (i en : Int) (nv : List Value) : List Value := .slice At n ct :: .int .i64 i :: .int .i64 en :: (nv ++ [.int .i64 0])
/-- Where a parser stands. -/
structure Psr (g : Nat) (w : World) (ts : List Tok) (i : Nat) (en : Int) (At : Option Addr) (ct : Nat) (nv : List Value) : Prop where
  k : Blk w g 49 (pcells At ts.length ct i en nv)
  t : Recs Tok.cells 3 (· < g) w At ts
  le : ts.length ≤ 4000
theorem Psr.below {g : Nat} {w w' : World} {ts : List Tok} {i : Nat} {en : Int} {At : Option Addr} {ct : Nat} {nv : List Value} (h : Psr g w ts i en At ct nv) (b : Below w.heap.size w w') : Psr g w' ts i en At ct nv :=
  ⟨h.k.below b h.k.lt, h.t.keep fun b' hb => b.block _ (Nat.lt_trans hb h.k.lt), h.le⟩
section
variable {K : Fr → World → Prop} {u w : World} {f : Fr} {d : Option Nat} {g t : Nat} {At : Option Addr} {n ct : Nat} {i en : Int} {nv : List Value}
theorem Blk.pT (h : Blk u g t (pcells At n ct i en nv)) : Val1 Tryd.prog K (Instr.loadAt 45 (.pointer (some ⟨g, 0, none⟩))) u f d w = K (updO f d (.slice At n ct)) w := h.ld ty_ag_45 0 (by simp)
theorem Blk.pA (h : Blk u g t (pcells At n ct i en nv)) : Val1 Tryd.prog K (Instr.loadAt 3 (.pointer (some ⟨g, 1, none⟩))) u f d w = K (updO f d (.int .i64 i)) w := h.ld ty_ag_3 1 (by simp)
theorem Blk.pE (h : Blk u g t (pcells At n ct i en nv)) : Val1 Tryd.prog K (Instr.loadAt 3 (.pointer (some ⟨g, 2, none⟩))) u f d w = K (updO f d (.int .i64 en)) w := h.ld ty_ag_3 2 (by simp)
end
section
variable {K : Fr → World → Prop} {u w : World} {f : Fr} {d : Option Nat} {g t : Nat} {T : Tok}
theorem Blk.t0 (h : Blk u g t T.cells) : Val1 Tryd.prog K (Instr.loadAt 3 (.pointer (some ⟨g, 0, none⟩))) u f d w = K (updO f d (.int .i64 T.k)) w := h.ld ty_ag_3 0 (by simp [Tok.cells])
theorem Blk.t1 (h : Blk u g t T.cells) : Val1 Tryd.prog K (Instr.loadAt 9 (.pointer (some ⟨g, 1, none⟩))) u f d w = K (updO f d (.string T.s)) w := h.ld ty_ag_9 1 (by simp [Tok.cells])
theorem Blk.t2 (h : Blk u g t T.cells) : Val1 Tryd.prog K (Instr.loadAt 3 (.pointer (some ⟨g, 2, none⟩))) u f d w = K (updO f d (.int .i64 T.at_)) w := h.ld ty_ag_3 2 (by simp [Tok.cells])
theorem Blk.tA (h : Blk u g t T.cells) : Val1 Tryd.prog K (Instr.loadAt 53 (.pointer (some ⟨g, 0, none⟩))) u f d w = K (updO f d (.agg T.cells.toArray)) w := h.ldAll ty_ag_53 ty_sz_53
end
def tok0 : List Value := [.int .i64 0, .string ⟨#[]⟩, .int .i64 0]
theorem bl_tokE {K : Fr → World → Prop} {u : World} {f : Fr} {d : Option Nat} {w : World} (a : Int) : Val1 Tryd.prog K (Instr.build 53 #[(2, .int .i64 a)]) u f d w = K (updO f d (.agg (Tok.cells (endTok a)).toArray)) w := bld_of (by kernel_rfl)
theorem tok_one (t : Tok) : t.cells.all (·.oneCell') = true := by simp [Tok.cells, Value.oneCell']
theorem Toks.ldA {K : Fr → World → Prop} {u w : World} {f : Fr} {d : Option Nat} {ok : Nat → Prop} {A : Option Addr} {ts : List Tok} (h : Recs Tok.cells 3 ok u A ts) {i : Nat} {t : Tok} (hi : ts[i]? = some t) :
    Val1 Tryd.prog K (Instr.loadAt 53 (.pointer (some (eA A (i * 3))))) u f d w = K (updO f d (.agg t.cells.toArray)) w :=
  h.ldAll tokEnc ty_ag_53 hi ty_sz_53
def peekT (ts : List Tok) (en : Int) (i : Nat) : Tok := ts.getD i (endTok en)
theorem text_peek {g : Nat} {w : World} {ts : List Tok} {i : Nat} {en : Int} {At : Option Addr} {ct : Nat} {nv : List Value} (h : Psr g w ts i en At ct nv) :
    Cal Tryd.prog 14 [.pointer (some ⟨g, 0, none⟩)] w fun v w' => v = .agg (peekT ts en i).cells.toArray ∧ Below w.heap.size w w' := by
  refine cal_text_parser_peek (by simp) 1000 fun Q hQ => ?_
  simp (disch := first | with_reducible assumption | omega) only [push_cast, x_blk, x_cd, ↓reduceIte, Nat.reduceEqDiff, List.map_cons, List.map_nil, Int.reduceEq, Int.lt_irrefl, F_text_parser_peek]
  refine blk_of (cs := tok0) al_53 ?_
  intro w1 k1 b1 z1
  have sd : Same w1 w1.drew := (Same.refl w1).drew
  have h1 := (h.below b1)
  have hu := h1.below (sd.below _)
  have ku := k1.same sd
  have bu := b1.trans (sd.below _)
  generalize hu1 : w1.drew = u1 at *
  by_cases hlt : i < ts.length
  · have hti : ts[i]? = some (peekT ts en i) := by unfold peekT; rw [List.getD_eq_getElem?_getD, List.getElem?_eq_getElem hlt]; rfl
    have sd2 : Same u1 u1.drew := (Same.refl u1).drew
    have hv := hu.below (sd2.below _)
    have kv := ku.same sd2
    have bv := bu.trans (sd2.below _)
    generalize hu2 : u1.drew = u2 at *
    have sA := h.t.isSome (by omega)
    simp (disch := first | with_reducible assumption | omega) only [push_cast, x_blk, x_cd, ↓reduceIte, Nat.reduceEqDiff, List.map_cons, List.map_nil, Int.reduceEq, Int.lt_irrefl, hu1, hu.k.pT, hu.k.pA, hlt, hu2, hv.k.pT, hv.k.pA, sA, Toks.ldA hv.t hti]
    refine sto_blk kv (cs := (peekT ts en i).cells) ty_sz_53 rfl (tok_one _) ?_
    intro w3 k3 g3 z3
    simp (disch := first | with_reducible assumption | omega) only [push_cast, x_blk, x_cd, ↓reduceIte, Nat.reduceEqDiff, List.map_cons, List.map_nil, Int.reduceEq, Int.lt_irrefl]
    exact fin_cell k3 ty_ag_53 ty_sz_53 (by simp only [push_cast, ↓reduceIte, Nat.reduceEqDiff, Int.reduceEq]) (hQ _ _ ⟨rfl, g3.below bv bv.size (by intro a ha; injection ha with ha; subst ha; exact Nat.le_refl _)⟩)
  · have hti : peekT ts en i = endTok en := by unfold peekT; rw [List.getD_eq_getElem?_getD, List.getElem?_eq_none (by omega)]; rfl
    simp (disch := first | with_reducible assumption | omega) only [push_cast, x_blk, x_cd, ↓reduceIte, Nat.reduceEqDiff, List.map_cons, List.map_nil, Int.reduceEq, Int.lt_irrefl, hu1, hu.k.pT, hu.k.pA, hlt, hu.k.pE, bl_tokE]
    refine sto_blk ku (cs := (endTok en).cells) ty_sz_53 rfl (tok_one _) ?_
    intro w3 k3 g3 z3
    simp (disch := first | with_reducible assumption | omega) only [push_cast, x_blk, x_cd, ↓reduceIte, Nat.reduceEqDiff, List.map_cons, List.map_nil, Int.reduceEq, Int.lt_irrefl]
    exact fin_cell k3 ty_ag_53 ty_sz_53 (by simp only [push_cast, ↓reduceIte, Nat.reduceEqDiff, Int.reduceEq]) (hQ _ _ ⟨by rw [hti], g3.below bu bu.size (by intro a ha; injection ha with ha; subst ha; exact Nat.le_refl _)⟩)
theorem But.lt {B g b : Nat} {w w' : World} (h : But B g w w') (hb : b < w.heap.size) : b < w'.heap.size := Nat.lt_of_lt_of_le hb h.size
set_option maxHeartbeats 1000000 in
theorem text_need {g : Nat} {w : World} {ts : List Tok} {i : Nat} {en : Int} {At : Option Addr} {ct : Nat} {nv : List Value} (h : Psr g w ts i en At ct nv) (hile : i ≤ 100000) (hc : FuncId) (cap : List Value) (p : Tok → Bool)
    (hcl : ∀ w', Below w.heap.size w w' → Cal Tryd.prog hc ([.agg (peekT ts en i).cells.toArray] ++ cap) w' fun v w'' => v = .bool (p (peekT ts en i)) ∧ Below w'.heap.size w' w'') :
    Cal2 Tryd.prog 33 [.pointer (some ⟨g, 0, none⟩), .func (.func hc) #[] cap.toArray] w
      (fun v w' => v = .agg (peekT ts en i).cells.toArray ∧ p (peekT ts en i) = true ∧ Psr g w' ts (i + 1) en At ct nv ∧ But w.heap.size g w w')
      (fun ch w' => ch = [{ v := badV 2 (peekT ts en i).at_, recovered := false }] ∧ p (peekT ts en i) = false ∧ But w.heap.size g w w') := by
  refine cal2_text_parser_need (by simp) 10000 fun Q Qp hQ hP => ?_
  simp (disch := first | with_reducible assumption | omega) only [push_cast, x_blk, x_cd, ↓reduceIte, Nat.reduceEqDiff, List.map_cons, List.map_nil, Int.reduceEq, Int.lt_irrefl, F_text_parser_need]
  refine blk_of (cs := tok0) al_53 ?_
  intro w1 k1 b1 z1
  have hg := h.k.lt
  have h1 := h.below b1
  simp (disch := first | with_reducible assumption | omega) only [push_cast, x_blk, x_cd, ↓reduceIte, Nat.reduceEqDiff, List.map_cons, List.map_nil, Int.reduceEq, Int.lt_irrefl]
  refine call_of (text_peek h1) ?_
  rintro v w2 ⟨rfl, b2⟩
  have h2 := h1.below b2
  have k2 := k1.below b2 k1.lt
  have bb2 := b1.trans (b2.mono b1.size)
  simp (disch := first | with_reducible assumption | omega) only [push_cast, x_blk, x_cd, ↓reduceIte, Nat.reduceEqDiff, List.map_cons, List.map_nil, Int.reduceEq, Int.lt_irrefl]
  refine blk_of (cs := tok0) al_53 ?_
  intro w3 k3 b3 z3
  have k2' := k2.below b3 k2.lt
  generalize hT : peekT ts en i = T at *
  simp (disch := first | with_reducible assumption | omega) only [push_cast, x_blk, x_cd, ↓reduceIte, Nat.reduceEqDiff, List.map_cons, List.map_nil, Int.reduceEq, Int.lt_irrefl]
  refine sto_blk k3 (cs := T.cells) ty_sz_53 rfl (tok_one _) ?_
  intro w4 k4 g4 z4
  have b34 := g4.below b3 b3.size (by intro a ha; injection ha with ha; subst ha; exact Nat.le_refl _)
  have h4 := h2.below b34
  have k14 := k2.below b34 k2.lt
  have bb4 := bb2.trans (b34.mono bb2.size)
  have sd := (Same.refl w4).drew
  have h5 := h4.below (sd.below _)
  have k5 := k4.same sd
  have k15 := k14.same sd
  have bb5 := bb4.trans (sd.below _)
  generalize hu : w4.drew = u at *
  simp (disch := first | with_reducible assumption | omega) only [push_cast, x_blk, x_cd, ↓reduceIte, Nat.reduceEqDiff, List.map_cons, List.map_nil, Int.reduceEq, Int.lt_irrefl, hu, k5.tA, k5.t2]
  refine call_of (hcl u bb5) ?_
  rintro v w6 ⟨rfl, b6⟩
  refine ⟨b6, ?_⟩
  have h6 := h5.below b6
  have k6 := k5.below b6 k5.lt
  have k16 := k15.below b6 k15.lt
  have bb6 := bb5.trans (b6.mono bb5.size)
  simp (disch := first | with_reducible assumption | omega) only [push_cast, x_blk, x_cd, ↓reduceIte, Nat.reduceEqDiff, List.map_cons, List.map_nil, Int.reduceEq, Int.lt_irrefl]
  refine call2_of (text_must (p T) 2 T.at_ w6) ?_ ?_
  · rintro ch w7 ⟨hch, hp, s7⟩
    exact hP _ _ ⟨hch, hp, But.of (bb6.trans (s7.below _)) (Nat.le_refl _)⟩
  rintro v w7 ⟨rfl, hp, s7⟩
  have h7 := h6.below (s7.below _)
  have k7 := k6.same s7
  have k17 := k16.same s7
  have bb7 := bb6.trans (s7.below _)
  have hne1 : w.heap.size ≠ g := by omega
  have hg7 := h7.k.lt
  simp (disch := first | with_reducible assumption | omega) only [push_cast, x_blk, x_cd, ↓reduceIte, Nat.reduceEqDiff, List.map_cons, List.map_nil, Int.reduceEq, Int.lt_irrefl, h7.k.pA]
  refine sto_cell h7.k ty_sz_int 1 (by simp) .i64 _ ?_
  intro w8 k8 g8 z8
  have t8 := h7.t.keep (w := w8) fun b hb => g8.by_.block b (by omega) (by simp; omega)
  have k78 : Blk w8 _ _ _ := k7.grown g8.by_ (by
    have : w2.heap.size ≠ g := by have := h2.k.lt; omega
    simpa using this)
  have k178 := k17.grown g8.by_ (by simpa using hne1)
  have bu8 := (But.of bb7 (Nat.le_refl _)).trans (But.cell g8 bb7.size)
  simp (disch := first | with_reducible assumption | omega) only [push_cast, x_blk, x_cd, ↓reduceIte, Nat.reduceEqDiff, List.map_cons, List.map_nil, Int.reduceEq, Int.lt_irrefl, k78.tA]
  refine sto_blk k178 (cs := T.cells) ty_sz_53 rfl (tok_one _) ?_
  intro w9 k9 g9 z9
  simp (disch := first | with_reducible assumption | omega) only [push_cast, x_blk, x_cd, ↓reduceIte, Nat.reduceEqDiff, List.map_cons, List.map_nil, Int.reduceEq, Int.lt_irrefl]
  have k89 : Blk w9 g _ _ := Blk.grown k8 g9.by_ (by
    have : g ≠ w.heap.size := by omega
    simpa using this)
  have b9 : Below w.heap.size w8 w9 := g9.below (Below.refl _ _) (by have := bu8.size; omega) (by intro a ha; injection ha with ha; subst ha; exact Nat.le_refl _)
  refine fin_cell k9 ty_ag_53 ty_sz_53 (by simp only [push_cast, ↓reduceIte, Nat.reduceEqDiff, Int.reduceEq]) (hQ _ _ ⟨rfl, hp, ⟨k89, t8.keep fun b hb => b9.block b (by omega), h.le⟩, bu8.trans (But.of b9 (Nat.le_refl _))⟩)
def isName (t : Tok) : Bool := decide (t.k = 1)
def isSgn (s : ByteArray) (t : Tok) : Bool := decide (t.k = 3 ∧ t.s = s)
def isPart (k : Nat) (t : Tok) : Bool := decide (t.k = 1 ∧ t.s = partWs.getD k ⟨#[]⟩)
theorem name_1 (t : Tok) (w : World) : Cal Tryd.prog 55 [.agg t.cells.toArray] w fun v w' => v = .bool (isName t) ∧ Below w.heap.size w w' := by
  refine cal_text_parser_name_1 (by simp) 1000 fun Q hQ => ?_
  simp (disch := first | with_reducible assumption | omega) only [push_cast, x_blk, x_cd, ↓reduceIte, Nat.reduceEqDiff, List.map_cons, List.map_nil, Int.reduceEq, Int.lt_irrefl, F_text_parser_name_1]
  refine blk_of (box_agg _ t.cells) ?_
  intro w1 k1 b1 z1
  simp (disch := first | with_reducible assumption | omega) only [push_cast, x_blk, x_cd, ↓reduceIte, Nat.reduceEqDiff, List.map_cons, List.map_nil, Int.reduceEq, Int.lt_irrefl, k1.t0]
  exact fin_1 (hQ _ _ ⟨by simp only [push_cast, ↓reduceIte, Nat.reduceEqDiff, isName], b1⟩)
theorem Blk.str1 {K : Fr → World → Prop} {u w : World} {f : Fr} {d : Option Nat} {g t : Nat} {s : ByteArray} (h : Blk u g t [.string s]) : Val1 Tryd.prog K (Instr.loadAt 9 (.pointer (some ⟨g, 0, none⟩))) u f d w = K (updO f d (.string s)) w := h.ld ty_ag_9 0 (by simp)
theorem Blk.int1 {K : Fr → World → Prop} {u w : World} {f : Fr} {d : Option Nat} {g t : Nat} {x : Int} (h : Blk u g t [.int .i64 x]) : Val1 Tryd.prog K (Instr.loadAt 3 (.pointer (some ⟨g, 0, none⟩))) u f d w = K (updO f d (.int .i64 x)) w := h.ld ty_ag_3 0 (by simp)
theorem sign_1 (t : Tok) {w : World} {b : Nat} {s : ByteArray} (hb : Blk w b 9 [.string s]) : Cal Tryd.prog 56 [.agg t.cells.toArray, .pointer (some ⟨b, 0, none⟩)] w fun v w' => v = .bool (isSgn s t) ∧ Below w.heap.size w w' := by
  refine cal_text_parser_sign_1 (by simp) 1000 fun Q hQ => ?_
  simp (disch := first | with_reducible assumption | omega) only [push_cast, x_blk, x_cd, ↓reduceIte, Nat.reduceEqDiff, List.map_cons, List.map_nil, Int.reduceEq, Int.lt_irrefl, F_text_parser_sign_1]
  refine blk_of (box_agg _ t.cells) ?_
  intro w1 k1 b1 z1
  have hb1 := hb.below b1 hb.lt
  by_cases c : t.k = 3
  · have ec := eq_true c
    simp (disch := first | with_reducible assumption | omega) only [push_cast, x_blk, x_cd, ↓reduceIte, Nat.reduceEqDiff, List.map_cons, List.map_nil, Int.reduceEq, Int.lt_irrefl, k1.t0, ec, k1.t1, hb1.str1]
    exact fin_1 (hQ _ _ ⟨by simp only [push_cast, ↓reduceIte, Nat.reduceEqDiff, isSgn, c, true_and], b1⟩)
  · simp (disch := first | with_reducible assumption | omega) only [push_cast, x_blk, x_cd, ↓reduceIte, Nat.reduceEqDiff, List.map_cons, List.map_nil, Int.reduceEq, Int.lt_irrefl, k1.t0, c]
    exact fin_1 (hQ _ _ ⟨by simp only [push_cast, ↓reduceIte, Nat.reduceEqDiff, isSgn, c, false_and], b1⟩)
/-- The words of the parts, as the program's variable holds them. -/
structure PTab (w : World) : Prop where
  cell : ∀ i, i < 9 → w.cell? ⟨0, i, none⟩ = some (.string (partWs.getD i ⟨#[]⟩))
theorem PTab.lt {w : World} (h : PTab w) : 0 < w.heap.size := World.block_lt_of_cell? w _ (h.cell 0 (by decide))
theorem PTab.below {B : Nat} {w w' : World} (h : PTab w) (hb : Below B w w') (hB : 0 < B) : PTab w' := ⟨fun i hi => (hb.cell (p := ⟨0, i, none⟩) hB).trans (h.cell i hi)⟩
theorem PTab.on {w w' : World} (h : PTab w) (hb : Below w.heap.size w w') : PTab w' := h.below hb h.lt
theorem PTab.same {w w' : World} (h : PTab w) (hs : Same w w') : PTab w' := h.on (hs.below _)
theorem PTab.but {B g : Nat} {w w' : World} (h : PTab w) (hb : But B g w w') (hB : 0 < B) (hg : 0 ≠ g) : PTab w' :=
  ⟨fun i hi => (World.cell?_of_block (a := ⟨0, i, none⟩) (hb.block _ hB hg)).trans (h.cell i hi)⟩
theorem PTab.ld {K : Fr → World → Prop} {u w : World} {f : Fr} {d : Option Nat} (h : PTab u) {i : Nat} (hi : i < 9) : Val1 Tryd.prog K (Instr.loadAt 9 (.pointer (some ⟨0, i, none⟩))) u f d w = K (updO f d (.string (partWs.getD i ⟨#[]⟩))) w :=
  load_one_of u f d w ty_ag_9 (h.cell i hi)
theorem part_1 (t : Tok) {w : World} {b : Nat} {k : Nat} (hk : k < 9) (hP : PTab w) (hb : Blk w b 3 [.int .i64 k]) : Cal Tryd.prog 34 [.agg t.cells.toArray, .pointer (some ⟨b, 0, none⟩)] w fun v w' => v = .bool (isPart k t) ∧ Below w.heap.size w w' := by
  refine cal_text_parser_part_1 (by simp) 1000 fun Q hQ => ?_
  simp (disch := first | with_reducible assumption | omega) only [push_cast, x_blk, x_cd, ↓reduceIte, Nat.reduceEqDiff, List.map_cons, List.map_nil, Int.reduceEq, Int.lt_irrefl, F_text_parser_part_1]
  refine blk_of (box_agg _ t.cells) ?_
  intro w1 k1 b1 z1
  have hb1 := hb.below b1 hb.lt
  have hP1 := hP.on b1
  have sd := (Same.refl w1).drew
  replace k1 := k1.same sd
  replace hb1 := hb1.same sd
  replace hP1 := hP1.same sd
  replace b1 := b1.trans (sd.below _)
  generalize hu : w1.drew = u at *
  by_cases c : t.k = 1
  · have ec := eq_true c
    simp (disch := first | with_reducible assumption | omega) only [push_cast, x_blk, x_cd, ↓reduceIte, Nat.reduceEqDiff, List.map_cons, List.map_nil, Int.reduceEq, Int.lt_irrefl, hu, k1.t0, ec, k1.t1, hb1.int1, hP1.ld hk, hk]
    exact fin_1 (hQ _ _ ⟨by simp only [push_cast, ↓reduceIte, Nat.reduceEqDiff, isPart, c, true_and], b1⟩)
  · simp (disch := first | with_reducible assumption | omega) only [push_cast, x_blk, x_cd, ↓reduceIte, Nat.reduceEqDiff, List.map_cons, List.map_nil, Int.reduceEq, Int.lt_irrefl, hu, k1.t0, c]
    exact fin_1 (hQ _ _ ⟨by simp only [push_cast, ↓reduceIte, Nat.reduceEqDiff, isPart, c, false_and], b1⟩)
section
variable {g : Nat} {w : World} {ts : List Tok} {i : Nat} {en : Int} {At : Option Addr} {ct : Nat} {nv : List Value}
theorem text_name (h : Psr g w ts i en At ct nv) (hile : i ≤ 100000) :
    Cal2 Tryd.prog 35 [.pointer (some ⟨g, 0, none⟩)] w
      (fun v w' => v = .agg (peekT ts en i).cells.toArray ∧ isName (peekT ts en i) = true ∧ Psr g w' ts (i + 1) en At ct nv ∧ But w.heap.size g w w')
      (fun ch w' => ch = [{ v := badV 2 (peekT ts en i).at_, recovered := false }] ∧ isName (peekT ts en i) = false ∧ But w.heap.size g w w') := by
  refine cal2_text_parser_name (by simp) 10000 fun Q Qp hQ hP => ?_
  simp (disch := first | with_reducible assumption | omega) only [push_cast, x_blk, x_cd, ↓reduceIte, Nat.reduceEqDiff, List.map_cons, List.map_nil, Int.reduceEq, Int.lt_irrefl, F_text_parser_name]
  refine blk_of (cs := tok0) al_53 ?_
  intro w1 k1 b1 z1
  have hg := h.k.lt
  have h1 := h.below b1
  simp (disch := first | with_reducible assumption | omega) only [push_cast, x_blk, x_cd, ↓reduceIte, Nat.reduceEqDiff, List.map_cons, List.map_nil, Int.reduceEq, Int.lt_irrefl]
  refine call2_of (text_need h1 hile 55 [] isName fun w' _ => name_1 _ w') ?_ ?_
  · rintro ch w2 ⟨hch, hp, b2⟩
    exact hP _ _ ⟨hch, hp, (But.of b1 (Nat.le_refl _)).trans (b2.mono b1.size)⟩
  rintro v w2 ⟨rfl, hp, h2, b2⟩
  have k2 := k1.but b2 k1.lt (by omega)
  have bb2 := (But.of b1 (Nat.le_refl _)).trans (b2.mono b1.size)
  simp (disch := first | with_reducible assumption | omega) only [push_cast, x_blk, x_cd, ↓reduceIte, Nat.reduceEqDiff, List.map_cons, List.map_nil, Int.reduceEq, Int.lt_irrefl]
  refine sto_blk k2 (cs := (peekT ts en i).cells) ty_sz_53 rfl (tok_one _) ?_
  intro w3 k3 g3 z3
  simp (disch := first | with_reducible assumption | omega) only [push_cast, x_blk, x_cd, ↓reduceIte, Nat.reduceEqDiff, List.map_cons, List.map_nil, Int.reduceEq, Int.lt_irrefl]
  have b3 : Below w.heap.size w2 w3 := g3.below (Below.refl _ _) (by have := k2.lt; omega) (by intro a ha; injection ha with ha; subst ha; exact Nat.le_refl _)
  have b3g : Below (g + 1) w2 w3 := g3.below (Below.refl _ _) (by have := h2.k.lt; omega) (by intro a ha; injection ha with ha; subst ha; show g + 1 ≤ w.heap.size; omega)
  exact fin_cell k3 ty_ag_53 ty_sz_53 (by simp only [push_cast, ↓reduceIte, Nat.reduceEqDiff, Int.reduceEq]) (hQ _ _ ⟨rfl, hp, ⟨h2.k.below b3g (Nat.lt_succ_self _), h2.t.keep fun b hb => b3g.block b (by omega), h.le⟩, bb2.trans (But.of b3 (Nat.le_refl _))⟩)
theorem text_sign (h : Psr g w ts i en At ct nv) (hile : i ≤ 100000) (s : ByteArray) :
    Cal2 Tryd.prog 36 [.pointer (some ⟨g, 0, none⟩), .string s] w
      (fun v w' => v = .tuple #[] ∧ isSgn s (peekT ts en i) = true ∧ Psr g w' ts (i + 1) en At ct nv ∧ But w.heap.size g w w')
      (fun ch w' => ch = [{ v := badV 2 (peekT ts en i).at_, recovered := false }] ∧ isSgn s (peekT ts en i) = false ∧ But w.heap.size g w w') := by
  refine cal2_text_parser_sign (by simp) 10000 fun Q Qp hQ hP => ?_
  simp (disch := first | with_reducible assumption | omega) only [push_cast, x_blk, x_cd, ↓reduceIte, Nat.reduceEqDiff, List.map_cons, List.map_nil, Int.reduceEq, Int.lt_irrefl, F_text_parser_sign]
  refine blk_of (cs := [.string s]) (box_eq _ (.string s)) ?_
  intro w1 k1 b1 z1
  have hg := h.k.lt
  have h1 := h.below b1
  simp (disch := first | with_reducible assumption | omega) only [push_cast, x_blk, x_cd, ↓reduceIte, Nat.reduceEqDiff, List.map_cons, List.map_nil, Int.reduceEq, Int.lt_irrefl]
  refine call2_of (text_need h1 hile 56 [.pointer (some ⟨w.heap.size, 0, none⟩)] (isSgn s) fun w' b' => sign_1 _ (k1.below b' k1.lt)) ?_ ?_
  · rintro ch w2 ⟨hch, hp, b2⟩
    exact hP _ _ ⟨hch, hp, (But.of b1 (Nat.le_refl _)).trans (b2.mono b1.size)⟩
  rintro v w2 ⟨rfl, hp, h2, b2⟩
  simp (disch := first | with_reducible assumption | omega) only [push_cast, x_blk, x_cd, ↓reduceIte, Nat.reduceEqDiff, List.map_cons, List.map_nil, Int.reduceEq, Int.lt_irrefl]
  exact fin_0 (hQ _ _ ⟨rfl, hp, h2, (But.of b1 (Nat.le_refl _)).trans (b2.mono b1.size)⟩)
end
end Go.Proofs.YtpinjiikiaakaaaDoor

/-
  The parser's part: by its contract.
-/
namespace Go.Proofs.YtpinjiikiaakaaaDoor
set_option linter.unusedSimpArgs false
set_option linter.unusedVariables false
set_option linter.unusedSectionVars false
open Go.RowKit

/-- Where a field of one cell lies. -/
def tyFldV (P : Program) (s : TypeId) (k : Nat) : Option Nat := match P.underlying s with
  | some (.struct fs) => match (fs[k]? : Option Field) with
    | some f => if tyAgg P f.type = some false then some f.offset else none
    | none => none
  | _ => none
/-- Signs are signs. -/
def TkOk (ts : List Tok) : Prop := ∀ t ∈ ts, t.s = semi ∨ t.s = comma → t.k = 3
theorem toks_ok : ∀ (n : Nat) (l : List UInt8), l.length ≤ n → ∀ a, TkOk (toks a l).1
  | _, [], _, a => by rw [toks_nil]; exact fun t ht => by cases ht
  | 0, c :: r, h, _ => by simp at h
  | n + 1, c :: r, h, a => by
    have hr : r.length ≤ n := by simpa using h
    rw [toks_cons]
    split
    · exact toks_ok n r hr (a + 1)
    · split
      · intro t ht hs
        rcases List.mem_cons.1 ht with rfl | ht
        · rfl
        · exact toks_ok n r hr (a + 1) t ht hs
      · split
        · intro t ht; cases ht
        · rename_i hb hg hl
          split
          · intro t ht; cases ht
          · intro t ht hs
            rcases List.mem_cons.1 ht with rfl | ht
            · exfalso
              have hl' : IsLet (c.toNat : Int) := Classical.not_not.1 hl
              have hc : ∀ x : UInt8, (⟨(c :: r.take (wordN r)).toArray⟩ : ByteArray) = ⟨#[x]⟩ → c = x := fun x he => by
                have := congrArg (fun b : ByteArray => b.data.toList) he
                simp at this
                exact this.1
              rcases hs with hs | hs
              · rw [hc _ hs] at hl'; revert hl'; decide
              · rw [hc _ hs] at hl'; revert hl'; decide
            · exact toks_ok n _ (by rw [List.length_drop]; omega) _ t ht hs
theorem peek_ok {ts : List Tok} (h : TkOk ts) (en : Int) (i : Nat) : (peekT ts en i).s = semi ∨ (peekT ts en i).s = comma → (peekT ts en i).k = 3 := by
  unfold peekT
  rw [List.getD_eq_getElem?_getD]
  cases he : ts[i]? with
  | none => intro hs; rcases hs with hs | hs <;> (simp [endTok, semi, comma] at hs)
  | some t => exact h t (List.mem_of_getElem? he)
/-- The form is not kept: where. -/
structure FBad (ts : List Tok) (en a : Int) : Prop where
  no : ¬ ((fform fs0 ts).1.length = ts.length ∧ (fform fs0 ts).2.part = 9)
  at_ : a = (ts.getD (fform fs0 ts).1.length (endTok en)).at_
theorem FReach.fbad {ts : List Tok} {i : Nat} {st : FSt} {of : List Int} {en : Int} (h : FReach ts i st of) (hs : fstep st (peekT ts en i) = none) (hp : st.part ≠ 9) : FBad ts en (peekT ts en i).at_ := by
  have h1 := h.stuck hs
  refine ⟨by rw [h1]; exact fun c => hp c.2, by rw [h1, h.len]; rfl⟩
theorem fstep_name {st : FSt} {T : Tok} (hn : st.next = .n ∨ st.next = .m) (hT : T.k = 1) : fstep st T = some (⟨st.part, st.names + 1, if st.part = 8 then (if 0 < (st.names + 1) % 3 then .n else .z) else .m⟩, (st.part : Int)) := by
  unfold fstep afterName
  rcases hn with hn | hn <;> simp only [hn, hT, if_true]
theorem fstep_n {st : FSt} {T : Tok} (hn : st.next = .n) (hT : T.k ≠ 1) : fstep st T = none := by
  unfold fstep
  simp only [hn, hT, if_false]
theorem fstep_p {st : FSt} {T : Tok} {k : Nat} (hk : st.part = k) (h9 : k < 9) (hn : st.next = .p) : fstep st T = if isPart k T = true then some (⟨k, 0, if k = 0 then .n else .m⟩, -1) else none := by
  unfold fstep isPart
  subst hk
  simp only [hn, h9, true_and, decide_eq_true_eq]
theorem fstep_semi {st : FSt} {T : Tok} (hT : T.s = semi ∨ T.s = comma → T.k = 3) (hn : (st.next = .m ∧ T.k ≠ 1) ∨ (st.next = .z ∧ T.s ≠ comma)) : fstep st T = if isSgn semi T = true then some (⟨st.part + 1, st.names, .p⟩, -1) else none := by
  unfold fstep isSgn
  by_cases hs : T.s = semi
  · have h3 := hT (.inl hs)
    rcases hn with ⟨hn, h1⟩ | ⟨hn, h1⟩ <;> simp [hn, hs, h3]
  · rcases hn with ⟨hn, h1⟩ | ⟨hn, h1⟩ <;> simp [hn, hs, h1]
theorem fstep_comma {st : FSt} {T : Tok} (hT : T.s = semi ∨ T.s = comma → T.k = 3) (hn : st.next = .z) (hc : T.s = comma) : isSgn comma T = true ∧ fstep st T = some (⟨st.part, st.names, .n⟩, -1) := by
  have h3 := hT (.inr hc)
  refine ⟨by unfold isSgn; simp [hc, h3], ?_⟩
  unfold fstep
  simp only [hn, hc, if_true]
  rw [if_neg (by decide)]
theorem fld_one {P : Program} {K : Fr → World → Prop} {u : World} {f : Fr} {d : Option Nat} {w : World} {t k off : Nat} (hk : tyFldV P t k = some off) (cs : List Value) {v : Value} (hv : cs[off]? = some v) :
    Val1 P K (Instr.field t (.agg cs.toArray) k) u f d w = K (updO f d v) w :=
  val1_of u f d w fun w' _ => by
    unfold tyFldV at hk
    cases hu : P.underlying t with
    | none => simp [hu] at hk
    | some de =>
      rw [hu] at hk
      cases de <;> first | (simp at hk; done) | skip
      rename_i fs
      simp only at hk
      cases hf : (fs[k]? : Option Field) with
      | none => simp [hf] at hk
      | some fl =>
        simp only [hf] at hk
        cases hu2 : P.underlying fl.type with
        | none => simp [tyAgg, hu2] at hk
        | some de2 =>
          cases de2 <;> simp [tyAgg, hu2] at hk <;> (subst hk; simp [Instr.field, run_underlying hu, hf, part, isAgg, asAgg, run_underlying hu2, hv])
section
variable {K : Fr → World → Prop} {u : World} {f : Fr} {d : Option Nat} {w : World} (T : Tok)
theorem tk_f0 : Val1 Tryd.prog K (Instr.field 53 (.agg T.cells.toArray) 0) u f d w = K (updO f d (.int .i64 T.k)) w := fld_one (off := 0) (by kernel_rfl) T.cells rfl
theorem tk_f1 : Val1 Tryd.prog K (Instr.field 53 (.agg T.cells.toArray) 1) u f d w = K (updO f d (.string T.s)) w := fld_one (off := 1) (by kernel_rfl) T.cells rfl
theorem tk_f2 : Val1 Tryd.prog K (Instr.field 53 (.agg T.cells.toArray) 2) u f d w = K (updO f d (.int .i64 T.at_)) w := fld_one (off := 2) (by kernel_rfl) T.cells rfl
end
theorem bin_strne {P : Program} {K : Fr → World → Prop} {u : World} {f : Fr} {d : Option Nat} {w : World} (t : TypeId) (xo yo : Operand) (a b : ByteArray) : Val1 P K (binS .neq t xo yo (.string a) (.string b)) u f d w = K (updO f d (.bool (decide (a ≠ b)))) w :=
  val1_of u f d w fun w' _ => by
    by_cases h : a = b
    · subst h; simp [binS, eqGuard, binOp, Op.stringOp, str_eq]
    · simp [binS, eqGuard, binOp, Op.stringOp, str_eq, h]
theorem pc_name {At : Option Addr} {n ct : Nat} {i en : Int} {nv : List Value} {k : Nat} (hk : k < nv.length) : (pcells At n ct i en nv)[3 + k]? = nv[k]? := by
  rw [show 3 + k = k + 1 + 1 + 1 by omega]
  simp only [pcells, List.getElem?_cons_succ]
  rw [List.getElem?_append_left hk]
theorem pc_set {At : Option Addr} {n ct : Nat} {i en : Int} {nv : List Value} {k : Nat} (hk : k < nv.length) (v : Value) : (pcells At n ct i en nv).set (3 + k) v = pcells At n ct i en (nv.set k v) := by
  rw [show 3 + k = k + 1 + 1 + 1 by omega]
  simp only [pcells, List.set_cons_succ]
  rw [List.set_append_left _ _ hk]
/-- What stands while a part is read. -/
structure PM (g B k : Nat) (ts : List Tok) (en : Int) (At : Option Addr) (ct : Nat) (nv : List Value) (of0 : List Int) (w0 w : World) (i : Nat) (st : FSt) (of : List Int) (A : Option Addr) (c : Nat) : Prop where
  r : FReach ts i st of
  h : Psr g w ts i en At ct (nv.set k (.slice A (fsel ts of k).length c))
  o : OwnR Tok.cells (B + 1) 53 3 w A c (fsel ts of k)
  kb : Blk w B 3 [.int .i64 k]
  b : But B g w0 w
  oth : ∀ j, j ≠ k → fsel ts of j = fsel ts of0 j
  p : st.part = k
theorem fsel_neg (ts : List Tok) (of : List Int) (j : Nat) (h : of.length < ts.length) : fsel ts (of ++ [-1]) j = fsel ts of j := by
  rw [sel_next ts of (-1) j 0 h, if_neg (by omega), List.append_nil]
section
variable {g B k : Nat} {ts : List Tok} {en : Int} {At : Option Addr} {ct : Nat} {nv : List Value} {of0 : List Int} {w0 w : World} {i : Nat} {st : FSt} {of : List Int} {A : Option Addr} {c : Nat}
theorem PM.sign {w' : World} {st' : FSt} (h : PM g B k ts en At ct nv of0 w0 w i st of A c) (hg : g < B) (hs : fstep st (peekT ts en i) = some (st', -1)) (hp : st'.part = k) (h' : Psr g w' ts (i + 1) en At ct (nv.set k (.slice A (fsel ts of k).length c))) (b : But w.heap.size g w w') :
    PM g B k ts en At ct nv of0 w0 w' (i + 1) st' (of ++ [-1]) A c := by
  obtain ⟨hi, hr⟩ := h.r.next hs
  have e : ∀ j, fsel ts (of ++ [-1]) j = fsel ts of j := fun j => fsel_neg ts of j (by rw [h.r.len]; exact hi)
  have hB := h.kb.lt
  refine ⟨hr, by rw [e]; exact h', ?_, h.kb.but b hB (by omega), h.b.trans (b.mono (by omega)), fun j hj => by rw [e]; exact h.oth j hj, hp⟩
  rw [e]
  refine h.o.keep fun b' hb' => ?_
  have hf := h.o.form
  rcases hf with ⟨h0, _⟩ | ⟨q, h0, hq1, hq2⟩
  · rw [h0] at hb'; cases hb'
  · rw [h0] at hb'
    injection hb' with hb'
    simp only at hb'
    subst hb'
    exact b.block _ hq2 (by omega)
theorem PM.same {w' : World} (h : PM g B k ts en At ct nv of0 w0 w i st of A c) (s : Same w w') : PM g B k ts en At ct nv of0 w0 w' i st of A c :=
  ⟨h.r, h.h.below (s.below _), h.o.same s, h.kb.same s, h.b.trans (But.of (s.below B) (Nat.le_refl _)), h.oth, h.p⟩
theorem PM.below {w' : World} (h : PM g B k ts en At ct nv of0 w0 w i st of A c) (b : Below w.heap.size w w') : PM g B k ts en At ct nv of0 w0 w' i st of A c :=
  ⟨h.r, h.h.below b, h.o.below b (Nat.le_refl _), h.kb.below b h.kb.lt, h.b.trans (But.of b (Nat.le_of_lt h.kb.lt)), h.oth, h.p⟩
theorem PM.ile (h : PM g B k ts en At ct nv of0 w0 w i st of A c) : i ≤ 4000 := Nat.le_trans h.r.le h.h.le
theorem fsel_le (ts : List Tok) (of : List Int) (j : Nat) : (fsel ts of j).length ≤ ts.length := by
  unfold fsel
  rw [List.length_map]
  refine Nat.le_trans (List.length_filter_le _ _) ?_
  rw [List.length_zip]; omega
theorem Blk.pN {K : Fr → World → Prop} {u w : World} {f : Fr} {d : Option Nat} {g t n k : Nat} {i : Int} {v : Value} (h : Blk u g t (pcells At n ct i en (nv.set k v))) (hk : k < nv.length) : Val1 Tryd.prog K (Instr.loadAt 45 (.pointer (some ⟨g, 3 + k, none⟩))) u f d w = K (updO f d v) w :=
  load_one_of u f d w ty_ag_45 (by rw [h.cell, pc_name (by rw [List.length_set]; exact hk), List.getElem?_set, if_pos rfl, if_pos hk])
theorem PM.own {w' : World} (h : PM g B k ts en At ct nv of0 w0 w i st of A c) (hg : g < B) (b : But w.heap.size g w w') : OwnR Tok.cells (B + 1) 53 3 w' A c (fsel ts of k) := by
  refine h.o.keep fun b' hb' => ?_
  have hf := h.o.form
  rcases hf with ⟨h0, _⟩ | ⟨q, h0, hq1, hq2⟩
  · rw [h0] at hb'; cases hb'
  · rw [h0] at hb'
    injection hb' with hb'
    simp only at hb'
    subst hb'
    exact b.block _ hq2 (by omega)
/-- What the form says of one more name, and of two. -/
theorem one_name {st' : FSt} (hr : FReach ts i st of) (hs : fstep st (peekT ts en i) = some (st', (k : Int))) : FReach ts (i + 1) st' (of ++ [(k : Int)]) ∧ ∀ j, fsel ts (of ++ [(k : Int)]) j = fsel ts of j ++ (if j = k then [peekT ts en i] else []) := by
  obtain ⟨hi, hr'⟩ := hr.next hs
  refine ⟨hr', fun j => ?_⟩
  rw [sel_next ts of k j en (by rw [hr.len]; exact hi), hr.len]
  by_cases e : j = k
  · rw [if_pos e, if_pos (by omega)]; rfl
  · rw [if_neg e, if_neg (by omega)]
theorem two_names {st' st'' : FSt} (hr : FReach ts i st of) (hs : fstep st (peekT ts en i) = some (st', (k : Int))) (hs2 : fstep st' (peekT ts en (i + 1)) = some (st'', (k : Int))) : FReach ts (i + 2) st'' (of ++ [(k : Int)] ++ [(k : Int)]) ∧ ∀ j, fsel ts (of ++ [(k : Int)] ++ [(k : Int)]) j = fsel ts of j ++ (if j = k then [peekT ts en i, peekT ts en (i + 1)] else []) := by
  obtain ⟨h1, e1⟩ := one_name hr hs
  obtain ⟨h2, e2⟩ := one_name h1 hs2
  refine ⟨h2, fun j => ?_⟩
  rw [e2, e1]
  by_cases e : j = k
  · simp only [if_pos e, List.append_assoc, List.singleton_append]
  · simp only [if_neg e, List.append_nil]
/-- More names: passed over, appended and stored. -/
theorem PM.names {w1 w3 w4 : World} {st' : FSt} {A' : Option Addr} {c' i' : Nat} {of' : List Int} {X : List Tok} (h : PM g B k ts en At ct nv of0 w0 w i st of A c) (hg : g < B) (hnv : k < nv.length) (hr : FReach ts i' st' of') (e : ∀ j, fsel ts of' j = fsel ts of j ++ (if j = k then X else [])) (hp : st'.part = k)
    (h1 : Psr g w1 ts i' en At ct (nv.set k (.slice A (fsel ts of k).length c))) (b1 : But w.heap.size g w w1)
    (o3 : OwnR Tok.cells (B + 1) 53 3 w3 A' c' (fsel ts of k ++ X)) (g3 : Grew w1 w3 A)
    (k4 : Blk w4 g 49 ((pcells At ts.length ct i' en (nv.set k (.slice A (fsel ts of k).length c))).set (3 + k) (.slice A' ((fsel ts of k).length + X.length) c'))) (g4 : Grew w3 w4 (some ⟨g, 0, none⟩)) :
    PM g B k ts en At ct nv of0 w0 w4 i' st' of' A' c' := by
  have ek : fsel ts of' k = fsel ts of k ++ X := by rw [e, if_pos rfl]
  have hB := h.kb.lt
  have hz1 := b1.size
  have hz3 := g3.by_.size
  have hA : ∀ a, A = some a → B + 1 ≤ a.block := h.o.geB
  have g3g : ∀ b, b < w1.heap.size → b ≤ B → w3.heap[b]? = w1.heap[b]? := fun b hb hbB => g3.by_.block b hb (by
    cases A with
    | none => simp
    | some a => have := hA a rfl; simp; omega)
  have hset : (pcells At ts.length ct (i' : Int) en (nv.set k (.slice A (fsel ts of k).length c))).set (3 + k) (.slice A' ((fsel ts of k).length + X.length) c') = pcells At ts.length ct (i' : Int) en (nv.set k (.slice A' (fsel ts of' k).length c')) := by
    rw [pc_set (by rw [List.length_set]; exact hnv), List.set_set, ek, List.length_append]
  rw [hset] at k4
  refine ⟨hr, ⟨k4, ?_, h.h.le⟩, ?_, ?_, ?_, fun j hj => ?_, hp⟩
  · refine h1.t.keep fun b hb => ?_
    have hb1 := h1.k.lt
    rw [g4.by_.block b (by omega) (by simp; omega), g3g b (by omega) (by omega)]
  · rw [ek]
    refine o3.keep fun b' hb' => ?_
    have hf := o3.form
    rcases hf with ⟨h0, _⟩ | ⟨q, h0, hq1, hq2⟩
    · rw [h0] at hb'; cases hb'
    · rw [h0] at hb'
      injection hb' with hb'
      simp only at hb'
      subst hb'
      exact g4.by_.block _ hq2 (by simp; omega)
  · have k1 := h.kb.but b1 hB (by omega)
    have : w4.heap[B]? = w1.heap[B]? := by rw [g4.by_.block B (by omega) (by simp; omega), g3g B (by omega) (Nat.le_refl _)]
    exact this.trans k1
  · have q1 := b1.mono (B := B) (by omega)
    have q3 : But B g w1 w3 := But.grew g3 (fun a ha => by have := hA a ha; omega) (by omega)
    have q4 : But B g w3 w4 := But.cell g4 (by omega)
    exact h.b.trans (q1.trans (q3.trans q4))
  · rw [e, if_neg hj, List.append_nil]; exact h.oth j hj
end
/-- What stands when a part has been read. -/
structure PD (g B k : Nat) (ts : List Tok) (en : Int) (At : Option Addr) (ct : Nat) (nv : List Value) (of0 : List Int) (w0 w : World) (i : Nat) (st : FSt) (of : List Int) (A : Option Addr) (c : Nat) : Prop where
  r : FReach ts i st of
  h : Psr g w ts i en At ct (nv.set k (.slice A (fsel ts of k).length c))
  o : OwnR Tok.cells (B + 1) 53 3 w A c (fsel ts of k)
  b : But B g w0 w
  oth : ∀ j, j ≠ k → fsel ts of j = fsel ts of0 j
  p : st.part = k + 1
  n : st.next = .p
theorem set_same {nv : List Value} {k : Nat} {v : Value} (h : nv.getD k undef = v) (hk : k < nv.length) : nv.set k v = nv := by
  apply List.ext_getElem?
  intro j
  rw [List.getElem?_set]
  by_cases e : k = j
  · subst e
    rw [if_pos rfl, if_pos hk, List.getElem?_eq_getElem hk]
    rw [List.getD_eq_getElem?_getD, List.getElem?_eq_getElem hk] at h
    rw [← h]; rfl
  · rw [if_neg e]
theorem sz_tks : tySize Tryd.prog 45 = some 1 := by kernel_rfl
theorem fill_6 (x0 x1 x2 x3 x4 x5 : Value) (a b : Tok) : Instr.fill (fun i => some (i * 3, 3)) #[x0, x1, x2, x3, x4, x5] [(0, .agg a.cells.toArray), (1, .agg b.cells.toArray)] = some (a.cells ++ b.cells).toArray := by
  simp [Instr.fill, Value.cells, Tok.cells]
theorem bsl2_tok {P : Program} {K : Fr → World → Prop} {f : Fr} {d : Option Nat} {w : World} {t e bytes : Nat} (hT : SlT P t e 3 bytes) (a b : Tok) :
    Eff1 P K (Instr.buildSlice t 2 #[(0, .agg a.cells.toArray), (1, .agg b.cells.toArray)]) f d w = K (updO f d (.slice (some ⟨w.heap.size, 0, none⟩) 2 2)) (w.alloc (.cells (a.cells ++ b.cells).toArray e)) := by
  obtain ⟨i, z, hi, hz, hs, hb, hc⟩ := hT.get
  refine eff1_of ?_
  have hz6 : (Array.range 6).map (z.cells[· % z.cells.size]!) = #[z.cells[0 % z.cells.size]!, z.cells[1 % z.cells.size]!, z.cells[2 % z.cells.size]!, z.cells[3 % z.cells.size]!, z.cells[4 % z.cells.size]!, z.cells[5 % z.cells.size]!] := by
    apply Array.ext'; simp [List.range_succ]
  have hf := fill_6 (z.cells[0 % z.cells.size]!) (z.cells[1 % z.cells.size]!) (z.cells[2 % z.cells.size]!) (z.cells[3 % z.cells.size]!) (z.cells[4 % z.cells.size]!) (z.cells[5 % z.cells.size]!) a b
  rw [← hz6] at hf
  simp only [Instr.buildSlice, run_underlying hT.under, sizeOf, typeInfo, Sem.run_bind, Result.andThen_ok]
  simp [hi, hs, zeroValue, typeInfo, hz, newRow, hf]
theorem app_2tok {P : Program} {K : Fr → World → Prop} {f : Fr} {d : Option Nat} {w : World} {B t e bytes ty : Nat} {A : Option Addr} {c : Nat} {l : List Tok} (hT : SlT P t e 3 bytes) (hown : OwnR Tok.cells B e 3 w A c l) (x y : Tok) (hl : (l.length + 2) * bytes ≤ 140737488355328) (h63 : l.length + 2 ≤ 9223372036854775807) (hB : B ≤ w.heap.size)
    (hk : ∀ A' c' w', OwnR Tok.cells B e 3 w' A' c' (l ++ [x, y]) → Grew w w' A → w.heap.size ≤ w'.heap.size → K (updO f d (.slice A' (l.length + 2) c')) w') :
    Eff1 P K (Builtin.append_ #[t, t] ty #[.slice A l.length c, .slice (some ⟨w.heap.size, 0, none⟩) 2 2]) f d (w.alloc (.cells (x.cells ++ y.cells).toArray e)) := by
  refine append_own hT ty (hown.alloc _) (rd_new w (x.cells ++ y.cells) e) (by simp [Tok.cells]) (by simp [Tok.cells, Value.oneCell']) hl h63 (by simp; omega) ?_
  intro A' c' w' ho hg hA hs hz
  have hz' : w.heap.size ≤ w'.heap.size := by have : (w.alloc (.cells (x.cells ++ y.cells).toArray e)).heap.size = w.heap.size + 1 := by simp
                                              omega
  refine hk A' c' w' ?_ ⟨⟨hg.by_.os, hg.by_.tape, hg.by_.output, hz', fun k hk hne => ?_⟩⟩ hz'
  · unfold OwnR
    rw [List.flatMap_append, List.length_append]
    simpa using ho
  · rw [hg.by_.block k (by simp; omega) hne, Below.heap_alloc w _ k hk]
set_option maxHeartbeats 4000000 in
theorem parser_part {g k i ct : Nat} {w : World} {ts : List Tok} {en : Int} {At : Option Addr} {nv : List Value} {st : FSt} {of0 : List Int} (h : Psr g w ts i en At ct nv) (hr : FReach ts i st of0) (hp : st.part = k) (hn : st.next = .p) (hk : k < 9)
    (hnv : nv.length = 9) (hnk : nv.getD k undef = .slice none 0 0) (hsel : fsel ts of0 k = []) (hP : PTab w) (hPg : 0 ≠ g) (hTk : TkOk ts) :
    Cal2 Tryd.prog 13 [.pointer (some ⟨g, 0, none⟩), .int .i64 k] w
      (fun v w' => v = .tuple #[] ∧ ∃ (i' : Nat) (st' : FSt) (of' : List Int) (A : Option Addr) (c : Nat), PD g w.heap.size k ts en At ct nv of0 w w' i' st' of' A c)
      (fun ch w' => ∃ a, FBad ts en a ∧ ch = [{ v := badV 2 a, recovered := false }] ∧ But w.heap.size g w w') := by
  have hg := h.k.lt
  have hkn : k < nv.length := by omega
  refine cal2_text_parser_part (by simp) 1000000 fun Q Qp hQ hPn => ?_
  simp (disch := first | with_reducible assumption | omega) only [push_cast, x_blk, x_cd, ↓reduceIte, Nat.reduceEqDiff, List.map_cons, List.map_nil, Int.reduceEq, Int.lt_irrefl, F_text_parser_part]
  refine blk_of (cs := [.int .i64 k]) (box_eq _ (.int .i64 k)) ?_
  intro w1 k1 b1 z1
  have h1 := h.below b1
  have hP1 := hP.on b1
  simp (disch := first | with_reducible assumption | omega) only [push_cast, x_blk, x_cd, ↓reduceIte, Nat.reduceEqDiff, List.map_cons, List.map_nil, Int.reduceEq, Int.lt_irrefl]
  have hile : i ≤ 4000 := Nat.le_trans hr.le h.le
  refine call2_of (text_need h1 (by omega) 34 [.pointer (some ⟨w.heap.size, 0, none⟩)] (isPart k) fun w' b' => part_1 _ hk (hP1.on b') (k1.below b' k1.lt)) ?_ ?_
  · rintro ch w2 ⟨hch, hq, b2⟩
    refine hPn _ _ ⟨_, hr.fbad (by rw [fstep_p hp hk hn, hq]; rfl) (by omega), hch, (But.of b1 (Nat.le_refl _)).trans (b2.mono b1.size)⟩
  rintro v w2 ⟨rfl, hq, h2, b2⟩
  have k2 := k1.but b2 k1.lt (by omega)
  have bb2 := (But.of b1 (Nat.le_refl _)).trans (b2.mono b1.size)
  have hst := fstep_p hp hk hn (T := peekT ts en i)
  rw [hq, if_pos rfl] at hst
  have hM : PM g w.heap.size k ts en At ct nv of0 w w2 (i + 1) ⟨k, 0, if k = 0 then .n else .m⟩ (of0 ++ [-1]) none 0 := by
    obtain ⟨hi, hr1⟩ := hr.next hst
    have e : ∀ j, fsel ts (of0 ++ [-1]) j = fsel ts of0 j := fun j => fsel_neg ts of0 j (by rw [hr.len]; exact hi)
    refine ⟨hr1, ?_, ?_, k2, bb2, fun j _ => e j, rfl⟩
    · rw [e, hsel, List.length_nil, set_same hnk hkn]; exact h2
    · rw [e, hsel]; exact Own.nil _ _ _ _
  rw [x_sq]
  refine cut (fun f w' => ∃ (i : Nat) (st : FSt) (of : List Int) (A : Option Addr) (c : Nat), (f 0 = .pointer (some ⟨g, 0, none⟩) ∧ f 3 = .pointer (some ⟨w.heap.size, 0, none⟩)) ∧ PM g w.heap.size k ts en At ct nv of0 w w' i st of A c ∧ st.next = .m ∧ (k = 8 → st.names % 3 = 0)) 400000 400000 (by decide) ?_ ?_
  · intro E hE
    by_cases hk0 : (k : Int) = 0
    case neg =>
      simp (disch := first | with_reducible assumption | omega) only [push_cast, x_blk, x_cd, ↓reduceIte, Nat.reduceEqDiff, List.map_cons, List.map_nil, Int.reduceEq, Int.lt_irrefl, hM.kb.int1, hk0]
      exact hE _ _ ⟨_, _, _, _, _, by simp only [push_cast, ↓reduceIte, Nat.reduceEqDiff, true_and, and_true, and_self, eq_self], hM, by simp only; rw [if_neg (by omega)], fun _ => rfl⟩
    have ek := eq_true hk0
    obtain ⟨wX, hwX⟩ : ∃ wX, wX = w2 := ⟨_, rfl⟩
    rw [← hwX] at hM ⊢
    clear hwX
    obtain ⟨i1, st1, of1, A1, c1, hM1, hn1, hm1⟩ : ∃ i1 st1 of1 A1 c1, PM g w.heap.size k ts en At ct nv of0 w wX i1 st1 of1 A1 c1 ∧ st1.next = .n ∧ st1.names = 0 := ⟨_, _, _, _, _, hM, by simp only; rw [if_pos (by omega)], rfl⟩
    clear hM
    have hM := hM1
    clear hM1
    simp (disch := first | with_reducible assumption | omega) only [push_cast, x_blk, x_cd, ↓reduceIte, Nat.reduceEqDiff, List.map_cons, List.map_nil, Int.reduceEq, Int.lt_irrefl, hM.kb.int1, ek]
    have hMu := hM.same (Same.refl wX).drew
    have hBu := hMu.kb.lt
    have hle0 := fsel_le ts of1 k
    have htl := hMu.h.le
    have hile := hMu.ile
    generalize hu : wX.drew = u at *
    obtain ⟨S0, hS0⟩ : ∃ S0 : World → Prop, ∀ w', S0 w' ↔ (Blk w' w.heap.size 3 [.int .i64 k] ∧ ∃ j : Int, Blk w' g 49 (pcells At ts.length ct j en (nv.set k (.slice A1 (fsel ts of1 k).length c1)))) := ⟨_, fun _ => Iff.rfl⟩
    have hSu := (hS0 u).2 ⟨hMu.kb, _, hMu.h.k⟩
    refine ⟨S0, hSu, ?_⟩
    have q1 := fun {K : Fr → World → Prop} {f : Fr} {d : Option Nat} => valS_of (P := Tryd.prog) (S := S0) (K := K) (f := f) (d := d) (w := u) (s := Instr.loadAt 3 (.pointer (some ⟨w.heap.size, 0, none⟩))) (v := .int .i64 k) (fun w' hw => by rw [((hS0 w').1 hw).1.int1]; rfl) hSu
    have q2 := fun {K : Fr → World → Prop} {f : Fr} {d : Option Nat} => valS_of (P := Tryd.prog) (S := S0) (K := K) (f := f) (d := d) (w := u) (s := Instr.loadAt 45 (.pointer (some ⟨g, 3 + k, none⟩))) (v := .slice A1 (fsel ts of1 k).length c1) (fun w' hw => by obtain ⟨_, j, hj⟩ := (hS0 w').1 hw; rw [hj.pN hkn]; rfl) hSu
    simp (disch := first | with_reducible assumption | omega) only [push_cast, x_blk, x_cd, ↓reduceIte, Nat.reduceEqDiff, List.map_cons, List.map_nil, Int.reduceEq, Int.lt_irrefl, q1, q2, hk]
    refine call2_of (text_name hMu.h (by omega)) ?_ ?_
    · rintro ch wP ⟨hch, hqP, bP⟩
      refine hPn _ _ ⟨_, hM.r.fbad (fstep_n (by exact hn1) (by unfold isName at hqP; exact of_decide_eq_false hqP)) (by rw [hM.p]; omega), hch, hMu.b.trans (bP.mono (by omega))⟩
    rintro v wN ⟨rfl, hqN, hN, bN⟩
    have SN := (hS0 wN).2 ⟨hMu.kb.but bN hBu (by omega), _, hN.k⟩
    simp (disch := first | with_reducible assumption | omega) only [push_cast, x_blk, x_cd, ↓reduceIte, Nat.reduceEqDiff, List.map_cons, List.map_nil, Int.reduceEq, Int.lt_irrefl, bs_rec tokEnc slT_45 (peekT ts en i1) (by decide), hk]
    have oN := hMu.own hg (by exact bN)
    have kbN := hMu.kb.but bN hBu (by omega)
    have bA : Below wN.heap.size wN (wN.alloc (.cells (peekT ts en i1).cells.toArray 53)) := (Below.refl _ _).alloc (Nat.le_refl _) _
    have hzN := bN.size
    refine ⟨SN, (hS0 _).2 ⟨kbN.below bA kbN.lt, _, hN.k.below bA hN.k.lt⟩, ?_⟩
    refine app_rec tokEnc slT_45 oN (peekT ts en i1) (by omega) (by omega) (by omega) ?_
    intro A2 c2 w3 o3 g3 _ _ z3
    simp (disch := first | with_reducible assumption | omega) only [push_cast, x_blk, x_cd, ↓reduceIte, Nat.reduceEqDiff, List.map_cons, List.map_nil, Int.reduceEq, Int.lt_irrefl, hk]
    have hgA : ∀ b, b ≤ w.heap.size → some b ≠ A1.map (·.block) := fun b hb => by
      cases hA : A1 with
      | none => simp
      | some a => have := hMu.o.geB a hA; simp; omega
    have k3 := hN.k.grown g3.by_ (hgA g (by omega))
    have kb3 := kbN.grown g3.by_ (hgA _ (Nat.le_refl _))
    refine ⟨(hS0 w3).2 ⟨kb3, _, k3⟩, ?_⟩
    refine sto_slice k3 sz_tks (3 + k) (by simp; omega) A2 ((fsel ts of1 k).length + 1) c2 ?_
    intro w4 k4 g4 z4
    refine ⟨fun _ => True, trivial, ?_⟩
    have hT1 : (peekT ts en i1).k = 1 := by unfold isName at hqN; exact of_decide_eq_true hqN
    obtain ⟨hrN, eN⟩ := one_name (k := k) hMu.r (by rw [fstep_name (.inl hn1) hT1, hMu.p])
    have hM4 := hMu.names (X := [peekT ts en i1]) hg hkn hrN eN rfl hN bN o3 g3 k4 g4
    simp (disch := first | with_reducible assumption | omega) only [push_cast, x_blk, x_cd, ↓reduceIte, Nat.reduceEqDiff, List.map_cons, List.map_nil, Int.reduceEq, Int.lt_irrefl]
    exact hE _ _ ⟨_, _, _, _, _, by simp only [push_cast, ↓reduceIte, Nat.reduceEqDiff, true_and, and_true, and_self, eq_self], hM4, by simp only; rw [if_neg (by omega)], fun e => by omega⟩
  clear h1 h2 k2 bb2 b2 hst hq hP1 k1 b1 z1 hr hile hsel hnk hp hn hM
  rintro f w3 ⟨i1, st1, of1, A1, c1, fr, hM, hn1, hm1⟩
  rw [x_sq]
  refine cut (fun f w' => ∃ (i : Nat) (st : FSt) (of : List Int) (A : Option Addr) (c : Nat), f 0 = .pointer (some ⟨g, 0, none⟩) ∧ PM g w.heap.size k ts en At ct nv of0 w w' i st of A c ∧ ((st.next = .m ∧ (peekT ts en i).k ≠ 1) ∨ (st.next = .z ∧ (peekT ts en i).s ≠ comma))) 190000 190000 (by decide) ?_ ?_
  · intro E hE
    simp (disch := first | with_reducible assumption | omega) only [push_cast, x_blk, x_cd, ↓reduceIte, Nat.reduceEqDiff, List.map_cons, List.map_nil, Int.reduceEq, Int.lt_irrefl]
    refine loop_ix (fun n f w' => ∃ (i : Nat) (st : FSt) (of : List Int) (A : Option Addr) (c : Nat), n + i = 5000 ∧ (f 0 = .pointer (some ⟨g, 0, none⟩) ∧ f 3 = .pointer (some ⟨w.heap.size, 0, none⟩)) ∧ PM g w.heap.size k ts en At ct nv of0 w w' i st of A c ∧ ((st.next = .m ∧ (k = 8 → st.names % 3 = 0)) ∨ (st.next = .n ∧ k = 8 ∧ st.names % 3 = 0 ∧ (peekT ts en i).k = 1)))
      (n0 := 5000 - i1) ⟨i1, st1, of1, A1, c1, by have := hM.ile; omega, fr, hM, .inl ⟨hn1, hm1⟩⟩ ?_
    clear fr hM hn1 hm1
    rintro n f w3 ⟨i1, st1, of1, A1, c1, hni, fr, hM, hst⟩ J hJ
    have hile0 := hM.ile
    simp (disch := first | with_reducible assumption | omega) only [push_cast, x_blk, x_cd, ↓reduceIte, Nat.reduceEqDiff, List.map_cons, List.map_nil, Int.reduceEq, Int.lt_irrefl, L_text_parser_part_0, fr]
    refine call_of (text_peek hM.h) ?_
    rintro v w4 ⟨rfl, b4⟩
    have hM3 := hM.below b4
    clear hM
    by_cases hk1 : (peekT ts en i1).k = 1
    case neg =>
      simp (disch := first | with_reducible assumption | omega) only [push_cast, x_blk, x_cd, ↓reduceIte, Nat.reduceEqDiff, List.map_cons, List.map_nil, Int.reduceEq, Int.lt_irrefl, fr, tk_f0, hk1]
      refine hE _ _ ⟨i1, st1, of1, A1, c1, (by simp only [push_cast, ↓reduceIte, Nat.reduceEqDiff, true_and, and_true, and_self, eq_self, fr]), hM3, .inl ⟨?_, hk1⟩⟩
      rcases hst with h | h
      · exact h.1
      · exact absurd h.2.2.2 hk1
    have ek1 := eq_true hk1
    have hnm : st1.next = .n ∨ st1.next = .m := by
      rcases hst with h | h
      · exact .inr h.1
      · exact .inl h.1
    obtain ⟨wX, hwX⟩ : ∃ wX, wX = w4 := ⟨_, rfl⟩
    rw [← hwX] at hM3 ⊢
    have hM := hM3
    clear hM3 hwX
    simp (disch := first | with_reducible assumption | omega) only [push_cast, x_blk, x_cd, ↓reduceIte, Nat.reduceEqDiff, List.map_cons, List.map_nil, Int.reduceEq, Int.lt_irrefl, fr, tk_f0, ek1]
    have hMu := hM.same (Same.refl wX).drew
    have hBu := hMu.kb.lt
    have hle0 := fsel_le ts of1 k
    have htl := hMu.h.le
    have hile := hMu.ile
    generalize hu : wX.drew = u at *
    obtain ⟨S0, hS0⟩ : ∃ S0 : World → Prop, ∀ w', S0 w' ↔ (Blk w' w.heap.size 3 [.int .i64 k] ∧ ∃ j : Int, Blk w' g 49 (pcells At ts.length ct j en (nv.set k (.slice A1 (fsel ts of1 k).length c1)))) := ⟨_, fun _ => Iff.rfl⟩
    have hSu := (hS0 u).2 ⟨hMu.kb, _, hMu.h.k⟩
    refine ⟨S0, hSu, ?_⟩
    have q1 := fun {K : Fr → World → Prop} {f : Fr} {d : Option Nat} => valS_of (P := Tryd.prog) (S := S0) (K := K) (f := f) (d := d) (w := u) (s := Instr.loadAt 3 (.pointer (some ⟨w.heap.size, 0, none⟩))) (v := .int .i64 k) (fun w' hw => by rw [((hS0 w').1 hw).1.int1]; rfl) hSu
    have q2 := fun {K : Fr → World → Prop} {f : Fr} {d : Option Nat} => valS_of (P := Tryd.prog) (S := S0) (K := K) (f := f) (d := d) (w := u) (s := Instr.loadAt 45 (.pointer (some ⟨g, 3 + k, none⟩))) (v := .slice A1 (fsel ts of1 k).length c1) (fun w' hw => by obtain ⟨_, j, hj⟩ := (hS0 w').1 hw; rw [hj.pN hkn]; rfl) hSu
    simp (disch := first | with_reducible assumption | omega) only [push_cast, x_blk, x_cd, ↓reduceIte, Nat.reduceEqDiff, List.map_cons, List.map_nil, Int.reduceEq, Int.lt_irrefl, fr, q1, q2, hk]
    refine call2_of (text_name hMu.h (by omega)) ?_ ?_
    · rintro ch wP ⟨_, hqP, _⟩
      unfold isName at hqP
      exact absurd hk1 (of_decide_eq_false hqP)
    rintro v wN ⟨rfl, hqN, hN, bN⟩
    have SN := (hS0 wN).2 ⟨hMu.kb.but bN hBu (by omega), _, hN.k⟩
    simp (disch := first | with_reducible assumption | omega) only [push_cast, x_blk, x_cd, ↓reduceIte, Nat.reduceEqDiff, List.map_cons, List.map_nil, Int.reduceEq, Int.lt_irrefl, fr, bs_rec tokEnc slT_45 (peekT ts en i1) (by decide), hk]
    have oN := hMu.own hg (by exact bN)
    have kbN := hMu.kb.but bN hBu (by omega)
    have bA : Below wN.heap.size wN (wN.alloc (.cells (peekT ts en i1).cells.toArray 53)) := (Below.refl _ _).alloc (Nat.le_refl _) _
    have hzN := bN.size
    refine ⟨SN, (hS0 _).2 ⟨kbN.below bA kbN.lt, _, hN.k.below bA hN.k.lt⟩, ?_⟩
    refine app_rec tokEnc slT_45 oN (peekT ts en i1) (by omega) (by omega) (by omega) ?_
    intro A2 c2 w3 o3 g3 _ _ z3
    simp (disch := first | with_reducible assumption | omega) only [push_cast, x_blk, x_cd, ↓reduceIte, Nat.reduceEqDiff, List.map_cons, List.map_nil, Int.reduceEq, Int.lt_irrefl, hk]
    have hgA : ∀ b, b ≤ w.heap.size → some b ≠ A1.map (·.block) := fun b hb => by
      cases hA : A1 with
      | none => simp
      | some a => have := hMu.o.geB a hA; simp; omega
    have k3 := hN.k.grown g3.by_ (hgA g (by omega))
    have kb3 := kbN.grown g3.by_ (hgA _ (Nat.le_refl _))
    refine ⟨(hS0 w3).2 ⟨kb3, _, k3⟩, ?_⟩
    refine sto_slice k3 sz_tks (3 + k) (by simp; omega) A2 ((fsel ts of1 k).length + 1) c2 ?_
    intro w4 k4 g4 z4
    refine ⟨fun _ => True, trivial, ?_⟩
    have hT1 : (peekT ts en i1).k = 1 := by unfold isName at hqN; exact of_decide_eq_true hqN
    obtain ⟨hrN, eN⟩ := one_name (k := k) hMu.r (by rw [fstep_name hnm hT1, hMu.p])
    have hM4 := hMu.names (X := [peekT ts en i1]) hg hkn hrN eN rfl hN bN o3 g3 k4 g4
    have hp1 := hM.p
    by_cases hk8 : (k : Int) < 8
    · simp (disch := first | with_reducible assumption | omega) only [push_cast, x_blk, x_cd, ↓reduceIte, Nat.reduceEqDiff, List.map_cons, List.map_nil, Int.reduceEq, Int.lt_irrefl, fr, hM4.kb.int1, hk8]
      refine hJ (n - 1) _ _ ⟨i1 + 1, _, _, _, _, by omega, (by simp only [push_cast, ↓reduceIte, Nat.reduceEqDiff, true_and, and_true, and_self, eq_self, fr]), hM4, .inl ⟨?_, fun e => by omega⟩⟩ (by omega)
      simp only
      rw [if_neg (by omega)]
    have hk8' : k = 8 := by omega
    have hm3 : st1.names % 3 = 0 := by
      rcases hst with h | h
      · exact h.2 hk8'
      · exact h.2.2.1
    simp (disch := first | with_reducible assumption | omega) only [push_cast, x_blk, x_cd, ↓reduceIte, Nat.reduceEqDiff, List.map_cons, List.map_nil, Int.reduceEq, Int.lt_irrefl, fr, hM4.kb.int1, hk8]
    obtain ⟨st2, of2, hst2⟩ : ∃ st2 of2, PM g w.heap.size k ts en At ct nv of0 w w4 (i1 + 1) st2 of2 A2 c2 ∧ st2.next = .n ∧ st2.names = st1.names + 1 := ⟨_, _, hM4, by
      simp only; rw [if_pos hk8', if_pos (by omega)], rfl⟩
    clear hM4 hM hMu q1 q2 hSu hS0 SN hN bN oN kbN bA o3 g3 k3 kb3 k4 g4 hrN eN hgA hT1 hqN hBu hu hnm hst
    obtain ⟨hM, hn2, hnm2⟩ := hst2
    have hm2 : st2.names % 3 = 1 := by omega
    clear hnm2 hm3
    obtain ⟨wX, hwX⟩ : ∃ wX, wX = w4 := ⟨_, rfl⟩
    rw [← hwX] at hM ⊢
    clear hwX hp1
    obtain ⟨of1, ho1⟩ : ∃ of1, of1 = of2 := ⟨_, rfl⟩
    obtain ⟨A1, hA1⟩ : ∃ A1, A1 = A2 := ⟨_, rfl⟩
    obtain ⟨c1, hc1⟩ : ∃ c1, c1 = c2 := ⟨_, rfl⟩
    rw [← ho1, ← hA1, ← hc1] at hM
    clear ho1 hA1 hc1
    have hMu := hM.same (Same.refl wX).drew
    have hBu := hMu.kb.lt
    have hle0 := fsel_le ts of1 k
    have htl := hMu.h.le
    have hile := hMu.ile
    generalize hu : wX.drew = u at *
    obtain ⟨S0, hS0⟩ : ∃ S0 : World → Prop, ∀ w', S0 w' ↔ (Blk w' w.heap.size 3 [.int .i64 k] ∧ ∃ j : Int, Blk w' g 49 (pcells At ts.length ct j en (nv.set k (.slice A1 (fsel ts of1 k).length c1)))) := ⟨_, fun _ => Iff.rfl⟩
    have hSu := (hS0 u).2 ⟨hMu.kb, _, hMu.h.k⟩
    refine ⟨S0, hSu, ?_⟩
    have q1 := fun {K : Fr → World → Prop} {f : Fr} {d : Option Nat} => valS_of (P := Tryd.prog) (S := S0) (K := K) (f := f) (d := d) (w := u) (s := Instr.loadAt 3 (.pointer (some ⟨w.heap.size, 0, none⟩))) (v := .int .i64 k) (fun w' hw => by rw [((hS0 w').1 hw).1.int1]; rfl) hSu
    have q2 := fun {K : Fr → World → Prop} {f : Fr} {d : Option Nat} => valS_of (P := Tryd.prog) (S := S0) (K := K) (f := f) (d := d) (w := u) (s := Instr.loadAt 45 (.pointer (some ⟨g, 3 + k, none⟩))) (v := .slice A1 (fsel ts of1 k).length c1) (fun w' hw => by obtain ⟨_, j, hj⟩ := (hS0 w').1 hw; rw [hj.pN hkn]; rfl) hSu
    simp (disch := first | with_reducible assumption | omega) only [push_cast, x_blk, x_cd, ↓reduceIte, Nat.reduceEqDiff, List.map_cons, List.map_nil, Int.reduceEq, Int.lt_irrefl, fr, q1, q2, hk]
    refine call2_of (text_name hMu.h (by omega)) ?_ ?_
    · rintro ch wP ⟨hch, hqP, bP⟩
      refine hPn _ _ ⟨_, hM.r.fbad (fstep_n (by exact hn2) (by unfold isName at hqP; exact of_decide_eq_false hqP)) (by rw [hM.p]; omega), hch, hMu.b.trans (bP.mono (by omega))⟩
    rintro v wN ⟨rfl, hqN, hN, bN⟩
    have SN := (hS0 wN).2 ⟨hMu.kb.but bN hBu (by omega), _, hN.k⟩
    simp (disch := first | with_reducible assumption | omega) only [push_cast, x_blk, x_cd, ↓reduceIte, Nat.reduceEqDiff, List.map_cons, List.map_nil, Int.reduceEq, Int.lt_irrefl, fr]
    refine ⟨SN, ?_⟩
    have hT1 : (peekT ts en (i1 + 1)).k = 1 := by unfold isName at hqN; exact of_decide_eq_true hqN
    have hs1 : fstep st2 (peekT ts en (i1 + 1)) = some (⟨k, st2.names + 1, .n⟩, (k : Int)) := by
      rw [fstep_name (.inl hn2) hT1, hM.p, if_pos hk8', if_pos (by omega)]
    obtain ⟨hr1, e1⟩ := one_name (k := k) hMu.r hs1
    refine call2_of (text_name hN (by omega)) ?_ ?_
    · rintro ch wP ⟨hch, hqP, bP⟩
      exact hPn _ _ ⟨_, hr1.fbad (fstep_n rfl (by unfold isName at hqP; exact of_decide_eq_false hqP)) (by simp only; omega), hch, hMu.b.trans ((bN.mono (by omega)).trans (bP.mono (by have := bN.size; omega)))⟩
    rintro v wM ⟨rfl, hqM, hNM, bM⟩
    have bNM : But u.heap.size g u wM := bN.trans (bM.mono bN.size)
    have SM := (hS0 wM).2 ⟨hMu.kb.but bNM hBu (by omega), _, hNM.k⟩
    have hT2 : (peekT ts en (i1 + 1 + 1)).k = 1 := by unfold isName at hqM; exact of_decide_eq_true hqM
    have hs2 : fstep ⟨k, st2.names + 1, .n⟩ (peekT ts en (i1 + 1 + 1)) = some (⟨k, st2.names + 2, .z⟩, (k : Int)) := by
      rw [fstep_name (.inl rfl) hT2]
      simp only
      rw [if_pos hk8', if_neg (by omega)]
    obtain ⟨hr2, e2⟩ := two_names (k := k) hMu.r hs1 hs2
    simp (disch := first | with_reducible assumption | omega) only [push_cast, x_blk, x_cd, ↓reduceIte, Nat.reduceEqDiff, List.map_cons, List.map_nil, Int.reduceEq, Int.lt_irrefl, fr, bsl2_tok slT_45 (peekT ts en (i1 + 1)) (peekT ts en (i1 + 1 + 1)), hk]
    have oM := hMu.own hg bNM
    have kbM := hMu.kb.but bNM hBu (by omega)
    have bA : Below wM.heap.size wM (wM.alloc (.cells ((peekT ts en (i1 + 1)).cells ++ (peekT ts en (i1 + 1 + 1)).cells).toArray 53)) := (Below.refl _ _).alloc (Nat.le_refl _) _
    have hzM := bNM.size
    refine ⟨SM, (hS0 _).2 ⟨kbM.below bA kbM.lt, _, hNM.k.below bA hNM.k.lt⟩, ?_⟩
    refine app_2tok slT_45 oM (peekT ts en (i1 + 1)) (peekT ts en (i1 + 1 + 1)) (by omega) (by omega) (by omega) ?_
    intro A2 c2 w3 o3 g3 z3
    simp (disch := first | with_reducible assumption | omega) only [push_cast, x_blk, x_cd, ↓reduceIte, Nat.reduceEqDiff, List.map_cons, List.map_nil, Int.reduceEq, Int.lt_irrefl, hk]
    have hgA : ∀ b, b ≤ w.heap.size → some b ≠ A1.map (·.block) := fun b hb => by
      cases hA : A1 with
      | none => simp
      | some a => have := hMu.o.geB a hA; simp; omega
    have k3 := hNM.k.grown g3.by_ (hgA g (by omega))
    have kb3 := kbM.grown g3.by_ (hgA _ (Nat.le_refl _))
    refine ⟨(hS0 w3).2 ⟨kb3, _, k3⟩, ?_⟩
    refine sto_slice k3 sz_tks (3 + k) (by simp; omega) A2 ((fsel ts of1 k).length + 2) c2 ?_
    intro w4 k4 g4 z4
    refine ⟨fun _ => True, trivial, ?_⟩
    have hM4 := hMu.names (X := [peekT ts en (i1 + 1), peekT ts en (i1 + 1 + 1)]) hg hkn hr2 e2 rfl hNM bNM o3 g3 k4 g4
    clear q1 q2 hSu hS0 SN hN bN kbM bA o3 g3 k3 kb3 k4 g4 hgA hqN hqM hBu hu hM hMu
    have hi3 : i1 + 1 + 2 = i1 + 3 := rfl
    rw [hi3] at hM4
    have hile3 := hM4.ile
    simp (disch := first | with_reducible assumption | omega) only [push_cast, x_blk, x_cd, ↓reduceIte, Nat.reduceEqDiff, List.map_cons, List.map_nil, Int.reduceEq, Int.lt_irrefl, fr]
    refine call_of (text_peek hM4.h) ?_
    rintro v w5 ⟨rfl, b5⟩
    have hM5 := hM4.below b5
    by_cases hcm : (peekT ts en (i1 + 3)).s = comma
    case neg =>
      have hcm' : ((peekT ts en (i1 + 3)).s ≠ ⟨#[44]⟩) = True := eq_true hcm
      simp (disch := first | with_reducible assumption | omega) only [push_cast, x_blk, x_cd, ↓reduceIte, Nat.reduceEqDiff, List.map_cons, List.map_nil, Int.reduceEq, Int.lt_irrefl, fr, tk_f1, bin_strne, hcm']
      exact hE _ _ ⟨_, _, _, _, _, (by simp only [push_cast, ↓reduceIte, Nat.reduceEqDiff, true_and, and_true, and_self, eq_self, fr]), hM5, .inr ⟨rfl, hcm⟩⟩
    have hcm' : ((peekT ts en (i1 + 3)).s ≠ ⟨#[44]⟩) = False := eq_false (fun h => h hcm)
    obtain ⟨hsg, hs3⟩ := fstep_comma (st := ⟨k, st2.names + 2, .z⟩) (peek_ok hTk en (i1 + 3)) rfl hcm
    simp (disch := first | with_reducible assumption | omega) only [push_cast, x_blk, x_cd, ↓reduceIte, Nat.reduceEqDiff, List.map_cons, List.map_nil, Int.reduceEq, Int.lt_irrefl, fr, tk_f1, bin_strne, hcm']
    refine call2_of (text_sign hM5.h (by omega) comma) ?_ ?_
    · rintro ch wP ⟨_, hqP, _⟩
      rw [hsg] at hqP; cases hqP
    rintro v w6 ⟨rfl, _, h6, b6⟩
    have hM6 := hM5.sign hg hs3 rfl h6 b6
    have hile4 := hM6.ile
    simp (disch := first | with_reducible assumption | omega) only [push_cast, x_blk, x_cd, ↓reduceIte, Nat.reduceEqDiff, List.map_cons, List.map_nil, Int.reduceEq, Int.lt_irrefl, fr]
    refine call_of (text_peek hM6.h) ?_
    rintro v w7 ⟨rfl, b7⟩
    have hM7 := hM6.below b7
    simp (disch := first | with_reducible assumption | omega) only [push_cast, x_blk, x_cd, ↓reduceIte, Nat.reduceEqDiff, List.map_cons, List.map_nil, Int.reduceEq, Int.lt_irrefl, fr, tk_f0]
    refine call_of (text_peek hM7.h) ?_
    rintro v w8 ⟨rfl, b8⟩
    have hM8 := hM7.below b8
    simp (disch := first | with_reducible assumption | omega) only [push_cast, x_blk, x_cd, ↓reduceIte, Nat.reduceEqDiff, List.map_cons, List.map_nil, Int.reduceEq, Int.lt_irrefl, fr, tk_f2]
    refine call2_of (text_must (decide ((peekT ts en (i1 + 3 + 1)).k = 1)) 2 (peekT ts en (i1 + 3 + 1)).at_ w8) ?_ ?_
    · rintro ch wP ⟨hch, hqP, sP⟩
      exact hPn _ _ ⟨_, hM8.r.fbad (fstep_n rfl (of_decide_eq_false hqP)) (by simp only; omega), hch, (hM8.same sP).b⟩
    rintro v w9 ⟨rfl, hq9, s9⟩
    have hM9 := hM8.same s9
    simp (disch := first | with_reducible assumption | omega) only [push_cast, x_blk, x_cd, ↓reduceIte, Nat.reduceEqDiff, List.map_cons, List.map_nil, Int.reduceEq, Int.lt_irrefl, fr]
    exact hJ (n - 4) _ _ ⟨i1 + 3 + 1, _, _, _, _, by omega, (by simp only [push_cast, ↓reduceIte, Nat.reduceEqDiff, true_and, and_true, and_self, eq_self, fr]), hM9, .inr ⟨rfl, hk8', by simp only; omega, of_decide_eq_true hq9⟩⟩ (by omega)
  · rintro f w3 ⟨i1, st1, of1, A1, c1, fr, hM, hst⟩
    have hile := hM.ile
    simp (disch := first | with_reducible assumption | omega) only [push_cast, x_blk, x_cd, ↓reduceIte, Nat.reduceEqDiff, List.map_cons, List.map_nil, Int.reduceEq, Int.lt_irrefl, fr]
    have hst' := fstep_semi (peek_ok hTk en i1) hst
    refine call2_of (text_sign hM.h (by omega) semi) ?_ ?_
    · rintro ch wP ⟨hch, hqP, bP⟩
      rw [hqP] at hst'
      exact hPn _ _ ⟨_, hM.r.fbad hst' (by rw [hM.p]; omega), hch, hM.b.trans (bP.mono (Nat.le_of_lt hM.kb.lt))⟩
    rintro v w4 ⟨rfl, hq, h4, b4⟩
    rw [hq, if_pos rfl] at hst'
    obtain ⟨hi, hr4⟩ := hM.r.next hst'
    have e : ∀ j, fsel ts (of1 ++ [-1]) j = fsel ts of1 j := fun j => fsel_neg ts of1 j (by rw [hM.r.len]; exact hi)
    simp (disch := first | with_reducible assumption | omega) only [push_cast, x_blk, x_cd, ↓reduceIte, Nat.reduceEqDiff, List.map_cons, List.map_nil, Int.reduceEq, Int.lt_irrefl, fr]
    exact fin_0 (hQ _ _ ⟨rfl, _, _, _, A1, c1, ⟨hr4, by rw [e]; exact h4, by rw [e]; exact hM.own hg b4, hM.b.trans (b4.mono (Nat.le_of_lt hM.kb.lt)), fun j hj => by rw [e]; exact hM.oth j hj, by simp only; rw [hM.p], rfl⟩⟩)
end Go.Proofs.YtpinjiikiaakaaaDoor

/-
  slices.Sort on a short row of distinct integers of one's own: by its contract.
-/
namespace Go.Proofs.YtpinjiikiaakaaaDoor
set_option linter.unusedSimpArgs false
set_option linter.unusedVariables false
set_option linter.unusedSectionVars false
open Go.RowKit

abbrev len8 : ByteArray := ByteArray.mk (List.toArray (List.append (List.append [0, 1, 2, 2, 3, 3, 3, 3, 4, 4, 4, 4, 4, 4, 4, 4, 5, 5, 5, 5, 5, 5, 5, 5, 5, 5, 5, 5, 5, 5, 5, 5, 6, 6, 6, 6, 6, 6, 6, 6, 6, 6, 6, 6, 6, 6, 6, 6, 6, 6, 6, 6, 6, 6, 6, 6, 6, 6, 6, 6, 6, 6, 6, 6] [7, 7, 7, 7, 7, 7, 7, 7, 7, 7, 7, 7, 7, 7, 7, 7, 7, 7, 7, 7, 7, 7, 7, 7, 7, 7, 7, 7, 7, 7, 7, 7, 7, 7, 7, 7, 7, 7, 7, 7, 7, 7, 7, 7, 7, 7, 7, 7, 7, 7, 7, 7, 7, 7, 7, 7, 7, 7, 7, 7, 7, 7, 7, 7]) (List.append [8, 8, 8, 8, 8, 8, 8, 8, 8, 8, 8, 8, 8, 8, 8, 8, 8, 8, 8, 8, 8, 8, 8, 8, 8, 8, 8, 8, 8, 8, 8, 8, 8, 8, 8, 8, 8, 8, 8, 8, 8, 8, 8, 8, 8, 8, 8, 8, 8, 8, 8, 8, 8, 8, 8, 8, 8, 8, 8, 8, 8, 8, 8, 8] [8, 8, 8, 8, 8, 8, 8, 8, 8, 8, 8, 8, 8, 8, 8, 8, 8, 8, 8, 8, 8, 8, 8, 8, 8, 8, 8, 8, 8, 8, 8, 8, 8, 8, 8, 8, 8, 8, 8, 8, 8, 8, 8, 8, 8, 8, 8, 8, 8, 8, 8, 8, 8, 8, 8, 8, 8, 8, 8, 8, 8, 8, 8, 8])))
theorem len8_size : len8.size = 256 := by kernel_rfl
theorem math_Len64 {w : World} (n : Nat) (hn : n < 256) : Cal Tryd.prog 79 [.int .u64 n] w fun v w' => (∃ q : Int, v = .int .i64 q) ∧ Same w w' := by
  refine cal_math_bits_Len64 (by simp) 10000 fun Q hQ => ?_
  have h1 : ¬ (4294967296 : Int) ≤ (n : Int) := by omega
  have h2 : ¬ (65536 : Int) ≤ (n : Int) := by omega
  have h3 : ¬ (256 : Int) ≤ (n : Int) := by omega
  simp (disch := first | with_reducible assumption | omega) only [push_cast, x_blk, x_cd, ↓reduceIte, Nat.reduceEqDiff, List.map_cons, List.map_nil, Int.reduceEq, Int.lt_irrefl, F_math_bits_Len64, h1, h2, h3, e_conv]
  rw [eff1_of (v := .int .u8 n) (w' := w) (by simp [convert, run_underlying Tryd.underlying5, run_underlying Tryd.underlying117, Conv.intToInt, IntKind.wrap, IntKind.bits, IntKind.signed]; omega)]
  have hb : byt len8 n < 256 := by unfold byt; have := UInt8.toNat_lt (len8.data.toList.getD n 0); omega
  have hb0 : 0 ≤ byt len8 n := by unfold byt; omega
  have hix := fun {K : Fr → World → Prop} {u : World} {f : Fr} {d : Option Nat} {w : World} => ix_str' (K := K) (u := u) (f := f) (d := d) (w := w) len8 .u8 n (by rw [len8_size]; exact hn)
  generalize byt len8 n = y at *
  simp (disch := first | with_reducible assumption | omega) only [push_cast, x_blk, x_cd, ↓reduceIte, Nat.reduceEqDiff, List.map_cons, List.map_nil, Int.reduceEq, Int.lt_irrefl, hix, e_conv]
  rw [eff1_of (v := .int .i64 y) (w' := w) (by simp [convert, run_underlying Tryd.underlying5, run_underlying Tryd.underlying3, Conv.intToInt, wrap_i64 y (by omega) (by omega)])]
  simp (disch := first | with_reducible assumption | omega) only [push_cast, x_blk, x_cd, ↓reduceIte, Nat.reduceEqDiff, List.map_cons, List.map_nil, Int.reduceEq, Int.lt_irrefl, Int.zero_add]
  exact fin_1 (hQ _ _ ⟨⟨y, (by simp only [push_cast, ↓reduceIte, Nat.reduceEqDiff, Int.reduceEq])⟩, Same.refl w⟩)
theorem math_Len {w : World} (n : Nat) (hn : n < 256) : Cal Tryd.prog 60 [.int .u64 n] w fun v w' => (∃ q : Int, v = .int .i64 q) ∧ Same w w' := by
  refine cal_math_bits_Len (by simp) 10000 fun Q hQ => ?_
  simp (disch := first | with_reducible assumption | omega) only [push_cast, x_blk, x_cd, ↓reduceIte, Nat.reduceEqDiff, List.map_cons, List.map_nil, Int.reduceEq, Int.lt_irrefl, F_math_bits_Len]
  refine call_of (math_Len64 n hn) ?_
  rintro v w1 ⟨⟨q, rfl⟩, s1⟩
  simp (disch := first | with_reducible assumption | omega) only [push_cast, x_blk, x_cd, ↓reduceIte, Nat.reduceEqDiff, List.map_cons, List.map_nil, Int.reduceEq, Int.lt_irrefl]
  exact fin_1 (hQ _ _ ⟨⟨q, (by simp only [push_cast, ↓reduceIte, Nat.reduceEqDiff, Int.reduceEq])⟩, s1⟩)
theorem cmp_Less (a b : Int) (w : World) : Cal Tryd.prog 75 [.int .i64 a, .int .i64 b] w fun v w' => v = .bool (decide (a < b)) ∧ Same w w' := by
  refine cal_cmp_Less (by simp) 10000 fun Q hQ => ?_
  simp (disch := first | with_reducible assumption | omega) only [push_cast, x_blk, x_cd, ↓reduceIte, Nat.reduceEqDiff, List.map_cons, List.map_nil, Int.reduceEq, Int.lt_irrefl, F_cmp_Less]
  refine call_of (cmp_isNaN a w) ?_
  rintro v w1 ⟨rfl, s1⟩
  by_cases h : a < b
  · have e := eq_true h
    simp (disch := first | with_reducible assumption | omega) only [push_cast, x_blk, x_cd, ↓reduceIte, Nat.reduceEqDiff, List.map_cons, List.map_nil, Int.reduceEq, Int.lt_irrefl, e]
    exact fin_1 (hQ _ _ ⟨by simp only [push_cast, ↓reduceIte, Nat.reduceEqDiff, e], s1⟩)
  · have e := eq_false h
    simp (disch := first | with_reducible assumption | omega) only [push_cast, x_blk, x_cd, ↓reduceIte, Nat.reduceEqDiff, List.map_cons, List.map_nil, Int.reduceEq, Int.lt_irrefl, e]
    exact fin_1 (hQ _ _ ⟨by simp only [push_cast, ↓reduceIte, Nat.reduceEqDiff, e], s1⟩)
structure InsI (l0 m : List Int) (i j : Nat) : Prop where
  perm : m.Perm l0
  ord : ∀ p q, p < q → q ≤ i → p ≠ j → q ≠ j → m.getD p 0 < m.getD q 0
  gt : ∀ q, j < q → q ≤ i → m.getD j 0 < m.getD q 0
structure InsO (l0 m : List Int) (i : Nat) : Prop where
  perm : m.Perm l0
  ord : ∀ p q, p < q → q < i → m.getD p 0 < m.getD q 0
theorem InsO.go {l0 m : List Int} {i : Nat} (h : InsO l0 m i) : InsI l0 m i i := ⟨h.perm, fun p q hpq hq _ hn => h.ord p q hpq (by omega), fun q h1 h2 => by omega⟩
theorem getD_swap (m : List Int) (q : Nat) (hq : q + 1 < m.length) (r : Nat) : ((m.set (q + 1) (m.getD q 0)).set q (m.getD (q + 1) 0)).getD r 0 = if r = q then m.getD (q + 1) 0 else if r = q + 1 then m.getD q 0 else m.getD r 0 := by
  simp only [List.getD_eq_getElem?_getD, List.getElem?_set, List.length_set]
  by_cases h1 : r = q
  · subst h1; simp; rw [if_pos (by omega)]; rfl
  · rw [if_neg h1, if_neg (fun e => h1 e.symm)]
    by_cases h2 : r = q + 1
    · subst h2; simp [hq]
    · rw [if_neg h2, if_neg (fun e => h2 e.symm)]
theorem InsI.swap {l0 m : List Int} {i q : Nat} (h : InsI l0 m i (q + 1)) (hi : i < m.length) (hq : q + 1 ≤ i) (hlt : m.getD (q + 1) 0 < m.getD q 0) : InsI l0 ((m.set (q + 1) (m.getD q 0)).set q (m.getD (q + 1) 0)) i q := by
  have hg := getD_swap m q (by omega)
  refine ⟨?_, fun p r hpr hr hp hr' => ?_, fun r h1 h2 => ?_⟩
  · have := List.set_set_perm (show q + 1 < m.length by omega) (show q < m.length by omega)
    rw [List.getD_eq_getElem?_getD, List.getElem?_eq_getElem (show q < m.length by omega), List.getD_eq_getElem?_getD, List.getElem?_eq_getElem (show q + 1 < m.length by omega)]
    exact this.trans h.perm
  · rw [hg, hg, if_neg hp, if_neg hr']
    by_cases a : p = q + 1
    · rw [if_pos a, if_neg (by omega)]; exact h.ord q r (by omega) hr (by omega) (by omega)
    · rw [if_neg a]
      by_cases b : r = q + 1
      · rw [if_pos b]; exact h.ord p q (by omega) (by omega) (by omega) (by omega)
      · rw [if_neg b]; exact h.ord p r hpr hr (by omega) (by omega)
  · rw [hg, hg, if_pos rfl, if_neg (by omega)]
    by_cases b : r = q + 1
    · rw [if_pos b]; exact hlt
    · rw [if_neg b]; exact h.gt r (by omega) h2
theorem InsI.done {l0 m : List Int} {i j : Nat} (h : InsI l0 m i j) (hn : l0.Nodup) (hi : i < m.length) (hj : j ≤ i) (hx : j = 0 ∨ ¬ m.getD j 0 < m.getD (j - 1) 0) : InsO l0 m (i + 1) := by
  have hnm : m.Nodup := h.perm.nodup_iff.2 hn
  have hne : ∀ p q, p < q → q < m.length → m.getD p 0 ≠ m.getD q 0 := fun p q hpq hq he => by
    rw [List.getD_eq_getElem?_getD, List.getD_eq_getElem?_getD, List.getElem?_eq_getElem (show p < m.length by omega), List.getElem?_eq_getElem hq] at he
    exact List.pairwise_iff_getElem.1 hnm p q (by omega) hq hpq he
  refine ⟨h.perm, fun p r hpr hr => ?_⟩
  by_cases a : p = j
  · subst a; exact h.gt r hpr (by omega)
  by_cases b : r = j
  · subst b
    have hx' := hx.resolve_left (by omega)
    have h1 := hne (r - 1) r (by omega) (by omega)
    have h2 : m.getD (r - 1) 0 < m.getD r 0 := by omega
    by_cases c : p = r - 1
    · rw [c]; exact h2
    · have := h.ord p (r - 1) (by omega) (by omega) a (by omega); omega
  · exact h.ord p r hpr (by omega) a b
theorem InsO.sorted {l0 m : List Int} (h : InsO l0 m m.length) : m = sortedL l0 := by
  have hs : Strict m := List.pairwise_iff_getElem.2 fun p q hp hq hpq => by
    have := h.ord p q hpq hq
    rwa [List.getD_eq_getElem?_getD, List.getD_eq_getElem?_getD, List.getElem?_eq_getElem hp, List.getElem?_eq_getElem hq] at this
  exact Strict.ext hs (sortedL_spec l0).1 fun x => by rw [(sortedL_spec l0).2]; exact h.perm.mem_iff
theorem Grew.tr {w w1 w2 : World} {A : Option Addr} (h : Grew w w1 A) (h' : Grew w1 w2 A) : Grew w w2 A :=
  ⟨⟨h'.by_.os.trans h.by_.os, h'.by_.tape.trans h.by_.tape, h'.by_.output.trans h.by_.output, Nat.le_trans h.by_.size h'.by_.size, fun k hk hn => (h'.by_.block k (Nat.lt_of_lt_of_le hk h.by_.size) hn).trans (h.by_.block k hk hn)⟩⟩
theorem Grew.rf (w : World) (A : Option Addr) : Grew w w A := ⟨World.grownBy.refl w _⟩
theorem Grew.sm {w w1 : World} (h : Same w w1) (A : Option Addr) : Grew w w1 A := ⟨⟨(h.below 0).os, (h.below 0).tape, (h.below 0).output, (h.below 0).size, fun k hk _ => by rw [h.heap]⟩⟩
set_option maxHeartbeats 1000000 in
theorem sort_ins {B : Nat} {w : World} {A : Option Addr} {c : Nat} {l : List Int} (o : OwnI B 3 w A c l) (hn : l.Nodup) (hl : l.length ≤ 100) :
    Cal Tryd.prog 69 [.slice A l.length c, .int .i64 0, .int .i64 l.length] w fun v w' => v = .tuple #[] ∧ OwnI B 3 w' A c (sortedL l) ∧ Grew w w' A ∧ (sortedL l).length = l.length := by
  refine cal_slices_insertionSortOrdered (by simp) 100000 fun Q hQ => ?_
  simp (disch := first | with_reducible assumption | omega) only [push_cast, x_blk, x_cd, ↓reduceIte, Nat.reduceEqDiff, List.map_cons, List.map_nil, Int.reduceEq, Int.lt_irrefl, F_slices_insertionSortOrdered]
  refine loop_rule (fun f w' => ∃ (i : Nat) (m : List Int), 1 ≤ i ∧ (i ≤ l.length ∨ i = 1) ∧ m.length = l.length ∧ (f 0 = .slice A m.length c ∧ f 1 = .int .i64 0 ∧ f 2 = .int .i64 m.length ∧ f 6 = .int .i64 i) ∧ InsO l m i ∧ OwnI B 3 w' A c m ∧ Grew w w' A)
    (fun f _ => 200 - (intOf (f 6)).toNat) ⟨1, l, Nat.le_refl _, .inr rfl, rfl, ⟨rfl, rfl, rfl, rfl⟩, ⟨List.Perm.refl _, fun p q h1 h2 => by omega⟩, o, Grew.rf _ _⟩ ?_
  rintro f w1 ⟨i, m, hi1, hi, hml, fr, hI, o1, g1⟩ J hJ
  have hmu : (intOf (f 6)).toNat = i := by rw [fr.2.2.2]; simp [intOf]
  by_cases hlt : i < m.length
  case neg =>
    simp (disch := first | with_reducible assumption | omega) only [push_cast, x_blk, x_cd, ↓reduceIte, Nat.reduceEqDiff, List.map_cons, List.map_nil, Int.reduceEq, Int.lt_irrefl, L_slices_insertionSortOrdered_1, fr, hlt]
    have hs : m = sortedL l := by
      by_cases e : i = m.length
      · subst e; exact hI.sorted
      · have h1 : i = 1 := by omega
        have h0 : m.length = 0 := by omega
        have hm : m = [] := List.eq_nil_of_length_eq_zero h0
        have hl0 : l = [] := List.eq_nil_of_length_eq_zero (by omega)
        rw [hm, hl0]; rfl
    exact fin_0 (hQ _ _ ⟨rfl, by rw [← hs]; exact o1, g1, by rw [← hs]; exact hml⟩)
  simp (disch := first | with_reducible assumption | omega) only [push_cast, x_blk, x_cd, ↓reduceIte, Nat.reduceEqDiff, List.map_cons, List.map_nil, Int.reduceEq, Int.lt_irrefl, L_slices_insertionSortOrdered_1, fr, hlt]
  have sA := o1.isSome (by omega)
  refine loop_rule (fun f w' => ∃ (j : Nat) (m : List Int), j ≤ i ∧ m.length = l.length ∧ (f 0 = .slice A m.length c ∧ f 1 = .int .i64 0 ∧ f 2 = .int .i64 m.length ∧ f 6 = .int .i64 i ∧ f 7 = .int .i64 j) ∧ InsI l m i j ∧ OwnI B 3 w' A c m ∧ Grew w w' A)
    (fun f _ => (intOf (f 7)).toNat) ⟨i, m, Nat.le_refl _, hml, (by simp only [push_cast, ↓reduceIte, Nat.reduceEqDiff, true_and, and_true, and_self, eq_self, fr, fr]), hI.go, o1, g1⟩ ?_
  clear hI o1 g1 fr
  rintro f w2 ⟨j, m', hj, hml', fr, hI, o2, g2⟩ J2 hJ2
  have hmu2 : (intOf (f 7)).toNat = j := by rw [fr.2.2.2.2]; simp [intOf]
  have sd := (Same.refl w2).drew
  have o3 := o2.same sd
  have g3 := g2.tr (Grew.sm sd A)
  generalize hu : w2.drew = u at *
  cases j with
  | zero =>
    simp (disch := first | with_reducible assumption | omega) only [push_cast, x_blk, x_cd, ↓reduceIte, Nat.reduceEqDiff, List.map_cons, List.map_nil, Int.reduceEq, Int.lt_irrefl, L_slices_insertionSortOrdered_0, fr, hu]
    exact hJ _ _ ⟨i + 1, m', by omega, .inl (by omega), hml', (by simp only [push_cast, ↓reduceIte, Nat.reduceEqDiff, true_and, and_true, and_self, eq_self, fr, fr]), hI.done hn (by omega) (Nat.zero_le _) (.inl rfl), o3, g3⟩ (by rw [hmu]; simp only [push_cast, ↓reduceIte, Nat.reduceEqDiff, intOf, fr]; omega)
  | succ q =>
  have t1 : ((q : Int) + 1).toNat = q + 1 := by omega
  have t2 : (q : Int) + 1 - 1 = (q : Int) := by omega
  have hq1 : q + 1 < m'.length := by omega
  have hq0 : q < m'.length := by omega
  have hp0 : (0 : Int) < (q : Int) + 1 := by omega
  have hc1 : (q : Int) + 1 < (m'.length : Int) := by omega
  have ld0 := fun {K : Fr → World → Prop} {f : Fr} {d : Option Nat} {w : World} => (OwnI.ints o3).ld (P := Tryd.prog) (K := K) (f := f) (d := d) (w := w) ty_ag_3 q hq0
  have ld1 := fun {K : Fr → World → Prop} {f : Fr} {d : Option Nat} {w : World} => (OwnI.ints o3).ld (P := Tryd.prog) (K := K) (f := f) (d := d) (w := w) ty_ag_3 (q + 1) hq1
  simp (disch := first | with_reducible assumption | omega) only [push_cast, x_blk, x_cd, ↓reduceIte, Nat.reduceEqDiff, List.map_cons, List.map_nil, Int.reduceEq, Int.lt_irrefl, L_slices_insertionSortOrdered_0, fr, hu, sA, t1, t2, hc1, hq0, ld0, ld1, hp0]
  refine call_of (cmp_Less (m'.getD (q + 1) 0) (m'.getD q 0) u) ?_
  rintro v w3 ⟨rfl, s3⟩
  by_cases hlt2 : m'.getD (q + 1) 0 < m'.getD q 0
  case neg =>
    simp (disch := first | with_reducible assumption | omega) only [push_cast, x_blk, x_cd, ↓reduceIte, Nat.reduceEqDiff, List.map_cons, List.map_nil, Int.reduceEq, Int.lt_irrefl, fr, hlt2]
    exact hJ _ _ ⟨i + 1, m', by omega, .inl (by omega), hml', (by simp only [push_cast, ↓reduceIte, Nat.reduceEqDiff, true_and, and_true, and_self, eq_self, fr, fr]), hI.done hn (by omega) hj (.inr (by rw [Nat.add_sub_cancel]; exact hlt2)), o3.same s3, g3.tr (Grew.sm s3 A)⟩ (by rw [hmu]; simp only [push_cast, ↓reduceIte, Nat.reduceEqDiff, intOf, fr]; omega)
  have el := eq_true hlt2
  simp (disch := first | with_reducible assumption | omega) only [push_cast, x_blk, x_cd, ↓reduceIte, Nat.reduceEqDiff, List.map_cons, List.map_nil, Int.reduceEq, Int.lt_irrefl, fr, el]
  clear ld0 ld1
  have sd2 := s3.trans (Same.refl w3).drew
  have o4 := o3.same sd2
  have g4 := g3.tr (Grew.sm sd2 A)
  generalize hu2 : w3.drew = u2 at *
  obtain ⟨S0, hS0⟩ : ∃ S0 : World → Prop, ∀ w', S0 w' ↔ OwnI B 3 w' A c m' := ⟨_, fun _ => Iff.rfl⟩
  have hSu := (hS0 u2).2 o4
  refine ⟨S0, hSu, ?_⟩
  have q1 := fun {K : Fr → World → Prop} {f : Fr} {d : Option Nat} => valS_of (P := Tryd.prog) (S := S0) (K := K) (f := f) (d := d) (w := u2) (s := Instr.loadAt 3 (.pointer (some (eA A q)))) (v := .int .i64 (m'.getD q 0)) (fun w' hw => by rw [(OwnI.ints ((hS0 w').1 hw)).ld ty_ag_3 q hq0]; rfl) hSu
  have q2 := fun {K : Fr → World → Prop} {f : Fr} {d : Option Nat} => valS_of (P := Tryd.prog) (S := S0) (K := K) (f := f) (d := d) (w := u2) (s := Instr.loadAt 3 (.pointer (some (eA A (q + 1))))) (v := .int .i64 (m'.getD (q + 1) 0)) (fun w' hw => by rw [(OwnI.ints ((hS0 w').1 hw)).ld ty_ag_3 (q + 1) hq1]; rfl) hSu
  simp (disch := first | with_reducible assumption | omega) only [push_cast, x_blk, x_cd, ↓reduceIte, Nat.reduceEqDiff, List.map_cons, List.map_nil, Int.reduceEq, Int.lt_irrefl, fr, q1, q2, sA, t1, t2, hc1, hq0]
  refine sto_int ty_ag_3 ty_sz_int o4 (q + 1) hq1 _ ?_
  intro w5 o5 g5 z5
  refine ⟨fun _ => True, trivial, ?_⟩
  simp (disch := first | with_reducible assumption | omega) only [push_cast, x_blk, x_cd, ↓reduceIte, Nat.reduceEqDiff, List.map_cons, List.map_nil, Int.reduceEq, Int.lt_irrefl, fr, sA, t1, t2, hc1, hq0]
  refine sto_int ty_ag_3 ty_sz_int o5 q (by rw [List.length_set]; exact hq0) _ ?_
  intro w6 o6 g6 z6
  refine ⟨fun _ => True, trivial, ?_⟩
  simp (disch := first | with_reducible assumption | omega) only [push_cast, x_blk, x_cd, ↓reduceIte, Nat.reduceEqDiff, List.map_cons, List.map_nil, Int.reduceEq, Int.lt_irrefl, fr, t2]
  exact hJ2 _ _ ⟨q, _, by omega, by rw [List.length_set, List.length_set]; exact hml', (by simp only [push_cast, ↓reduceIte, Nat.reduceEqDiff, true_and, and_true, and_self, eq_self, fr, List.length_set, t2]), hI.swap (by omega) hj hlt2, o6, g4.tr (g5.tr g6)⟩ (by rw [hmu2]; simp only [push_cast, ↓reduceIte, Nat.reduceEqDiff, intOf, fr, t2]; omega)
theorem sort_pdq {B : Nat} {w : World} {A : Option Addr} {c : Nat} {l : List Int} (o : OwnI B 3 w A c l) (hn : l.Nodup) (hl : l.length ≤ 12) (q : Int) :
    Cal Tryd.prog 59 [.slice A l.length c, .int .i64 0, .int .i64 l.length, .int .i64 q] w fun v w' => v = .tuple #[] ∧ OwnI B 3 w' A c (sortedL l) ∧ Grew w w' A ∧ (sortedL l).length = l.length := by
  refine cal_slices_pdqsortOrdered (by simp) 100000 fun Q hQ => ?_
  simp (disch := first | with_reducible assumption | omega) only [push_cast, x_blk, x_cd, ↓reduceIte, Nat.reduceEqDiff, List.map_cons, List.map_nil, Int.reduceEq, Int.lt_irrefl, F_slices_pdqsortOrdered]
  refine loop_rule (fun f w' => (f 0 = .slice A l.length c ∧ f 1 = .int .i64 0 ∧ f 2 = .int .i64 l.length) ∧ w' = w) (fun _ _ => 0) ⟨⟨rfl, rfl, rfl⟩, rfl⟩ ?_
  rintro f w1 ⟨fr, rfl⟩ J _
  have hc : ((l.length : Int) ≤ 12) = True := eq_true (by omega)
  simp (disch := first | with_reducible assumption | omega) only [push_cast, x_blk, x_cd, ↓reduceIte, Nat.reduceEqDiff, List.map_cons, List.map_nil, Int.reduceEq, Int.lt_irrefl, L_slices_pdqsortOrdered_0, fr, Int.sub_zero, hc]
  refine call_of (sort_ins o hn (by omega)) ?_
  rintro v w2 ⟨rfl, h⟩
  simp (disch := first | with_reducible assumption | omega) only [push_cast, x_blk, x_cd, ↓reduceIte, Nat.reduceEqDiff, List.map_cons, List.map_nil, Int.reduceEq, Int.lt_irrefl]
  exact fin_0 (hQ _ _ ⟨rfl, h⟩)
theorem slices_Sort {B : Nat} {w : World} {A : Option Addr} {c : Nat} {l : List Int} (o : OwnI B 3 w A c l) (hn : l.Nodup) (hl : l.length ≤ 12) :
    Cal Tryd.prog 40 [.slice A l.length c] w fun v w' => v = .tuple #[] ∧ OwnI B 3 w' A c (sortedL l) ∧ Grew w w' A ∧ (sortedL l).length = l.length := by
  refine cal_slices_Sort (by simp) 10000 fun Q hQ => ?_
  simp (disch := first | with_reducible assumption | omega) only [push_cast, x_blk, x_cd, ↓reduceIte, Nat.reduceEqDiff, List.map_cons, List.map_nil, Int.reduceEq, Int.lt_irrefl, F_slices_Sort, e_conv]
  rw [eff1_of (v := .int .u64 l.length) (w' := w) (by simp [convert, run_underlying Tryd.underlying3, run_underlying Tryd.underlying100, Conv.intToInt, IntKind.wrap, IntKind.bits, IntKind.signed]; omega)]
  simp (disch := first | with_reducible assumption | omega) only [push_cast, x_blk, x_cd, ↓reduceIte, Nat.reduceEqDiff, List.map_cons, List.map_nil, Int.reduceEq, Int.lt_irrefl]
  refine call_of (math_Len l.length (by omega)) ?_
  rintro v w1 ⟨⟨q, rfl⟩, s1⟩
  simp (disch := first | with_reducible assumption | omega) only [push_cast, x_blk, x_cd, ↓reduceIte, Nat.reduceEqDiff, List.map_cons, List.map_nil, Int.reduceEq, Int.lt_irrefl]
  refine call_of (sort_pdq (o.same s1) hn hl q) ?_
  rintro v w2 ⟨rfl, h1, h2, h3⟩
  simp (disch := first | with_reducible assumption | omega) only [push_cast, x_blk, x_cd, ↓reduceIte, Nat.reduceEqDiff, List.map_cons, List.map_nil, Int.reduceEq, Int.lt_irrefl]
  exact fin_0 (hQ _ _ ⟨rfl, h1, (Grew.sm s1 A).tr h2, h3⟩)
end Go.Proofs.YtpinjiikiaakaaaDoor

/-
  Names and numbers of a text: number, declared, rows: by their contracts.
-/
namespace Go.Proofs.YtpinjiikiaakaaaDoor
set_option linter.unusedSimpArgs false
set_option linter.unusedVariables false
set_option linter.unusedSectionVars false
open Go.RowKit

theorem Strs.up' {w w' : World} {A : Option Addr} {l : List ByteArray} (h : Strs (· < w.heap.size) w A l) (b : Below w.heap.size w w') : Strs (· < w'.heap.size) w' A l :=
  (Recs.keep h fun _ hl => b.block _ hl).mono fun _ hl => Nat.lt_of_lt_of_le hl b.size
theorem Toks.up {w w' : World} {A : Option Addr} {l : List Tok} (h : Recs Tok.cells 3 (· < w.heap.size) w A l) (b : Below w.heap.size w w') : Recs Tok.cells 3 (· < w'.heap.size) w' A l :=
  (Recs.keep h fun _ hl => b.block _ hl).mono fun _ hl => Nat.lt_of_lt_of_le hl b.size
theorem text_number {w : World} {A : Option Addr} {names : List ByteArray} (h : Strs (· < w.heap.size) w A names) (c : Nat) (hl : names.length ≤ 100) (t : Tok) :
    Cal2 Tryd.prog 38 [.slice A names.length c, .agg t.cells.toArray] w (fun v w' => v = .int .i64 (ixS t.s names) ∧ 0 ≤ ixS t.s names ∧ Below w.heap.size w w')
      (fun ch w' => ch = [{ v := badV 4 t.at_, recovered := false }] ∧ ixS t.s names < 0 ∧ Below w.heap.size w w') := by
  refine cal2_text_number (by simp) 1000 fun Q Qp hQ hP => ?_
  simp (disch := first | with_reducible assumption | omega) only [push_cast, x_blk, x_cd, ↓reduceIte, Nat.reduceEqDiff, List.map_cons, List.map_nil, Int.reduceEq, Int.lt_irrefl, F_text_number]
  refine blk_of (box_agg _ t.cells) ?_
  intro w1 k1 b1 z1
  simp (disch := first | with_reducible assumption | omega) only [push_cast, x_blk, x_cd, ↓reduceIte, Nat.reduceEqDiff, List.map_cons, List.map_nil, Int.reduceEq, Int.lt_irrefl, k1.t1]
  refine call_of (str_Index (h.up' b1) c (by omega) t.s) ?_
  rintro v w2 ⟨rfl, s2⟩
  have bb := b1.trans (s2.below _)
  simp (disch := first | with_reducible assumption | omega) only [push_cast, x_blk, x_cd, ↓reduceIte, Nat.reduceEqDiff, List.map_cons, List.map_nil, Int.reduceEq, Int.lt_irrefl, (k1.same s2).t2]
  refine call2_of (text_must (decide (0 ≤ ixS t.s names)) 4 t.at_ w2) ?_ ?_
  · rintro ch w3 ⟨hch, hp, s3⟩
    exact hP _ _ ⟨hch, by have := of_decide_eq_false hp; omega, bb.trans (s3.below _)⟩
  rintro v w3 ⟨rfl, hp, s3⟩
  simp (disch := first | with_reducible assumption | omega) only [push_cast, x_blk, x_cd, ↓reduceIte, Nat.reduceEqDiff, List.map_cons, List.map_nil, Int.reduceEq, Int.lt_irrefl]
  exact fin_1 (hQ _ _ ⟨by simp only [push_cast, ↓reduceIte, Nat.reduceEqDiff], of_decide_eq_true hp, bb.trans (s3.below _)⟩)
set_option maxHeartbeats 1000000 in
theorem text_declared {w : World} {At : Option Addr} {ts : List Tok} (h : Recs Tok.cells 3 (· < w.heap.size) w At ts) (ct : Nat) (hl : ts.length ≤ 4000) (most : Nat) (hm : most ≤ 100) :
    Cal2 Tryd.prog 15 [.slice At ts.length ct, .int .i64 most] w
      (fun v w' => ∃ S A c, decl most [] ts = .ok S ∧ S.length ≤ most ∧ v = .slice A S.length c ∧ OwnR strE w.heap.size 9 1 w' A c S ∧ Below w.heap.size w w')
      (fun ch w' => ∃ e a, decl most [] ts = .error (e, a) ∧ ch = [{ v := badV e a, recovered := false }] ∧ Below w.heap.size w w') := by
  refine cal2_text_declared (by simp) 100000 fun Q Qp hQ hP => ?_
  simp (disch := first | with_reducible assumption | omega) only [push_cast, x_blk, x_cd, ↓reduceIte, Nat.reduceEqDiff, List.map_cons, List.map_nil, Int.reduceEq, Int.lt_irrefl, F_text_declared]
  refine loop_rule (fun f w' => ∃ (k : Nat) (S : List ByteArray) (A : Option Addr) (c : Nat), k ≤ ts.length ∧ (f 1 = .int .i64 most ∧ f 5 = .slice A S.length c ∧ f 8 = .slice At ts.length ct ∧ f 9 = .int .i64 ts.length ∧ f 10 = .int .i64 k) ∧ decl most [] ts = decl most S (ts.drop k) ∧ S.length ≤ most ∧ OwnR strE w.heap.size 9 1 w' A c S ∧ Below w.heap.size w w')
    (fun f _ => ts.length - (intOf (f 10)).toNat) ⟨0, [], none, 0, Nat.zero_le _, ⟨rfl, rfl, rfl, rfl, rfl⟩, rfl, Nat.zero_le _, Own.nil _ _ _ _, Below.refl _ _⟩ ?_
  rintro f w1 ⟨k, S, A, c, hk, fr, hd, hS, o1, b1⟩ J hJ
  have hmu : (intOf (f 10)).toNat = k := by rw [fr.2.2.2.2]; simp [intOf]
  by_cases hlt : k < ts.length
  case neg =>
    obtain rfl : k = ts.length := by omega
    rw [List.drop_length] at hd
    simp (disch := first | with_reducible assumption | omega) only [push_cast, x_blk, x_cd, ↓reduceIte, Nat.reduceEqDiff, List.map_cons, List.map_nil, Int.reduceEq, Int.lt_irrefl, L_text_declared_0, fr, Nat.lt_irrefl]
    exact fin_1 (hQ _ _ ⟨S, A, c, hd, hS, by simp only [push_cast, ↓reduceIte, Nat.reduceEqDiff], o1, b1⟩)
  have hx : ts[k]? = some ts[k] := List.getElem?_eq_getElem hlt
  have hdk : ts.drop k = ts[k] :: ts.drop (k + 1) := List.drop_eq_getElem_cons hlt
  rw [hdk, decl] at hd
  generalize ts[k] = t at *
  have h1 := Toks.up h b1
  have sA := h.isSome (by omega)
  simp (disch := first | with_reducible assumption | omega) only [push_cast, x_blk, x_cd, ↓reduceIte, Nat.reduceEqDiff, List.map_cons, List.map_nil, Int.reduceEq, Int.lt_irrefl, L_text_declared_0, fr, hlt, sA, Toks.ldA h1 hx]
  refine blk_of (cs := tok0) al_53 ?_
  intro w2 k2 b2 z2
  simp (disch := first | with_reducible assumption | omega) only [push_cast, x_blk, x_cd, ↓reduceIte, Nat.reduceEqDiff, List.map_cons, List.map_nil, Int.reduceEq, Int.lt_irrefl, fr]
  refine sto_blk k2 (cs := t.cells) ty_sz_53 rfl (tok_one _) ?_
  intro w3 k3 g3 z3
  have b23 := g3.below b2 b2.size (by intro a ha; injection ha with ha; subst ha; exact Nat.le_refl _)
  have o3 := o1.below b23 (Nat.le_refl _)
  have bb3 := b1.trans (b23.mono b1.size)
  have sd := (Same.refl w3).drew
  have o4 := o3.same sd
  have k4 := k3.same sd
  have bb4 := bb3.trans (sd.below _)
  generalize hu : w3.drew = u at *
  have hSt := Recs.lt strEnc (by decide) (OwnR.recs o4 strEnc (by decide))
  simp (disch := first | with_reducible assumption | omega) only [push_cast, x_blk, x_cd, ↓reduceIte, Nat.reduceEqDiff, List.map_cons, List.map_nil, Int.reduceEq, Int.lt_irrefl, fr, hu, k4.t1, k4.t2]
  refine call_of (str_Contains hSt c (by omega) t.s) ?_
  rintro v w5 ⟨rfl, s5⟩
  simp (disch := first | with_reducible assumption | omega) only [push_cast, x_blk, x_cd, ↓reduceIte, Nat.reduceEqDiff, List.map_cons, List.map_nil, Int.reduceEq, Int.lt_irrefl, fr]
  refine ⟨s5.below _, ?_⟩
  refine call2_of (text_must (!decide (t.s ∈ S)) 5 t.at_ w5) ?_ ?_
  · rintro ch w6 ⟨hch, hp, s6⟩
    have hin : t.s ∈ S := by simpa using hp
    rw [if_pos hin] at hd
    exact hP _ _ ⟨5, _, hd, hch, bb4.trans ((s5.trans s6).below _)⟩
  rintro v w6 ⟨rfl, hp, s6⟩
  have hin : t.s ∉ S := by simpa using hp
  rw [if_neg hin] at hd
  have s46 := s5.trans s6
  have k6 := k4.same s46
  simp (disch := first | with_reducible assumption | omega) only [push_cast, x_blk, x_cd, ↓reduceIte, Nat.reduceEqDiff, List.map_cons, List.map_nil, Int.reduceEq, Int.lt_irrefl, fr, k6.t2]
  refine call2_of (text_must (decide (S.length < most)) 1 t.at_ w6) ?_ ?_
  · rintro ch w7 ⟨hch, hp, s7⟩
    rw [if_pos (by have := of_decide_eq_false hp; omega)] at hd
    exact hP _ _ ⟨1, _, hd, hch, bb4.trans ((s46.trans s7).below _)⟩
  rintro v w7 ⟨rfl, hp, s7⟩
  have hlm := of_decide_eq_true hp
  rw [if_neg (by omega)] at hd
  have s47 := s46.trans s7
  have k7 := k4.same s47
  have o7 := o4.same s47
  have bb7 := bb4.trans (s47.below w.heap.size)
  simp (disch := first | with_reducible assumption | omega) only [push_cast, x_blk, x_cd, ↓reduceIte, Nat.reduceEqDiff, List.map_cons, List.map_nil, Int.reduceEq, Int.lt_irrefl, fr, k7.t1, bs_22]
  refine app_rec strEnc slT_22 o7 t.s (by omega) (by omega) bb7.size ?_
  intro A' c' w8 o8 g8 _ _ z8
  simp (disch := first | with_reducible assumption | omega) only [push_cast, x_blk, x_cd, ↓reduceIte, Nat.reduceEqDiff, List.map_cons, List.map_nil, Int.reduceEq, Int.lt_irrefl, fr]
  exact hJ _ _ ⟨k + 1, _, A', c', hlt, (by simp only [push_cast, ↓reduceIte, Nat.reduceEqDiff, true_and, and_true, and_self, eq_self, fr, List.length_append, List.length_singleton]), hd, by rw [List.length_append, List.length_singleton]; omega, o8, g8.below bb7 bb7.size o7.geB⟩ (by rw [hmu]; simp only [push_cast, ↓reduceIte, Nat.reduceEqDiff, intOf, fr]; omega)
theorem nodup_below {l : List Int} {n : Nat} (h : l.Nodup) (hb : ∀ x ∈ l, 0 ≤ x ∧ x < (n : Int)) : l.length ≤ n := by
  have := nodup_nat_len n (l.map Int.toNat) (by
    refine List.Pairwise.map _ (fun a b hab => hab) ?_
    refine List.Pairwise.imp_of_mem (fun {a b} ha hb' hab => ?_) h
    have := hb a ha
    have := hb b hb'
    show a.toNat ≠ b.toNat
    omega) (fun x hx => by
    obtain ⟨y, hy, rfl⟩ := List.mem_map.1 hx
    have := hb y hy
    omega)
  simpa using this
theorem ixS_lt {s : ByteArray} {l : List ByteArray} (h : 0 ≤ ixS s l) : ixS s l < l.length := by
  have hm := ixS_mem.1 h
  unfold ixS
  rw [if_pos hm]
  have : l.findIdx (fun x => decide (x = s)) < l.length := List.findIdx_lt_length_of_exists ⟨s, hm, by simp⟩
  omega
set_option maxHeartbeats 1000000 in
theorem text_rows {w : World} {An : Option Addr} {names : List ByteArray} (hn : Strs (· < w.heap.size) w An names) (cn : Nat) (hnl : names.length ≤ 12) {At : Option Addr} {ts : List Tok} (h : Recs Tok.cells 3 (· < w.heap.size) w At ts) (ct : Nat) (hl : ts.length ≤ 4000) :
    Cal2 Tryd.prog 16 [.slice An names.length cn, .slice At ts.length ct] w
      (fun v w' => ∃ r A c, rowF names [] ts = .ok r ∧ v = .slice A (sortedL r).length c ∧ OwnI w.heap.size 3 w' A c (sortedL r) ∧ Below w.heap.size w w')
      (fun ch w' => ∃ e a, rowF names [] ts = .error (e, a) ∧ ch = [{ v := badV e a, recovered := false }] ∧ Below w.heap.size w w') := by
  refine cal2_text_rows (by simp) 100000 fun Q Qp hQ hP => ?_
  simp (disch := first | with_reducible assumption | omega) only [push_cast, x_blk, x_cd, ↓reduceIte, Nat.reduceEqDiff, List.map_cons, List.map_nil, Int.reduceEq, Int.lt_irrefl, F_text_rows]
  refine loop_rule (fun f w' => ∃ (k : Nat) (S : List Int) (A : Option Addr) (c : Nat), k ≤ ts.length ∧ (f 0 = .slice An names.length cn ∧ f 5 = .slice A S.length c ∧ f 9 = .slice At ts.length ct ∧ f 10 = .int .i64 ts.length ∧ f 11 = .int .i64 k) ∧ rowF names [] ts = rowF names S (ts.drop k) ∧ S.Nodup ∧ (∀ x ∈ S, 0 ≤ x ∧ x < (names.length : Int)) ∧ OwnI w.heap.size 3 w' A c S ∧ Below w.heap.size w w')
    (fun f _ => ts.length - (intOf (f 11)).toNat) ⟨0, [], none, 0, Nat.zero_le _, ⟨rfl, rfl, rfl, rfl, rfl⟩, rfl, List.nodup_nil, (fun x hx => by cases hx), Own.nil _ _ _ _, Below.refl _ _⟩ ?_
  rintro f w1 ⟨k, S, A, c, hk, fr, hd, hnd, hb, o1, b1⟩ J hJ
  have hmu : (intOf (f 11)).toNat = k := by rw [fr.2.2.2.2]; simp [intOf]
  have hSl := nodup_below hnd hb
  by_cases hlt : k < ts.length
  case neg =>
    obtain rfl : k = ts.length := by omega
    rw [List.drop_length, rowF] at hd
    simp (disch := first | with_reducible assumption | omega) only [push_cast, x_blk, x_cd, ↓reduceIte, Nat.reduceEqDiff, List.map_cons, List.map_nil, Int.reduceEq, Int.lt_irrefl, L_text_rows_0, fr, Nat.lt_irrefl]
    refine call_of (slices_Sort o1 hnd (by omega)) ?_
    rintro v w2 ⟨rfl, o2, g2, hlen⟩
    simp (disch := first | with_reducible assumption | omega) only [push_cast, x_blk, x_cd, ↓reduceIte, Nat.reduceEqDiff, List.map_cons, List.map_nil, Int.reduceEq, Int.lt_irrefl, fr]
    exact fin_1 (hQ _ _ ⟨S, A, c, hd, by simp only [push_cast, ↓reduceIte, Nat.reduceEqDiff, fr, hlen], o2, g2.below b1 b1.size o1.geB⟩)
  have hx : ts[k]? = some ts[k] := List.getElem?_eq_getElem hlt
  have hdk : ts.drop k = ts[k] :: ts.drop (k + 1) := List.drop_eq_getElem_cons hlt
  rw [hdk, rowF] at hd
  generalize ts[k] = t at *
  have h1 := Toks.up h b1
  have sA := h.isSome (by omega)
  simp (disch := first | with_reducible assumption | omega) only [push_cast, x_blk, x_cd, ↓reduceIte, Nat.reduceEqDiff, List.map_cons, List.map_nil, Int.reduceEq, Int.lt_irrefl, L_text_rows_0, fr, hlt, sA, Toks.ldA h1 hx]
  refine blk_of (cs := tok0) al_53 ?_
  intro w2 k2 b2 z2
  simp (disch := first | with_reducible assumption | omega) only [push_cast, x_blk, x_cd, ↓reduceIte, Nat.reduceEqDiff, List.map_cons, List.map_nil, Int.reduceEq, Int.lt_irrefl, fr]
  refine sto_blk k2 (cs := t.cells) ty_sz_53 rfl (tok_one _) ?_
  intro w3 k3 g3 z3
  have b23 := g3.below b2 b2.size (by intro a ha; injection ha with ha; subst ha; exact Nat.le_refl _)
  have o3 := o1.below b23 (Nat.le_refl _)
  have bb3 := b1.trans (b23.mono b1.size)
  simp (disch := first | with_reducible assumption | omega) only [push_cast, x_blk, x_cd, ↓reduceIte, Nat.reduceEqDiff, List.map_cons, List.map_nil, Int.reduceEq, Int.lt_irrefl, fr, k3.tA]
  refine call2_of (text_number (hn.up' bb3) cn (by omega) t) ?_ ?_
  · rintro ch w4 ⟨hch, hp, b4⟩
    rw [if_pos hp] at hd
    exact hP _ _ ⟨4, _, hd, hch, bb3.trans (b4.mono bb3.size)⟩
  rintro v w4 ⟨rfl, hp, b4⟩
  rw [if_neg (by omega)] at hd
  have hxl := ixS_lt hp
  generalize ixS t.s names = x at *
  have k4 := k3.below b4 k3.lt
  have o4 := o3.below b4 (Nat.le_refl _)
  have bb4 := bb3.trans (b4.mono bb3.size)
  have sd := (Same.refl w4).drew
  have o5 := o4.same sd
  have k5 := k4.same sd
  have bb5 := bb4.trans (sd.below _)
  simp (disch := first | with_reducible assumption | omega) only [push_cast, x_blk, x_cd, ↓reduceIte, Nat.reduceEqDiff, List.map_cons, List.map_nil, Int.reduceEq, Int.lt_irrefl, fr]
  generalize hu : w4.drew = u at *
  simp (disch := first | with_reducible assumption | omega) only [push_cast, x_blk, x_cd, ↓reduceIte, Nat.reduceEqDiff, List.map_cons, List.map_nil, Int.reduceEq, Int.lt_irrefl, fr, k5.t2]
  refine call_of (row_Has (OwnI.ints o5) c x (by omega)) ?_
  rintro v w6 ⟨rfl, s6⟩
  simp (disch := first | with_reducible assumption | omega) only [push_cast, x_blk, x_cd, ↓reduceIte, Nat.reduceEqDiff, List.map_cons, List.map_nil, Int.reduceEq, Int.lt_irrefl, fr]
  refine ⟨s6.below _, ?_⟩
  refine call2_of (text_must (!decide (x ∈ S)) 5 t.at_ w6) ?_ ?_
  · rintro ch w7 ⟨hch, hp, s7⟩
    have hin : x ∈ S := by simpa using hp
    rw [if_pos hin] at hd
    exact hP _ _ ⟨5, _, hd, hch, bb5.trans ((s6.trans s7).below _)⟩
  rintro v w7 ⟨rfl, hp7, s7⟩
  have hin : x ∉ S := by simpa using hp7
  rw [if_neg hin] at hd
  have o7 := o5.same (s6.trans s7)
  have bb7 := bb5.trans ((s6.trans s7).below w.heap.size)
  simp (disch := first | with_reducible assumption | omega) only [push_cast, x_blk, x_cd, ↓reduceIte, Nat.reduceEqDiff, List.map_cons, List.map_nil, Int.reduceEq, Int.lt_irrefl, fr, bs_23]
  refine app_int slT_23 o7 x (by omega) bb7.size ?_
  intro A' c' w8 o8 g8 _ _ z8
  simp (disch := first | with_reducible assumption | omega) only [push_cast, x_blk, x_cd, ↓reduceIte, Nat.reduceEqDiff, List.map_cons, List.map_nil, Int.reduceEq, Int.lt_irrefl, fr]
  exact hJ _ _ ⟨k + 1, _, A', c', hlt, (by simp only [push_cast, ↓reduceIte, Nat.reduceEqDiff, true_and, and_true, and_self, eq_self, fr, List.length_append, List.length_singleton]), hd, (List.nodup_append.2 ⟨hnd, by simp, fun a ha b hb' => by rw [List.mem_singleton.1 hb']; exact fun e => hin (e ▸ ha)⟩), (fun y hy => by
    rcases List.mem_append.1 hy with hy | hy
    · exact hb y hy
    · rw [List.mem_singleton.1 hy]; exact ⟨hp, hxl⟩), o8, g8.below bb7 bb7.size o7.geB⟩ (by rw [hmu]; simp only [push_cast, ↓reduceIte, Nat.reduceEqDiff, intOf, fr]; omega)
end Go.Proofs.YtpinjiikiaakaaaDoor

/-
  The library's slices.SortFunc on a row of arrows of one's own, by the shelf's contract, with the comparison that text.arrows has.
-/
namespace Go.Proofs.YtpinjiikiaakaaaDoor
set_option linter.unusedSimpArgs false
set_option linter.unusedVariables false
set_option linter.unusedSectionVars false
open Go.RowKit

theorem Arr.lt_irrefl (x : Arr) : ¬ x.lt x := by unfold Arr.lt; omega
theorem Arr.lt_tri {x y : Arr} (h : ¬ x.lt y) (hn : x ≠ y) : y.lt x := by
  obtain ⟨a, b, c⟩ := x
  obtain ⟨d, e, f⟩ := y
  unfold Arr.lt at *
  simp only at *
  by_cases h1 : a = d
  · by_cases h2 : b = e
    · by_cases h3 : c = f
      · subst h1 h2 h3; exact absurd rfl hn
      · omega
    · omega
  · omega
theorem insA_cons (x y : Arr) (o : List Arr) : insA x (y :: o) = if y.lt x then y :: insA x o else if y = x then y :: o else x :: y :: o := by
  by_cases h : y.lt x
  · have ha : atA x (y :: o) = atA x o + 1 := by show (if y.lt x then atA x o + 1 else 0) = _; rw [if_pos h]
    unfold insA
    rw [if_pos h, ha]
    simp only [List.length_cons, Nat.add_lt_add_iff_right, List.getD_cons_succ, List.take_succ_cons, List.drop_succ_cons]
    split
    · rfl
    · rfl
  · have ha : atA x (y :: o) = 0 := by show (if y.lt x then atA x o + 1 else 0) = _; rw [if_neg h]
    unfold insA
    rw [if_neg h, ha]
    simp only [List.length_cons, List.getD_cons_zero, Nat.zero_lt_succ, true_and, List.take_zero, List.nil_append, List.drop_zero]
theorem insA_spec (x : Arr) : ∀ {o : List Arr}, OrdA o → OrdA (insA x o) ∧ ∀ z, z ∈ insA x o ↔ z = x ∨ z ∈ o
  | [], _ => ⟨by simp [insA, atA, OrdA], fun z => by simp [insA, atA]⟩
  | y :: o, h => by
    have h' := List.pairwise_cons.1 (show (y :: o).Pairwise Arr.lt from h)
    have ih := insA_spec x (show OrdA o from h'.2)
    rw [insA_cons]
    split
    · rename_i hyx
      refine ⟨List.pairwise_cons.2 ⟨fun z hz => ?_, ih.1⟩, fun z => ?_⟩
      · rcases (ih.2 z).1 hz with rfl | hz
        · exact hyx
        · exact h'.1 z hz
      · rw [List.mem_cons, ih.2, List.mem_cons]
        exact ⟨fun h => by rcases h with h | h | h <;> simp [h], fun h => by rcases h with h | h | h <;> simp [h]⟩
    · rename_i hyx
      split
      · rename_i e
        subst e
        exact ⟨h, fun z => by simp⟩
      · rename_i hne
        have hxy := Arr.lt_tri hyx hne
        refine ⟨List.pairwise_cons.2 ⟨fun z hz => ?_, h⟩, fun z => by simp⟩
        rcases List.mem_cons.1 hz with rfl | hz
        · exact hxy
        · exact Arr.lt_trans hxy (h'.1 z hz)
theorem sortA_spec (l : List Arr) : OrdA (sortA l) ∧ ∀ z, z ∈ sortA l ↔ z ∈ l := by
  have key : ∀ (l o : List Arr), OrdA o → OrdA (l.foldl (fun o x => insA x o) o) ∧ ∀ z, z ∈ l.foldl (fun o x => insA x o) o ↔ z ∈ o ∨ z ∈ l := by
    intro l
    induction l with
    | nil => intro o h; exact ⟨h, fun z => by simp⟩
    | cons x l ih =>
      intro o h
      have h1 := insA_spec x h
      have h2 := ih (insA x o) h1.1
      refine ⟨h2.1, fun z => ?_⟩
      rw [List.foldl_cons, h2.2, h1.2, List.mem_cons]
      exact ⟨fun h => by rcases h with (h | h) | h <;> simp [h], fun h => by rcases h with h | h | h <;> simp [h]⟩
  have := key l [] (by simp [OrdA])
  exact ⟨this.1, fun z => by rw [show sortA l = l.foldl (fun o x => insA x o) [] from rfl, this.2]; simp⟩
theorem OrdA.ext : ∀ {l m : List Arr}, OrdA l → OrdA m → (∀ x, x ∈ l ↔ x ∈ m) → l = m
  | [], [], _, _, _ => rfl
  | [], y :: m, _, _, h => absurd ((h y).2 (List.mem_cons_self ..)) (by simp)
  | x :: l, [], _, _, h => absurd ((h x).1 (List.mem_cons_self ..)) (by simp)
  | x :: l, y :: m, hl, hm, h => by
    have hl' := List.pairwise_cons.1 (show (x :: l).Pairwise Arr.lt from hl)
    have hm' := List.pairwise_cons.1 (show (y :: m).Pairwise Arr.lt from hm)
    have hxy : x = y := by
      rcases List.mem_cons.1 ((h x).1 (List.mem_cons_self ..)) with e | hx
      · exact e
      · rcases List.mem_cons.1 ((h y).2 (List.mem_cons_self ..)) with e | hy
        · exact e.symm
        · exact absurd (Arr.lt_trans (hm'.1 x hx) (hl'.1 y hy)) (Arr.lt_irrefl _)
    subst hxy
    rw [OrdA.ext (l := l) (m := m) hl'.2 hm'.2 fun z => by
      have := h z
      simp only [List.mem_cons] at this
      constructor
      · intro hz
        rcases this.1 (.inr hz) with e | hz'
        · subst e; exact absurd (hl'.1 z hz) (Arr.lt_irrefl _)
        · exact hz'
      · intro hz
        rcases this.2 (.inr hz) with e | hz'
        · subst e; exact absurd (hm'.1 z hz) (Arr.lt_irrefl _)
        · exact hz']
theorem OrdA.nodup {l : List Arr} (h : OrdA l) : l.Nodup := List.Pairwise.imp (fun {a b} hab e => by subst e; exact Arr.lt_irrefl _ hab) h
def ASm (a : Arr) : Prop := (0 ≤ a.frm ∧ a.frm < 1000000) ∧ (0 ≤ a.evt ∧ a.evt < 1000000) ∧ 0 ≤ a.to_ ∧ a.to_ < 1000000
def cmpS (a b : Arr) : Int := if a.frm ≠ b.frm then a.frm - b.frm else if a.evt ≠ b.evt then a.evt - b.evt else a.to_ - b.to_
theorem cmpS_lt (a b : Arr) : cmpS a b < 0 ↔ a.lt b := by
  unfold cmpS Arr.lt
  by_cases h1 : a.frm = b.frm
  · by_cases h2 : a.evt = b.evt
    · rw [if_neg (fun h => h h1), if_neg (fun h => h h2)]; constructor <;> intro h <;> omega
    · rw [if_neg (fun h => h h1), if_pos h2]; constructor <;> intro h <;> omega
  · rw [if_pos h1]; constructor <;> intro h <;> omega
theorem blk_at {P : Program} {K : Fr → World → Prop} {f : Fr} {d : Option Nat} {w : World} {t : TypeId} {cs : List Value} {s : Sem Value} {v : Value} (he : Eff1 P K s f d w = K (updO f d v) (w.alloc (.cells cs.toArray t)))
    (h : ∀ w1, w1 = w.alloc (.cells cs.toArray t) → Blk w1 w.heap.size t cs → Below w.heap.size w w1 → w1.heap.size = w.heap.size + 1 → K (updO f d v) w1) : Eff1 P K s f d w := by
  rw [he]
  exact h _ rfl (Blk.new w t cs) ((Below.refl _ _).alloc (Nat.le_refl _) _) (by simp)
theorem cmp_Or_ {ok : Nat → Prop} {w : World} {A : Option Addr} {l : List Int} (h : Ints ok w A l) (c : Nat) (hl : l.length ≤ 9223372036854775807) :
    Cal Tryd.prog 44 [.slice A l.length c] w fun v w' => v = .int .i64 (orL l) ∧ w' = w := by
  refine cal_cmp_Or (by simp) 100000 fun Q hQ => ?_
  simp (disch := first | with_reducible assumption | omega) only [push_cast, x_blk, x_cd, ↓reduceIte, Nat.reduceEqDiff, List.map_cons, List.map_nil, Int.reduceEq, Int.lt_irrefl, F_cmp_Or]
  refine loop_rule (fun f w' => ∃ k : Nat, k ≤ l.length ∧ f 3 = .int .i64 0 ∧ f 6 = .slice A l.length c ∧ f 7 = .int .i64 l.length ∧ f 8 = .int .i64 k ∧ (∀ i, i < k → l.getD i 0 = 0) ∧ w' = w)
    (fun f _ => l.length - (intOf (f 8)).toNat) ⟨0, Nat.zero_le _, rfl, rfl, rfl, rfl, fun i hi => absurd hi (by omega), rfl⟩ ?_
  rintro f w1 ⟨k, hk, h3, h6, h7, h8, hp, rfl⟩ J hJ
  have hI := h
  by_cases hlt : k < l.length
  · have hA := h.isSome (by omega)
    by_cases c1 : l.getD k 0 = 0
    · simp (disch := first | with_reducible assumption | omega) only [push_cast, x_blk, x_cd, ↓reduceIte, Nat.reduceEqDiff, List.map_cons, List.map_nil, Int.reduceEq, Int.lt_irrefl, L_cmp_Or_0, h3, h6, h7, h8, hlt, c1, hI.ld ty_ag_3]
      exact hJ _ _ ⟨k + 1, hlt, (by simp only [push_cast, ↓reduceIte, Nat.reduceEqDiff, Int.reduceEq, h3]), (by simp only [push_cast, ↓reduceIte, Nat.reduceEqDiff, Int.reduceEq, h6]), (by simp only [push_cast, ↓reduceIte, Nat.reduceEqDiff, Int.reduceEq, h7]), (by simp only [push_cast, ↓reduceIte, Nat.reduceEqDiff, Int.reduceEq]), fun i hi => if e : i = k then e ▸ c1 else hp i (by omega), rfl⟩ (by simp only [push_cast, ↓reduceIte, Nat.reduceEqDiff, h8, intOf]; omega)
    · have r := orL_here l k hlt hp c1
      simp (disch := first | with_reducible assumption | omega) only [push_cast, x_blk, x_cd, ↓reduceIte, Nat.reduceEqDiff, List.map_cons, List.map_nil, Int.reduceEq, Int.lt_irrefl, L_cmp_Or_0, h3, h6, h7, h8, hlt, c1, hI.ld ty_ag_3]
      exact fin_1 (hQ _ _ ⟨(by simp only [push_cast, ↓reduceIte, Nat.reduceEqDiff, Int.reduceEq, r]), rfl⟩)
  · have r : orL l = 0 := by rw [orL_at l k hp, List.drop_eq_nil_of_le (by omega)]; rfl
    simp (disch := first | with_reducible assumption | omega) only [push_cast, x_blk, x_cd, ↓reduceIte, Nat.reduceEqDiff, List.map_cons, List.map_nil, Int.reduceEq, Int.lt_irrefl, L_cmp_Or_0, h3, h6, h7, h8, hlt]
    exact fin_1 (hQ _ _ ⟨(by simp only [push_cast, ↓reduceIte, Nat.reduceEqDiff, Int.reduceEq, r]), rfl⟩)
theorem orL_cmp (a b : Arr) : orL [a.frm - b.frm, a.evt - b.evt, a.to_ - b.to_] = cmpS a b := by
  unfold cmpS
  simp only [orL]
  repeat' split
  all_goals omega
theorem fill_3w (x y z : Value) (a b c : Int) : Instr.fill (fun i => some (i * 1, 1)) #[x, y, z] [(0, .int .i64 a), (1, .int .i64 b), (2, .int .i64 c)] = some #[.int .i64 a, .int .i64 b, .int .i64 c] := by
  simp [Instr.fill, Value.cells]
theorem bsl3_int {P : Program} {K : Fr → World → Prop} {f : Fr} {d : Option Nat} {w : World} {t e bytes : Nat} (hT : SlT P t e 1 bytes) (a b c : Int) :
    Eff1 P K (Instr.buildSlice t 3 #[(0, .int .i64 a), (1, .int .i64 b), (2, .int .i64 c)]) f d w = K (updO f d (.slice (some ⟨w.heap.size, 0, none⟩) 3 3)) (w.alloc (.cells [.int .i64 a, .int .i64 b, .int .i64 c].toArray e)) := by
  obtain ⟨i, z, hi, hz, hs, hb, hc⟩ := hT.get
  refine eff1_of ?_
  have hz3 : (Array.range 3).map (z.cells[· % z.cells.size]!) = #[z.cells[0 % z.cells.size]!, z.cells[1 % z.cells.size]!, z.cells[2 % z.cells.size]!] := by
    apply Array.ext'; simp [List.range_succ]
  have hf := fill_3w (z.cells[0 % z.cells.size]!) (z.cells[1 % z.cells.size]!) (z.cells[2 % z.cells.size]!) a b c
  rw [← hz3] at hf
  simp only [Instr.buildSlice, run_underlying hT.under, sizeOf, typeInfo, Sem.run_bind, Result.andThen_ok]
  simp only [Nat.mul_one] at hf
  simp [hi, hs, zeroValue, typeInfo, hz, newRow, hf]
theorem arr_cmp {a b : Arr} (ha : ASm a) (hb : ASm b) (w : World) :
    Cal Tryd.prog 43 [arrVal a, arrVal b] w fun v w' => v = .int .i64 (cmpS a b) ∧ ∃ q os, w' = Go.Sort.grow (w.drewN q) os := by
  obtain ⟨a1, a2, a3⟩ := ha
  obtain ⟨b1, b2, b3⟩ := hb
  refine cal_text_arrows_1 (by simp) 100000 fun Q hQ => ?_
  simp (disch := first | with_reducible assumption | omega) only [push_cast, x_blk, x_cd, ↓reduceIte, Nat.reduceEqDiff, List.map_cons, List.map_nil, Int.reduceEq, Int.lt_irrefl, F_text_arrows_1]
  refine blk_at (box_agg _ (arrCells a)) ?_
  intro w1 e1 k1 bb1 z1
  simp (disch := first | with_reducible assumption | omega) only [push_cast, x_blk, x_cd, ↓reduceIte, Nat.reduceEqDiff, List.map_cons, List.map_nil, Int.reduceEq, Int.lt_irrefl]
  refine blk_at (box_agg _ (arrCells b)) ?_
  intro w2 e2 k2 bb2 z2
  replace k1 := k1.below bb2 k1.lt
  simp (disch := first | with_reducible assumption | omega) only [push_cast, x_blk, x_cd, ↓reduceIte, Nat.reduceEqDiff, List.map_cons, List.map_nil, Int.reduceEq, Int.lt_irrefl, k1.a0 ty_ag_3, k2.a0 ty_ag_3, k1.a1 ty_ag_3, k2.a1 ty_ag_3, k1.a2 ty_ag_3, k2.a2 ty_ag_3]
  refine blk_at (bsl3_int slT_23 (a.frm - b.frm) (a.evt - b.evt) (a.to_ - b.to_)) ?_
  intro w3 e3 k3 bb3 z3
  have hw : w3 = Go.Sort.grow (w.drewN 0) (#[.cells (arrCells a).toArray 66] ++ #[.cells (arrCells b).toArray 66] ++ #[.cells [.int .i64 (a.frm - b.frm), .int .i64 (a.evt - b.evt), .int .i64 (a.to_ - b.to_)].toArray 3]) := by
    rw [e3, e2, e1, Go.Sort.alloc_eq_grow, Go.Sort.alloc_eq_grow, Go.Sort.alloc_eq_grow, Go.Sort.grow_grow, Go.Sort.grow_grow]; rfl
  simp (disch := first | with_reducible assumption | omega) only [push_cast, x_blk, x_cd, ↓reduceIte, Nat.reduceEqDiff, List.map_cons, List.map_nil, Int.reduceEq, Int.lt_irrefl]
  refine call_of (cmp_Or_ (ints_blk (l := [a.frm - b.frm, a.evt - b.evt, a.to_ - b.to_]) k3) 3 (by simp)) ?_
  rintro v w4 ⟨rfl, rfl⟩
  rw [orL_cmp]
  simp (disch := first | with_reducible assumption | omega) only [push_cast, x_blk, x_cd, ↓reduceIte, Nat.reduceEqDiff, List.map_cons, List.map_nil, Int.reduceEq, Int.lt_irrefl]
  exact fin_1 (hQ _ _ ⟨(by simp only [push_cast, ↓reduceIte, Nat.reduceEqDiff, Int.reduceEq]), _, _, hw⟩)

def renSort : Go.Shelf.Ren := ⟨fun | 6 => 42 | 14 => 62 | 15 => 60 | 20 => 80 | 21 => 81 | 22 => 82 | 23 => 83 | 24 => 84 | 25 => 85 | 26 => 86 | 27 => 87 | 28 => 78 | 29 => 79 | 46 => 97 | 47 => 92 | 48 => 93 | 49 => 98 | 50 => 99 | 57 => 101 | n => n, fun | 0 => 0 | 3 => 3 | 4 => 4 | 5 => 5 | 9 => 9 | 22 => 24 | 24 => 66 | 25 => 84 | 39 => 100 | 45 => 107 | 46 => 108 | 50 => 112 | 53 => 115 | 55 => 117 | 66 => 127 | 70 => 131 | 76 => 136 | 77 => 137 | n => n, fun | n => n⟩
theorem laysSort : Go.Proofs.SlLaysF0.n6 Tryd.prog renSort := {
  mixed := by kernel_rfl
  f6 := ⟨Tryd.f42.name, by kernel_rfl, Tryd.func42.trans (congrArg some (by kernel_rfl))⟩
  f14 := ⟨Tryd.f62.name, by kernel_rfl, Tryd.func62.trans (congrArg some (by kernel_rfl))⟩
  f15 := Tryd.func60.trans (congrArg some (by kernel_rfl))
  f20 := ⟨Tryd.f80.name, by kernel_rfl, Tryd.func80.trans (congrArg some (by kernel_rfl))⟩
  f21 := ⟨Tryd.f81.name, by kernel_rfl, Tryd.func81.trans (congrArg some (by kernel_rfl))⟩
  f22 := ⟨Tryd.f82.name, by kernel_rfl, Tryd.func82.trans (congrArg some (by kernel_rfl))⟩
  f23 := ⟨Tryd.f83.name, by kernel_rfl, Tryd.func83.trans (congrArg some (by kernel_rfl))⟩
  f24 := ⟨Tryd.f84.name, by kernel_rfl, Tryd.func84.trans (congrArg some (by kernel_rfl))⟩
  f25 := ⟨Tryd.f85.name, by kernel_rfl, Tryd.func85.trans (congrArg some (by kernel_rfl))⟩
  f26 := ⟨Tryd.f86.name, by kernel_rfl, Tryd.func86.trans (congrArg some (by kernel_rfl))⟩
  f27 := ⟨Tryd.f87.name, by kernel_rfl, Tryd.func87.trans (congrArg some (by kernel_rfl))⟩
  f28 := Tryd.func78.trans (congrArg some (by kernel_rfl))
  f29 := Tryd.func79.trans (congrArg some (by kernel_rfl))
  f46 := ⟨Tryd.f97.name, by kernel_rfl, Tryd.func97.trans (congrArg some (by kernel_rfl))⟩
  f47 := Tryd.func92.trans (congrArg some (by kernel_rfl))
  f48 := Tryd.func93.trans (congrArg some (by kernel_rfl))
  f49 := ⟨Tryd.f98.name, by kernel_rfl, Tryd.func98.trans (congrArg some (by kernel_rfl))⟩
  f50 := ⟨Tryd.f99.name, by kernel_rfl, Tryd.func99.trans (congrArg some (by kernel_rfl))⟩
  f57 := ⟨Tryd.f101.name, by kernel_rfl, Tryd.func101.trans (congrArg some (by kernel_rfl))⟩
  t0 := Tryd.underlying0
  a0 := Tryd.isAgg0
  z0 := Tryd.sizeOf0
  v0 := Tryd.zeroValue0
  t3 := Tryd.underlying3
  a3 := Tryd.isAgg3
  z3 := Tryd.sizeOf3
  v3 := Tryd.zeroValue3
  t4 := Tryd.underlying4
  a4 := Tryd.isAgg4
  z4 := Tryd.sizeOf4
  v4 := Tryd.zeroValue4
  t5 := Tryd.underlying5
  a5 := Tryd.isAgg5
  z5 := Tryd.sizeOf5
  v5 := Tryd.zeroValue5
  t9 := Tryd.underlying9
  a9 := Tryd.isAgg9
  z9 := Tryd.sizeOf9
  v9 := Tryd.zeroValue9
  t22 := Tryd.underlying24
  a22 := Tryd.isAgg24
  z22 := Tryd.sizeOf24
  v22 := Tryd.zeroValue24
  t25 := Tryd.underlying84
  a25 := Tryd.isAgg84
  z25 := Tryd.sizeOf84
  v25 := Tryd.zeroValue84
  t39 := Tryd.underlying100
  a39 := Tryd.isAgg100
  z39 := Tryd.sizeOf100
  v39 := Tryd.zeroValue100
  t45 := Tryd.underlying107
  a45 := Tryd.isAgg107
  z45 := Tryd.sizeOf107
  v45 := Tryd.zeroValue107
  t46 := Tryd.underlying108
  a46 := Tryd.isAgg108
  z46 := Tryd.sizeOf108
  v46 := Tryd.zeroValue108
  t50 := Tryd.underlying112
  a50 := Tryd.isAgg112
  z50 := Tryd.sizeOf112
  v50 := Tryd.zeroValue112
  t53 := Tryd.underlying115
  a53 := Tryd.isAgg115
  z53 := Tryd.sizeOf115
  v53 := Tryd.zeroValue115
  t55 := Tryd.underlying117
  a55 := Tryd.isAgg117
  z55 := Tryd.sizeOf117
  v55 := Tryd.zeroValue117
  t66 := Tryd.underlying127
  a66 := Tryd.isAgg127
  z66 := Tryd.sizeOf127
  v66 := Tryd.zeroValue127
  t70 := Tryd.underlying131
  a70 := Tryd.isAgg131
  z70 := Tryd.sizeOf131
  v70 := Tryd.zeroValue131
  t76 := Tryd.underlying136
  a76 := Tryd.isAgg136
  z76 := Tryd.sizeOf136
  v76 := Tryd.zeroValue136
  t77 := Tryd.underlying137
  a77 := Tryd.isAgg137
  z77 := Tryd.sizeOf137
  v77 := Tryd.zeroValue137 }
abbrev SA := { a : Arr // ASm a }
instance : Inhabited SA := ⟨⟨⟨0, 0, 0⟩, by unfold ASm; decide⟩⟩
theorem swoS : Go.Sort.SWO (Go.Proofs.ltOf fun x y : SA => cmpS x.1 y.1) where
  irrefl x := decide_eq_false fun h => Arr.lt_irrefl _ ((cmpS_lt _ _).1 h)
  trans x y z h1 h2 := decide_eq_true ((cmpS_lt _ _).2 (Arr.lt_trans ((cmpS_lt _ _).1 (of_decide_eq_true h1)) ((cmpS_lt _ _).1 (of_decide_eq_true h2))))
  ntrans x y z h1 h2 := decide_eq_false fun h => by
    have h1' := of_decide_eq_false h1
    have h2' := of_decide_eq_false h2
    rw [cmpS_lt] at h1' h2' h
    unfold Arr.lt at *
    omega
def liftS : (l : List Arr) → (∀ a ∈ l, ASm a) → List SA
  | [], _ => []
  | a :: l, h => ⟨a, h a (List.mem_cons_self ..)⟩ :: liftS l fun x hx => h x (List.mem_cons_of_mem _ hx)
theorem liftS_map : ∀ (l : List Arr) (h : ∀ a ∈ l, ASm a), (liftS l h).map (·.1) = l
  | [], _ => rfl
  | a :: l, h => by unfold liftS; rw [List.map_cons, liftS_map l]
theorem flatK_eq {α : Type} [Inhabited α] {enc : α → List Value} {k : Nat} (E : Enc enc k) (hk : 0 < k) (l : List α) : (Go.Sort.flatK enc k l.toArray).toList = l.flatMap enc := by
  apply List.ext_getElem?
  intro i
  have hs : (Go.Sort.flatK enc k l.toArray).size = l.length * k := by rw [Go.Sort.size_flatK]; simp
  by_cases hi : i < l.length * k
  · have hdiv : i / k < l.length := Nat.div_lt_of_lt_mul (by rw [Nat.mul_comm]; exact hi)
    have hmod : i % k < k := Nat.mod_lt _ hk
    have h1 := flatMap_at E l (i / k) l[i / k] (i % k) (List.getElem?_eq_getElem hdiv) hmod
    rw [show i / k * k + i % k = i by rw [Nat.mul_comm]; exact Nat.div_add_mod i k] at h1
    rw [h1, Array.getElem?_toList, Array.getElem?_eq_getElem (by rw [hs]; exact hi)]
    have h2 := Go.Sort.get_flatK enc k l.toArray i (by simpa using hi)
    rw [getElem!_pos _ _ (by rw [hs]; exact hi)] at h2
    rw [h2]
    have hl : i / k < l.toArray.size := by simpa using hdiv
    rw [getElem!_pos l.toArray _ hl]
    have he : (enc l[i / k]).length = k := E.len _
    rw [List.getElem!_eq_getElem?_getD]
    simp only [List.getElem_toArray]
    rw [List.getElem?_eq_getElem (by rw [he]; exact hmod)]
    simp
  · rw [List.getElem?_eq_none (by rw [Array.length_toList, hs]; omega), List.getElem?_eq_none (by rw [flatMap_len E]; omega)]
theorem putCells_take (F cur : Array Value) (h : F.size ≤ cur.size) : (Go.Sort.putCells id 0 F cur).toList.take F.size = F.toList := by
  apply List.ext_getElem?
  intro j
  rw [List.getElem?_take, Array.getElem?_toList, Array.getElem?_toList]
  by_cases hj : j < F.size
  · have hjc : j < cur.size := by omega
    simp only [if_pos hj, Go.Sort.putCells, Array.getElem?_mapIdx, Array.getElem?_eq_getElem hjc, Option.map_some]
    rw [if_pos (by omega)]
    simp [getElem!_pos, hj]
  · rw [if_neg hj, Array.getElem?_eq_none (by omega)]
theorem arr_sort {B : Nat} {w : World} {A : Option Addr} {c : Nat} {l : List Arr} (h : OwnR arrCells B 66 3 w A c l) (hl : l.length ≤ 1000000) (hs : ∀ a ∈ l, ASm a) (hn : l.Nodup) :
    Cal Tryd.prog 42 [.slice A l.length c, .func (.func 43) #[] #[]] w fun v w' => v = .tuple #[] ∧ (sortA l).length = l.length ∧ OwnR arrCells B 66 3 w' A c (sortA l) ∧ Grew w w' A := by
  refine ⟨by kernel_rfl, ?_⟩
  rcases h.form with ⟨rfl, h0, rfl, _⟩ | ⟨g, rfl, hB, hg⟩
  · have hn : l = [] := List.eq_nil_of_length_eq_zero h0
    subst hn
    exact (Go.Proofs.AnyF.slices_SortFunc_none laysSort none 0 _ w).mono fun e W ⟨h1, h2⟩ => ⟨_, h1, rfl, rfl, by rw [h2]; exact h, by rw [h2]; exact ⟨World.grownBy.refl w _⟩⟩
  · have E : Enc (fun x : SA => arrCells x.1) 3 := ⟨fun x => rfl, fun x u hu => by
      simp [arrCells] at hu
      rcases hu with rfl | rfl | rfl <;> rfl⟩
    have hfl : (liftS l hs).flatMap (fun x : SA => arrCells x.1) = l.flatMap arrCells := by
      conv => rhs; rw [← liftS_map l hs]
      rw [List.flatMap_map]
    have hll : (liftS l hs).length = l.length := by
      have := congrArg List.length (liftS_map l hs)
      simpa using this
    have eg : ∀ args w, (callFunc 43 args).run Tryd.prog w = .ok (.enter 43 args) w := enters_of Tryd.func43 (by kernel_rfl) rfl
    have hcmp : Go.Proofs.CmpLays Tryd.prog 43 #[] (fun x : SA => arrCells x.1) 3 (fun x y => cmpS x.1 y.1) g 0 (liftS l hs).toArray.size w := fun m os dk _ x y =>
      (arr_cmp x.2 y.2 _).calls.mono fun e W ⟨v, he, hv, q, os', hW⟩ => ⟨by rw [he, hv], q, os', hW⟩
    rcases h.own.2 with ⟨e0, _⟩ | ⟨g', cap, cur, e0, hgB, hgc, hnc, hmx, hcs, htk⟩
    · cases e0
    injection e0 with e1 _ e3
    injection e1 with e1
    injection e1 with e1
    subst e1 e3
    have hH : Go.Sort.HoldsK (fun x : SA => arrCells x.1) 3 w g 0 (liftS l hs).toArray := by
      intro j hj
      rw [Go.Sort.size_flatK] at hj
      have hj' : j < l.length * 3 := by simpa [hll] using hj
      rw [Nat.zero_add]
      have hd := h.own.cells (g := g) rfl j
      have hfz := h.own.frozenAt (g := g) j
      have hF := flatK_eq E (by decide) (liftS l hs)
      rw [hfl] at hF
      have hlen : j < (l.flatMap arrCells).length := by rw [h.own.1]; exact hj'
      have h3 := hd _ (List.getElem?_eq_getElem hlen)
      rw [addr_add, Nat.zero_add] at h3
      refine ⟨?_, hfz⟩
      rw [h3]
      congr 1
      show _ = (Go.Sort.flatK _ 3 (liftS l hs).toArray)[j]!
      have hsz : j < (Go.Sort.flatK (fun x : SA => arrCells x.1) 3 (liftS l hs).toArray).size := by rw [Go.Sort.size_flatK]; simpa [hll] using hj'
      rw [getElem!_pos (Go.Sort.flatK (fun x : SA => arrCells x.1) 3 (liftS l hs).toArray) _ hsz, ← Array.getElem_toList]
      simp only [hF]
    have hcon := Go.Proofs.AnyQ.slices_SortFunc laysSort 3 Tryd.isAgg66 Tryd.sizeOf66 (fun x : SA => arrCells x.1) (fun x => rfl) (fun x v hv => E.one x v hv) (fun x y => cmpS x.1 y.1) swoS 43 #[] g 0 c (liftS l hs).toArray w eg hcmp hH hg (by simp [hll]; omega)
    have hsz : (liftS l hs).toArray.size = l.length := by simp [hll]
    rw [hsz] at hcon
    refine (show Calls Tryd.prog 42 _ _ _ from hcon).mono ?_
    rintro e W ⟨rfl, d', n, os, ⟨hp1, _, hp3⟩, hso, rfl⟩
    have hd' : d'.size = l.length := by rw [hp1, hsz]
    have hpm : d'.toList.Perm (liftS l hs) := by
      have e1 : (d'.extract 0 l.length).toList = d'.toList := by rw [← hd']; simp
      have e2 : ((liftS l hs).toArray.extract 0 l.length).toList = liftS l hs := by rw [← hsz]; simp
      rw [e1, e2] at hp3
      exact hp3
    have hpm2 : (d'.toList.map (·.1)).Perm l := by
      have := hpm.map (·.1)
      rwa [liftS_map] at this
    have hnd : (d'.toList.map (·.1)).Nodup := hpm2.symm.nodup hn
    have hord : OrdA (d'.toList.map (·.1)) := by
      unfold OrdA
      rw [List.pairwise_iff_getElem]
      intro i j hi hj hij
      have hi' : i < d'.size := by simpa using hi
      have hj' : j < d'.size := by simpa using hj
      have h1 := hso i j (Nat.zero_le _) hij (by omega)
      have h2 := of_decide_eq_false h1
      rw [cmpS_lt, getElem!_pos d' _ hj', getElem!_pos d' _ hi'] at h2
      have h3 : (d'.toList.map (·.1))[i]'hi ≠ (d'.toList.map (·.1))[j]'hj := List.pairwise_iff_getElem.1 hnd i j hi hj hij
      simp only [List.getElem_map, Array.getElem_toList] at h3 ⊢
      exact Arr.lt_tri h2 (fun e => h3 e.symm)
    have heq : d'.toList.map (·.1) = sortA l := hord.ext (sortA_spec l).1 fun x => by rw [(sortA_spec l).2, hpm2.mem_iff]
    have hlen : (sortA l).length = l.length := by rw [← heq, List.length_map, Array.length_toList, hd']
    have hF := flatK_eq E (by decide) d'.toList
    have hfm : d'.toList.flatMap (fun x : SA => arrCells x.1) = (sortA l).flatMap arrCells := by rw [← heq, List.flatMap_map]
    rw [hfm] at hF
    have hFs : (Go.Sort.flatK (fun x : SA => arrCells x.1) 3 d').size = l.length * 3 := by rw [Go.Sort.size_flatK, hd']
    refine ⟨_, rfl, rfl, hlen, ⟨⟨by rw [flatMap_len arrEnc], .inr ⟨g, c, Go.Sort.putCells id 0 (Go.Sort.flatK (fun x : SA => arrCells x.1) 3 d') cur, by rw [hlen], hgB, ?_, by omega, hmx, by simpa [Go.Sort.putCells] using hcs, ?_⟩⟩⟩, ?_⟩
    · unfold Go.Proofs.sortWorldK
      rw [Go.Sort.heap_grow_old _ _ (by simp [Go.Sort.putRowK, Go.Sort.putRow, Go.Sort.mapBlock, Go.Sort.ahead]; exact hg)]
      simp [Go.Sort.putRowK, Go.Sort.putRow, Go.Sort.mapBlock, Go.Sort.ahead, Array.getElem?_modify, hgc, Go.Sort.onCells]
    · have := putCells_take (Go.Sort.flatK (fun x : SA => arrCells x.1) 3 d') cur (by rw [hFs, hcs]; exact Nat.mul_le_mul_right _ hnc)
      rw [hFs] at this
      rw [hlen, this, ← hF]
    · refine ⟨⟨rfl, rfl, rfl, by simp [Go.Proofs.sortWorldK, Go.Sort.grow, Go.Sort.putRowK, Go.Sort.putRow, Go.Sort.mapBlock, Go.Sort.ahead], fun k hk hne => ?_⟩⟩
      have hk' : g ≠ k := fun e => hne (by rw [e]; rfl)
      unfold Go.Proofs.sortWorldK
      rw [Go.Sort.heap_grow_old _ _ (by simp [Go.Sort.putRowK, Go.Sort.putRow, Go.Sort.mapBlock, Go.Sort.ahead]; exact hk)]
      simp [Go.Sort.putRowK, Go.Sort.putRow, Go.Sort.mapBlock, Go.Sort.ahead, Array.getElem?_modify, hk']
end Go.Proofs.YtpinjiikiaakaaaDoor

/-
  The arrows of a text: by their contract.
-/
namespace Go.Proofs.YtpinjiikiaakaaaDoor
set_option linter.unusedSimpArgs false
set_option linter.unusedVariables false
set_option linter.unusedSectionVars false
open Go.RowKit

theorem arr_Index {w : World} {A : Option Addr} {l : List Arr} (h : Arrs (· < w.heap.size) w A l) (c : Nat) (hl : l.length ≤ 100000) (y : Arr) :
    Cal Tryd.prog 61 [.slice A l.length c, arrVal y] w fun v w' => (∃ q : Int, v = .int .i64 q ∧ (0 ≤ q ↔ y ∈ l)) ∧ Below w.heap.size w w' := by
  refine cal_slices_Index_arr (by simp) 10000 fun Q hQ => ?_
  simp (disch := first | with_reducible assumption | omega) only [push_cast, x_blk, x_cd, ↓reduceIte, Nat.reduceEqDiff, List.map_cons, List.map_nil, Int.reduceEq, Int.lt_irrefl, F_slices_Index_arr]
  refine blk_of (box_agg _ (arrCells y)) ?_
  intro w1 k1 b1 z1
  simp (disch := first | with_reducible assumption | omega) only [push_cast, x_blk, x_cd, ↓reduceIte, Nat.reduceEqDiff, List.map_cons, List.map_nil, Int.reduceEq, Int.lt_irrefl]
  refine loop_rule (fun f w' => ∃ k : Nat, k ≤ l.length ∧ (f 0 = .slice A l.length c ∧ f 3 = .pointer (some ⟨w.heap.size, 0, none⟩) ∧ f 7 = .int .i64 l.length ∧ f 8 = .int .i64 k) ∧ (∀ j, j < k → l.getD j default ≠ y) ∧ Same w1 w')
    (fun f _ => l.length - (intOf (f 8)).toNat) ⟨0, Nat.zero_le _, ⟨rfl, rfl, rfl, rfl⟩, fun j hj => absurd hj (by omega), Same.refl _⟩ ?_
  rintro f w2 ⟨k, hk, fr, hno, s2⟩ J hJ
  have hmu : (intOf (f 8)).toNat = k := by rw [fr.2.2.2]; simp [intOf]
  by_cases hlt : k < l.length
  case neg =>
    obtain rfl : k = l.length := by omega
    simp (disch := first | with_reducible assumption | omega) only [push_cast, x_blk, x_cd, ↓reduceIte, Nat.reduceEqDiff, List.map_cons, List.map_nil, Int.reduceEq, Int.lt_irrefl, L_slices_Index_arr_0, fr, Nat.lt_irrefl]
    refine fin_1 (hQ _ _ ⟨⟨-1, by simp only [push_cast, ↓reduceIte, Nat.reduceEqDiff], by omega, fun hm => ?_⟩, b1.trans (s2.below _)⟩)
    obtain ⟨j, hj, he⟩ := List.mem_iff_getElem.1 hm
    exact absurd (by rw [List.getD_eq_getElem?_getD, List.getElem?_eq_getElem hj]; exact he) (hno j hj)
  have s3 := s2.trans (Same.refl w2).drew
  have k3 := k1.same s3
  have h3 := (h.below b1).same s3
  have bb := b1.trans (s3.below w.heap.size)
  generalize hu : w2.drew = u at *
  have sA := h.isSome (by omega)
  have hmem : l.getD k default ∈ l := by rw [List.getD_eq_getElem?_getD, List.getElem?_eq_getElem hlt]; exact List.getElem_mem hlt
  have ldk := fun {K : Fr → World → Prop} {f : Fr} {d : Option Nat} {w : World} => h3.ldA (K := K) (f := f) (d := d) (w := w) ty_ag_66 ty_sz_66 k hlt
  generalize hz : l.getD k default = z at *
  by_cases he : y = z
  · subst he
    simp (disch := first | with_reducible assumption | omega) only [push_cast, x_blk, x_cd, ↓reduceIte, Nat.reduceEqDiff, List.map_cons, List.map_nil, Int.reduceEq, Int.lt_irrefl, L_slices_Index_arr_0, fr, hlt, hu, sA, k3.aA ty_ag_66 ty_sz_66, ldk, eql_arr, decide_true]
    exact fin_1 (hQ _ _ ⟨⟨k, by simp only [push_cast, ↓reduceIte, Nat.reduceEqDiff, fr], fun _ => hmem, fun _ => by omega⟩, bb⟩)
  · simp (disch := first | with_reducible assumption | omega) only [push_cast, x_blk, x_cd, ↓reduceIte, Nat.reduceEqDiff, List.map_cons, List.map_nil, Int.reduceEq, Int.lt_irrefl, L_slices_Index_arr_0, fr, hlt, hu, sA, k3.aA ty_ag_66 ty_sz_66, ldk, eql_arr, decide_eq_false he]
    exact hJ _ _ ⟨k + 1, hlt, (by simp only [push_cast, ↓reduceIte, Nat.reduceEqDiff, true_and, and_true, and_self, eq_self, fr]), fun j hj => by
      by_cases e : j = k
      · subst e; rw [hz]; exact fun e => he e.symm
      · exact hno j (by omega), s3⟩ (by rw [hmu]; simp only [push_cast, ↓reduceIte, Nat.reduceEqDiff, intOf, fr]; omega)
theorem arr_Contains {w : World} {A : Option Addr} {l : List Arr} (h : Arrs (· < w.heap.size) w A l) (c : Nat) (hl : l.length ≤ 100000) (y : Arr) :
    Cal Tryd.prog 41 [.slice A l.length c, arrVal y] w fun v w' => v = .bool (decide (y ∈ l)) ∧ Below w.heap.size w w' := by
  refine cal_slices_Contains_arr (by simp) 10000 fun Q hQ => ?_
  simp (disch := first | with_reducible assumption | omega) only [push_cast, x_blk, x_cd, ↓reduceIte, Nat.reduceEqDiff, List.map_cons, List.map_nil, Int.reduceEq, Int.lt_irrefl, F_slices_Contains_arr]
  refine blk_of (box_agg _ (arrCells y)) ?_
  intro w1 k1 b1 z1
  have h1 : Arrs (· < w1.heap.size) w1 A l := (h.below b1).mono fun _ hb => Nat.lt_of_lt_of_le hb b1.size
  simp (disch := first | with_reducible assumption | omega) only [push_cast, x_blk, x_cd, ↓reduceIte, Nat.reduceEqDiff, List.map_cons, List.map_nil, Int.reduceEq, Int.lt_irrefl, k1.aA ty_ag_66 ty_sz_66]
  refine call_of (arr_Index h1 c hl y) ?_
  rintro v w2 ⟨⟨q, rfl, hq⟩, b2⟩
  simp (disch := first | with_reducible assumption | omega) only [push_cast, x_blk, x_cd, ↓reduceIte, Nat.reduceEqDiff, List.map_cons, List.map_nil, Int.reduceEq, Int.lt_irrefl]
  refine fin_1 (hQ _ _ ⟨?_, b1.trans (b2.mono b1.size)⟩)
  by_cases h0 : 0 ≤ q
  · have hm := hq.1 h0
    simp only [push_cast, ↓reduceIte, Nat.reduceEqDiff, h0, decide_eq_true hm]
  · have hm : y ∉ l := fun c => h0 (hq.2 c)
    simp only [push_cast, ↓reduceIte, Nat.reduceEqDiff, h0, decide_eq_false hm]
theorem bl_arr0 {K : Fr → World → Prop} {u : World} {f : Fr} {d : Option Nat} {w : World} (x : Int) : Val1 Tryd.prog K (Instr.build 66 #[(0, .int .i64 x)]) u f d w = K (updO f d (.agg (arrCells ⟨x, 0, 0⟩).toArray)) w := bld_of (by kernel_rfl)
theorem arr_one (y : Arr) : (arrCells y).all (·.oneCell') = true := by simp [arrCells, Value.oneCell']
theorem arrF_nil (S E : List ByteArray) (acc : List Arr) : arrF S E acc [] = .ok acc := by
  rw [arrF]
  intro a b c ts h; cases h
theorem arrF_cons (S E : List ByteArray) (acc : List Arr) (a b c : Tok) (ts : List Tok) : arrF S E acc (a :: b :: c :: ts) = if ixS a.s S < 0 then .error (4, a.at_) else if ixS b.s E < 0 then .error (4, b.at_) else if ixS c.s S < 0 then .error (4, c.at_)
      else if (⟨ixS a.s S, ixS b.s E, ixS c.s S⟩ : Arr) ∈ acc then .error (5, a.at_) else arrF S E (acc ++ [⟨ixS a.s S, ixS b.s E, ixS c.s S⟩]) ts := by rw [arrF]
theorem Toks.ld2 {K : Fr → World → Prop} {u w : World} {f : Fr} {d : Option Nat} {ok : Nat → Prop} {A : Option Addr} {ts : List Tok} (h : Recs Tok.cells 3 ok u A ts) {i : Nat} {t : Tok} (hi : ts[i]? = some t) :
    Val1 Tryd.prog K (Instr.loadAt 3 (.pointer (some (eA A (i * 3 + 2))))) u f d w = K (updO f d (.int .i64 t.at_)) w :=
  Recs.ld (j := 2) h ty_ag_3 hi rfl
set_option maxHeartbeats 2000000 in
theorem text_arrows {w : World} {a : JV} {p : Pj} (hS : Strs (· < w.heap.size) w a.AS p.S) (hE : Strs (· < w.heap.size) w a.AE p.E) (lS : p.S.length ≤ 12) (lE : p.E.length ≤ 12) {At : Option Addr} {ts : List Tok} (h : Recs Tok.cells 3 (· < w.heap.size) w At ts) (ct : Nat) (hl : ts.length ≤ 4000) (h3 : ts.length % 3 = 0) :
    Cal2 Tryd.prog 17 [a.val p, .slice At ts.length ct] w
      (fun v w' => ∃ r A c, arrF p.S p.E [] ts = .ok r ∧ r.length ≤ 4000 ∧ v = .slice A (sortA r).length c ∧ OwnR arrCells w.heap.size 66 3 w' A c (sortA r) ∧ Below w.heap.size w w')
      (fun ch w' => ∃ e x, arrF p.S p.E [] ts = .error (e, x) ∧ ch = [{ v := badV e x, recovered := false }] ∧ Below w.heap.size w w') := by
  refine cal2_text_arrows (by simp) 1000000 fun Q Qp hQ hP => ?_
  simp (disch := first | with_reducible assumption | omega) only [push_cast, x_blk, x_cd, ↓reduceIte, Nat.reduceEqDiff, List.map_cons, List.map_nil, Int.reduceEq, Int.lt_irrefl, F_text_arrows]
  refine blk_of (box_agg _ (a.cells p)) ?_
  intro w0 k0 b0 z0
  simp (disch := first | with_reducible assumption | omega) only [push_cast, x_blk, x_cd, ↓reduceIte, Nat.reduceEqDiff, List.map_cons, List.map_nil, Int.reduceEq, Int.lt_irrefl]
  refine loop_rule (fun f w' => ∃ (i : Nat) (acc : List Arr) (A : Option Addr) (c : Nat), i ≤ ts.length ∧ i % 3 = 0 ∧ (f 1 = .slice At ts.length ct ∧ f 2 = .pointer (some ⟨w.heap.size, 0, none⟩) ∧ f 5 = .slice A acc.length c ∧ f 6 = .int .i64 i) ∧ arrF p.S p.E [] ts = arrF p.S p.E acc (ts.drop i) ∧ acc.length ≤ i ∧ acc.Nodup ∧ (∀ x ∈ acc, ASm x) ∧ OwnR arrCells (w.heap.size + 1) 66 3 w' A c acc ∧ Blk w' w.heap.size 28 (a.cells p) ∧ Below w.heap.size w w')
    (fun f _ => ts.length - (intOf (f 6)).toNat) ⟨0, [], none, 0, Nat.zero_le _, rfl, ⟨rfl, rfl, rfl, rfl⟩, rfl, Nat.zero_le _, List.nodup_nil, (fun x hx => by cases hx), Own.nil _ _ _ _, k0, b0⟩ ?_
  rintro f w1 ⟨i, acc, A, c, hi, hi3, fr, hd, hal, hnd, hsm, o1, k1, b1⟩ J hJ
  have hmu : (intOf (f 6)).toNat = i := by rw [fr.2.2.2]; simp [intOf]
  by_cases hlt : i < ts.length
  case neg =>
    obtain rfl : i = ts.length := by omega
    rw [List.drop_length, arrF_nil] at hd
    simp (disch := first | with_reducible assumption | omega) only [push_cast, x_blk, x_cd, ↓reduceIte, Nat.reduceEqDiff, List.map_cons, List.map_nil, Int.reduceEq, Int.lt_irrefl, L_text_arrows_0, fr, Nat.lt_irrefl]
    refine call_of (arr_sort o1 (by omega) hsm hnd) ?_
    rintro v w2 ⟨rfl, hlen, o2, g2⟩
    simp (disch := first | with_reducible assumption | omega) only [push_cast, x_blk, x_cd, ↓reduceIte, Nat.reduceEqDiff, List.map_cons, List.map_nil, Int.reduceEq, Int.lt_irrefl, fr]
    exact fin_1 (hQ _ _ ⟨acc, A, c, hd, by omega, by simp only [push_cast, ↓reduceIte, Nat.reduceEqDiff, fr, hlen], o2.base (Nat.le_succ _), g2.below b1 b1.size fun x hx => by have := o1.geB x hx; omega⟩)
  have hlt1 : i + 1 < ts.length := by omega
  have hlt2 : i + 2 < ts.length := by omega
  have hx0 : ts[i]? = some ts[i] := List.getElem?_eq_getElem hlt
  have hx1 : ts[i + 1]? = some ts[i + 1] := List.getElem?_eq_getElem hlt1
  have hx2 : ts[i + 2]? = some ts[i + 2] := List.getElem?_eq_getElem hlt2
  have hdk : ts.drop i = ts[i] :: ts[i + 1] :: ts[i + 2] :: ts.drop (i + 3) := by
    rw [List.drop_eq_getElem_cons hlt, List.drop_eq_getElem_cons hlt1, List.drop_eq_getElem_cons hlt2]
  rw [hdk, arrF_cons] at hd
  generalize ts[i] = t0 at *
  generalize ts[i + 1] = t1 at *
  generalize ts[i + 2] = t2 at *
  have sA := h.isSome (by omega)
  have e1 : ((i : Int) + 1).toNat = i + 1 := by omega
  have e2 : ((i : Int) + 2).toNat = i + 2 := by omega
  have c1 : (i : Int) + 1 < (ts.length : Int) := by omega
  have c2 : (i : Int) + 2 < (ts.length : Int) := by omega
  have sd1 := (Same.refl w1).drew
  have hu1 := Toks.up h (b1.trans (sd1.below _))
  have ku1 := k1.same sd1
  have ou1 := o1.same sd1
  have bu1 := b1.trans (sd1.below w.heap.size)
  generalize hue : w1.drew = u1 at *
  simp (disch := first | with_reducible assumption | omega) only [push_cast, x_blk, x_cd, ↓reduceIte, Nat.reduceEqDiff, List.map_cons, List.map_nil, Int.reduceEq, Int.lt_irrefl, L_text_arrows_0, fr, hlt, hue, sA, ku1.jS, Toks.ldA hu1 hx0]
  refine cutT (fun f' w' => ∃ g : Nat, (f' 1 = .slice At ts.length ct ∧ f' 2 = .pointer (some ⟨w.heap.size, 0, none⟩) ∧ f' 5 = .slice A acc.length c ∧ f' 6 = .int .i64 i ∧ f' 7 = .pointer (some ⟨g, 0, none⟩)) ∧ u1.heap.size ≤ g ∧ Blk w' g 66 (arrCells ⟨ixS t0.s p.S, 0, 0⟩) ∧ 0 ≤ ixS t0.s p.S ∧ Below u1.heap.size u1 w') 400000 400000 (by decide) ?_ ?_
  · intro E' hE'
    have hpan : ∀ {wq : World} {ch : List PanicEntry} {w' : World}, Below u1.heap.size u1 wq → ch = [{ v := badV 4 t0.at_, recovered := false }] → ixS t0.s p.S < 0 → Below wq.heap.size wq w' → Qp ch w' := by
      intro wq ch w' b2 hch hp b3
      rw [if_pos hp] at hd
      exact hP _ _ ⟨4, _, hd, hch, bu1.trans ((b2.trans (b3.mono b2.size)).mono bu1.size)⟩
    rw [x_t_two]
    refine ⟨?_, ?_⟩
    · simp (disch := first | with_reducible assumption | omega) only [push_cast, x_blk, x_cd, ↓reduceIte, Nat.reduceEqDiff, List.map_cons, List.map_nil, Int.reduceEq, Int.lt_irrefl, fr]
      refine call2_of (text_number (hS.up' bu1) a.cS (by omega) t0) ?_ ?_
      · rintro ch w2 ⟨hch, hp, b2⟩
        exact hpan (Below.refl _ _) hch hp b2
      rintro v w2 ⟨rfl, hp, b2⟩
      simp (disch := first | with_reducible assumption | omega) only [push_cast, x_blk, x_cd, ↓reduceIte, Nat.reduceEqDiff, List.map_cons, List.map_nil, Int.reduceEq, Int.lt_irrefl, fr, bl_arr0]
      refine ⟨b2, ?_⟩
      refine blk_of al_66 ?_
      intro w3 k3 b3 z3
      simp (disch := first | with_reducible assumption | omega) only [push_cast, x_blk, x_cd, ↓reduceIte, Nat.reduceEqDiff, List.map_cons, List.map_nil, Int.reduceEq, Int.lt_irrefl, fr]
      have b23 := b2.trans (b3.mono b2.size)
      refine ⟨b23, ?_⟩
      refine sto_blk k3 (cs := arrCells ⟨ixS t0.s p.S, 0, 0⟩) ty_sz_66 rfl (arr_one _) ?_
      intro w4 k4 g4 z4
      simp (disch := first | with_reducible assumption | omega) only [push_cast, x_blk, x_cd, ↓reduceIte, Nat.reduceEqDiff, List.map_cons, List.map_nil, Int.reduceEq, Int.lt_irrefl, fr]
      exact hE' _ _ ⟨_, (by simp only [push_cast, ↓reduceIte, Nat.reduceEqDiff, true_and, and_true, and_self, eq_self, fr]), b2.size, k4, hp, g4.below b23 b23.size (by intro x hx; injection hx with hx; subst hx; exact b2.size)⟩
    · simp (disch := first | with_reducible assumption | omega) only [push_cast, x_blk, x_cd, ↓reduceIte, Nat.reduceEqDiff, List.map_cons, List.map_nil, Int.reduceEq, Int.lt_irrefl, fr]
      refine blk_of al_66 ?_
      intro w3 k3 b3 z3
      simp (disch := first | with_reducible assumption | omega) only [push_cast, x_blk, x_cd, ↓reduceIte, Nat.reduceEqDiff, List.map_cons, List.map_nil, Int.reduceEq, Int.lt_irrefl, fr]
      refine ⟨b3, ?_⟩
      refine call2_of (text_number (hS.up' (bu1.trans (b3.mono bu1.size))) a.cS (by omega) t0) ?_ ?_
      · rintro ch w2 ⟨hch, hp, b2⟩
        exact hpan b3 hch hp b2
      rintro v w2 ⟨rfl, hp, b2⟩
      have b32 := b3.trans (b2.mono b3.size)
      simp (disch := first | with_reducible assumption | omega) only [push_cast, x_blk, x_cd, ↓reduceIte, Nat.reduceEqDiff, List.map_cons, List.map_nil, Int.reduceEq, Int.lt_irrefl, fr, bl_arr0]
      refine ⟨b32, ?_⟩
      refine sto_blk (k3.below b2 k3.lt) (cs := arrCells ⟨ixS t0.s p.S, 0, 0⟩) ty_sz_66 rfl (arr_one _) ?_
      intro w4 k4 g4 z4
      simp (disch := first | with_reducible assumption | omega) only [push_cast, x_blk, x_cd, ↓reduceIte, Nat.reduceEqDiff, List.map_cons, List.map_nil, Int.reduceEq, Int.lt_irrefl, fr]
      exact hE' _ _ ⟨_, (by simp only [push_cast, ↓reduceIte, Nat.reduceEqDiff, true_and, and_true, and_self, eq_self, fr]), Nat.le_refl _, k4, hp, g4.below b32 b32.size (by intro x hx; injection hx with hx; subst hx; exact Nat.le_refl _)⟩
  clear fr
  rintro f w2 ⟨g, fr, hg, k2, hp0, b2⟩
  rw [if_neg (by omega)] at hd
  have hl0 := ixS_lt hp0
  generalize ixS t0.s p.S = n0 at *
  have hgA : A.map (·.block) ≠ some g := by
    rcases ou1.form with ⟨h0, _⟩ | ⟨q, h0, _, hq⟩
    · rw [h0]; simp
    · rw [h0]; simp only [Option.map_some, ne_eq, Option.some.injEq]; omega
  have bb2 := bu1.trans (b2.mono bu1.size)
  have kp2 := ku1.below b2 ku1.lt
  have o2 := ou1.below b2 (Nat.le_refl _)
  have hwu := bu1.size
  have hlw := ku1.lt
  clear b2 ku1 ou1 hu1 sd1 k1 o1 b1
  have sd2 := (Same.refl w2).drew
  have hu2 := Toks.up h (bb2.trans (sd2.below _))
  have ku2 := kp2.same sd2
  have ou2 := o2.same sd2
  have kg2 := k2.same sd2
  have bu2 := bb2.trans (sd2.below w.heap.size)
  generalize hue2 : w2.drew = u2 at *
  simp (disch := first | with_reducible assumption | omega) only [push_cast, x_blk, x_cd, ↓reduceIte, Nat.reduceEqDiff, List.map_cons, List.map_nil, Int.reduceEq, Int.lt_irrefl, fr, hue2, sA, ku2.jE, e1, c1, Toks.ldA hu2 hx1]
  refine call2_of (text_number (hE.up' bu2) a.cE (by omega) t1) ?_ ?_
  · rintro ch w3 ⟨hch, hp, b3⟩
    rw [if_pos hp] at hd
    exact hP _ _ ⟨4, _, hd, hch, bu2.trans (b3.mono bu2.size)⟩
  rintro v w3 ⟨rfl, hp1, b3⟩
  rw [if_neg (by omega)] at hd
  have hl1 := ixS_lt hp1
  generalize ixS t1.s p.E = n1 at *
  have kg3 := kg2.below b3 kg2.lt
  have kp3 := ku2.below b3 ku2.lt
  have o3 := ou2.below b3 (Nat.le_refl _)
  have bb3 := bu2.trans (b3.mono bu2.size)
  simp (disch := first | with_reducible assumption | omega) only [push_cast, x_blk, x_cd, ↓reduceIte, Nat.reduceEqDiff, List.map_cons, List.map_nil, Int.reduceEq, Int.lt_irrefl, fr]
  refine sto_cell kg3 ty_sz_int 1 (by simp [arrCells]) .i64 n1 ?_
  intro w4 kg4 g4 z4
  replace kg4 : Blk w4 g 66 (arrCells ⟨n0, n1, 0⟩) := kg4
  have hgw : w.heap.size < g := by omega
  have kp4 := kp3.grown g4.by_ (by simp; omega)
  have o4 := o3.grew g4 (.inr (by simpa using hgA))
  have gz : ∀ x : Addr, (some ⟨g, 0, none⟩ : Option Addr) = some x → w.heap.size ≤ x.block := by intro x hx; injection hx with hx; subst hx; show w.heap.size ≤ g; omega
  have bb4 := g4.below bb3 bb3.size gz
  clear bb3 o3 kp3 kg3 b3 bu2 kg2 ou2 ku2 hu2 sd2 bb2 kp2 o2 k2 g4 z4
  have sd5 := (Same.refl w4).drew
  have hu5 := Toks.up h (bb4.trans (sd5.below _))
  have ku5 := kp4.same sd5
  have ou5 := o4.same sd5
  have kg5 := kg4.same sd5
  have bu5 := bb4.trans (sd5.below w.heap.size)
  generalize hue5 : w4.drew = u5 at *
  simp (disch := first | with_reducible assumption | omega) only [push_cast, x_blk, x_cd, ↓reduceIte, Nat.reduceEqDiff, List.map_cons, List.map_nil, Int.reduceEq, Int.lt_irrefl, fr, hue5, sA, ku5.jS, e2, c2, Toks.ldA hu5 hx2]
  refine call2_of (text_number (hS.up' bu5) a.cS (by omega) t2) ?_ ?_
  · rintro ch w3 ⟨hch, hp, b3⟩
    rw [if_pos hp] at hd
    exact hP _ _ ⟨4, _, hd, hch, bu5.trans (b3.mono bu5.size)⟩
  rintro v w6 ⟨rfl, hp2, b6⟩
  rw [if_neg (by omega)] at hd
  have hl2 := ixS_lt hp2
  generalize ixS t2.s p.S = n2 at *
  have kg6 := kg5.below b6 kg5.lt
  have kp6 := ku5.below b6 ku5.lt
  have o6 := ou5.below b6 (Nat.le_refl _)
  have bb6 := bu5.trans (b6.mono bu5.size)
  simp (disch := first | with_reducible assumption | omega) only [push_cast, x_blk, x_cd, ↓reduceIte, Nat.reduceEqDiff, List.map_cons, List.map_nil, Int.reduceEq, Int.lt_irrefl, fr]
  refine sto_cell kg6 ty_sz_int 2 (by simp [arrCells]) .i64 n2 ?_
  intro w7 kg7 g7 z7
  replace kg7 : Blk w7 g 66 (arrCells ⟨n0, n1, n2⟩) := kg7
  have kp7 := kp6.grown g7.by_ (by simp; omega)
  have o7 := o6.grew g7 (.inr (by simpa using hgA))
  have bb7 := g7.below bb6 bb6.size gz
  clear bb6 o6 kp6 kg6 b6 bu5 kg5 ou5 ku5 hu5 sd5 bb4 kp4 o4 kg4 g7 z7
  have sd8 := (Same.refl w7).drew
  have hu8 := Toks.up h (bb7.trans (sd8.below _))
  have ku8 := kp7.same sd8
  have ou8 := o7.same sd8
  have kg8 := kg7.same sd8
  have bu8 := bb7.trans (sd8.below w.heap.size)
  generalize hue8 : w7.drew = u8 at *
  have hA8 := Arrs.of_recs (Recs.lt arrEnc (by decide) (OwnR.recs ou8 arrEnc (by decide)))
  generalize hy : (⟨n0, n1, n2⟩ : Arr) = y at *
  have hys : ASm y := by subst hy; unfold ASm; simp only; omega
  simp (disch := first | with_reducible assumption | omega) only [push_cast, x_blk, x_cd, ↓reduceIte, Nat.reduceEqDiff, List.map_cons, List.map_nil, Int.reduceEq, Int.lt_irrefl, fr, hue8, sA, hlt, kg8.aA ty_ag_66 ty_sz_66, Toks.ld2 hu8 hx0]
  refine call_of (arr_Contains hA8 c (by omega) y) ?_
  rintro v w9 ⟨rfl, b9⟩
  simp (disch := first | with_reducible assumption | omega) only [push_cast, x_blk, x_cd, ↓reduceIte, Nat.reduceEqDiff, List.map_cons, List.map_nil, Int.reduceEq, Int.lt_irrefl, fr]
  refine ⟨b9, ?_⟩
  have kg9 := kg8.below b9 kg8.lt
  have kp9 := ku8.below b9 ku8.lt
  have o9 := ou8.below b9 (Nat.le_refl _)
  have bb9 := bu8.trans (b9.mono bu8.size)
  refine call2_of (text_must (!decide (y ∈ acc)) 5 t0.at_ w9) ?_ ?_
  · rintro ch w6 ⟨hch, hp, s6⟩
    have hin : y ∈ acc := by simpa using hp
    rw [if_pos hin] at hd
    exact hP _ _ ⟨5, _, hd, hch, bb9.trans (s6.below _)⟩
  rintro v wA ⟨rfl, hpA, sA'⟩
  have hin : y ∉ acc := by simpa using hpA
  rw [if_neg hin] at hd
  have kgA := kg9.same sA'
  have kpA := kp9.same sA'
  have oA := o9.same sA'
  have bbA := bb9.trans (sA'.below w.heap.size)
  have hlA := kpA.lt
  simp (disch := first | with_reducible assumption | omega) only [push_cast, x_blk, x_cd, ↓reduceIte, Nat.reduceEqDiff, List.map_cons, List.map_nil, Int.reduceEq, Int.lt_irrefl, fr, kgA.aA ty_ag_66 ty_sz_66, bs_rec arrEnc slT_24 y (by decide)]
  refine app_rec arrEnc slT_24 oA y (by omega) (by omega) (by omega) ?_
  intro A' c' wB oB gB _ _ zB
  have kpB := kpA.grown gB.by_ (oA.ne_blk kpA (by decide)).symm
  simp (disch := first | with_reducible assumption | omega) only [push_cast, x_blk, x_cd, ↓reduceIte, Nat.reduceEqDiff, List.map_cons, List.map_nil, Int.reduceEq, Int.lt_irrefl, fr]
  exact hJ _ _ ⟨i + 3, _, A', c', by omega, by omega, (by simp only [push_cast, ↓reduceIte, Nat.reduceEqDiff, true_and, and_true, and_self, eq_self, fr, List.length_append, List.length_singleton, Int.add_assoc, Int.reduceAdd]), hd, by rw [List.length_append, List.length_singleton]; omega, (List.nodup_append.2 ⟨hnd, by simp, fun a ha b hb' => by rw [List.mem_singleton.1 hb']; exact fun e => hin (e ▸ ha)⟩), (fun z hz => by
    rcases List.mem_append.1 hz with hz | hz
    · exact hsm z hz
    · rw [List.mem_singleton.1 hz]; exact hys), oB, kpB, gB.below bbA bbA.size (fun x hx => by have := oA.geB x hx; omega)⟩ (by rw [hmu]; simp only [push_cast, ↓reduceIte, Nat.reduceEqDiff, intOf, fr]; omega)
end Go.Proofs.YtpinjiikiaakaaaDoor

/-
  The form of a text, as the reference tells it: by its contract.
-/
namespace Go.Proofs.YtpinjiikiaakaaaDoor
set_option linter.unusedSimpArgs false
set_option linter.unusedVariables false
set_option linter.unusedSectionVars false
open Go.RowKit

section
variable {P : Program} {K : Fr → World → Prop} {u : World} {f : Fr} {d : Option Nat} {w : World} (t : TypeId) (xo yo : Operand)
end
end Go.Proofs.YtpinjiikiaakaaaDoor

/-
  The reference's reading of a text: what lies in memory meanwhile.
-/
namespace Go.Proofs.YtpinjiikiaakaaaDoor
set_option linter.unusedSimpArgs false
set_option linter.unusedVariables false
set_option linter.unusedSectionVars false
open Go.RowKit

def pj0 : Pj := ⟨[], [], mach0, [], [], [], []⟩
def jv0 : JV := ⟨none, 0, none, 0, mv0, none, 0, none, 0, none, 0, none, 0⟩
theorem pj0_is (ok : Nat → Prop) (w : World) : IsJ ok w jv0 pj0 := ⟨Recs.nil _ _ _, Recs.nil _ _ _, mach0_is _ _, Ints.nil _ _ _, Ints.nil _ _ _, Ints.nil _ _ _, Ints.nil _ _ _⟩
def resP : Except Flt Pj → Pj
  | .ok p => p
  | .error _ => pj0
def fltL : Except Flt Pj → List Value
  | .ok _ => [.int .i64 0, .int .i64 0]
  | .error (c, a) => [.int .i64 c, .int .i64 a]
abbrev z11 : List Value := [.slice none 0 0, .slice none 0 0, .int .i64 0, .int .i64 0, .slice none 0 0, .slice none 0 0, .slice none 0 0, .slice none 0 0, .slice none 0 0, .slice none 0 0, .slice none 0 0]
theorem fin_cc {P : Program} {Rc : Value → World → Prop} {a t t' g b s s' q : Nat} {cs ds : List Value} {f : Fr} {w : World} (hk : Blk w g t' cs) (ht : tyAgg P t = some true) (hs : tySize P t = some cs.length)
    (hk2 : Blk w q s' ds) (ht2 : tyAgg P s = some true) (hs2 : tySize P s = some ds.length)
    (hf : f a = .pointer (some ⟨g, 0, none⟩)) (hf2 : f b = .pointer (some ⟨q, 0, none⟩)) (h : Rc (.tuple #[.agg cs.toArray, .agg ds.toArray]) w) : FinX P #[.cell a t, .cell b s] Rc f w := by
  refine ⟨_, fun fn tmps hr hf' => ?_, h⟩
  have e2 : tmps[a]?.getD undef = .pointer (some ⟨g, 0, none⟩) := by simpa [hf] using hf' a
  have e3 : tmps[b]?.getD undef = .pointer (some ⟨q, 0, none⟩) := by simpa [hf2] using hf' b
  unfold tyAgg at ht ht2
  unfold tySize at hs hs2
  cases hu : P.underlying t with
  | none => simp [hu] at ht
  | some de =>
    cases hi : P.info? t with
    | none => simp [hi] at hs
    | some ie =>
      cases hu2 : P.underlying s with
      | none => simp [hu2] at ht2
      | some de2 =>
        cases hi2 : P.info? s with
        | none => simp [hi2] at hs2
        | some ie2 =>
          simp only [hi, Option.map_some, Option.some.injEq] at hs
          simp only [hu, Option.map_some, Option.some.injEq] at ht
          simp only [hi2, Option.map_some, Option.some.injEq] at hs2
          simp only [hu2, Option.map_some, Option.some.injEq] at ht2
          have hr' := run_loadCells_list (P := P) w ⟨g, 0, none⟩ cs (fun j v hv => by rw [addr_add, Nat.zero_add, hk.cell, hv])
          have hr2 := run_loadCells_list (P := P) w ⟨q, 0, none⟩ ds (fun j v hv => by rw [addr_add, Nat.zero_add, hk2.cell, hv])
          cases de <;> simp at ht <;> cases de2 <;> simp at ht2 <;> simp [results, hr, e2, e3, asAddr, loadVar, isAgg, run_underlying hu, run_underlying hu2, sizeOf, typeInfo, hi, hs, hi2, hs2, hr', hr2]
theorem Own.ne_own {B e sz c n B' e' sz' c' n' : Nat} {w : World} {A A' : Option Addr} {xs ys : List Value} (h : Own B e sz w A c n xs) (h' : Own B' e' sz' w A' c' n' ys) (hne : e ≠ e') : A = none ∨ A.map (·.block) ≠ A'.map (·.block) := by
  rcases h.own.2 with ⟨h0, _⟩ | ⟨g, cap, cur, hv, hb, hh, r⟩
  · injection h0 with h0; exact .inl h0
  · injection hv with hv
    subst hv
    refine .inr ?_
    rcases h'.own.2 with ⟨h0, _⟩ | ⟨g', cap', cur', hv', hb', hh', r'⟩
    · injection h0 with h0; subst h0; simp
    · injection hv' with hv'
      subst hv'
      simp only [Option.map_some, ne_eq, Option.some.injEq]
      rintro rfl
      rw [hh] at hh'
      injection hh' with hh'
      injection hh' with _ ht
      exact hne ht
structure Rw where
  A : Option Addr
  c : Nat
  l : List Int
def rw0 : Rw := ⟨none, 0, []⟩
structure OwnRows (B : Nat) (w : World) (R : Nat → Rw) (N : Nat) : Prop where
  own : ∀ j, j < N → OwnI B 3 w (R j).A (R j).c (R j).l
  sep : ∀ i j, i < N → j < N → i ≠ j → (R i).A = none ∨ (R i).A.map (·.block) ≠ (R j).A.map (·.block)
def Rput (R : Nat → Rw) (k : Nat) (r : Rw) : Nat → Rw := fun j => if j = k then r else R j
theorem OwnRows.keep {B N : Nat} {w w' : World} {R : Nat → Rw} (h : OwnRows B w R N) (hk : ∀ j, j < N → ∀ g, (R j).A.map (·.block) = some g → w'.heap[g]? = w.heap[g]?) : OwnRows B w' R N :=
  ⟨fun j hj => (h.own j hj).keep (hk j hj), h.sep⟩
theorem OwnRows.below {B N : Nat} {w w' : World} {R : Nat → Rw} (h : OwnRows B w R N) (b : Below w.heap.size w w') : OwnRows B w' R N :=
  ⟨fun j hj => (h.own j hj).below b (Nat.le_refl _), h.sep⟩
theorem OwnRows.grewB {B N g t : Nat} {w w' : World} {R : Nat → Rw} {cs : List Value} (h : OwnRows B w R N) (hk : Blk w g t cs) (hne : t ≠ 3) (hg : Grew w w' (some ⟨g, 0, none⟩)) : OwnRows B w' R N :=
  ⟨fun j hj => (h.own j hj).grew hg (.inr ((h.own j hj).ne_blk hk (Ne.symm hne))), h.sep⟩
theorem OwnRows.grewO {B N B' e sz c n : Nat} {w w' : World} {R : Nat → Rw} {A : Option Addr} {xs : List Value} (h : OwnRows B w R N) (ho : Own B' e sz w A c n xs) (hne : e ≠ 3) (hg : Grew w w' A) : OwnRows B w' R N :=
  ⟨fun j hj => (h.own j hj).grew hg ((h.own j hj).ne_own ho (Ne.symm hne)), h.sep⟩
theorem OwnRows.clear {B N : Nat} {w : World} {R : Nat → Rw} (h : OwnRows B w R N) (k : Nat) : OwnRows B w (Rput R k rw0) N := by
  refine ⟨fun j hj => ?_, fun i j hi hj hij => ?_⟩
  · unfold Rput
    split
    · exact Own.nil _ _ _ _
    · exact h.own j hj
  · unfold Rput
    by_cases c : i = k
    · rw [if_pos c]; exact .inl rfl
    · rw [if_neg c]
      by_cases d : j = k
      · rw [if_pos d]
        cases hA : (R i).A with
        | none => exact .inl rfl
        | some a => right; simp [rw0]
      · rw [if_neg d]; exact h.sep i j hi hj hij
/-- One row grows. -/
theorem OwnRows.app {B N k : Nat} {w w' : World} {R : Nat → Rw} {A' : Option Addr} {c' : Nat} {l' : List Int} (h : OwnRows B w R N) (hk : k < N) (o : OwnI B 3 w' A' c' l') (g : Grew w w' (R k).A)
    (hA : A'.map (·.block) = (R k).A.map (·.block) ∨ ∃ g, A'.map (·.block) = some g ∧ w.heap.size ≤ g) : OwnRows B w' (Rput R k ⟨A', c', l'⟩) N := by
  have hlt : ∀ j, j < N → ∀ b, (R j).A.map (·.block) = some b → b < w.heap.size := fun j hj b hb => by
    have hf := (h.own j hj).form
    rcases hf with ⟨h0, _⟩ | ⟨q, h0, _, hq⟩
    · rw [h0] at hb; cases hb
    · rw [h0] at hb; injection hb with hb; simp only at hb; omega
  have key : ∀ j, j < N → j ≠ k → (R j).A = none ∨ (R j).A.map (·.block) ≠ A'.map (·.block) := fun j hj hjk => by
    rcases hA with hA | ⟨q, hA, hq⟩
    · rw [hA]; exact h.sep j k hj hk hjk
    · cases hj' : (R j).A with
      | none => exact .inl rfl
      | some a =>
        right
        rw [hA]
        intro e
        have := hlt j hj q (by rw [hj']; exact e)
        omega
  refine ⟨fun j hj => ?_, fun i j hi hj hij => ?_⟩
  · unfold Rput
    by_cases c : j = k
    · rw [if_pos c]; exact o
    · rw [if_neg c]; exact (h.own j hj).grew g (h.sep j k hj hk c)
  · unfold Rput
    by_cases c : i = k
    · subst c
      rw [if_pos rfl, if_neg (fun e => hij e.symm)]
      cases hA' : A' with
      | none => exact .inl rfl
      | some a =>
        right
        rcases key j hj (fun e => hij e.symm) with h1 | h1
        · rw [h1]; simp
        · rw [hA'] at h1; exact fun e => h1 e.symm
    · rw [if_neg c]
      by_cases d : j = k
      · rw [if_pos d]; exact key i hi c
      · rw [if_neg d]; exact h.sep i j hi hj hij
section
variable {P : Program} {K : Fr → World → Prop} {f : Fr} {d : Option Nat} {u w w' : World} {g : Nat} {t ty e bytes : Nat}
end
/-- All blocks below B but two are kept. -/
structure But2 (B g q : Nat) (w w' : World) : Prop where
  os : w'.os = w.os
  tape : w'.tape = w.tape
  output : w'.output = w.output
  size : w.heap.size ≤ w'.heap.size
  block : ∀ k, k < B → k ≠ g → k ≠ q → w'.heap[k]? = w.heap[k]?
section
variable {B g q : Nat} {w w1 w2 w' : World}
theorem But2.refl (B g q : Nat) (w : World) : But2 B g q w w := ⟨rfl, rfl, rfl, Nat.le_refl _, fun _ _ _ _ => rfl⟩
theorem But2.trans (h : But2 B g q w w1) (h' : But2 B g q w1 w2) : But2 B g q w w2 := ⟨h'.os.trans h.os, h'.tape.trans h.tape, h'.output.trans h.output, Nat.le_trans h.size h'.size, fun k hk hg hq => (h'.block k hk hg hq).trans (h.block k hk hg hq)⟩
theorem But2.of {B' : Nat} (h : Below B' w w') (hB : B ≤ B') : But2 B g q w w' := ⟨h.os, h.tape, h.output, h.size, fun k hk _ _ => h.block k (by omega)⟩
theorem But2.cellg (h : Grew w w' (some ⟨g, 0, none⟩)) (hB : B ≤ w.heap.size) : But2 B g q w w' := ⟨h.by_.os, h.by_.tape, h.by_.output, h.by_.size, fun k hk hg _ => h.by_.block k (by omega) (by simpa using hg)⟩
theorem But2.grew {A : Option Addr} (h : Grew w w' A) (hA : ∀ a, A = some a → B ≤ a.block) (hB : B ≤ w.heap.size) : But2 B g q w w' :=
  ⟨h.by_.os, h.by_.tape, h.by_.output, h.by_.size, fun k hk _ _ => h.by_.block k (by omega) (by
    cases A with
    | none => simp
    | some a => have := hA a rfl; simp; omega)⟩
end
structure RV where
  AS : Option Addr
  cS : Nat
  AE : Option Addr
  cE : Nat
  Aa : Option Addr
  ca : Nat
abbrev rcells (v : RV) (s : RS) : List Value := [.slice v.AS s.S.length v.cS, .slice v.AE s.E.length v.cE, .int .i64 0, .int .i64 0, .slice none 0 0, .slice v.Aa s.arrows.length v.ca, .slice none 0 0, .slice none 0 0, .slice none 0 0, .slice none 0 0, .slice none 0 0]
def rrow (R : Nat → Rw) : List Value := (List.range 9).map fun j => .slice (R j).A (R j).l.length (R j).c
structure RM (B bp bR : Nat) (W w : World) (s : RS) (R : Nat → Rw) (v : RV) : Prop where
  kp : Blk w bp 28 (rcells v s)
  kR : Blk w bR 23 (rrow R)
  oS : OwnR strE B 9 1 w v.AS v.cS s.S
  oE : OwnR strE B 9 1 w v.AE v.cE s.E
  sp : v.AS = none ∨ v.AS.map (·.block) ≠ v.AE.map (·.block)
  oA : OwnR arrCells B 66 3 w v.Aa v.ca s.arrows
  rows : OwnRows B w R 10
  eq : ∀ j, j < 9 → (R j).l = s.rows.getD j []
  three : (R 9).l = s.three
  b : But2 B bp bR W w
  hp : bp < B
  hR : bR < B
  ne : bp ≠ bR
  sz : B ≤ w.heap.size
section
variable {B bp bR : Nat} {W w w1 w2 w' : World} {s : RS} {R : Nat → Rw} {v : RV}
theorem RM.below (h : RM B bp bR W w s R v) (b : Below w.heap.size w w') : RM B bp bR W w' s R v :=
  ⟨h.kp.below b h.kp.lt, h.kR.below b h.kR.lt, h.oS.below b (Nat.le_refl _), h.oE.below b (Nat.le_refl _), h.sp, h.oA.below b (Nat.le_refl _), h.rows.below b, h.eq, h.three, h.b.trans (But2.of b h.sz), h.hp, h.hR, h.ne, Nat.le_trans h.sz b.size⟩
theorem RM.same (h : RM B bp bR W w s R v) (b : Same w w') : RM B bp bR W w' s R v := h.below (b.below _)
/-- One more name. -/
theorem RM.addS (h : RM B bp bR W w s R v) {x : ByteArray} {A' : Option Addr} {c' : Nat} (o : OwnR strE B 9 1 w1 A' c' (s.S ++ [x])) (g1 : Grew w w1 v.AS) (hA : A'.map (·.block) = v.AS.map (·.block) ∨ ∃ g, A'.map (·.block) = some g ∧ w.heap.size ≤ g)
    (k2 : Blk w2 bp 28 ((rcells v s).set 0 (.slice A' (s.S.length + 1) c'))) (g2 : Grew w1 w2 (some ⟨bp, 0, none⟩)) : RM B bp bR W w2 { s with S := s.S ++ [x] } R { v with AS := A', cS := c' } := by
  have kp1 := h.kp.grown g1.by_ (h.oS.ne_blk h.kp (by decide)).symm
  have kR1 := h.kR.grown g1.by_ (h.oS.ne_blk h.kR (by decide)).symm
  have hs : v.AE = none ∨ v.AE.map (·.block) ≠ v.AS.map (·.block) := by
    cases hE : v.AE with
    | none => exact .inl rfl
    | some a =>
      right
      rcases h.sp with h1 | h1
      · rw [h1]; simp
      · rw [hE] at h1; exact fun e => h1 e.symm
  have oE1 := h.oE.grew g1 hs
  have oA1 := h.oA.grew g1 (h.oA.ne_own h.oS (by decide))
  have r1 := h.rows.grewO h.oS (by decide) g1
  have hbp : some bR ≠ (some (⟨bp, 0, none⟩ : Addr)).map (·.block) := by simpa using fun e => h.ne e.symm
  refine ⟨?_, kR1.grown g2.by_ hbp, o.grew g2 (.inr (o.ne_blk kp1 (by decide))), oE1.grew g2 (.inr (oE1.ne_blk kp1 (by decide))), ?_, oA1.grew g2 (.inr (oA1.ne_blk kp1 (by decide))), r1.grewB kp1 (by decide) g2, h.eq, h.three,
    h.b.trans ((But2.grew g1 h.oS.geB h.sz).trans (But2.cellg g2 (Nat.le_trans h.sz g1.by_.size))), h.hp, h.hR, h.ne, Nat.le_trans h.sz (Nat.le_trans g1.by_.size g2.by_.size)⟩
  · have e : (rcells v s).set 0 (.slice A' (s.S.length + 1) c') = rcells { v with AS := A', cS := c' } { s with S := s.S ++ [x] } := by
      simp [rcells]
    rw [e] at k2; exact k2
  · rcases hA with hA | ⟨q, hA, hq⟩
    · rcases h.sp with h1 | h1
      · rw [h1] at hA
        left
        cases hA' : A' with
        | none => rfl
        | some a => rw [hA'] at hA; cases hA
      · right; simp only; rw [hA]; exact h1
    · right
      simp only
      rw [hA]
      intro e
      rcases h.oE.form with ⟨h0, _⟩ | ⟨q', h0, _, hq'⟩
      · rw [h0] at e; cases e
      · rw [h0] at e; injection e with e; simp only at e; omega
end
section
variable {K : Fr → World → Prop} {u w : World} {f : Fr} {d : Option Nat} {g t : Nat} {s : RS} {v : RV} {R : Nat → Rw}
theorem bl_prj0 : Val1 Tryd.prog K (Instr.build 28 #[]) u f d w = K (updO f d (.agg z11.toArray)) w := bld_of (by kernel_rfl)
end
end Go.Proofs.YtpinjiikiaakaaaDoor

/-
  The reference's reading of a text: by its contract.
-/
namespace Go.Proofs.YtpinjiikiaakaaaDoor
set_option linter.unusedSimpArgs false
set_option linter.unusedVariables false
set_option linter.unusedSectionVars false
open Go.RowKit

/-- What lies in memory when the rows are sorted. -/
structure TLm (B bp bR g1 g2 : Nat) (w0 w : World) (q : RS) (R : Nat → Rw) (v : RV) (cs : List Value) (res : List Rw) : Prop where
  kp : Blk w bp 28 cs
  kR : Blk w bR 23 (rrow R)
  oS : OwnR strE B 9 1 w v.AS v.cS q.S
  oE : OwnR strE B 9 1 w v.AE v.cE q.E
  oA : OwnR arrCells B 66 3 w v.Aa v.ca q.arrows
  rows : OwnRows B w R 10
  k1 : Blk w g1 28 z11
  k2 : Blk w g2 31 [.int .i64 0, .int .i64 0]
  res : ∀ r ∈ res, OwnI B 3 w r.A r.c r.l
  b : Below w0.heap.size w0 w
  sz : B ≤ w.heap.size
  ne : bp ≠ bR ∧ bp ≠ g1 ∧ bp ≠ g2 ∧ w0.heap.size ≤ bp ∧ w0.heap.size ≤ B
section
variable {B bp bR g1 g2 : Nat} {w0 w w1 w2 : World} {q : RS} {R : Nat → Rw} {v : RV} {cs cs' : List Value} {res : List Rw}
theorem TLm.below (h : TLm B bp bR g1 g2 w0 w q R v cs res) (b : Below w.heap.size w w1) : TLm B bp bR g1 g2 w0 w1 q R v cs res :=
  ⟨h.kp.below b h.kp.lt, h.kR.below b h.kR.lt, h.oS.below b (Nat.le_refl _), h.oE.below b (Nat.le_refl _), h.oA.below b (Nat.le_refl _), h.rows.below b, h.k1.below b h.k1.lt, h.k2.below b h.k2.lt, fun r hr => (h.res r hr).below b (Nat.le_refl _), h.b.trans (b.mono h.b.size), Nat.le_trans h.sz b.size, h.ne⟩
theorem TLm.put (h : TLm B bp bR g1 g2 w0 w q R v cs res) (k : Blk w1 bp 28 cs') (g : Grew w w1 (some ⟨bp, 0, none⟩)) : TLm B bp bR g1 g2 w0 w1 q R v cs' res :=
  ⟨k, h.kR.grown g.by_ (by simpa using fun e => h.ne.1 e.symm), h.oS.grew g (.inr (h.oS.ne_blk h.kp (by decide))), h.oE.grew g (.inr (h.oE.ne_blk h.kp (by decide))), h.oA.grew g (.inr (h.oA.ne_blk h.kp (by decide))), h.rows.grewB h.kp (by decide) g,
    h.k1.grown g.by_ (by simpa using fun e => h.ne.2.1 e.symm), h.k2.grown g.by_ (by simpa using fun e => h.ne.2.2.1 e.symm), fun r hr => (h.res r hr).grew g (.inr ((h.res r hr).ne_blk h.kp (by decide))),
    g.below h.b h.b.size (by intro x hx; injection hx with hx; subst hx; exact h.ne.2.2.2.1), Nat.le_trans h.sz g.by_.size, h.ne⟩
theorem TLm.add (h : TLm B bp bR g1 g2 w0 w q R v cs res) {r : Rw} (o : OwnI B 3 w r.A r.c r.l) : TLm B bp bR g1 g2 w0 w q R v cs (r :: res) :=
  ⟨h.kp, h.kR, h.oS, h.oE, h.oA, h.rows, h.k1, h.k2, fun x hx => by
    rcases List.mem_cons.1 hx with rfl | hx
    · exact o
    · exact h.res x hx, h.b, h.sz, h.ne⟩
end
theorem Toks.ld1 {K : Fr → World → Prop} {u w : World} {f : Fr} {d : Option Nat} {ok : Nat → Prop} {A : Option Addr} {ts : List Tok} (h : Recs Tok.cells 3 ok u A ts) {i : Nat} {t : Tok} (hi : ts[i]? = some t) :
    Val1 Tryd.prog K (Instr.loadAt 9 (.pointer (some (eA A (i * 3 + 1))))) u f d w = K (updO f d (.string t.s)) w :=
  Recs.ld (j := 1) h ty_ag_9 hi rfl
end Go.Proofs.YtpinjiikiaakaaaDoor

/-
  text.Parse's deferred function: a panic of the reader is recovered, and its fault answered; else nothing happens.
-/
namespace Go.Proofs.YtpinjiikiaakaaaDoor
set_option linter.unusedSimpArgs false
set_option linter.unusedVariables false
set_option linter.unusedSectionVars false
open Go.RowKit

def fstC : Code → Code
  | .seq a _ => a
  | c => c
def sndC : Code → Code
  | .seq _ b => b
  | c => c
def yesC : Code → Code
  | .cond _ a _ => a
  | c => c
def opsC : Code → List Oper
  | .region _ ops _ => ops.toList
  | _ => []
def sndK : C → C
  | .sq _ b => b
  | c => c
noncomputable def dBody : Code := (Tryd.f10.body).getD .skip
noncomputable def dOps : List Oper := opsC (fstC (yesC (sndC (sndC dBody))))
noncomputable def dRest : Code := sndC (yesC (sndC (sndC dBody)))
abbrev dOpsC : List I := [.mv (some 8) (.tmp 10), .val (some 11) (.extract (.tmp 8) 0) 41, .val (some 12) (.extract (.tmp 8) 1) 4, .eff (some 3) (.alloc 41) 0, .eff none (.store 41 (.tmp 3) (.tmp 11)) 0, .mv (some 4) (.tmp 12)]
theorem c_dOps : (dOps.drop 2).map (cI 19 dOps.toArray) = dOpsC := by kernel_rfl
theorem c_dRest : cC 19 dRest = sndK (match F_text_Parse_1 with | .sq _ (.sq _ (.cd _ a _)) => a | c => c) := by kernel_rfl
set_option maxHeartbeats 1000000 in
theorem parse1_idle (p q : Value) (w : World) :
    CallsD Tryd.prog 10 #[p, q] .returning w fun e u' w' => e = .returned (.tuple #[]) ∧ u' = .returning ∧ w' = w := by
  refine callsD_of_wpS Tryd.func10 rfl fun c₀ cs hu => ?_
  apply wpS_seq
  apply wpS_region
  simp [wpOpsS, go_sem, recoverD, hu, Tryd.ntmps10, Exit.thenS]
  apply wpS_seq
  apply wpS_region
  simp [wpOpsS, go_sem, Exit.thenS]
  refine wpS_cond (t := false) (by simp [Act.eval, Array.replicate]) ?_
  simp only [Bool.false_eq_true, if_false]
  refine wpS_of_wp (wp_skip ?_)
  cases c₀
  simp_all [bodyPostS, results, Tryd.results10]
abbrev dO1 : Oper := Oper.mk (some 9) (.move (.tmp 2)) 20 "text.go:172" #[] none
abbrev dO2 : Oper := Oper.mk (some 10) (.typeAssert (.tmp 9) 20 41 true) 42 "text.go:172" #[Edge.mk 0 Ground.data] none
theorem d_ops : dOps = dO1 :: dO2 :: dOps.drop 2 := by kernel_rfl
theorem d_yes : yesC (sndC (sndC dBody)) = .seq (.region 2 dOps.toArray false) dRest := by kernel_rfl
def isSt : Option TypeDesc → Bool
  | some (.struct _) => true
  | _ => false
theorem und_bad : ∃ fs, Tryd.prog.underlying 41 = some (.struct fs) := by
  have h : isSt (Tryd.prog.underlying 41) = true := by kernel_rfl
  generalize Tryd.prog.underlying 41 = o at h ⊢
  unfold isSt at h
  split at h
  · exact ⟨_, rfl⟩
  · cases h
theorem assert_bad (c a : Int) (w : World) : (Instr.typeAssert (badV c a) 20 41 true).run Tryd.prog w = .ok (.tuple #[.agg #[.int .i64 c, .int .i64 a], .bool true]) w := by
  obtain ⟨fs, h⟩ := und_bad
  simp [Instr.typeAssert, run_underlying h, Sem.run_bind, Result.andThen_ok, badV]
theorem vs_bld0 {P : Program} {K : Fr → World → Prop} {S : World → Prop} {f : Fr} {d : Option Nat} {w : World} {ty : TypeId} (t : TypeId) : ValXS P K S (.build t #[]) ty f d w = ValS P K S (Instr.build t #[]) f d w := by simp [ValXS, valOf]
set_option maxHeartbeats 1000000 in
/-- The branch that recovers. -/
theorem parse1_yes {ac : Act} {w : World} {g2 g3 B : Nat} {cs1 cs2 : List Value} {c a : Int} (hd : ac.defers = []) (hs : ac.tmps.size = 19) (h0 : ac.tmps.getD 0 undef = .pointer (some ⟨g2, 0, none⟩)) (h1 : ac.tmps.getD 1 undef = .pointer (some ⟨g3, 0, none⟩)) (h2 : ac.tmps.getD 2 undef = badV c a)
    (k2 : Blk w g2 28 cs1) (l2 : cs1.length = 11) (k3 : Blk w g3 31 cs2) (l3 : cs2.length = 2) (hg : g2 < g3) (hB : B ≤ g2) :
    (yesC (sndC (sndC dBody))).wp Tryd.prog (kont Tryd.prog 19 noD ⟨fun _ w' => Blk w' g2 28 z11 ∧ Blk w' g3 31 [.int .i64 c, .int .i64 a] ∧ Below B w w', fun _ _ => False⟩ []) ac w := by
  have key : ∀ ac1 : Act, ac1.defers = [] → ac1.tmps.size = 19 → ac1.tmps.getD 0 undef = .pointer (some ⟨g2, 0, none⟩) → ac1.tmps.getD 1 undef = .pointer (some ⟨g3, 0, none⟩) → ac1.tmps.getD 10 undef = .tuple #[.agg #[.int .i64 c, .int .i64 a], .bool true] →
      wpList Tryd.prog dOps.toArray (kont Tryd.prog 19 noD ⟨fun _ w' => Blk w' g2 28 z11 ∧ Blk w' g3 31 [.int .i64 c, .int .i64 a] ∧ Below B w w', fun _ _ => False⟩ [.c dRest]) (dOps.drop 2) ac1 w := by
    intro ac1 hd hs h0 h1 hA
    refine sound (N := 19) (ds := noD) mixed 100000 _ _ _ w (fun t => ac1.tmps.getD t undef) w ac1 ⟨hd, hs, fun t ht => absurd ht (Nat.not_lt_zero _), fun _ => rfl⟩ ?_
    rw [c_dOps]
    show x Tryd.prog _ _ _ [.c (cC 19 dRest)] _ _ _
    rw [c_dRest]
    generalize hf : (fun t => ac1.tmps.getD t undef) = f
    have e0 : f 0 = .pointer (some ⟨g2, 0, none⟩) := by rw [← hf]; exact h0
    have e1 : f 1 = .pointer (some ⟨g3, 0, none⟩) := by rw [← hf]; exact h1
    have eA : f 10 = .tuple #[.agg #[.int .i64 c, .int .i64 a], .bool true] := by rw [← hf]; exact hA
    clear hf
    have lw := k3.lt
    simp (disch := first | with_reducible assumption | omega) only [push_cast, x_blk, x_cd, ↓reduceIte, Nat.reduceEqDiff, List.map_cons, List.map_nil, Int.reduceEq, Int.lt_irrefl, dOpsC, sndK, F_text_Parse_1, e0, e1, eA, ext_2_0, ext_2_1]
    refine blk_of (cs := [.int .i64 0, .int .i64 0]) al_41 ?_
    intro w1 k1 b1 z1
    simp (disch := first | with_reducible assumption | omega) only [push_cast, x_blk, x_cd, ↓reduceIte, Nat.reduceEqDiff, List.map_cons, List.map_nil, Int.reduceEq, Int.lt_irrefl, e0, e1, eA]
    refine sto_blk k1 (cs := [.int .i64 c, .int .i64 a]) ty_sz_41 rfl rfl ?_
    intro w4 k4 g4 z4
    simp (disch := first | with_reducible assumption | omega) only [push_cast, x_blk, x_cd, ↓reduceIte, Nat.reduceEqDiff, List.map_cons, List.map_nil, Int.reduceEq, Int.lt_irrefl, e0, e1, eA]
    have b14 := g4.below b1 b1.size (by intro x hx; injection hx with hx; subst hx; exact Nat.le_refl _)
    have sd := (Same.refl w4).drew
    replace k4 := k4.same sd
    have bb := b14.trans (sd.below _)
    generalize hu : w4.drew = u at *
    replace k2 := k2.below bb k2.lt
    replace k3 := k3.below bb k3.lt
    obtain ⟨S0, hS0⟩ : ∃ S0 : World → Prop, ∀ w', S0 w' ↔ Blk w' w.heap.size 41 [.int .i64 c, .int .i64 a] := ⟨_, fun _ => Iff.rfl⟩
    have hSu := (hS0 u).2 k4
    refine ⟨S0, hSu, ?_⟩
    have q1 := fun {K : Fr → World → Prop} {f : Fr} {d : Option Nat} => valS_of (P := Tryd.prog) (S := S0) (K := K) (f := f) (d := d) (w := u) (s := Instr.build 28 #[]) (v := .agg z11.toArray) (fun w' hw => by rw [bl_prj0]; rfl) hSu
    have q2 := fun {K : Fr → World → Prop} {f : Fr} {d : Option Nat} => valS_of (P := Tryd.prog) (S := S0) (K := K) (f := f) (d := d) (w := u) (s := Instr.loadAt 31 (.pointer (some ⟨w.heap.size, 0, none⟩))) (v := .agg #[.int .i64 c, .int .i64 a]) (fun w' hw => by rw [((hS0 w').1 hw).ldAll ty_ag_31 ty_sz_31]; rfl) hSu
    have lw2 : g2 < w.heap.size := by omega
    simp (disch := first | with_reducible assumption | omega) only [push_cast, x_blk, x_cd, ↓reduceIte, Nat.reduceEqDiff, List.map_cons, List.map_nil, Int.reduceEq, Int.lt_irrefl, e0, e1, eA, vs_bld0, q1, q2]
    refine sto_blk k2 (cs := z11) ty_sz_28 l2 rfl ?_
    intro wA kA gA zA
    have sA := (hS0 wA).2 (k4.grown gA.by_ (by simp; omega))
    refine ⟨sA, ?_⟩
    simp (disch := first | with_reducible assumption | omega) only [push_cast, x_blk, x_cd, ↓reduceIte, Nat.reduceEqDiff, List.map_cons, List.map_nil, Int.reduceEq, Int.lt_irrefl, e0, e1, eA]
    refine sto_blk (k3.grown gA.by_ (by simp; omega)) (cs := [.int .i64 c, .int .i64 a]) ty_sz_31 l3 rfl ?_
    intro wB kB gB zB
    refine ⟨(hS0 wB).2 (((hS0 wA).1 sA).grown gB.by_ (by simp; omega)), ?_⟩
    have hB1 : B ≤ w.heap.size := by omega
    have bA := gA.below (bb.mono hB1) (by have := bb.size; omega) (by intro x hx; injection hx with hx; subst hx; exact hB)
    exact ⟨kA.grown gB.by_ (by simp; omega), kB, gB.below bA (by have := bA.size; omega) (by intro x hx; injection hx with hx; subst hx; simp; omega)⟩
  rw [d_yes]
  refine wp_seq ?_
  refine wp_region_list ?_
  rw [List.toList_toArray]
  have e : ∀ Q, wpList Tryd.prog dOps.toArray Q dOps ac w = wpList Tryd.prog dOps.toArray Q (dO1 :: dO2 :: dOps.drop 2) ac w := fun Q => by rw [← d_ops]
  rw [e]
  unfold wpList
  rw [if_pos (show Region.wanted dO1 (yielded dOps.toArray ac.tmps) = true from rfl)]
  refine .inl ?_
  have r1 : (execOp ac.eval dO1).run Tryd.prog w = .ok (.value (badV c a)) w := by
    simp only [execOp, Act.eval, h2]
    rfl
  unfold Oper.wp
  rw [r1, Oper.upon_value]
  unfold wpList
  rw [if_pos (show Region.wanted dO2 _ = true from rfl)]
  refine .inl ?_
  unfold Oper.wp
  generalize ha1 : ac.put dO1.dst (badV c a) = a1
  have hg9 : a1.eval (.tmp 9) = badV c a := by
    rw [← ha1]
    simp [Act.put, Act.eval, hs]
  have r2 : (execOp a1.eval dO2).run Tryd.prog w = .ok (.value (.tuple #[.agg #[.int .i64 c, .int .i64 a], .bool true])) w := by
    have : (execOp a1.eval dO2) = (do pure (.value (← Instr.typeAssert (a1.eval (.tmp 9)) 20 41 true)) : Sem Next) := rfl
    rw [this, hg9, Sem.run_bind, assert_bad]
    rfl
  rw [r2, Oper.upon_value]
  refine key _ ?_ ?_ ?_ ?_ ?_ <;> rw [← ha1]
  · exact hd
  · simp [Act.put, hs]
  · simpa [Act.put] using h0
  · simpa [Act.put] using h1
  · simp [Act.put, hs]
set_option maxHeartbeats 1000000 in
theorem parse1_caught {w : World} {g2 g3 B : Nat} {cs1 cs2 : List Value} {c a : Int} (k2 : Blk w g2 28 cs1) (l2 : cs1.length = 11) (k3 : Blk w g3 31 cs2) (l3 : cs2.length = 2) (hg : g2 < g3) (hB : B ≤ g2) :
    CallsD Tryd.prog 10 #[.pointer (some ⟨g2, 0, none⟩), .pointer (some ⟨g3, 0, none⟩)] (.panicking [{ v := badV c a, recovered := false }]) w fun e u' w' => e = .returned (.tuple #[]) ∧ u' = .panicking [{ v := badV c a, recovered := true }] ∧ Blk w' g2 28 z11 ∧ Blk w' g3 31 [.int .i64 c, .int .i64 a] ∧ Below B w w' := by
  refine callsD_of_wpS Tryd.func10 rfl fun c₀ cs hu => ?_
  apply wpS_seq
  apply wpS_region
  simp [wpOpsS, go_sem, recoverD, hu, Tryd.ntmps10, Exit.thenS]
  apply wpS_seq
  apply wpS_region
  simp [wpOpsS, go_sem, Exit.thenS, badV]
  refine wpS_cond (t := true) (by simp [Act.eval, Array.replicate]) ?_
  simp only [if_true]
  refine wpS_of_wp (Go.wp_mono (parse1_yes (c := c) (a := a) ?_ ?_ ?_ ?_ ?_ k2 l2 k3 l3 hg hB) ?_)
  · rfl
  · simp
  · simp
  · simp
  · simp [badV]
  rintro e a' w' hq
  have key : RQ 19 noD (fun _ w' => Blk w' g2 28 z11 ∧ Blk w' g3 31 [.int .i64 c, .int .i64 a] ∧ Below B w w') a' w' → bodyPostS Tryd.prog Tryd.f10 c₀ cs (fun e u' w' => e = .returned (.tuple #[]) ∧ u' = .panicking [{ v := badV c a, recovered := true }] ∧ Blk w' g2 28 z11 ∧ Blk w' g3 31 [.int .i64 c, .int .i64 a] ∧ Below B w w') .ret a' ({ c₀ with mode := .panicking [{ v := badV c a, recovered := true }] } :: cs) w' := by
    rintro ⟨f, hf, h⟩
    exact ⟨hf.defers, _, rfl, .tuple #[], results_none rfl _ _ _, rfl, rfl, h⟩
  cases e <;> first | exact key hq | exact hq.elim | exact hq.2.elim
end Go.Proofs.YtpinjiikiaakaaaDoor
