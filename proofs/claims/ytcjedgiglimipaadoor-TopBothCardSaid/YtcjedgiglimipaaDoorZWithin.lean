/-
  Chapter 7: the program's Least, Within: by their contracts.
-/
import Derived.Test.YtcjedgiglimipaaDoorZWords
import Derived.Test.YtcjedgiglimipaaDoorZSet
import Derived.Test.YtcjedgiglimipaaDoorZMach
namespace Go.Proofs.YtcjedgiglimipaaDoor
set_option linter.unusedSimpArgs false
set_option linter.unusedVariables false
set_option linter.unusedSectionVars false
open Go.RowKit

theorem blt_pair : builtPl Tryd.prog 172 = some ([(0, 4), (4, 4)], [.int .u64 0, .int .u64 0, .int .u64 0, .int .u64 0, .int .u64 0, .int .u64 0, .int .u64 0, .int .u64 0]) := by kernel_rfl
theorem bl_pair {K : Fr → World → Prop} {u : World} {f : Fr} {d : Option Nat} {w : World} (a b : List Int) :
    Val1 Tryd.prog K (Instr.build 172 #[(0, setV a), (1, setV b)]) u f d w = K (updO f d (pairV a b)) w := by
  have := bld_2 (P := Tryd.prog) (K := K) (u := u) (f := f) (d := d) (w := w) blt_pair rfl rfl rfl (v0 := setV a) (v1 := setV b) (by simp [Value.cells, setCells_4]) (by simp [Value.cells, setCells_4])
  rw [this]; rfl
theorem Blk.pA {K : Fr → World → Prop} {u : World} {f : Fr} {d : Option Nat} {w : World} {g t : Nat} {a b : List Int} (h : Blk u g t (pairCells a b)) :
    Val1 Tryd.prog K (Instr.loadAt 76 (.pointer (some ⟨g, 0, none⟩))) u f d w = K (updO f d (setV a)) w :=
  h.ldSub ty_ag_76 0 (vs := setCells (wordsOf a)) (by rw [setCells_4]; exact ty_sz_76) fun k v hk => by
    unfold pairCells
    rw [Nat.zero_add, List.getElem?_append_left (by
      rcases Nat.lt_or_ge k (setCells (wordsOf a)).length with h1 | h1
      · exact h1
      · rw [List.getElem?_eq_none h1] at hk; cases hk)]
    exact hk
theorem Blk.pB {K : Fr → World → Prop} {u : World} {f : Fr} {d : Option Nat} {w : World} {g t : Nat} {a b : List Int} (h : Blk u g t (pairCells a b)) :
    Val1 Tryd.prog K (Instr.loadAt 76 (.pointer (some ⟨g, 4, none⟩))) u f d w = K (updO f d (setV b)) w :=
  h.ldSub ty_ag_76 4 (vs := setCells (wordsOf b)) (by rw [setCells_4]; exact ty_sz_76) fun k v hk => by
    unfold pairCells
    rw [List.getElem?_append_right (by rw [setCells_4]; omega), setCells_4, Nat.add_sub_cancel_left]
    exact hk

theorem within_Least_1 {w : World} {a b : MV} {ma mb : Mach} (ha : IsM (· < w.heap.size) w a ma) (hb : IsM (· < w.heap.size) w b mb) (pa : ma.May) (pb : mb.May) {ga gb : Nat}
    (ka : Blk w ga 25 (a.cells ma)) (kb : Blk w gb 25 (b.cells mb)) (s : St) (e : Int) :
    Cal Tryd.prog 117 [stV s, .int .i64 e, .pointer (some ⟨ga, 0, none⟩), .pointer (some ⟨gb, 0, none⟩)] w fun v w' => v = stV (stepL ma s.1 e, stepL mb s.2 e) ∧ Below w.heap.size w w' := by
  refine cal_within_Least_1 (by simp) 100000 fun Q hQ => ?_
  simp (disch := first | with_reducible assumption | omega) only [push_cast, x_blk, x_cd, ↓reduceIte, Nat.reduceEqDiff, List.map_cons, List.map_nil, Int.reduceEq, Int.lt_irrefl, F_within_Least_1]
  refine blk_of (box_agg _ (pairCells s.1 s.2)) ?_
  intro w1 k1 b1 z1
  simp (disch := first | with_reducible assumption | omega) only [push_cast, x_blk, x_cd, ↓reduceIte, Nat.reduceEqDiff, List.map_cons, List.map_nil, Int.reduceEq, Int.lt_irrefl]
  refine blk_of (cs := pairCells [] []) al_172 ?_
  intro w2 k2 b2 z2
  have k1d := (k1.below b2 k1.lt).drew
  have k2d := k2.drew
  have b2' : Below w1.heap.size w1 w2.drew := drawn b2
  have bb := b1.trans (b2'.mono b1.size)
  have l2 := k2.lt
  have kad := ka.below bb ka.lt
  have kbd := kb.below bb kb.lt
  simp (disch := first | with_reducible assumption | omega) only [push_cast, x_blk, x_cd, ↓reduceIte, Nat.reduceEqDiff, List.map_cons, List.map_nil, Int.reduceEq, Int.lt_irrefl, kad.mA ty_ag_25 ty_sz_25, kbd.mA ty_ag_25 ty_sz_25, k1d.pA, k1d.pB]
  refine call_of (machine_Step ((ha.below bb).mono fun b hb => Nat.lt_of_lt_of_le hb bb.size) pa s.1 e) ?_
  rintro v w3 ⟨rfl, b3⟩
  have bb3 := bb.trans (b3.mono bb.size)
  have k23 := k2d.below b3 k2d.lt
  simp (disch := first | with_reducible assumption | omega) only [push_cast, x_blk, x_cd, ↓reduceIte, Nat.reduceEqDiff, List.map_cons, List.map_nil, Int.reduceEq, Int.lt_irrefl]
  refine ⟨b3, ?_⟩
  refine call_of (machine_Step ((hb.below bb3).mono fun b hb => Nat.lt_of_lt_of_le hb bb3.size) pb s.2 e) ?_
  rintro v w4 ⟨rfl, b4⟩
  have b24 := b3.trans (b4.mono b3.size)
  have bb4 := bb3.trans (b4.mono bb3.size)
  have k24 := k23.below b4 k23.lt
  simp (disch := first | with_reducible assumption | omega) only [push_cast, x_blk, x_cd, ↓reduceIte, Nat.reduceEqDiff, List.map_cons, List.map_nil, Int.reduceEq, Int.lt_irrefl, bl_pair]
  refine ⟨b24, ?_⟩
  have hsz : tySize Tryd.prog 172 = some (pairCells (stepL ma s.1 e) (stepL mb s.2 e)).length := by rw [pairCells_len]; exact ty_sz_172
  refine sto_blk k24 hsz (by rw [pairCells_len, pairCells_len]) (pairCells_one _ _) ?_
  intro w5 k5 g5 z5
  have b15 := g5.below bb4 bb4.size (by intro a ha; injection ha with ha; subst ha; show w.heap.size ≤ w1.heap.size; exact b1.size)
  simp (disch := first | with_reducible assumption | omega) only [push_cast, x_blk, x_cd, ↓reduceIte, Nat.reduceEqDiff, List.map_cons, List.map_nil, Int.reduceEq, Int.lt_irrefl]
  exact fin_cell k5 ty_ag_172 hsz (by simp only [push_cast, ↓reduceIte, Nat.reduceEqDiff, Int.reduceEq]) (hQ _ _ ⟨rfl, b15⟩)

theorem ty_ag_fn : tyAgg Tryd.prog 146 = some false := by kernel_rfl
theorem within_Least_2 {w : World} {gf : Nat} {g' : FuncId} {cap' : Array Value} {found : St → Bool} (kf : Blk w gf 146 [.func (.func g') #[] cap']) (s : St)
    (hfound : ∀ w', Below w.heap.size w w' → Cal Tryd.prog g' ([setV s.1, setV s.2] ++ cap'.toList) w' fun v w2 => v = .bool (found s) ∧ Below w'.heap.size w' w2) :
    Cal Tryd.prog 118 [stV s, .pointer (some ⟨gf, 0, none⟩)] w fun v w' => v = .bool (found s) ∧ Below w.heap.size w w' := by
  refine cal_within_Least_2 (by simp) 100000 fun Q hQ => ?_
  simp (disch := first | with_reducible assumption | omega) only [push_cast, x_blk, x_cd, ↓reduceIte, Nat.reduceEqDiff, List.map_cons, List.map_nil, Int.reduceEq, Int.lt_irrefl, F_within_Least_2]
  refine blk_of (box_agg _ (pairCells s.1 s.2)) ?_
  intro w1 k1 b1 z1
  have kf1 := kf.below b1 kf.lt
  simp (disch := first | with_reducible assumption | omega) only [push_cast, x_blk, x_cd, ↓reduceIte, Nat.reduceEqDiff, List.map_cons, List.map_nil, Int.reduceEq, Int.lt_irrefl, k1.pA, k1.pB, kf1.ld ty_ag_fn 0 (by simp)]
  refine call_of (hfound w1 b1) ?_
  rintro v w2 ⟨rfl, b2⟩
  simp (disch := first | with_reducible assumption | omega) only [push_cast, x_blk, x_cd, ↓reduceIte, Nat.reduceEqDiff, List.map_cons, List.map_nil, Int.reduceEq, Int.lt_irrefl]
  exact fin_1 (hQ _ _ ⟨(by simp only [push_cast, ↓reduceIte, Nat.reduceEqDiff, Int.reduceEq]), b1.trans (b2.mono b1.size)⟩)

theorem within_Within_1 {w : World} {ga gb : Nat} {ea eb : List Int} (ka : Blk w ga 76 (setCells (wordsOf ea))) (kb : Blk w gb 76 (setCells (wordsOf eb))) {s : St} (hs : UP s) :
    Cal Tryd.prog 91 [setV s.1, setV s.2, .pointer (some ⟨ga, 0, none⟩), .pointer (some ⟨gb, 0, none⟩)] w fun v w' => v = .bool (decide (MeetL s.1 ea) && !decide (MeetL s.2 eb)) ∧ Below w.heap.size w w' := by
  refine cal_within_Within_1 (by simp) 100000 fun Q hQ => ?_
  simp (disch := first | with_reducible assumption | omega) only [push_cast, x_blk, x_cd, ↓reduceIte, Nat.reduceEqDiff, List.map_cons, List.map_nil, Int.reduceEq, Int.lt_irrefl, F_within_Within_1]
  refine blk_of (box_agg _ (setCells (wordsOf s.1))) ?_
  intro w1 k1 b1 z1
  simp (disch := first | with_reducible assumption | omega) only [push_cast, x_blk, x_cd, ↓reduceIte, Nat.reduceEqDiff, List.map_cons, List.map_nil, Int.reduceEq, Int.lt_irrefl]
  refine blk_of (box_agg _ (setCells (wordsOf s.2))) ?_
  intro w2 k2 b2 z2
  have k1 := k1.below b2 k1.lt
  have b2 := b1.trans (b2.mono b1.size)
  have ka := ka.below b2 ka.lt
  have kb := kb.below b2 kb.lt
  simp (disch := first | with_reducible assumption | omega) only [push_cast, x_blk, x_cd, ↓reduceIte, Nat.reduceEqDiff, List.map_cons, List.map_nil, Int.reduceEq, Int.lt_irrefl, k1.setA (wordsOf_words _) ty_ag_76 ty_sz_76, ka.setA (wordsOf_words _) ty_ag_76 ty_sz_76]
  refine call_of (set_Meets hs.1.2 _) ?_
  rintro v w3 ⟨rfl, b3⟩
  have k2 := k2.below b3 k2.lt
  have kb := kb.below b3 kb.lt
  have b3 := b2.trans (b3.mono b2.size)
  by_cases c : MeetL s.1 ea
  case neg =>
    simp (disch := first | with_reducible assumption | omega) only [push_cast, x_blk, x_cd, ↓reduceIte, Nat.reduceEqDiff, List.map_cons, List.map_nil, Int.reduceEq, Int.lt_irrefl, c]
    exact fin_1 (hQ _ _ ⟨(by simp only [push_cast, ↓reduceIte, Nat.reduceEqDiff, Int.reduceEq, c, Bool.false_and]), b3⟩)
  simp (disch := first | with_reducible assumption | omega) only [push_cast, x_blk, x_cd, ↓reduceIte, Nat.reduceEqDiff, List.map_cons, List.map_nil, Int.reduceEq, Int.lt_irrefl, c, k2.setA (wordsOf_words _) ty_ag_76 ty_sz_76, kb.setA (wordsOf_words _) ty_ag_76 ty_sz_76]
  refine call_of (set_Meets hs.2.2 _) ?_
  rintro v w4 ⟨rfl, b4⟩
  simp (disch := first | with_reducible assumption | omega) only [push_cast, x_blk, x_cd, ↓reduceIte, Nat.reduceEqDiff, List.map_cons, List.map_nil, Int.reduceEq, Int.lt_irrefl]
  exact fin_1 (hQ _ _ ⟨(by simp only [push_cast, ↓reduceIte, Nat.reduceEqDiff, Int.reduceEq, c, Bool.true_and]), b3.trans (b4.mono b3.size)⟩)

theorem may_starts' {m : Mach} (hm : m.May) : IsRow m.starts m.states := hm.2.2.2.2.2.1

def U6 (s : St) : Prop := IsRow s.1 6 ∧ IsRow s.2 6
def code2 (s : St) : Nat := codeR s.1 + 64 * codeR s.2
theorem code2_lt (s : St) (h : U6 s) : code2 s < 4096 := by
  have := codeR_lt h.1
  have := codeR_lt h.2
  unfold code2; omega
theorem code2_inj (s t : St) (h : U6 s) (h' : U6 t) (e : code2 s = code2 t) : s = t := by
  have h1 := codeR_lt h.1
  have h2 := codeR_lt h'.1
  unfold code2 at e
  exact Prod.ext (codeR_inj h.1 h'.1 (by omega)) (codeR_inj h.2 h'.2 (by omega))
def step2 (a b : Mach) (s : St) (e : Int) : St := (stepL a s.1 e, stepL b s.2 e)
theorem step2_U6 {a b : Mach} (pa : a.May) (pb : b.May) (na : a.states ≤ 6) (nb : b.states ≤ 6) (s : St) (e : Int) : U6 (step2 a b s e) := ⟨(stepL_row pa _ _).more na, (stepL_row pb _ _).more nb⟩
theorem U6.UP {s : St} (h : U6 s) : UP s := ⟨⟨h.1.strict, h.1.small (by decide)⟩, h.2.strict, h.2.small (by decide)⟩
theorem step2_UP {a b : Mach} (pa : a.May) (pb : b.May) (s : St) (e : Int) : UP (step2 a b s e) := ⟨⟨(stepL_row pa _ _).strict, (stepL_row pa _ _).small pa.2.1⟩, (stepL_row pb _ _).strict, (stepL_row pb _ _).small pb.2.1⟩
theorem pairs_few {a b : Mach} (pa : a.May) (pb : b.May) (na : a.states ≤ 6) (nb : b.states ≤ 6) (es : List Int) (k j : Nat) : (bPart (step2 a b) es (a.starts, b.starts) k j).length ≤ 4096 :=
  (bPart_good (U := U6) (fun s _ e _ => step2_U6 pa pb na nb s e) ⟨(may_starts' pa).more na, (may_starts' pb).more nb⟩ k j).len code2 4096 code2_lt code2_inj

theorem within_Least {w : World} {a b : MV} {ma mb : Mach} (ha : IsM (· < w.heap.size) w a ma) (hb : IsM (· < w.heap.size) w b mb) (pa : ma.May) (pb : mb.May) (na : ma.states ≤ 6) (nb : mb.states ≤ 6)
    {g' : FuncId} {cap' : Array Value} {found : St → Bool}
    (hfound : ∀ w', Below w.heap.size w w' → ∀ s, UP s → Cal Tryd.prog g' ([setV s.1, setV s.2] ++ cap'.toList) w' fun v w2 => v = .bool (found s) ∧ Below w'.heap.size w' w2) :
    Cal Tryd.prog 90 [a.val ma, b.val mb, .func (.func g') #[] cap'] w fun v w' =>
      ∃ O co o b, v = .tuple #[.slice O o.length co, .bool b] ∧ OwnI w.heap.size 3 w' O co o ∧ Below w.heap.size w w' ∧ FirstIs (step2 ma mb) found (evs ma.events.toNat) (ma.starts, mb.starts) b o := by
  have ea : ((ma.events.toNat : Nat) : Int) = ma.events := by have := pa.2.2.1; omega
  have ne : ma.events.toNat ≤ 1000 := by have := pa.2.2.2.1; omega
  have ra := may_starts' pa
  have rb := may_starts' pb
  have la := ra.len
  have lb := rb.len
  have a256 : ma.states ≤ 256 := pa.2.1
  have b256 : mb.states ≤ 256 := pb.2.1
  refine cal_within_Least (by simp) 100000 fun Q hQ => ?_
  simp (disch := first | with_reducible assumption | omega) only [push_cast, x_blk, x_cd, ↓reduceIte, Nat.reduceEqDiff, List.map_cons, List.map_nil, Int.reduceEq, Int.lt_irrefl, F_within_Least]
  refine blk_of (box_agg _ (a.cells ma)) ?_
  intro w1 k1 b1 z1
  simp (disch := first | with_reducible assumption | omega) only [push_cast, x_blk, x_cd, ↓reduceIte, Nat.reduceEqDiff, List.map_cons, List.map_nil, Int.reduceEq, Int.lt_irrefl]
  refine blk_of (box_agg _ (b.cells mb)) ?_
  intro w2 k2 b2 z2
  have k1 := k1.below b2 k1.lt
  have b2 := b1.trans (b2.mono b1.size)
  simp (disch := first | with_reducible assumption | omega) only [push_cast, x_blk, x_cd, ↓reduceIte, Nat.reduceEqDiff, List.map_cons, List.map_nil, Int.reduceEq, Int.lt_irrefl]
  refine blk_of (box_eq _ _) ?_
  intro w3 k3 b3 z3
  have k1 := (k1.below b3 k1.lt).drew
  have k2 := (k2.below b3 k2.lt).drew
  have k3 := k3.drew
  have bb := drawn (b2.trans (b3.mono b2.size))
  generalize hu : w3.drew = u at *
  have zu : u.heap.size = w3.heap.size := by rw [← hu]; rfl
  have hau := (ha.below bb).mono (ok' := (· < u.heap.size)) fun b hb => by omega
  have hbu := (hb.below bb).mono (ok' := (· < u.heap.size)) fun b hb => by omega
  simp (disch := first | with_reducible assumption | omega) only [push_cast, x_blk, x_cd, ↓reduceIte, Nat.reduceEqDiff, List.map_cons, List.map_nil, Int.reduceEq, Int.lt_irrefl, hu, k1.m2 ty_ag_22, k1.m1 ty_ag_3, k2.m2 ty_ag_22]
  refine call_of (machine_Of' hau.starts _ (by omega) (ra.small a256)) ?_
  rintro v w4 ⟨rfl, b4⟩
  simp (disch := first | with_reducible assumption | omega) only [push_cast, x_blk, x_cd, ↓reduceIte, Nat.reduceEqDiff, List.map_cons, List.map_nil, Int.reduceEq, Int.lt_irrefl]
  refine ⟨b4, ?_⟩
  refine call_of (machine_Of' ((hbu.starts.below b4).mono fun b hb => by have := b4.size; omega) _ (by omega) (rb.small b256)) ?_
  rintro v w5 ⟨rfl, b5⟩
  have b5 := b4.trans (b5.mono b4.size)
  simp (disch := first | with_reducible assumption | omega) only [push_cast, x_blk, x_cd, ↓reduceIte, Nat.reduceEqDiff, List.map_cons, List.map_nil, Int.reduceEq, Int.lt_irrefl, bl_pair]
  refine ⟨b5, ?_⟩
  have k1 := k1.below b5 k1.lt
  have k2 := k2.below b5 k2.lt
  have k3 := k3.below b5 k3.lt
  have bw5 := bb.trans (b5.mono bb.size)
  rw [← ea]
  have hU0 : UP (ma.starts, mb.starts) := ⟨⟨ra.strict, ra.small a256⟩, rb.strict, rb.small b256⟩
  refine call_of (within_Words (N := 4096) (step := step2 ma mb) (found := found) hU0 ne (fun s _ e _ => step2_UP pa pb s e) (fun k j => pairs_few pa pb na nb _ k j) (by decide)
    (fun w' hw s hs e h0 h1 => by
      have hb1 := bw5.trans (hw.mono bw5.size)
      exact within_Least_1 ((ha.below hb1).mono fun b hb => by have := hb1.size; omega) ((hb.below hb1).mono fun b hb => by have := hb1.size; omega) pa pb (k1.below hw k1.lt) (k2.below hw k2.lt) s e)
    (fun w' hw s hs => by
      exact within_Least_2 (k3.below hw k3.lt) s fun w2 hw2 => hfound w2 ((bw5.trans (hw.mono bw5.size)).trans (hw2.mono (by have := hw.size; have := bw5.size; omega))) s hs)) ?_
  rintro v w6 ⟨O, co, o, bo, rfl, ho, b6, hfi⟩
  have b6' := b5.trans (b6.mono b5.size)
  simp (disch := first | with_reducible assumption | omega) only [push_cast, x_blk, x_cd, ↓reduceIte, Nat.reduceEqDiff, List.map_cons, List.map_nil, Int.reduceEq, Int.lt_irrefl]
  refine ⟨b6', ?_⟩
  exact fin_2 (hQ _ _ ⟨O, co, o, bo, (by simp only [push_cast, ↓reduceIte, Nat.reduceEqDiff, Int.reduceEq]), ho.base bw5.size, bw5.trans (b6.mono bw5.size), hfi⟩)
end Go.Proofs.YtcjedgiglimipaaDoor
