/-
  secret.Told's second function: is a place found?
-/
import Derived.Test.YtcjinmgieiebbaaZToldP
namespace Go.Proofs.Ytcjinmgieiebbaa
set_option linter.unusedSimpArgs false
set_option linter.unusedVariables false
set_option linter.unusedSectionVars false
open Go.RowKit

theorem blt_pair : builtPl Try.prog 52 = some ([(0, 4), (4, 4)], [.int .u64 0, .int .u64 0, .int .u64 0, .int .u64 0, .int .u64 0, .int .u64 0, .int .u64 0, .int .u64 0]) := by kernel_rfl
theorem bl_pair {K : Fr → World → Prop} {u : World} {f : Fr} {d : Option Nat} {w : World} (a b : List Int) :
    Val1 Try.prog K (Instr.build 52 #[(0, setV a), (1, setV b)]) u f d w = K (updO f d (pairV a b)) w := by
  have := bld_2 (P := Try.prog) (K := K) (u := u) (f := f) (d := d) (w := w) blt_pair rfl rfl rfl (v0 := setV a) (v1 := setV b) (by simp [Value.cells, setCells_4]) (by simp [Value.cells, setCells_4])
  rw [this]; rfl
theorem Blk.pA {K : Fr → World → Prop} {u : World} {f : Fr} {d : Option Nat} {w : World} {g t : Nat} {a b : List Int} (h : Blk u g t (pairCells a b)) :
    Val1 Try.prog K (Instr.loadAt 46 (.pointer (some ⟨g, 0, none⟩))) u f d w = K (updO f d (setV a)) w :=
  h.ldSub ty_ag_46 0 (vs := setCells (wordsOf a)) (by rw [setCells_4]; exact ty_sz_46) fun k v hk => by
    unfold pairCells
    rw [Nat.zero_add, List.getElem?_append_left (by
      rcases Nat.lt_or_ge k (setCells (wordsOf a)).length with h1 | h1
      · exact h1
      · rw [List.getElem?_eq_none h1] at hk; cases hk)]
    exact hk
theorem Blk.pB {K : Fr → World → Prop} {u : World} {f : Fr} {d : Option Nat} {w : World} {g t : Nat} {a b : List Int} (h : Blk u g t (pairCells a b)) :
    Val1 Try.prog K (Instr.loadAt 46 (.pointer (some ⟨g, 4, none⟩))) u f d w = K (updO f d (setV b)) w :=
  h.ldSub ty_ag_46 4 (vs := setCells (wordsOf b)) (by rw [setCells_4]; exact ty_sz_46) fun k v hk => by
    unfold pairCells
    rw [List.getElem?_append_right (by rw [setCells_4]; omega), setCells_4, Nat.add_sub_cancel_left]
    exact hk
theorem secret_Told_2 {w : World} {g : Nat} {ends : List Int} (ke : Blk w g 46 (setCells (wordsOf ends))) {s : St} (hs : UP s) :
    Cal Try.prog 27 [stV s, .pointer (some ⟨g, 0, none⟩)] w fun v w' => v = .bool (decide (MeetL s.1 ends) && !decide (MeetL s.2 ends)) ∧ Below w.heap.size w w' := by
  refine cal_secret_Told_2 (by simp) 100000 fun Q hQ => ?_
  simp (disch := first | with_reducible assumption | omega) only [push_cast, x_blk, x_cd, ↓reduceIte, Nat.reduceEqDiff, List.map_cons, List.map_nil, Int.reduceEq, Int.lt_irrefl, F_secret_Told_2]
  refine blk_of (box_agg _ (pairCells s.1 s.2)) ?_
  intro w1 k1 b1 z1
  have ke1 := ke.below b1 ke.lt
  simp (disch := first | with_reducible assumption | omega) only [push_cast, x_blk, x_cd, ↓reduceIte, Nat.reduceEqDiff, List.map_cons, List.map_nil, Int.reduceEq, Int.lt_irrefl, k1.pA, ke1.setA (wordsOf_words _) ty_ag_46 ty_sz_46]
  refine call_of (set_Meets hs.1.2 _) ?_
  rintro v w3 ⟨rfl, b3⟩
  replace k1 := k1.below b3 k1.lt
  have ke3 := ke1.below b3 ke1.lt
  have bb := b1.trans (b3.mono b1.size)
  by_cases c : MeetL s.1 ends
  case neg =>
    simp (disch := first | with_reducible assumption | omega) only [push_cast, x_blk, x_cd, ↓reduceIte, Nat.reduceEqDiff, List.map_cons, List.map_nil, Int.reduceEq, Int.lt_irrefl, c]
    exact fin_1 (hQ _ _ ⟨(by simp only [push_cast, ↓reduceIte, Nat.reduceEqDiff, Int.reduceEq, c, Bool.false_and]), bb⟩)
  simp (disch := first | with_reducible assumption | omega) only [push_cast, x_blk, x_cd, ↓reduceIte, Nat.reduceEqDiff, List.map_cons, List.map_nil, Int.reduceEq, Int.lt_irrefl, c, k1.pB, ke3.setA (wordsOf_words _) ty_ag_46 ty_sz_46]
  refine call_of (set_Meets hs.2.2 _) ?_
  rintro v w4 ⟨rfl, b4⟩
  simp (disch := first | with_reducible assumption | omega) only [push_cast, x_blk, x_cd, ↓reduceIte, Nat.reduceEqDiff, List.map_cons, List.map_nil, Int.reduceEq, Int.lt_irrefl]
  exact fin_1 (hQ _ _ ⟨(by simp only [push_cast, ↓reduceIte, Nat.reduceEqDiff, Int.reduceEq, c, Bool.true_and]), bb.trans (b4.mono bb.size)⟩)

theorem secret_Told_1 {w : World} {gp gl gm : Nat} {a : PV} {p : Plt} (ha : IsP (· < w.heap.size) w a p) (hf : p.Fits) (hm : p.m.May) {am : MV} {m : Mach} (hM : IsM (· < w.heap.size) w am m) (pm : m.May)
    (kp : Blk w gp 36 (a.cells p)) (km : Blk w gm 25 (am.cells m)) {L : Option Addr} {c : Nat} {low : List Int} (kl : Blk w gl 22 [.slice L low.length c]) (hL : Ints (· < w.heap.size) w L low)
    (s : St) {k : Nat} (hk : k < low.length) (h63 : low.length ≤ 1000000) :
    Cal Try.prog 24 [stV s, .int .i64 k, .pointer (some ⟨gp, 0, none⟩), .pointer (some ⟨gl, 0, none⟩), .pointer (some ⟨gm, 0, none⟩)] w fun v w' => v = stV (nextP p s.1 (low.getD k 0), stepL m s.2 (low.getD k 0)) ∧ Below w.heap.size w w' := by
  refine cal_secret_Told_1 (by simp) 100000 fun Q hQ => ?_
  simp (disch := first | with_reducible assumption | omega) only [push_cast, x_blk, x_cd, ↓reduceIte, Nat.reduceEqDiff, List.map_cons, List.map_nil, Int.reduceEq, Int.lt_irrefl, F_secret_Told_1]
  refine blk_of (box_agg _ (pairCells s.1 s.2)) ?_
  intro w1 k1 b1 z1
  simp (disch := first | with_reducible assumption | omega) only [push_cast, x_blk, x_cd, ↓reduceIte, Nat.reduceEqDiff, List.map_cons, List.map_nil, Int.reduceEq, Int.lt_irrefl]
  refine blk_of (cs := pairCells [] []) al_52 ?_
  intro w2 k2 b2 z2
  have l2 := k2.lt
  have k1d := (k1.below b2 k1.lt).drew
  have k2d := k2.drew
  have bb := b1.trans ((drawn b2).mono b1.size)
  have kpd := kp.below bb kp.lt
  have kmd := km.below bb km.lt
  have kld := kl.below bb kl.lt
  have hI := hL.below bb
  have hA := hI.isSome (by omega)
  have hld := fun {K : Fr → World → Prop} {f : Fr} {d : Option Nat} {w : World} => hI.ld (P := Try.prog) (K := K) (f := f) (d := d) (w := w) ty_ag_3 k hk
  generalize low.getD k 0 = e at *
  have q0 := fun {K : Fr → World → Prop} {f : Fr} {d : Option Nat} {w : World} => kld.ld (P := Try.prog) (K := K) (f := f) (d := d) (w := w) ty_ag_22 0 (by simp)
  simp only [List.getD_cons_zero] at q0
  simp (disch := first | with_reducible assumption | omega) only [push_cast, x_blk, x_cd, ↓reduceIte, Nat.reduceEqDiff, List.map_cons, List.map_nil, Int.reduceEq, Int.lt_irrefl, hk, kpd.pA', kmd.mA ty_ag_25 ty_sz_25, k1d.pA, k1d.pB, q0, hld]
  refine call_of (current_Next (ha.up bb) hf hm s.1 e) ?_
  rintro v w3 ⟨rfl, b3⟩
  have bb3 := bb.trans (b3.mono bb.size)
  have k23 := k2d.below b3 k2d.lt
  simp (disch := first | with_reducible assumption | omega) only [push_cast, x_blk, x_cd, ↓reduceIte, Nat.reduceEqDiff, List.map_cons, List.map_nil, Int.reduceEq, Int.lt_irrefl]
  refine ⟨b3, ?_⟩
  refine call_of (machine_Step (hM.up bb3) pm s.2 e) ?_
  rintro v w4 ⟨rfl, b4⟩
  have b24 := b3.trans (b4.mono b3.size)
  have bb4 := bb3.trans (b4.mono bb3.size)
  have k24 := k23.below b4 k23.lt
  simp (disch := first | with_reducible assumption | omega) only [push_cast, x_blk, x_cd, ↓reduceIte, Nat.reduceEqDiff, List.map_cons, List.map_nil, Int.reduceEq, Int.lt_irrefl, bl_pair]
  refine ⟨b24, ?_⟩
  have hsz : tySize Try.prog 52 = some (pairCells (nextP p s.1 e) (stepL m s.2 e)).length := by rw [pairCells_len]; exact ty_sz_52
  refine sto_blk k24 hsz (by rw [pairCells_len, pairCells_len]) (pairCells_one _ _) ?_
  intro w5 k5 g5 z5
  have b5 := g5.below bb4 bb4.size (by intro a ha; injection ha with ha; subst ha; exact b1.size)
  simp (disch := first | with_reducible assumption | omega) only [push_cast, x_blk, x_cd, ↓reduceIte, Nat.reduceEqDiff, List.map_cons, List.map_nil, Int.reduceEq, Int.lt_irrefl]
  exact fin_cell k5 ty_ag_52 hsz (by simp only [push_cast, ↓reduceIte, Nat.reduceEqDiff, Int.reduceEq]) (hQ _ _ ⟨rfl, b5⟩)
end Go.Proofs.Ytcjinmgieiebbaa
