/-
  Chapter 12: the program's leaks, which goes over a set's numbers: by its contract.
-/
import Derived.Test.YtcjinmgieiebbaaDoorZSec
import Derived.Test.YtcjinmgieiebbaaDoorZIn
namespace Go.Proofs.YtcjinmgieiebbaaDoor
set_option linter.unusedSimpArgs false
set_option linter.unusedVariables false
set_option linter.unusedSectionVars false
open Go.RowKit

theorem sto_bool {P : Program} {K : Fr → World → Prop} {w : World} {f : Fr} {d : Option Nat} {g t ty : Nat} {cs : List Value} (hk : Blk w g t cs) (hty : tySize P ty = some 1) (j : Nat) (hj : j < cs.length) (b : Bool)
    (h : ∀ w', Blk w' g t (cs.set j (.bool b)) → Grew w w' (some ⟨g, 0, none⟩) → w'.heap.size = w.heap.size → K (updO f d undef) w') :
    Eff1 P K (do Instr.storeAt ty (.pointer (some ⟨g, j, none⟩)) (.bool b); pure undef) f d w := by
  have hc := hk.cell j
  have hf := hk.frozen j
  refine ⟨undef, w.setCell ⟨g, j, none⟩ (.bool b), ?_, h _ (hk.set j _) ⟨⟨rfl, rfl, rfl, by simp, fun _ hk' hne => Below.heap_setCell w _ _ _ (by simpa using hne)⟩⟩ (by simp)⟩
  unfold tySize at hty
  cases hi : P.info? ty with
  | none => simp [hi] at hty
  | some ie =>
    simp only [hi, Option.map_some, Option.some.injEq] at hty
    rw [List.getElem?_eq_getElem hj] at hc
    simp [Instr.storeAt, Instr.sureAddr, storeVar, sizeOf, typeInfo, hi, hty, Value.cells, storeCells, addr_add, run_store_bool, stored, hc, hf]
def hidL (m s : Mach) (L : List (List Int)) (pre : List Int) : Bool := pre.any fun x => decide (isM m L.length x) && decide (isD s L x)
def opnL (m s : Mach) (L : List (List Int)) (pre : List Int) : Bool := pre.any fun x => decide (isM m L.length x) && !decide (isD s L x)
theorem blk_grownS {g t : Nat} {cs : List Value} {W W' : World} {row : Option Nat} (h : Blk W g t cs) (hg : W.grownBy W' row) (hr : ∀ r, row = some r → ∃ o : Obj, W.heap[r]? = some o ∧ o.isCells = false) : Blk W' g t cs :=
  (hg.block g h.lt (fun e => by
    obtain ⟨o, ho, hc⟩ := hr g e.symm
    rw [show W.heap[g]? = _ from h] at ho
    cases ho; cases hc)).trans h
theorem hidL_snoc (m s : Mach) (L : List (List Int)) (pre : List Int) (x : Int) : hidL m s L (pre ++ [x]) = (hidL m s L pre || (decide (isM m L.length x) && decide (isD s L x))) := by unfold hidL; simp [List.any_append]
theorem opnL_snoc (m s : Mach) (L : List (List Int)) (pre : List Int) (x : Int) : opnL m s L (pre ++ [x]) = (opnL m s L pre || (decide (isM m L.length x) && !decide (isD s L x))) := by unfold opnL; simp [List.any_append]
theorem leak_of (m s : Mach) (L : List (List Int)) (S : List Int) : sLeak m s L S = (hidL m s L S && !opnL m s L S) := by
  have h1 : decide (sHid m s L S) = hidL m s L S := by
    rw [Bool.eq_iff_iff, decide_eq_true_iff]
    unfold hidL sHid
    simp only [List.any_eq_true, Bool.and_eq_true, decide_eq_true_eq]
  have h2 : decide (sOpn m s L S) = opnL m s L S := by
    rw [Bool.eq_iff_iff, decide_eq_true_iff]
    unfold opnL sOpn
    simp only [List.any_eq_true, Bool.and_eq_true, decide_eq_true_eq, Bool.not_eq_true', decide_eq_false_iff_not]
  unfold sLeak
  rw [h1, h2]
section
variable {m s : Mach} {L : List (List Int)} {ar : List Arr} (h : SecD m s L ar)
include h
theorem sec_leaks {w : World} (hT : Tab w) {b : BV} {seen : List Int} (hB : SB (· < w.heap.size) w b m (detOf s L ar) seen) {S : List Int} (hS : IsRow S 96) :
    Cal Tryd.prog 63 [b.val m (detOf s L ar) seen, setV S] w fun v w' => v = .bool (sLeak m s L S) ∧ Below w.heap.size w w' := by
  have dS : (detOf s L ar).states = (L.length : Int) := rfl
  have dE : (detOf s L ar).ends = endsUpto s L L.length := rfl
  have l16 := h.l16
  have l0 := h.pos
  have lE1 := endsUpto_len s L L.length
  have hE2 : Small (endsUpto s L L.length) := fun x hx => by
    obtain ⟨i, rfl, hi, _⟩ := endsUpto_mem.1 hx
    omega
  have hE1 : Small m.ends := (may_ends h.pm).small h.pm.2.1
  have nE1 := small_len (may_ends h.pm).strict hE1
  generalize hdm : detOf s L ar = dm at *
  refine cal_of_marks Tryd.func63 rfl rfl c_secret_beside_leaks k_secret_beside_leaks (by simp) (fun v W W' row h hg hr => ⟨h.1, h.2.grown hg h.2.size fun r e => (hr r e).1⟩) ?_
  intro code act hc hfit
  obtain ⟨cA, r1, rfl, hA, hc⟩ := inv_sq hc
  obtain ⟨cB, r2, rfl, hBc, hc⟩ := inv_sq hc
  obtain ⟨cC1, r3, rfl, hC, hc⟩ := inv_sq hc
  obtain ⟨cD', cE, rfl, hD, hE⟩ := inv_sq hc
  obtain ⟨cD, cbl, rfl, hDD, hbl⟩ := inv_sq hD
  obtain ⟨crf, rfl, hrf⟩ := inv_bl hbl
  refine wps_seq (wps_cons (fun _ _ h => wps_seq (wps_cons (fun _ _ h => wps_seq (wps_cons (fun _ _ h => wps_seq (wps_seq h)) h)) h)) ?_)
  refine segs (k1 := [cA, cB, cC1, cD]) (k2 := [.block 0 crf, cE]) (n := 100000) (R := fun _ _ => False)
    (E := fun f w' => ∃ g5 g6 g7 g8 Bn, w.heap.size + 1 < g5 ∧ w.heap.size + 1 < g6 ∧ g5 < g7 ∧ g6 < g7 ∧ g7 < g8 ∧ g8 < Bn ∧ Bn < w'.heap.size ∧ (f 2 = .pointer (some ⟨w.heap.size, 0, none⟩) ∧ f 5 = .pointer (some ⟨g5, 0, none⟩) ∧ f 6 = .pointer (some ⟨g6, 0, none⟩) ∧ f 7 = .pointer (some ⟨g7, 0, none⟩) ∧ f 8 = .pointer (some ⟨g8, 0, none⟩) ∧ f 20 = .func (.func 109) #[] #[.pointer (some ⟨Bn, 0, none⟩)]) ∧
      Blk w' w.heap.size 85 (b.cells m dm seen) ∧ Blk w' g5 64 (setCells (wordsOf m.ends)) ∧ Blk w' g6 64 (setCells (wordsOf dm.ends)) ∧ Blk w' g7 4 [.bool false] ∧ Blk w' g8 4 [.bool false] ∧ Blk w' Bn 64 (setCells (wordsOf S)) ∧ Below w.heap.size w w') mixed hfit ?_ ?_ (fun _ _ _ _ h => h.elim)
  · show x _ _ _ _ [.c (cC _ cA), .c (cC _ cB), .c (cC _ cC1), .c (cC _ cD), .lp _] _ _ _
    rw [hA, hBc, hC, hDD]
    clear hA hBc hC hDD hD hE hrf hbl hc
    simp (disch := first | with_reducible assumption | omega) only [push_cast, x_blk, x_cd, ↓reduceIte, Nat.reduceEqDiff, List.map_cons, List.map_nil, Int.reduceEq, Int.lt_irrefl]
    refine blk_of (box_agg _ (b.cells m dm seen)) ?_
    intro w1 kB b1 z1
    simp (disch := first | with_reducible assumption | omega) only [push_cast, x_blk, x_cd, ↓reduceIte, Nat.reduceEqDiff, List.map_cons, List.map_nil, Int.reduceEq, Int.lt_irrefl]
    refine blk_of (box_agg _ (setCells (wordsOf S))) ?_
    intro w2 kS b2 z2
    replace kB := kB.below b2 kB.lt
    have bb := b1.trans (b2.mono b1.size)
    have bd : Below w2.heap.size w2 w2.drew := (Same.refl w2).drew.below _
    try replace kB := Blk.below kB bd (Blk.lt kB)
    try replace kS := Blk.below kS bd (Blk.lt kS)
    try replace k5 := Blk.below k5 bd (Blk.lt k5)
    try replace k6 := Blk.below k6 bd (Blk.lt k6)
    replace bb := bb.trans (Below.mono bd bb.size)
    try replace bu := Below.trans bu (Below.mono bd (Below.size bu))
    generalize hu : w2.drew = u at *
    simp (disch := first | with_reducible assumption | omega) only [push_cast, x_blk, x_cd, ↓reduceIte, Nat.reduceEqDiff, List.map_cons, List.map_nil, Int.reduceEq, Int.lt_irrefl, hu, kB.b4, kB.b9]
    have bu : Below u.heap.size u u := Below.refl _ _
    rw [x_t_two]
    refine ⟨?_, ?_⟩
    · try simp (disch := first | with_reducible assumption | omega) only [push_cast, x_blk, x_cd, ↓reduceIte, Nat.reduceEqDiff, List.map_cons, List.map_nil, Int.reduceEq, Int.lt_irrefl, hu]
      refine call_of (machine_Of' (hB.a.up bb).ends b.a.ce (by omega) hE1) ?_
      rintro v w14 ⟨rfl, b14⟩
      try replace kB := Blk.below kB b14 (Blk.lt kB)
      try replace kS := Blk.below kS b14 (Blk.lt kS)
      try replace k5 := Blk.below k5 b14 (Blk.lt k5)
      try replace k6 := Blk.below k6 b14 (Blk.lt k6)
      replace bb := bb.trans (Below.mono b14 bb.size)
      try replace bu := Below.trans bu (Below.mono b14 (Below.size bu))
      simp (disch := first | with_reducible assumption | omega) only [push_cast, x_blk, x_cd, ↓reduceIte, Nat.reduceEqDiff, List.map_cons, List.map_nil, Int.reduceEq, Int.lt_irrefl]
      refine ⟨bu, ?_⟩
      rw [x_t_two]
      refine ⟨?_, ?_⟩
      · try simp (disch := first | with_reducible assumption | omega) only [push_cast, x_blk, x_cd, ↓reduceIte, Nat.reduceEqDiff, List.map_cons, List.map_nil, Int.reduceEq, Int.lt_irrefl, hu]
        refine call_of (machine_Of' (hB.d.up bb).ends b.d.ce (by rw [dE]; omega) (by rw [dE]; exact hE2)) ?_
        rintro v w18 ⟨rfl, b18⟩
        try replace kB := Blk.below kB b18 (Blk.lt kB)
        try replace kS := Blk.below kS b18 (Blk.lt kS)
        try replace k5 := Blk.below k5 b18 (Blk.lt k5)
        try replace k6 := Blk.below k6 b18 (Blk.lt k6)
        replace bb := bb.trans (Below.mono b18 bb.size)
        try replace bu := Below.trans bu (Below.mono b18 (Below.size bu))
        simp (disch := first | with_reducible assumption | omega) only [push_cast, x_blk, x_cd, ↓reduceIte, Nat.reduceEqDiff, List.map_cons, List.map_nil, Int.reduceEq, Int.lt_irrefl]
        refine ⟨bu, ?_⟩
        rw [x_t_two]
        refine ⟨?_, ?_⟩
        · try simp (disch := first | with_reducible assumption | omega) only [push_cast, x_blk, x_cd, ↓reduceIte, Nat.reduceEqDiff, List.map_cons, List.map_nil, Int.reduceEq, Int.lt_irrefl, hu]
          refine blk_of (cs := setCells (wordsOf [])) al_64 ?_
          intro w5 k5 b5 z5
          have lB5 := kB.lt
          have lS5 := kS.lt
          replace kB := kB.below b5 kB.lt
          replace kS := kS.below b5 kS.lt
          replace bb := bb.trans (b5.mono bb.size)
          replace bu := bu.trans (b5.mono bu.size)
          simp (disch := first | with_reducible assumption | omega) only [push_cast, x_blk, x_cd, ↓reduceIte, Nat.reduceEqDiff, List.map_cons, List.map_nil, Int.reduceEq, Int.lt_irrefl]
          refine ⟨bu, ?_⟩
          try simp (disch := first | with_reducible assumption | omega) only [push_cast, x_blk, x_cd, ↓reduceIte, Nat.reduceEqDiff, List.map_cons, List.map_nil, Int.reduceEq, Int.lt_irrefl, hu]
          refine blk_of (cs := setCells (wordsOf [])) al_64 ?_
          intro w6 k6 b6 z6
          have lB6 := kB.lt
          have lS6 := kS.lt
          have l56 := k5.lt
          replace kB := kB.below b6 kB.lt
          replace kS := kS.below b6 kS.lt
          replace k5 := k5.below b6 k5.lt
          replace bb := bb.trans (b6.mono bb.size)
          replace bu := bu.trans (b6.mono bu.size)
          simp (disch := first | with_reducible assumption | omega) only [push_cast, x_blk, x_cd, ↓reduceIte, Nat.reduceEqDiff, List.map_cons, List.map_nil, Int.reduceEq, Int.lt_irrefl]
          refine ⟨bu, ?_⟩
          try rw [x_t_cut]
          try simp (disch := first | with_reducible assumption | omega) only [push_cast, x_blk, x_cd, ↓reduceIte, Nat.reduceEqDiff, List.map_cons, List.map_nil, Int.reduceEq, Int.lt_irrefl]
          refine sto_blk k5 (cs := setCells (wordsOf m.ends)) (e4_set _) (by rw [setCells_4, setCells_4]) (setCells_one _) ?_
          intro wa ka ga za
          replace kB := kB.grown ga.by_ (by simp; omega)
          replace kS := kS.grown ga.by_ (by simp; omega)
          replace k6 := k6.grown ga.by_ (by simp; omega)
          replace bb := ga.below bb bb.size (by intro a ha; injection ha with ha; subst ha; simp; omega)
          try rw [x_t_cut]
          try simp (disch := first | with_reducible assumption | omega) only [push_cast, x_blk, x_cd, ↓reduceIte, Nat.reduceEqDiff, List.map_cons, List.map_nil, Int.reduceEq, Int.lt_irrefl]
          refine sto_blk k6 (cs := setCells (wordsOf dm.ends)) (e4_set _) (by rw [setCells_4, setCells_4]) (setCells_one _) ?_
          intro wc kc gc zc
          replace kB := kB.grown gc.by_ (by simp; omega)
          replace kS := kS.grown gc.by_ (by simp; omega)
          replace ka := ka.grown gc.by_ (by simp; omega)
          replace bb := gc.below bb bb.size (by intro a ha; injection ha with ha; subst ha; simp; omega)
          simp (disch := first | with_reducible assumption | omega) only [push_cast, x_blk, x_cd, ↓reduceIte, Nat.reduceEqDiff, List.map_cons, List.map_nil, Int.reduceEq, Int.lt_irrefl]
          refine blk_of (cs := [.bool false]) al_4 ?_
          intro wd k7 bd7 zd
          have l7B := kB.lt
          have l7S := kS.lt
          have l7a := ka.lt
          have l7c := kc.lt
          replace kB := kB.below bd7 kB.lt
          replace kS := kS.below bd7 kS.lt
          replace ka := ka.below bd7 ka.lt
          replace kc := kc.below bd7 kc.lt
          replace bb := bb.trans (bd7.mono bb.size)
          simp (disch := first | with_reducible assumption | omega) only [push_cast, x_blk, x_cd, ↓reduceIte, Nat.reduceEqDiff, List.map_cons, List.map_nil, Int.reduceEq, Int.lt_irrefl]
          refine blk_of (cs := [.bool false]) al_4 ?_
          intro we k8 be8 ze
          have l8 := k7.lt
          replace kB := kB.below be8 kB.lt
          replace kS := kS.below be8 kS.lt
          replace ka := ka.below be8 ka.lt
          replace kc := kc.below be8 kc.lt
          replace k7 := k7.below be8 k7.lt
          replace bb := bb.trans (be8.mono bb.size)
          simp (disch := first | with_reducible assumption | omega) only [push_cast, x_blk, x_cd, ↓reduceIte, Nat.reduceEqDiff, List.map_cons, List.map_nil, Int.reduceEq, Int.lt_irrefl]
          refine sto_bool k7 (by kernel_rfl) 0 (by simp) false ?_
          intro wf k7' gf zf
          replace kB := kB.grown gf.by_ (by simp; omega)
          replace kS := kS.grown gf.by_ (by simp; omega)
          replace ka := ka.grown gf.by_ (by simp; omega)
          replace kc := kc.grown gf.by_ (by simp; omega)
          replace k8 := k8.grown gf.by_ (by simp; omega)
          replace bb := gf.below bb bb.size (by intro a ha; injection ha with ha; subst ha; simp; omega)
          simp (disch := first | with_reducible assumption | omega) only [push_cast, x_blk, x_cd, ↓reduceIte, Nat.reduceEqDiff, List.map_cons, List.map_nil, Int.reduceEq, Int.lt_irrefl]
          refine sto_bool k8 (by kernel_rfl) 0 (by simp) false ?_
          intro wg k8' gg zg
          replace kB := kB.grown gg.by_ (by simp; omega)
          replace kS := kS.grown gg.by_ (by simp; omega)
          replace ka := ka.grown gg.by_ (by simp; omega)
          replace kc := kc.grown gg.by_ (by simp; omega)
          replace k7' := k7'.grown gg.by_ (by simp; omega)
          replace bb := gg.below bb bb.size (by intro a ha; injection ha with ha; subst ha; simp; omega)
          simp (disch := first | with_reducible assumption | omega) only [push_cast, x_blk, x_cd, ↓reduceIte, Nat.reduceEqDiff, List.map_cons, List.map_nil, Int.reduceEq, Int.lt_irrefl, kS.setA (wordsOf_words _) ty_ag_64 ty_sz_64]
          refine call_of (set_All S _) ?_
          rintro v wh ⟨rfl, kh, bh, zh⟩
          have l9 := k8'.lt
          simp (disch := first | with_reducible assumption | omega) only [push_cast, x_blk, x_cd, ↓reduceIte, Nat.reduceEqDiff, List.map_cons, List.map_nil, Int.reduceEq, Int.lt_irrefl]
          refine ⟨_, _, _, _, _, ?_, ?_, ?_, ?_, ?_, ?_, ?_, ?_, kB.below bh kB.lt, ka.below bh ka.lt, kc.below bh kc.lt, k7'.below bh k7'.lt, k8'.below bh k8'.lt, kh, bb.trans (bh.mono bb.size)⟩
          all_goals first | omega | simp only [push_cast, ↓reduceIte, Nat.reduceEqDiff, Int.reduceEq, and_self, eq_self]
        · try simp (disch := first | with_reducible assumption | omega) only [push_cast, x_blk, x_cd, ↓reduceIte, Nat.reduceEqDiff, List.map_cons, List.map_nil, Int.reduceEq, Int.lt_irrefl, hu]
          refine blk_of (cs := setCells (wordsOf [])) al_64 ?_
          intro w6 k6 b6 z6
          have lB6 := kB.lt
          have lS6 := kS.lt
          replace kB := kB.below b6 kB.lt
          replace kS := kS.below b6 kS.lt
          replace bb := bb.trans (b6.mono bb.size)
          replace bu := bu.trans (b6.mono bu.size)
          simp (disch := first | with_reducible assumption | omega) only [push_cast, x_blk, x_cd, ↓reduceIte, Nat.reduceEqDiff, List.map_cons, List.map_nil, Int.reduceEq, Int.lt_irrefl]
          refine ⟨bu, ?_⟩
          try simp (disch := first | with_reducible assumption | omega) only [push_cast, x_blk, x_cd, ↓reduceIte, Nat.reduceEqDiff, List.map_cons, List.map_nil, Int.reduceEq, Int.lt_irrefl, hu]
          refine blk_of (cs := setCells (wordsOf [])) al_64 ?_
          intro w5 k5 b5 z5
          have lB5 := kB.lt
          have lS5 := kS.lt
          have l65 := k6.lt
          replace kB := kB.below b5 kB.lt
          replace kS := kS.below b5 kS.lt
          replace k6 := k6.below b5 k6.lt
          replace bb := bb.trans (b5.mono bb.size)
          replace bu := bu.trans (b5.mono bu.size)
          simp (disch := first | with_reducible assumption | omega) only [push_cast, x_blk, x_cd, ↓reduceIte, Nat.reduceEqDiff, List.map_cons, List.map_nil, Int.reduceEq, Int.lt_irrefl]
          refine ⟨bu, ?_⟩
          try rw [x_t_cut]
          try simp (disch := first | with_reducible assumption | omega) only [push_cast, x_blk, x_cd, ↓reduceIte, Nat.reduceEqDiff, List.map_cons, List.map_nil, Int.reduceEq, Int.lt_irrefl]
          refine sto_blk k5 (cs := setCells (wordsOf m.ends)) (e4_set _) (by rw [setCells_4, setCells_4]) (setCells_one _) ?_
          intro wa ka ga za
          replace kB := kB.grown ga.by_ (by simp; omega)
          replace kS := kS.grown ga.by_ (by simp; omega)
          replace k6 := k6.grown ga.by_ (by simp; omega)
          replace bb := ga.below bb bb.size (by intro a ha; injection ha with ha; subst ha; simp; omega)
          try rw [x_t_cut]
          try simp (disch := first | with_reducible assumption | omega) only [push_cast, x_blk, x_cd, ↓reduceIte, Nat.reduceEqDiff, List.map_cons, List.map_nil, Int.reduceEq, Int.lt_irrefl]
          refine sto_blk k6 (cs := setCells (wordsOf dm.ends)) (e4_set _) (by rw [setCells_4, setCells_4]) (setCells_one _) ?_
          intro wc kc gc zc
          replace kB := kB.grown gc.by_ (by simp; omega)
          replace kS := kS.grown gc.by_ (by simp; omega)
          replace ka := ka.grown gc.by_ (by simp; omega)
          replace bb := gc.below bb bb.size (by intro a ha; injection ha with ha; subst ha; simp; omega)
          simp (disch := first | with_reducible assumption | omega) only [push_cast, x_blk, x_cd, ↓reduceIte, Nat.reduceEqDiff, List.map_cons, List.map_nil, Int.reduceEq, Int.lt_irrefl]
          refine blk_of (cs := [.bool false]) al_4 ?_
          intro wd k7 bd7 zd
          have l7B := kB.lt
          have l7S := kS.lt
          have l7a := ka.lt
          have l7c := kc.lt
          replace kB := kB.below bd7 kB.lt
          replace kS := kS.below bd7 kS.lt
          replace ka := ka.below bd7 ka.lt
          replace kc := kc.below bd7 kc.lt
          replace bb := bb.trans (bd7.mono bb.size)
          simp (disch := first | with_reducible assumption | omega) only [push_cast, x_blk, x_cd, ↓reduceIte, Nat.reduceEqDiff, List.map_cons, List.map_nil, Int.reduceEq, Int.lt_irrefl]
          refine blk_of (cs := [.bool false]) al_4 ?_
          intro we k8 be8 ze
          have l8 := k7.lt
          replace kB := kB.below be8 kB.lt
          replace kS := kS.below be8 kS.lt
          replace ka := ka.below be8 ka.lt
          replace kc := kc.below be8 kc.lt
          replace k7 := k7.below be8 k7.lt
          replace bb := bb.trans (be8.mono bb.size)
          simp (disch := first | with_reducible assumption | omega) only [push_cast, x_blk, x_cd, ↓reduceIte, Nat.reduceEqDiff, List.map_cons, List.map_nil, Int.reduceEq, Int.lt_irrefl]
          refine sto_bool k7 (by kernel_rfl) 0 (by simp) false ?_
          intro wf k7' gf zf
          replace kB := kB.grown gf.by_ (by simp; omega)
          replace kS := kS.grown gf.by_ (by simp; omega)
          replace ka := ka.grown gf.by_ (by simp; omega)
          replace kc := kc.grown gf.by_ (by simp; omega)
          replace k8 := k8.grown gf.by_ (by simp; omega)
          replace bb := gf.below bb bb.size (by intro a ha; injection ha with ha; subst ha; simp; omega)
          simp (disch := first | with_reducible assumption | omega) only [push_cast, x_blk, x_cd, ↓reduceIte, Nat.reduceEqDiff, List.map_cons, List.map_nil, Int.reduceEq, Int.lt_irrefl]
          refine sto_bool k8 (by kernel_rfl) 0 (by simp) false ?_
          intro wg k8' gg zg
          replace kB := kB.grown gg.by_ (by simp; omega)
          replace kS := kS.grown gg.by_ (by simp; omega)
          replace ka := ka.grown gg.by_ (by simp; omega)
          replace kc := kc.grown gg.by_ (by simp; omega)
          replace k7' := k7'.grown gg.by_ (by simp; omega)
          replace bb := gg.below bb bb.size (by intro a ha; injection ha with ha; subst ha; simp; omega)
          simp (disch := first | with_reducible assumption | omega) only [push_cast, x_blk, x_cd, ↓reduceIte, Nat.reduceEqDiff, List.map_cons, List.map_nil, Int.reduceEq, Int.lt_irrefl, kS.setA (wordsOf_words _) ty_ag_64 ty_sz_64]
          refine call_of (set_All S _) ?_
          rintro v wh ⟨rfl, kh, bh, zh⟩
          have l9 := k8'.lt
          simp (disch := first | with_reducible assumption | omega) only [push_cast, x_blk, x_cd, ↓reduceIte, Nat.reduceEqDiff, List.map_cons, List.map_nil, Int.reduceEq, Int.lt_irrefl]
          refine ⟨_, _, _, _, _, ?_, ?_, ?_, ?_, ?_, ?_, ?_, ?_, kB.below bh kB.lt, ka.below bh ka.lt, kc.below bh kc.lt, k7'.below bh k7'.lt, k8'.below bh k8'.lt, kh, bb.trans (bh.mono bb.size)⟩
          all_goals first | omega | simp only [push_cast, ↓reduceIte, Nat.reduceEqDiff, Int.reduceEq, and_self, eq_self]
      · rw [x_t_two]
        refine ⟨?_, ?_⟩
        · try simp (disch := first | with_reducible assumption | omega) only [push_cast, x_blk, x_cd, ↓reduceIte, Nat.reduceEqDiff, List.map_cons, List.map_nil, Int.reduceEq, Int.lt_irrefl, hu]
          refine blk_of (cs := setCells (wordsOf [])) al_64 ?_
          intro w5 k5 b5 z5
          have lB5 := kB.lt
          have lS5 := kS.lt
          replace kB := kB.below b5 kB.lt
          replace kS := kS.below b5 kS.lt
          replace bb := bb.trans (b5.mono bb.size)
          replace bu := bu.trans (b5.mono bu.size)
          simp (disch := first | with_reducible assumption | omega) only [push_cast, x_blk, x_cd, ↓reduceIte, Nat.reduceEqDiff, List.map_cons, List.map_nil, Int.reduceEq, Int.lt_irrefl]
          refine ⟨bu, ?_⟩
          rw [x_t_two]
          refine ⟨?_, ?_⟩
          · try simp (disch := first | with_reducible assumption | omega) only [push_cast, x_blk, x_cd, ↓reduceIte, Nat.reduceEqDiff, List.map_cons, List.map_nil, Int.reduceEq, Int.lt_irrefl, hu]
            refine call_of (machine_Of' (hB.d.up bb).ends b.d.ce (by rw [dE]; omega) (by rw [dE]; exact hE2)) ?_
            rintro v w18 ⟨rfl, b18⟩
            try replace kB := Blk.below kB b18 (Blk.lt kB)
            try replace kS := Blk.below kS b18 (Blk.lt kS)
            try replace k5 := Blk.below k5 b18 (Blk.lt k5)
            try replace k6 := Blk.below k6 b18 (Blk.lt k6)
            replace bb := bb.trans (Below.mono b18 bb.size)
            try replace bu := Below.trans bu (Below.mono b18 (Below.size bu))
            simp (disch := first | with_reducible assumption | omega) only [push_cast, x_blk, x_cd, ↓reduceIte, Nat.reduceEqDiff, List.map_cons, List.map_nil, Int.reduceEq, Int.lt_irrefl]
            refine ⟨bu, ?_⟩
            try simp (disch := first | with_reducible assumption | omega) only [push_cast, x_blk, x_cd, ↓reduceIte, Nat.reduceEqDiff, List.map_cons, List.map_nil, Int.reduceEq, Int.lt_irrefl, hu]
            refine blk_of (cs := setCells (wordsOf [])) al_64 ?_
            intro w6 k6 b6 z6
            have lB6 := kB.lt
            have lS6 := kS.lt
            have l56 := k5.lt
            replace kB := kB.below b6 kB.lt
            replace kS := kS.below b6 kS.lt
            replace k5 := k5.below b6 k5.lt
            replace bb := bb.trans (b6.mono bb.size)
            replace bu := bu.trans (b6.mono bu.size)
            simp (disch := first | with_reducible assumption | omega) only [push_cast, x_blk, x_cd, ↓reduceIte, Nat.reduceEqDiff, List.map_cons, List.map_nil, Int.reduceEq, Int.lt_irrefl]
            refine ⟨bu, ?_⟩
            try rw [x_t_cut]
            try simp (disch := first | with_reducible assumption | omega) only [push_cast, x_blk, x_cd, ↓reduceIte, Nat.reduceEqDiff, List.map_cons, List.map_nil, Int.reduceEq, Int.lt_irrefl]
            refine sto_blk k5 (cs := setCells (wordsOf m.ends)) (e4_set _) (by rw [setCells_4, setCells_4]) (setCells_one _) ?_
            intro wa ka ga za
            replace kB := kB.grown ga.by_ (by simp; omega)
            replace kS := kS.grown ga.by_ (by simp; omega)
            replace k6 := k6.grown ga.by_ (by simp; omega)
            replace bb := ga.below bb bb.size (by intro a ha; injection ha with ha; subst ha; simp; omega)
            try rw [x_t_cut]
            try simp (disch := first | with_reducible assumption | omega) only [push_cast, x_blk, x_cd, ↓reduceIte, Nat.reduceEqDiff, List.map_cons, List.map_nil, Int.reduceEq, Int.lt_irrefl]
            refine sto_blk k6 (cs := setCells (wordsOf dm.ends)) (e4_set _) (by rw [setCells_4, setCells_4]) (setCells_one _) ?_
            intro wc kc gc zc
            replace kB := kB.grown gc.by_ (by simp; omega)
            replace kS := kS.grown gc.by_ (by simp; omega)
            replace ka := ka.grown gc.by_ (by simp; omega)
            replace bb := gc.below bb bb.size (by intro a ha; injection ha with ha; subst ha; simp; omega)
            simp (disch := first | with_reducible assumption | omega) only [push_cast, x_blk, x_cd, ↓reduceIte, Nat.reduceEqDiff, List.map_cons, List.map_nil, Int.reduceEq, Int.lt_irrefl]
            refine blk_of (cs := [.bool false]) al_4 ?_
            intro wd k7 bd7 zd
            have l7B := kB.lt
            have l7S := kS.lt
            have l7a := ka.lt
            have l7c := kc.lt
            replace kB := kB.below bd7 kB.lt
            replace kS := kS.below bd7 kS.lt
            replace ka := ka.below bd7 ka.lt
            replace kc := kc.below bd7 kc.lt
            replace bb := bb.trans (bd7.mono bb.size)
            simp (disch := first | with_reducible assumption | omega) only [push_cast, x_blk, x_cd, ↓reduceIte, Nat.reduceEqDiff, List.map_cons, List.map_nil, Int.reduceEq, Int.lt_irrefl]
            refine blk_of (cs := [.bool false]) al_4 ?_
            intro we k8 be8 ze
            have l8 := k7.lt
            replace kB := kB.below be8 kB.lt
            replace kS := kS.below be8 kS.lt
            replace ka := ka.below be8 ka.lt
            replace kc := kc.below be8 kc.lt
            replace k7 := k7.below be8 k7.lt
            replace bb := bb.trans (be8.mono bb.size)
            simp (disch := first | with_reducible assumption | omega) only [push_cast, x_blk, x_cd, ↓reduceIte, Nat.reduceEqDiff, List.map_cons, List.map_nil, Int.reduceEq, Int.lt_irrefl]
            refine sto_bool k7 (by kernel_rfl) 0 (by simp) false ?_
            intro wf k7' gf zf
            replace kB := kB.grown gf.by_ (by simp; omega)
            replace kS := kS.grown gf.by_ (by simp; omega)
            replace ka := ka.grown gf.by_ (by simp; omega)
            replace kc := kc.grown gf.by_ (by simp; omega)
            replace k8 := k8.grown gf.by_ (by simp; omega)
            replace bb := gf.below bb bb.size (by intro a ha; injection ha with ha; subst ha; simp; omega)
            simp (disch := first | with_reducible assumption | omega) only [push_cast, x_blk, x_cd, ↓reduceIte, Nat.reduceEqDiff, List.map_cons, List.map_nil, Int.reduceEq, Int.lt_irrefl]
            refine sto_bool k8 (by kernel_rfl) 0 (by simp) false ?_
            intro wg k8' gg zg
            replace kB := kB.grown gg.by_ (by simp; omega)
            replace kS := kS.grown gg.by_ (by simp; omega)
            replace ka := ka.grown gg.by_ (by simp; omega)
            replace kc := kc.grown gg.by_ (by simp; omega)
            replace k7' := k7'.grown gg.by_ (by simp; omega)
            replace bb := gg.below bb bb.size (by intro a ha; injection ha with ha; subst ha; simp; omega)
            simp (disch := first | with_reducible assumption | omega) only [push_cast, x_blk, x_cd, ↓reduceIte, Nat.reduceEqDiff, List.map_cons, List.map_nil, Int.reduceEq, Int.lt_irrefl, kS.setA (wordsOf_words _) ty_ag_64 ty_sz_64]
            refine call_of (set_All S _) ?_
            rintro v wh ⟨rfl, kh, bh, zh⟩
            have l9 := k8'.lt
            simp (disch := first | with_reducible assumption | omega) only [push_cast, x_blk, x_cd, ↓reduceIte, Nat.reduceEqDiff, List.map_cons, List.map_nil, Int.reduceEq, Int.lt_irrefl]
            refine ⟨_, _, _, _, _, ?_, ?_, ?_, ?_, ?_, ?_, ?_, ?_, kB.below bh kB.lt, ka.below bh ka.lt, kc.below bh kc.lt, k7'.below bh k7'.lt, k8'.below bh k8'.lt, kh, bb.trans (bh.mono bb.size)⟩
            all_goals first | omega | simp only [push_cast, ↓reduceIte, Nat.reduceEqDiff, Int.reduceEq, and_self, eq_self]
          · try simp (disch := first | with_reducible assumption | omega) only [push_cast, x_blk, x_cd, ↓reduceIte, Nat.reduceEqDiff, List.map_cons, List.map_nil, Int.reduceEq, Int.lt_irrefl, hu]
            refine blk_of (cs := setCells (wordsOf [])) al_64 ?_
            intro w6 k6 b6 z6
            have lB6 := kB.lt
            have lS6 := kS.lt
            have l56 := k5.lt
            replace kB := kB.below b6 kB.lt
            replace kS := kS.below b6 kS.lt
            replace k5 := k5.below b6 k5.lt
            replace bb := bb.trans (b6.mono bb.size)
            replace bu := bu.trans (b6.mono bu.size)
            simp (disch := first | with_reducible assumption | omega) only [push_cast, x_blk, x_cd, ↓reduceIte, Nat.reduceEqDiff, List.map_cons, List.map_nil, Int.reduceEq, Int.lt_irrefl]
            refine ⟨bu, ?_⟩
            try simp (disch := first | with_reducible assumption | omega) only [push_cast, x_blk, x_cd, ↓reduceIte, Nat.reduceEqDiff, List.map_cons, List.map_nil, Int.reduceEq, Int.lt_irrefl, hu]
            refine call_of (machine_Of' (hB.d.up bb).ends b.d.ce (by rw [dE]; omega) (by rw [dE]; exact hE2)) ?_
            rintro v w18 ⟨rfl, b18⟩
            try replace kB := Blk.below kB b18 (Blk.lt kB)
            try replace kS := Blk.below kS b18 (Blk.lt kS)
            try replace k5 := Blk.below k5 b18 (Blk.lt k5)
            try replace k6 := Blk.below k6 b18 (Blk.lt k6)
            replace bb := bb.trans (Below.mono b18 bb.size)
            try replace bu := Below.trans bu (Below.mono b18 (Below.size bu))
            simp (disch := first | with_reducible assumption | omega) only [push_cast, x_blk, x_cd, ↓reduceIte, Nat.reduceEqDiff, List.map_cons, List.map_nil, Int.reduceEq, Int.lt_irrefl]
            refine ⟨bu, ?_⟩
            try rw [x_t_cut]
            try simp (disch := first | with_reducible assumption | omega) only [push_cast, x_blk, x_cd, ↓reduceIte, Nat.reduceEqDiff, List.map_cons, List.map_nil, Int.reduceEq, Int.lt_irrefl]
            refine sto_blk k5 (cs := setCells (wordsOf m.ends)) (e4_set _) (by rw [setCells_4, setCells_4]) (setCells_one _) ?_
            intro wa ka ga za
            replace kB := kB.grown ga.by_ (by simp; omega)
            replace kS := kS.grown ga.by_ (by simp; omega)
            replace k6 := k6.grown ga.by_ (by simp; omega)
            replace bb := ga.below bb bb.size (by intro a ha; injection ha with ha; subst ha; simp; omega)
            try rw [x_t_cut]
            try simp (disch := first | with_reducible assumption | omega) only [push_cast, x_blk, x_cd, ↓reduceIte, Nat.reduceEqDiff, List.map_cons, List.map_nil, Int.reduceEq, Int.lt_irrefl]
            refine sto_blk k6 (cs := setCells (wordsOf dm.ends)) (e4_set _) (by rw [setCells_4, setCells_4]) (setCells_one _) ?_
            intro wc kc gc zc
            replace kB := kB.grown gc.by_ (by simp; omega)
            replace kS := kS.grown gc.by_ (by simp; omega)
            replace ka := ka.grown gc.by_ (by simp; omega)
            replace bb := gc.below bb bb.size (by intro a ha; injection ha with ha; subst ha; simp; omega)
            simp (disch := first | with_reducible assumption | omega) only [push_cast, x_blk, x_cd, ↓reduceIte, Nat.reduceEqDiff, List.map_cons, List.map_nil, Int.reduceEq, Int.lt_irrefl]
            refine blk_of (cs := [.bool false]) al_4 ?_
            intro wd k7 bd7 zd
            have l7B := kB.lt
            have l7S := kS.lt
            have l7a := ka.lt
            have l7c := kc.lt
            replace kB := kB.below bd7 kB.lt
            replace kS := kS.below bd7 kS.lt
            replace ka := ka.below bd7 ka.lt
            replace kc := kc.below bd7 kc.lt
            replace bb := bb.trans (bd7.mono bb.size)
            simp (disch := first | with_reducible assumption | omega) only [push_cast, x_blk, x_cd, ↓reduceIte, Nat.reduceEqDiff, List.map_cons, List.map_nil, Int.reduceEq, Int.lt_irrefl]
            refine blk_of (cs := [.bool false]) al_4 ?_
            intro we k8 be8 ze
            have l8 := k7.lt
            replace kB := kB.below be8 kB.lt
            replace kS := kS.below be8 kS.lt
            replace ka := ka.below be8 ka.lt
            replace kc := kc.below be8 kc.lt
            replace k7 := k7.below be8 k7.lt
            replace bb := bb.trans (be8.mono bb.size)
            simp (disch := first | with_reducible assumption | omega) only [push_cast, x_blk, x_cd, ↓reduceIte, Nat.reduceEqDiff, List.map_cons, List.map_nil, Int.reduceEq, Int.lt_irrefl]
            refine sto_bool k7 (by kernel_rfl) 0 (by simp) false ?_
            intro wf k7' gf zf
            replace kB := kB.grown gf.by_ (by simp; omega)
            replace kS := kS.grown gf.by_ (by simp; omega)
            replace ka := ka.grown gf.by_ (by simp; omega)
            replace kc := kc.grown gf.by_ (by simp; omega)
            replace k8 := k8.grown gf.by_ (by simp; omega)
            replace bb := gf.below bb bb.size (by intro a ha; injection ha with ha; subst ha; simp; omega)
            simp (disch := first | with_reducible assumption | omega) only [push_cast, x_blk, x_cd, ↓reduceIte, Nat.reduceEqDiff, List.map_cons, List.map_nil, Int.reduceEq, Int.lt_irrefl]
            refine sto_bool k8 (by kernel_rfl) 0 (by simp) false ?_
            intro wg k8' gg zg
            replace kB := kB.grown gg.by_ (by simp; omega)
            replace kS := kS.grown gg.by_ (by simp; omega)
            replace ka := ka.grown gg.by_ (by simp; omega)
            replace kc := kc.grown gg.by_ (by simp; omega)
            replace k7' := k7'.grown gg.by_ (by simp; omega)
            replace bb := gg.below bb bb.size (by intro a ha; injection ha with ha; subst ha; simp; omega)
            simp (disch := first | with_reducible assumption | omega) only [push_cast, x_blk, x_cd, ↓reduceIte, Nat.reduceEqDiff, List.map_cons, List.map_nil, Int.reduceEq, Int.lt_irrefl, kS.setA (wordsOf_words _) ty_ag_64 ty_sz_64]
            refine call_of (set_All S _) ?_
            rintro v wh ⟨rfl, kh, bh, zh⟩
            have l9 := k8'.lt
            simp (disch := first | with_reducible assumption | omega) only [push_cast, x_blk, x_cd, ↓reduceIte, Nat.reduceEqDiff, List.map_cons, List.map_nil, Int.reduceEq, Int.lt_irrefl]
            refine ⟨_, _, _, _, _, ?_, ?_, ?_, ?_, ?_, ?_, ?_, ?_, kB.below bh kB.lt, ka.below bh ka.lt, kc.below bh kc.lt, k7'.below bh k7'.lt, k8'.below bh k8'.lt, kh, bb.trans (bh.mono bb.size)⟩
            all_goals first | omega | simp only [push_cast, ↓reduceIte, Nat.reduceEqDiff, Int.reduceEq, and_self, eq_self]
        · try simp (disch := first | with_reducible assumption | omega) only [push_cast, x_blk, x_cd, ↓reduceIte, Nat.reduceEqDiff, List.map_cons, List.map_nil, Int.reduceEq, Int.lt_irrefl, hu]
          refine blk_of (cs := setCells (wordsOf [])) al_64 ?_
          intro w6 k6 b6 z6
          have lB6 := kB.lt
          have lS6 := kS.lt
          replace kB := kB.below b6 kB.lt
          replace kS := kS.below b6 kS.lt
          replace bb := bb.trans (b6.mono bb.size)
          replace bu := bu.trans (b6.mono bu.size)
          simp (disch := first | with_reducible assumption | omega) only [push_cast, x_blk, x_cd, ↓reduceIte, Nat.reduceEqDiff, List.map_cons, List.map_nil, Int.reduceEq, Int.lt_irrefl]
          refine ⟨bu, ?_⟩
          rw [x_t_two]
          refine ⟨?_, ?_⟩
          · try simp (disch := first | with_reducible assumption | omega) only [push_cast, x_blk, x_cd, ↓reduceIte, Nat.reduceEqDiff, List.map_cons, List.map_nil, Int.reduceEq, Int.lt_irrefl, hu]
            refine call_of (machine_Of' (hB.d.up bb).ends b.d.ce (by rw [dE]; omega) (by rw [dE]; exact hE2)) ?_
            rintro v w18 ⟨rfl, b18⟩
            try replace kB := Blk.below kB b18 (Blk.lt kB)
            try replace kS := Blk.below kS b18 (Blk.lt kS)
            try replace k5 := Blk.below k5 b18 (Blk.lt k5)
            try replace k6 := Blk.below k6 b18 (Blk.lt k6)
            replace bb := bb.trans (Below.mono b18 bb.size)
            try replace bu := Below.trans bu (Below.mono b18 (Below.size bu))
            simp (disch := first | with_reducible assumption | omega) only [push_cast, x_blk, x_cd, ↓reduceIte, Nat.reduceEqDiff, List.map_cons, List.map_nil, Int.reduceEq, Int.lt_irrefl]
            refine ⟨bu, ?_⟩
            try simp (disch := first | with_reducible assumption | omega) only [push_cast, x_blk, x_cd, ↓reduceIte, Nat.reduceEqDiff, List.map_cons, List.map_nil, Int.reduceEq, Int.lt_irrefl, hu]
            refine blk_of (cs := setCells (wordsOf [])) al_64 ?_
            intro w5 k5 b5 z5
            have lB5 := kB.lt
            have lS5 := kS.lt
            have l65 := k6.lt
            replace kB := kB.below b5 kB.lt
            replace kS := kS.below b5 kS.lt
            replace k6 := k6.below b5 k6.lt
            replace bb := bb.trans (b5.mono bb.size)
            replace bu := bu.trans (b5.mono bu.size)
            simp (disch := first | with_reducible assumption | omega) only [push_cast, x_blk, x_cd, ↓reduceIte, Nat.reduceEqDiff, List.map_cons, List.map_nil, Int.reduceEq, Int.lt_irrefl]
            refine ⟨bu, ?_⟩
            try rw [x_t_cut]
            try simp (disch := first | with_reducible assumption | omega) only [push_cast, x_blk, x_cd, ↓reduceIte, Nat.reduceEqDiff, List.map_cons, List.map_nil, Int.reduceEq, Int.lt_irrefl]
            refine sto_blk k5 (cs := setCells (wordsOf m.ends)) (e4_set _) (by rw [setCells_4, setCells_4]) (setCells_one _) ?_
            intro wa ka ga za
            replace kB := kB.grown ga.by_ (by simp; omega)
            replace kS := kS.grown ga.by_ (by simp; omega)
            replace k6 := k6.grown ga.by_ (by simp; omega)
            replace bb := ga.below bb bb.size (by intro a ha; injection ha with ha; subst ha; simp; omega)
            try rw [x_t_cut]
            try simp (disch := first | with_reducible assumption | omega) only [push_cast, x_blk, x_cd, ↓reduceIte, Nat.reduceEqDiff, List.map_cons, List.map_nil, Int.reduceEq, Int.lt_irrefl]
            refine sto_blk k6 (cs := setCells (wordsOf dm.ends)) (e4_set _) (by rw [setCells_4, setCells_4]) (setCells_one _) ?_
            intro wc kc gc zc
            replace kB := kB.grown gc.by_ (by simp; omega)
            replace kS := kS.grown gc.by_ (by simp; omega)
            replace ka := ka.grown gc.by_ (by simp; omega)
            replace bb := gc.below bb bb.size (by intro a ha; injection ha with ha; subst ha; simp; omega)
            simp (disch := first | with_reducible assumption | omega) only [push_cast, x_blk, x_cd, ↓reduceIte, Nat.reduceEqDiff, List.map_cons, List.map_nil, Int.reduceEq, Int.lt_irrefl]
            refine blk_of (cs := [.bool false]) al_4 ?_
            intro wd k7 bd7 zd
            have l7B := kB.lt
            have l7S := kS.lt
            have l7a := ka.lt
            have l7c := kc.lt
            replace kB := kB.below bd7 kB.lt
            replace kS := kS.below bd7 kS.lt
            replace ka := ka.below bd7 ka.lt
            replace kc := kc.below bd7 kc.lt
            replace bb := bb.trans (bd7.mono bb.size)
            simp (disch := first | with_reducible assumption | omega) only [push_cast, x_blk, x_cd, ↓reduceIte, Nat.reduceEqDiff, List.map_cons, List.map_nil, Int.reduceEq, Int.lt_irrefl]
            refine blk_of (cs := [.bool false]) al_4 ?_
            intro we k8 be8 ze
            have l8 := k7.lt
            replace kB := kB.below be8 kB.lt
            replace kS := kS.below be8 kS.lt
            replace ka := ka.below be8 ka.lt
            replace kc := kc.below be8 kc.lt
            replace k7 := k7.below be8 k7.lt
            replace bb := bb.trans (be8.mono bb.size)
            simp (disch := first | with_reducible assumption | omega) only [push_cast, x_blk, x_cd, ↓reduceIte, Nat.reduceEqDiff, List.map_cons, List.map_nil, Int.reduceEq, Int.lt_irrefl]
            refine sto_bool k7 (by kernel_rfl) 0 (by simp) false ?_
            intro wf k7' gf zf
            replace kB := kB.grown gf.by_ (by simp; omega)
            replace kS := kS.grown gf.by_ (by simp; omega)
            replace ka := ka.grown gf.by_ (by simp; omega)
            replace kc := kc.grown gf.by_ (by simp; omega)
            replace k8 := k8.grown gf.by_ (by simp; omega)
            replace bb := gf.below bb bb.size (by intro a ha; injection ha with ha; subst ha; simp; omega)
            simp (disch := first | with_reducible assumption | omega) only [push_cast, x_blk, x_cd, ↓reduceIte, Nat.reduceEqDiff, List.map_cons, List.map_nil, Int.reduceEq, Int.lt_irrefl]
            refine sto_bool k8 (by kernel_rfl) 0 (by simp) false ?_
            intro wg k8' gg zg
            replace kB := kB.grown gg.by_ (by simp; omega)
            replace kS := kS.grown gg.by_ (by simp; omega)
            replace ka := ka.grown gg.by_ (by simp; omega)
            replace kc := kc.grown gg.by_ (by simp; omega)
            replace k7' := k7'.grown gg.by_ (by simp; omega)
            replace bb := gg.below bb bb.size (by intro a ha; injection ha with ha; subst ha; simp; omega)
            simp (disch := first | with_reducible assumption | omega) only [push_cast, x_blk, x_cd, ↓reduceIte, Nat.reduceEqDiff, List.map_cons, List.map_nil, Int.reduceEq, Int.lt_irrefl, kS.setA (wordsOf_words _) ty_ag_64 ty_sz_64]
            refine call_of (set_All S _) ?_
            rintro v wh ⟨rfl, kh, bh, zh⟩
            have l9 := k8'.lt
            simp (disch := first | with_reducible assumption | omega) only [push_cast, x_blk, x_cd, ↓reduceIte, Nat.reduceEqDiff, List.map_cons, List.map_nil, Int.reduceEq, Int.lt_irrefl]
            refine ⟨_, _, _, _, _, ?_, ?_, ?_, ?_, ?_, ?_, ?_, ?_, kB.below bh kB.lt, ka.below bh ka.lt, kc.below bh kc.lt, k7'.below bh k7'.lt, k8'.below bh k8'.lt, kh, bb.trans (bh.mono bb.size)⟩
            all_goals first | omega | simp only [push_cast, ↓reduceIte, Nat.reduceEqDiff, Int.reduceEq, and_self, eq_self]
          · try simp (disch := first | with_reducible assumption | omega) only [push_cast, x_blk, x_cd, ↓reduceIte, Nat.reduceEqDiff, List.map_cons, List.map_nil, Int.reduceEq, Int.lt_irrefl, hu]
            refine blk_of (cs := setCells (wordsOf [])) al_64 ?_
            intro w5 k5 b5 z5
            have lB5 := kB.lt
            have lS5 := kS.lt
            have l65 := k6.lt
            replace kB := kB.below b5 kB.lt
            replace kS := kS.below b5 kS.lt
            replace k6 := k6.below b5 k6.lt
            replace bb := bb.trans (b5.mono bb.size)
            replace bu := bu.trans (b5.mono bu.size)
            simp (disch := first | with_reducible assumption | omega) only [push_cast, x_blk, x_cd, ↓reduceIte, Nat.reduceEqDiff, List.map_cons, List.map_nil, Int.reduceEq, Int.lt_irrefl]
            refine ⟨bu, ?_⟩
            try simp (disch := first | with_reducible assumption | omega) only [push_cast, x_blk, x_cd, ↓reduceIte, Nat.reduceEqDiff, List.map_cons, List.map_nil, Int.reduceEq, Int.lt_irrefl, hu]
            refine call_of (machine_Of' (hB.d.up bb).ends b.d.ce (by rw [dE]; omega) (by rw [dE]; exact hE2)) ?_
            rintro v w18 ⟨rfl, b18⟩
            try replace kB := Blk.below kB b18 (Blk.lt kB)
            try replace kS := Blk.below kS b18 (Blk.lt kS)
            try replace k5 := Blk.below k5 b18 (Blk.lt k5)
            try replace k6 := Blk.below k6 b18 (Blk.lt k6)
            replace bb := bb.trans (Below.mono b18 bb.size)
            try replace bu := Below.trans bu (Below.mono b18 (Below.size bu))
            simp (disch := first | with_reducible assumption | omega) only [push_cast, x_blk, x_cd, ↓reduceIte, Nat.reduceEqDiff, List.map_cons, List.map_nil, Int.reduceEq, Int.lt_irrefl]
            refine ⟨bu, ?_⟩
            try rw [x_t_cut]
            try simp (disch := first | with_reducible assumption | omega) only [push_cast, x_blk, x_cd, ↓reduceIte, Nat.reduceEqDiff, List.map_cons, List.map_nil, Int.reduceEq, Int.lt_irrefl]
            refine sto_blk k5 (cs := setCells (wordsOf m.ends)) (e4_set _) (by rw [setCells_4, setCells_4]) (setCells_one _) ?_
            intro wa ka ga za
            replace kB := kB.grown ga.by_ (by simp; omega)
            replace kS := kS.grown ga.by_ (by simp; omega)
            replace k6 := k6.grown ga.by_ (by simp; omega)
            replace bb := ga.below bb bb.size (by intro a ha; injection ha with ha; subst ha; simp; omega)
            try rw [x_t_cut]
            try simp (disch := first | with_reducible assumption | omega) only [push_cast, x_blk, x_cd, ↓reduceIte, Nat.reduceEqDiff, List.map_cons, List.map_nil, Int.reduceEq, Int.lt_irrefl]
            refine sto_blk k6 (cs := setCells (wordsOf dm.ends)) (e4_set _) (by rw [setCells_4, setCells_4]) (setCells_one _) ?_
            intro wc kc gc zc
            replace kB := kB.grown gc.by_ (by simp; omega)
            replace kS := kS.grown gc.by_ (by simp; omega)
            replace ka := ka.grown gc.by_ (by simp; omega)
            replace bb := gc.below bb bb.size (by intro a ha; injection ha with ha; subst ha; simp; omega)
            simp (disch := first | with_reducible assumption | omega) only [push_cast, x_blk, x_cd, ↓reduceIte, Nat.reduceEqDiff, List.map_cons, List.map_nil, Int.reduceEq, Int.lt_irrefl]
            refine blk_of (cs := [.bool false]) al_4 ?_
            intro wd k7 bd7 zd
            have l7B := kB.lt
            have l7S := kS.lt
            have l7a := ka.lt
            have l7c := kc.lt
            replace kB := kB.below bd7 kB.lt
            replace kS := kS.below bd7 kS.lt
            replace ka := ka.below bd7 ka.lt
            replace kc := kc.below bd7 kc.lt
            replace bb := bb.trans (bd7.mono bb.size)
            simp (disch := first | with_reducible assumption | omega) only [push_cast, x_blk, x_cd, ↓reduceIte, Nat.reduceEqDiff, List.map_cons, List.map_nil, Int.reduceEq, Int.lt_irrefl]
            refine blk_of (cs := [.bool false]) al_4 ?_
            intro we k8 be8 ze
            have l8 := k7.lt
            replace kB := kB.below be8 kB.lt
            replace kS := kS.below be8 kS.lt
            replace ka := ka.below be8 ka.lt
            replace kc := kc.below be8 kc.lt
            replace k7 := k7.below be8 k7.lt
            replace bb := bb.trans (be8.mono bb.size)
            simp (disch := first | with_reducible assumption | omega) only [push_cast, x_blk, x_cd, ↓reduceIte, Nat.reduceEqDiff, List.map_cons, List.map_nil, Int.reduceEq, Int.lt_irrefl]
            refine sto_bool k7 (by kernel_rfl) 0 (by simp) false ?_
            intro wf k7' gf zf
            replace kB := kB.grown gf.by_ (by simp; omega)
            replace kS := kS.grown gf.by_ (by simp; omega)
            replace ka := ka.grown gf.by_ (by simp; omega)
            replace kc := kc.grown gf.by_ (by simp; omega)
            replace k8 := k8.grown gf.by_ (by simp; omega)
            replace bb := gf.below bb bb.size (by intro a ha; injection ha with ha; subst ha; simp; omega)
            simp (disch := first | with_reducible assumption | omega) only [push_cast, x_blk, x_cd, ↓reduceIte, Nat.reduceEqDiff, List.map_cons, List.map_nil, Int.reduceEq, Int.lt_irrefl]
            refine sto_bool k8 (by kernel_rfl) 0 (by simp) false ?_
            intro wg k8' gg zg
            replace kB := kB.grown gg.by_ (by simp; omega)
            replace kS := kS.grown gg.by_ (by simp; omega)
            replace ka := ka.grown gg.by_ (by simp; omega)
            replace kc := kc.grown gg.by_ (by simp; omega)
            replace k7' := k7'.grown gg.by_ (by simp; omega)
            replace bb := gg.below bb bb.size (by intro a ha; injection ha with ha; subst ha; simp; omega)
            simp (disch := first | with_reducible assumption | omega) only [push_cast, x_blk, x_cd, ↓reduceIte, Nat.reduceEqDiff, List.map_cons, List.map_nil, Int.reduceEq, Int.lt_irrefl, kS.setA (wordsOf_words _) ty_ag_64 ty_sz_64]
            refine call_of (set_All S _) ?_
            rintro v wh ⟨rfl, kh, bh, zh⟩
            have l9 := k8'.lt
            simp (disch := first | with_reducible assumption | omega) only [push_cast, x_blk, x_cd, ↓reduceIte, Nat.reduceEqDiff, List.map_cons, List.map_nil, Int.reduceEq, Int.lt_irrefl]
            refine ⟨_, _, _, _, _, ?_, ?_, ?_, ?_, ?_, ?_, ?_, ?_, kB.below bh kB.lt, ka.below bh ka.lt, kc.below bh kc.lt, k7'.below bh k7'.lt, k8'.below bh k8'.lt, kh, bb.trans (bh.mono bb.size)⟩
            all_goals first | omega | simp only [push_cast, ↓reduceIte, Nat.reduceEqDiff, Int.reduceEq, and_self, eq_self]
    · rw [x_t_two]
      refine ⟨?_, ?_⟩
      · try simp (disch := first | with_reducible assumption | omega) only [push_cast, x_blk, x_cd, ↓reduceIte, Nat.reduceEqDiff, List.map_cons, List.map_nil, Int.reduceEq, Int.lt_irrefl, hu]
        refine blk_of (cs := setCells (wordsOf [])) al_64 ?_
        intro w5 k5 b5 z5
        have lB5 := kB.lt
        have lS5 := kS.lt
        replace kB := kB.below b5 kB.lt
        replace kS := kS.below b5 kS.lt
        replace bb := bb.trans (b5.mono bb.size)
        replace bu := bu.trans (b5.mono bu.size)
        simp (disch := first | with_reducible assumption | omega) only [push_cast, x_blk, x_cd, ↓reduceIte, Nat.reduceEqDiff, List.map_cons, List.map_nil, Int.reduceEq, Int.lt_irrefl]
        refine ⟨bu, ?_⟩
        rw [x_t_two]
        refine ⟨?_, ?_⟩
        · try simp (disch := first | with_reducible assumption | omega) only [push_cast, x_blk, x_cd, ↓reduceIte, Nat.reduceEqDiff, List.map_cons, List.map_nil, Int.reduceEq, Int.lt_irrefl, hu]
          refine call_of (machine_Of' (hB.a.up bb).ends b.a.ce (by omega) hE1) ?_
          rintro v w14 ⟨rfl, b14⟩
          try replace kB := Blk.below kB b14 (Blk.lt kB)
          try replace kS := Blk.below kS b14 (Blk.lt kS)
          try replace k5 := Blk.below k5 b14 (Blk.lt k5)
          try replace k6 := Blk.below k6 b14 (Blk.lt k6)
          replace bb := bb.trans (Below.mono b14 bb.size)
          try replace bu := Below.trans bu (Below.mono b14 (Below.size bu))
          simp (disch := first | with_reducible assumption | omega) only [push_cast, x_blk, x_cd, ↓reduceIte, Nat.reduceEqDiff, List.map_cons, List.map_nil, Int.reduceEq, Int.lt_irrefl]
          refine ⟨bu, ?_⟩
          rw [x_t_two]
          refine ⟨?_, ?_⟩
          · try simp (disch := first | with_reducible assumption | omega) only [push_cast, x_blk, x_cd, ↓reduceIte, Nat.reduceEqDiff, List.map_cons, List.map_nil, Int.reduceEq, Int.lt_irrefl, hu]
            refine call_of (machine_Of' (hB.d.up bb).ends b.d.ce (by rw [dE]; omega) (by rw [dE]; exact hE2)) ?_
            rintro v w18 ⟨rfl, b18⟩
            try replace kB := Blk.below kB b18 (Blk.lt kB)
            try replace kS := Blk.below kS b18 (Blk.lt kS)
            try replace k5 := Blk.below k5 b18 (Blk.lt k5)
            try replace k6 := Blk.below k6 b18 (Blk.lt k6)
            replace bb := bb.trans (Below.mono b18 bb.size)
            try replace bu := Below.trans bu (Below.mono b18 (Below.size bu))
            simp (disch := first | with_reducible assumption | omega) only [push_cast, x_blk, x_cd, ↓reduceIte, Nat.reduceEqDiff, List.map_cons, List.map_nil, Int.reduceEq, Int.lt_irrefl]
            refine ⟨bu, ?_⟩
            try simp (disch := first | with_reducible assumption | omega) only [push_cast, x_blk, x_cd, ↓reduceIte, Nat.reduceEqDiff, List.map_cons, List.map_nil, Int.reduceEq, Int.lt_irrefl, hu]
            refine blk_of (cs := setCells (wordsOf [])) al_64 ?_
            intro w6 k6 b6 z6
            have lB6 := kB.lt
            have lS6 := kS.lt
            have l56 := k5.lt
            replace kB := kB.below b6 kB.lt
            replace kS := kS.below b6 kS.lt
            replace k5 := k5.below b6 k5.lt
            replace bb := bb.trans (b6.mono bb.size)
            replace bu := bu.trans (b6.mono bu.size)
            simp (disch := first | with_reducible assumption | omega) only [push_cast, x_blk, x_cd, ↓reduceIte, Nat.reduceEqDiff, List.map_cons, List.map_nil, Int.reduceEq, Int.lt_irrefl]
            refine ⟨bu, ?_⟩
            try rw [x_t_cut]
            try simp (disch := first | with_reducible assumption | omega) only [push_cast, x_blk, x_cd, ↓reduceIte, Nat.reduceEqDiff, List.map_cons, List.map_nil, Int.reduceEq, Int.lt_irrefl]
            refine sto_blk k5 (cs := setCells (wordsOf m.ends)) (e4_set _) (by rw [setCells_4, setCells_4]) (setCells_one _) ?_
            intro wa ka ga za
            replace kB := kB.grown ga.by_ (by simp; omega)
            replace kS := kS.grown ga.by_ (by simp; omega)
            replace k6 := k6.grown ga.by_ (by simp; omega)
            replace bb := ga.below bb bb.size (by intro a ha; injection ha with ha; subst ha; simp; omega)
            try rw [x_t_cut]
            try simp (disch := first | with_reducible assumption | omega) only [push_cast, x_blk, x_cd, ↓reduceIte, Nat.reduceEqDiff, List.map_cons, List.map_nil, Int.reduceEq, Int.lt_irrefl]
            refine sto_blk k6 (cs := setCells (wordsOf dm.ends)) (e4_set _) (by rw [setCells_4, setCells_4]) (setCells_one _) ?_
            intro wc kc gc zc
            replace kB := kB.grown gc.by_ (by simp; omega)
            replace kS := kS.grown gc.by_ (by simp; omega)
            replace ka := ka.grown gc.by_ (by simp; omega)
            replace bb := gc.below bb bb.size (by intro a ha; injection ha with ha; subst ha; simp; omega)
            simp (disch := first | with_reducible assumption | omega) only [push_cast, x_blk, x_cd, ↓reduceIte, Nat.reduceEqDiff, List.map_cons, List.map_nil, Int.reduceEq, Int.lt_irrefl]
            refine blk_of (cs := [.bool false]) al_4 ?_
            intro wd k7 bd7 zd
            have l7B := kB.lt
            have l7S := kS.lt
            have l7a := ka.lt
            have l7c := kc.lt
            replace kB := kB.below bd7 kB.lt
            replace kS := kS.below bd7 kS.lt
            replace ka := ka.below bd7 ka.lt
            replace kc := kc.below bd7 kc.lt
            replace bb := bb.trans (bd7.mono bb.size)
            simp (disch := first | with_reducible assumption | omega) only [push_cast, x_blk, x_cd, ↓reduceIte, Nat.reduceEqDiff, List.map_cons, List.map_nil, Int.reduceEq, Int.lt_irrefl]
            refine blk_of (cs := [.bool false]) al_4 ?_
            intro we k8 be8 ze
            have l8 := k7.lt
            replace kB := kB.below be8 kB.lt
            replace kS := kS.below be8 kS.lt
            replace ka := ka.below be8 ka.lt
            replace kc := kc.below be8 kc.lt
            replace k7 := k7.below be8 k7.lt
            replace bb := bb.trans (be8.mono bb.size)
            simp (disch := first | with_reducible assumption | omega) only [push_cast, x_blk, x_cd, ↓reduceIte, Nat.reduceEqDiff, List.map_cons, List.map_nil, Int.reduceEq, Int.lt_irrefl]
            refine sto_bool k7 (by kernel_rfl) 0 (by simp) false ?_
            intro wf k7' gf zf
            replace kB := kB.grown gf.by_ (by simp; omega)
            replace kS := kS.grown gf.by_ (by simp; omega)
            replace ka := ka.grown gf.by_ (by simp; omega)
            replace kc := kc.grown gf.by_ (by simp; omega)
            replace k8 := k8.grown gf.by_ (by simp; omega)
            replace bb := gf.below bb bb.size (by intro a ha; injection ha with ha; subst ha; simp; omega)
            simp (disch := first | with_reducible assumption | omega) only [push_cast, x_blk, x_cd, ↓reduceIte, Nat.reduceEqDiff, List.map_cons, List.map_nil, Int.reduceEq, Int.lt_irrefl]
            refine sto_bool k8 (by kernel_rfl) 0 (by simp) false ?_
            intro wg k8' gg zg
            replace kB := kB.grown gg.by_ (by simp; omega)
            replace kS := kS.grown gg.by_ (by simp; omega)
            replace ka := ka.grown gg.by_ (by simp; omega)
            replace kc := kc.grown gg.by_ (by simp; omega)
            replace k7' := k7'.grown gg.by_ (by simp; omega)
            replace bb := gg.below bb bb.size (by intro a ha; injection ha with ha; subst ha; simp; omega)
            simp (disch := first | with_reducible assumption | omega) only [push_cast, x_blk, x_cd, ↓reduceIte, Nat.reduceEqDiff, List.map_cons, List.map_nil, Int.reduceEq, Int.lt_irrefl, kS.setA (wordsOf_words _) ty_ag_64 ty_sz_64]
            refine call_of (set_All S _) ?_
            rintro v wh ⟨rfl, kh, bh, zh⟩
            have l9 := k8'.lt
            simp (disch := first | with_reducible assumption | omega) only [push_cast, x_blk, x_cd, ↓reduceIte, Nat.reduceEqDiff, List.map_cons, List.map_nil, Int.reduceEq, Int.lt_irrefl]
            refine ⟨_, _, _, _, _, ?_, ?_, ?_, ?_, ?_, ?_, ?_, ?_, kB.below bh kB.lt, ka.below bh ka.lt, kc.below bh kc.lt, k7'.below bh k7'.lt, k8'.below bh k8'.lt, kh, bb.trans (bh.mono bb.size)⟩
            all_goals first | omega | simp only [push_cast, ↓reduceIte, Nat.reduceEqDiff, Int.reduceEq, and_self, eq_self]
          · try simp (disch := first | with_reducible assumption | omega) only [push_cast, x_blk, x_cd, ↓reduceIte, Nat.reduceEqDiff, List.map_cons, List.map_nil, Int.reduceEq, Int.lt_irrefl, hu]
            refine blk_of (cs := setCells (wordsOf [])) al_64 ?_
            intro w6 k6 b6 z6
            have lB6 := kB.lt
            have lS6 := kS.lt
            have l56 := k5.lt
            replace kB := kB.below b6 kB.lt
            replace kS := kS.below b6 kS.lt
            replace k5 := k5.below b6 k5.lt
            replace bb := bb.trans (b6.mono bb.size)
            replace bu := bu.trans (b6.mono bu.size)
            simp (disch := first | with_reducible assumption | omega) only [push_cast, x_blk, x_cd, ↓reduceIte, Nat.reduceEqDiff, List.map_cons, List.map_nil, Int.reduceEq, Int.lt_irrefl]
            refine ⟨bu, ?_⟩
            try simp (disch := first | with_reducible assumption | omega) only [push_cast, x_blk, x_cd, ↓reduceIte, Nat.reduceEqDiff, List.map_cons, List.map_nil, Int.reduceEq, Int.lt_irrefl, hu]
            refine call_of (machine_Of' (hB.d.up bb).ends b.d.ce (by rw [dE]; omega) (by rw [dE]; exact hE2)) ?_
            rintro v w18 ⟨rfl, b18⟩
            try replace kB := Blk.below kB b18 (Blk.lt kB)
            try replace kS := Blk.below kS b18 (Blk.lt kS)
            try replace k5 := Blk.below k5 b18 (Blk.lt k5)
            try replace k6 := Blk.below k6 b18 (Blk.lt k6)
            replace bb := bb.trans (Below.mono b18 bb.size)
            try replace bu := Below.trans bu (Below.mono b18 (Below.size bu))
            simp (disch := first | with_reducible assumption | omega) only [push_cast, x_blk, x_cd, ↓reduceIte, Nat.reduceEqDiff, List.map_cons, List.map_nil, Int.reduceEq, Int.lt_irrefl]
            refine ⟨bu, ?_⟩
            try rw [x_t_cut]
            try simp (disch := first | with_reducible assumption | omega) only [push_cast, x_blk, x_cd, ↓reduceIte, Nat.reduceEqDiff, List.map_cons, List.map_nil, Int.reduceEq, Int.lt_irrefl]
            refine sto_blk k5 (cs := setCells (wordsOf m.ends)) (e4_set _) (by rw [setCells_4, setCells_4]) (setCells_one _) ?_
            intro wa ka ga za
            replace kB := kB.grown ga.by_ (by simp; omega)
            replace kS := kS.grown ga.by_ (by simp; omega)
            replace k6 := k6.grown ga.by_ (by simp; omega)
            replace bb := ga.below bb bb.size (by intro a ha; injection ha with ha; subst ha; simp; omega)
            try rw [x_t_cut]
            try simp (disch := first | with_reducible assumption | omega) only [push_cast, x_blk, x_cd, ↓reduceIte, Nat.reduceEqDiff, List.map_cons, List.map_nil, Int.reduceEq, Int.lt_irrefl]
            refine sto_blk k6 (cs := setCells (wordsOf dm.ends)) (e4_set _) (by rw [setCells_4, setCells_4]) (setCells_one _) ?_
            intro wc kc gc zc
            replace kB := kB.grown gc.by_ (by simp; omega)
            replace kS := kS.grown gc.by_ (by simp; omega)
            replace ka := ka.grown gc.by_ (by simp; omega)
            replace bb := gc.below bb bb.size (by intro a ha; injection ha with ha; subst ha; simp; omega)
            simp (disch := first | with_reducible assumption | omega) only [push_cast, x_blk, x_cd, ↓reduceIte, Nat.reduceEqDiff, List.map_cons, List.map_nil, Int.reduceEq, Int.lt_irrefl]
            refine blk_of (cs := [.bool false]) al_4 ?_
            intro wd k7 bd7 zd
            have l7B := kB.lt
            have l7S := kS.lt
            have l7a := ka.lt
            have l7c := kc.lt
            replace kB := kB.below bd7 kB.lt
            replace kS := kS.below bd7 kS.lt
            replace ka := ka.below bd7 ka.lt
            replace kc := kc.below bd7 kc.lt
            replace bb := bb.trans (bd7.mono bb.size)
            simp (disch := first | with_reducible assumption | omega) only [push_cast, x_blk, x_cd, ↓reduceIte, Nat.reduceEqDiff, List.map_cons, List.map_nil, Int.reduceEq, Int.lt_irrefl]
            refine blk_of (cs := [.bool false]) al_4 ?_
            intro we k8 be8 ze
            have l8 := k7.lt
            replace kB := kB.below be8 kB.lt
            replace kS := kS.below be8 kS.lt
            replace ka := ka.below be8 ka.lt
            replace kc := kc.below be8 kc.lt
            replace k7 := k7.below be8 k7.lt
            replace bb := bb.trans (be8.mono bb.size)
            simp (disch := first | with_reducible assumption | omega) only [push_cast, x_blk, x_cd, ↓reduceIte, Nat.reduceEqDiff, List.map_cons, List.map_nil, Int.reduceEq, Int.lt_irrefl]
            refine sto_bool k7 (by kernel_rfl) 0 (by simp) false ?_
            intro wf k7' gf zf
            replace kB := kB.grown gf.by_ (by simp; omega)
            replace kS := kS.grown gf.by_ (by simp; omega)
            replace ka := ka.grown gf.by_ (by simp; omega)
            replace kc := kc.grown gf.by_ (by simp; omega)
            replace k8 := k8.grown gf.by_ (by simp; omega)
            replace bb := gf.below bb bb.size (by intro a ha; injection ha with ha; subst ha; simp; omega)
            simp (disch := first | with_reducible assumption | omega) only [push_cast, x_blk, x_cd, ↓reduceIte, Nat.reduceEqDiff, List.map_cons, List.map_nil, Int.reduceEq, Int.lt_irrefl]
            refine sto_bool k8 (by kernel_rfl) 0 (by simp) false ?_
            intro wg k8' gg zg
            replace kB := kB.grown gg.by_ (by simp; omega)
            replace kS := kS.grown gg.by_ (by simp; omega)
            replace ka := ka.grown gg.by_ (by simp; omega)
            replace kc := kc.grown gg.by_ (by simp; omega)
            replace k7' := k7'.grown gg.by_ (by simp; omega)
            replace bb := gg.below bb bb.size (by intro a ha; injection ha with ha; subst ha; simp; omega)
            simp (disch := first | with_reducible assumption | omega) only [push_cast, x_blk, x_cd, ↓reduceIte, Nat.reduceEqDiff, List.map_cons, List.map_nil, Int.reduceEq, Int.lt_irrefl, kS.setA (wordsOf_words _) ty_ag_64 ty_sz_64]
            refine call_of (set_All S _) ?_
            rintro v wh ⟨rfl, kh, bh, zh⟩
            have l9 := k8'.lt
            simp (disch := first | with_reducible assumption | omega) only [push_cast, x_blk, x_cd, ↓reduceIte, Nat.reduceEqDiff, List.map_cons, List.map_nil, Int.reduceEq, Int.lt_irrefl]
            refine ⟨_, _, _, _, _, ?_, ?_, ?_, ?_, ?_, ?_, ?_, ?_, kB.below bh kB.lt, ka.below bh ka.lt, kc.below bh kc.lt, k7'.below bh k7'.lt, k8'.below bh k8'.lt, kh, bb.trans (bh.mono bb.size)⟩
            all_goals first | omega | simp only [push_cast, ↓reduceIte, Nat.reduceEqDiff, Int.reduceEq, and_self, eq_self]
        · try simp (disch := first | with_reducible assumption | omega) only [push_cast, x_blk, x_cd, ↓reduceIte, Nat.reduceEqDiff, List.map_cons, List.map_nil, Int.reduceEq, Int.lt_irrefl, hu]
          refine blk_of (cs := setCells (wordsOf [])) al_64 ?_
          intro w6 k6 b6 z6
          have lB6 := kB.lt
          have lS6 := kS.lt
          have l56 := k5.lt
          replace kB := kB.below b6 kB.lt
          replace kS := kS.below b6 kS.lt
          replace k5 := k5.below b6 k5.lt
          replace bb := bb.trans (b6.mono bb.size)
          replace bu := bu.trans (b6.mono bu.size)
          simp (disch := first | with_reducible assumption | omega) only [push_cast, x_blk, x_cd, ↓reduceIte, Nat.reduceEqDiff, List.map_cons, List.map_nil, Int.reduceEq, Int.lt_irrefl]
          refine ⟨bu, ?_⟩
          try simp (disch := first | with_reducible assumption | omega) only [push_cast, x_blk, x_cd, ↓reduceIte, Nat.reduceEqDiff, List.map_cons, List.map_nil, Int.reduceEq, Int.lt_irrefl, hu]
          refine call_of (machine_Of' (hB.a.up bb).ends b.a.ce (by omega) hE1) ?_
          rintro v w14 ⟨rfl, b14⟩
          try replace kB := Blk.below kB b14 (Blk.lt kB)
          try replace kS := Blk.below kS b14 (Blk.lt kS)
          try replace k5 := Blk.below k5 b14 (Blk.lt k5)
          try replace k6 := Blk.below k6 b14 (Blk.lt k6)
          replace bb := bb.trans (Below.mono b14 bb.size)
          try replace bu := Below.trans bu (Below.mono b14 (Below.size bu))
          simp (disch := first | with_reducible assumption | omega) only [push_cast, x_blk, x_cd, ↓reduceIte, Nat.reduceEqDiff, List.map_cons, List.map_nil, Int.reduceEq, Int.lt_irrefl]
          refine ⟨bu, ?_⟩
          try simp (disch := first | with_reducible assumption | omega) only [push_cast, x_blk, x_cd, ↓reduceIte, Nat.reduceEqDiff, List.map_cons, List.map_nil, Int.reduceEq, Int.lt_irrefl, hu]
          refine call_of (machine_Of' (hB.d.up bb).ends b.d.ce (by rw [dE]; omega) (by rw [dE]; exact hE2)) ?_
          rintro v w18 ⟨rfl, b18⟩
          try replace kB := Blk.below kB b18 (Blk.lt kB)
          try replace kS := Blk.below kS b18 (Blk.lt kS)
          try replace k5 := Blk.below k5 b18 (Blk.lt k5)
          try replace k6 := Blk.below k6 b18 (Blk.lt k6)
          replace bb := bb.trans (Below.mono b18 bb.size)
          try replace bu := Below.trans bu (Below.mono b18 (Below.size bu))
          simp (disch := first | with_reducible assumption | omega) only [push_cast, x_blk, x_cd, ↓reduceIte, Nat.reduceEqDiff, List.map_cons, List.map_nil, Int.reduceEq, Int.lt_irrefl]
          refine ⟨bu, ?_⟩
          try rw [x_t_cut]
          try simp (disch := first | with_reducible assumption | omega) only [push_cast, x_blk, x_cd, ↓reduceIte, Nat.reduceEqDiff, List.map_cons, List.map_nil, Int.reduceEq, Int.lt_irrefl]
          refine sto_blk k5 (cs := setCells (wordsOf m.ends)) (e4_set _) (by rw [setCells_4, setCells_4]) (setCells_one _) ?_
          intro wa ka ga za
          replace kB := kB.grown ga.by_ (by simp; omega)
          replace kS := kS.grown ga.by_ (by simp; omega)
          replace k6 := k6.grown ga.by_ (by simp; omega)
          replace bb := ga.below bb bb.size (by intro a ha; injection ha with ha; subst ha; simp; omega)
          try rw [x_t_cut]
          try simp (disch := first | with_reducible assumption | omega) only [push_cast, x_blk, x_cd, ↓reduceIte, Nat.reduceEqDiff, List.map_cons, List.map_nil, Int.reduceEq, Int.lt_irrefl]
          refine sto_blk k6 (cs := setCells (wordsOf dm.ends)) (e4_set _) (by rw [setCells_4, setCells_4]) (setCells_one _) ?_
          intro wc kc gc zc
          replace kB := kB.grown gc.by_ (by simp; omega)
          replace kS := kS.grown gc.by_ (by simp; omega)
          replace ka := ka.grown gc.by_ (by simp; omega)
          replace bb := gc.below bb bb.size (by intro a ha; injection ha with ha; subst ha; simp; omega)
          simp (disch := first | with_reducible assumption | omega) only [push_cast, x_blk, x_cd, ↓reduceIte, Nat.reduceEqDiff, List.map_cons, List.map_nil, Int.reduceEq, Int.lt_irrefl]
          refine blk_of (cs := [.bool false]) al_4 ?_
          intro wd k7 bd7 zd
          have l7B := kB.lt
          have l7S := kS.lt
          have l7a := ka.lt
          have l7c := kc.lt
          replace kB := kB.below bd7 kB.lt
          replace kS := kS.below bd7 kS.lt
          replace ka := ka.below bd7 ka.lt
          replace kc := kc.below bd7 kc.lt
          replace bb := bb.trans (bd7.mono bb.size)
          simp (disch := first | with_reducible assumption | omega) only [push_cast, x_blk, x_cd, ↓reduceIte, Nat.reduceEqDiff, List.map_cons, List.map_nil, Int.reduceEq, Int.lt_irrefl]
          refine blk_of (cs := [.bool false]) al_4 ?_
          intro we k8 be8 ze
          have l8 := k7.lt
          replace kB := kB.below be8 kB.lt
          replace kS := kS.below be8 kS.lt
          replace ka := ka.below be8 ka.lt
          replace kc := kc.below be8 kc.lt
          replace k7 := k7.below be8 k7.lt
          replace bb := bb.trans (be8.mono bb.size)
          simp (disch := first | with_reducible assumption | omega) only [push_cast, x_blk, x_cd, ↓reduceIte, Nat.reduceEqDiff, List.map_cons, List.map_nil, Int.reduceEq, Int.lt_irrefl]
          refine sto_bool k7 (by kernel_rfl) 0 (by simp) false ?_
          intro wf k7' gf zf
          replace kB := kB.grown gf.by_ (by simp; omega)
          replace kS := kS.grown gf.by_ (by simp; omega)
          replace ka := ka.grown gf.by_ (by simp; omega)
          replace kc := kc.grown gf.by_ (by simp; omega)
          replace k8 := k8.grown gf.by_ (by simp; omega)
          replace bb := gf.below bb bb.size (by intro a ha; injection ha with ha; subst ha; simp; omega)
          simp (disch := first | with_reducible assumption | omega) only [push_cast, x_blk, x_cd, ↓reduceIte, Nat.reduceEqDiff, List.map_cons, List.map_nil, Int.reduceEq, Int.lt_irrefl]
          refine sto_bool k8 (by kernel_rfl) 0 (by simp) false ?_
          intro wg k8' gg zg
          replace kB := kB.grown gg.by_ (by simp; omega)
          replace kS := kS.grown gg.by_ (by simp; omega)
          replace ka := ka.grown gg.by_ (by simp; omega)
          replace kc := kc.grown gg.by_ (by simp; omega)
          replace k7' := k7'.grown gg.by_ (by simp; omega)
          replace bb := gg.below bb bb.size (by intro a ha; injection ha with ha; subst ha; simp; omega)
          simp (disch := first | with_reducible assumption | omega) only [push_cast, x_blk, x_cd, ↓reduceIte, Nat.reduceEqDiff, List.map_cons, List.map_nil, Int.reduceEq, Int.lt_irrefl, kS.setA (wordsOf_words _) ty_ag_64 ty_sz_64]
          refine call_of (set_All S _) ?_
          rintro v wh ⟨rfl, kh, bh, zh⟩
          have l9 := k8'.lt
          simp (disch := first | with_reducible assumption | omega) only [push_cast, x_blk, x_cd, ↓reduceIte, Nat.reduceEqDiff, List.map_cons, List.map_nil, Int.reduceEq, Int.lt_irrefl]
          refine ⟨_, _, _, _, _, ?_, ?_, ?_, ?_, ?_, ?_, ?_, ?_, kB.below bh kB.lt, ka.below bh ka.lt, kc.below bh kc.lt, k7'.below bh k7'.lt, k8'.below bh k8'.lt, kh, bb.trans (bh.mono bb.size)⟩
          all_goals first | omega | simp only [push_cast, ↓reduceIte, Nat.reduceEqDiff, Int.reduceEq, and_self, eq_self]
      · try simp (disch := first | with_reducible assumption | omega) only [push_cast, x_blk, x_cd, ↓reduceIte, Nat.reduceEqDiff, List.map_cons, List.map_nil, Int.reduceEq, Int.lt_irrefl, hu]
        refine blk_of (cs := setCells (wordsOf [])) al_64 ?_
        intro w6 k6 b6 z6
        have lB6 := kB.lt
        have lS6 := kS.lt
        replace kB := kB.below b6 kB.lt
        replace kS := kS.below b6 kS.lt
        replace bb := bb.trans (b6.mono bb.size)
        replace bu := bu.trans (b6.mono bu.size)
        simp (disch := first | with_reducible assumption | omega) only [push_cast, x_blk, x_cd, ↓reduceIte, Nat.reduceEqDiff, List.map_cons, List.map_nil, Int.reduceEq, Int.lt_irrefl]
        refine ⟨bu, ?_⟩
        rw [x_t_two]
        refine ⟨?_, ?_⟩
        · try simp (disch := first | with_reducible assumption | omega) only [push_cast, x_blk, x_cd, ↓reduceIte, Nat.reduceEqDiff, List.map_cons, List.map_nil, Int.reduceEq, Int.lt_irrefl, hu]
          refine call_of (machine_Of' (hB.a.up bb).ends b.a.ce (by omega) hE1) ?_
          rintro v w14 ⟨rfl, b14⟩
          try replace kB := Blk.below kB b14 (Blk.lt kB)
          try replace kS := Blk.below kS b14 (Blk.lt kS)
          try replace k5 := Blk.below k5 b14 (Blk.lt k5)
          try replace k6 := Blk.below k6 b14 (Blk.lt k6)
          replace bb := bb.trans (Below.mono b14 bb.size)
          try replace bu := Below.trans bu (Below.mono b14 (Below.size bu))
          simp (disch := first | with_reducible assumption | omega) only [push_cast, x_blk, x_cd, ↓reduceIte, Nat.reduceEqDiff, List.map_cons, List.map_nil, Int.reduceEq, Int.lt_irrefl]
          refine ⟨bu, ?_⟩
          rw [x_t_two]
          refine ⟨?_, ?_⟩
          · try simp (disch := first | with_reducible assumption | omega) only [push_cast, x_blk, x_cd, ↓reduceIte, Nat.reduceEqDiff, List.map_cons, List.map_nil, Int.reduceEq, Int.lt_irrefl, hu]
            refine call_of (machine_Of' (hB.d.up bb).ends b.d.ce (by rw [dE]; omega) (by rw [dE]; exact hE2)) ?_
            rintro v w18 ⟨rfl, b18⟩
            try replace kB := Blk.below kB b18 (Blk.lt kB)
            try replace kS := Blk.below kS b18 (Blk.lt kS)
            try replace k5 := Blk.below k5 b18 (Blk.lt k5)
            try replace k6 := Blk.below k6 b18 (Blk.lt k6)
            replace bb := bb.trans (Below.mono b18 bb.size)
            try replace bu := Below.trans bu (Below.mono b18 (Below.size bu))
            simp (disch := first | with_reducible assumption | omega) only [push_cast, x_blk, x_cd, ↓reduceIte, Nat.reduceEqDiff, List.map_cons, List.map_nil, Int.reduceEq, Int.lt_irrefl]
            refine ⟨bu, ?_⟩
            try simp (disch := first | with_reducible assumption | omega) only [push_cast, x_blk, x_cd, ↓reduceIte, Nat.reduceEqDiff, List.map_cons, List.map_nil, Int.reduceEq, Int.lt_irrefl, hu]
            refine blk_of (cs := setCells (wordsOf [])) al_64 ?_
            intro w5 k5 b5 z5
            have lB5 := kB.lt
            have lS5 := kS.lt
            have l65 := k6.lt
            replace kB := kB.below b5 kB.lt
            replace kS := kS.below b5 kS.lt
            replace k6 := k6.below b5 k6.lt
            replace bb := bb.trans (b5.mono bb.size)
            replace bu := bu.trans (b5.mono bu.size)
            simp (disch := first | with_reducible assumption | omega) only [push_cast, x_blk, x_cd, ↓reduceIte, Nat.reduceEqDiff, List.map_cons, List.map_nil, Int.reduceEq, Int.lt_irrefl]
            refine ⟨bu, ?_⟩
            try rw [x_t_cut]
            try simp (disch := first | with_reducible assumption | omega) only [push_cast, x_blk, x_cd, ↓reduceIte, Nat.reduceEqDiff, List.map_cons, List.map_nil, Int.reduceEq, Int.lt_irrefl]
            refine sto_blk k5 (cs := setCells (wordsOf m.ends)) (e4_set _) (by rw [setCells_4, setCells_4]) (setCells_one _) ?_
            intro wa ka ga za
            replace kB := kB.grown ga.by_ (by simp; omega)
            replace kS := kS.grown ga.by_ (by simp; omega)
            replace k6 := k6.grown ga.by_ (by simp; omega)
            replace bb := ga.below bb bb.size (by intro a ha; injection ha with ha; subst ha; simp; omega)
            try rw [x_t_cut]
            try simp (disch := first | with_reducible assumption | omega) only [push_cast, x_blk, x_cd, ↓reduceIte, Nat.reduceEqDiff, List.map_cons, List.map_nil, Int.reduceEq, Int.lt_irrefl]
            refine sto_blk k6 (cs := setCells (wordsOf dm.ends)) (e4_set _) (by rw [setCells_4, setCells_4]) (setCells_one _) ?_
            intro wc kc gc zc
            replace kB := kB.grown gc.by_ (by simp; omega)
            replace kS := kS.grown gc.by_ (by simp; omega)
            replace ka := ka.grown gc.by_ (by simp; omega)
            replace bb := gc.below bb bb.size (by intro a ha; injection ha with ha; subst ha; simp; omega)
            simp (disch := first | with_reducible assumption | omega) only [push_cast, x_blk, x_cd, ↓reduceIte, Nat.reduceEqDiff, List.map_cons, List.map_nil, Int.reduceEq, Int.lt_irrefl]
            refine blk_of (cs := [.bool false]) al_4 ?_
            intro wd k7 bd7 zd
            have l7B := kB.lt
            have l7S := kS.lt
            have l7a := ka.lt
            have l7c := kc.lt
            replace kB := kB.below bd7 kB.lt
            replace kS := kS.below bd7 kS.lt
            replace ka := ka.below bd7 ka.lt
            replace kc := kc.below bd7 kc.lt
            replace bb := bb.trans (bd7.mono bb.size)
            simp (disch := first | with_reducible assumption | omega) only [push_cast, x_blk, x_cd, ↓reduceIte, Nat.reduceEqDiff, List.map_cons, List.map_nil, Int.reduceEq, Int.lt_irrefl]
            refine blk_of (cs := [.bool false]) al_4 ?_
            intro we k8 be8 ze
            have l8 := k7.lt
            replace kB := kB.below be8 kB.lt
            replace kS := kS.below be8 kS.lt
            replace ka := ka.below be8 ka.lt
            replace kc := kc.below be8 kc.lt
            replace k7 := k7.below be8 k7.lt
            replace bb := bb.trans (be8.mono bb.size)
            simp (disch := first | with_reducible assumption | omega) only [push_cast, x_blk, x_cd, ↓reduceIte, Nat.reduceEqDiff, List.map_cons, List.map_nil, Int.reduceEq, Int.lt_irrefl]
            refine sto_bool k7 (by kernel_rfl) 0 (by simp) false ?_
            intro wf k7' gf zf
            replace kB := kB.grown gf.by_ (by simp; omega)
            replace kS := kS.grown gf.by_ (by simp; omega)
            replace ka := ka.grown gf.by_ (by simp; omega)
            replace kc := kc.grown gf.by_ (by simp; omega)
            replace k8 := k8.grown gf.by_ (by simp; omega)
            replace bb := gf.below bb bb.size (by intro a ha; injection ha with ha; subst ha; simp; omega)
            simp (disch := first | with_reducible assumption | omega) only [push_cast, x_blk, x_cd, ↓reduceIte, Nat.reduceEqDiff, List.map_cons, List.map_nil, Int.reduceEq, Int.lt_irrefl]
            refine sto_bool k8 (by kernel_rfl) 0 (by simp) false ?_
            intro wg k8' gg zg
            replace kB := kB.grown gg.by_ (by simp; omega)
            replace kS := kS.grown gg.by_ (by simp; omega)
            replace ka := ka.grown gg.by_ (by simp; omega)
            replace kc := kc.grown gg.by_ (by simp; omega)
            replace k7' := k7'.grown gg.by_ (by simp; omega)
            replace bb := gg.below bb bb.size (by intro a ha; injection ha with ha; subst ha; simp; omega)
            simp (disch := first | with_reducible assumption | omega) only [push_cast, x_blk, x_cd, ↓reduceIte, Nat.reduceEqDiff, List.map_cons, List.map_nil, Int.reduceEq, Int.lt_irrefl, kS.setA (wordsOf_words _) ty_ag_64 ty_sz_64]
            refine call_of (set_All S _) ?_
            rintro v wh ⟨rfl, kh, bh, zh⟩
            have l9 := k8'.lt
            simp (disch := first | with_reducible assumption | omega) only [push_cast, x_blk, x_cd, ↓reduceIte, Nat.reduceEqDiff, List.map_cons, List.map_nil, Int.reduceEq, Int.lt_irrefl]
            refine ⟨_, _, _, _, _, ?_, ?_, ?_, ?_, ?_, ?_, ?_, ?_, kB.below bh kB.lt, ka.below bh ka.lt, kc.below bh kc.lt, k7'.below bh k7'.lt, k8'.below bh k8'.lt, kh, bb.trans (bh.mono bb.size)⟩
            all_goals first | omega | simp only [push_cast, ↓reduceIte, Nat.reduceEqDiff, Int.reduceEq, and_self, eq_self]
          · try simp (disch := first | with_reducible assumption | omega) only [push_cast, x_blk, x_cd, ↓reduceIte, Nat.reduceEqDiff, List.map_cons, List.map_nil, Int.reduceEq, Int.lt_irrefl, hu]
            refine blk_of (cs := setCells (wordsOf [])) al_64 ?_
            intro w5 k5 b5 z5
            have lB5 := kB.lt
            have lS5 := kS.lt
            have l65 := k6.lt
            replace kB := kB.below b5 kB.lt
            replace kS := kS.below b5 kS.lt
            replace k6 := k6.below b5 k6.lt
            replace bb := bb.trans (b5.mono bb.size)
            replace bu := bu.trans (b5.mono bu.size)
            simp (disch := first | with_reducible assumption | omega) only [push_cast, x_blk, x_cd, ↓reduceIte, Nat.reduceEqDiff, List.map_cons, List.map_nil, Int.reduceEq, Int.lt_irrefl]
            refine ⟨bu, ?_⟩
            try simp (disch := first | with_reducible assumption | omega) only [push_cast, x_blk, x_cd, ↓reduceIte, Nat.reduceEqDiff, List.map_cons, List.map_nil, Int.reduceEq, Int.lt_irrefl, hu]
            refine call_of (machine_Of' (hB.d.up bb).ends b.d.ce (by rw [dE]; omega) (by rw [dE]; exact hE2)) ?_
            rintro v w18 ⟨rfl, b18⟩
            try replace kB := Blk.below kB b18 (Blk.lt kB)
            try replace kS := Blk.below kS b18 (Blk.lt kS)
            try replace k5 := Blk.below k5 b18 (Blk.lt k5)
            try replace k6 := Blk.below k6 b18 (Blk.lt k6)
            replace bb := bb.trans (Below.mono b18 bb.size)
            try replace bu := Below.trans bu (Below.mono b18 (Below.size bu))
            simp (disch := first | with_reducible assumption | omega) only [push_cast, x_blk, x_cd, ↓reduceIte, Nat.reduceEqDiff, List.map_cons, List.map_nil, Int.reduceEq, Int.lt_irrefl]
            refine ⟨bu, ?_⟩
            try rw [x_t_cut]
            try simp (disch := first | with_reducible assumption | omega) only [push_cast, x_blk, x_cd, ↓reduceIte, Nat.reduceEqDiff, List.map_cons, List.map_nil, Int.reduceEq, Int.lt_irrefl]
            refine sto_blk k5 (cs := setCells (wordsOf m.ends)) (e4_set _) (by rw [setCells_4, setCells_4]) (setCells_one _) ?_
            intro wa ka ga za
            replace kB := kB.grown ga.by_ (by simp; omega)
            replace kS := kS.grown ga.by_ (by simp; omega)
            replace k6 := k6.grown ga.by_ (by simp; omega)
            replace bb := ga.below bb bb.size (by intro a ha; injection ha with ha; subst ha; simp; omega)
            try rw [x_t_cut]
            try simp (disch := first | with_reducible assumption | omega) only [push_cast, x_blk, x_cd, ↓reduceIte, Nat.reduceEqDiff, List.map_cons, List.map_nil, Int.reduceEq, Int.lt_irrefl]
            refine sto_blk k6 (cs := setCells (wordsOf dm.ends)) (e4_set _) (by rw [setCells_4, setCells_4]) (setCells_one _) ?_
            intro wc kc gc zc
            replace kB := kB.grown gc.by_ (by simp; omega)
            replace kS := kS.grown gc.by_ (by simp; omega)
            replace ka := ka.grown gc.by_ (by simp; omega)
            replace bb := gc.below bb bb.size (by intro a ha; injection ha with ha; subst ha; simp; omega)
            simp (disch := first | with_reducible assumption | omega) only [push_cast, x_blk, x_cd, ↓reduceIte, Nat.reduceEqDiff, List.map_cons, List.map_nil, Int.reduceEq, Int.lt_irrefl]
            refine blk_of (cs := [.bool false]) al_4 ?_
            intro wd k7 bd7 zd
            have l7B := kB.lt
            have l7S := kS.lt
            have l7a := ka.lt
            have l7c := kc.lt
            replace kB := kB.below bd7 kB.lt
            replace kS := kS.below bd7 kS.lt
            replace ka := ka.below bd7 ka.lt
            replace kc := kc.below bd7 kc.lt
            replace bb := bb.trans (bd7.mono bb.size)
            simp (disch := first | with_reducible assumption | omega) only [push_cast, x_blk, x_cd, ↓reduceIte, Nat.reduceEqDiff, List.map_cons, List.map_nil, Int.reduceEq, Int.lt_irrefl]
            refine blk_of (cs := [.bool false]) al_4 ?_
            intro we k8 be8 ze
            have l8 := k7.lt
            replace kB := kB.below be8 kB.lt
            replace kS := kS.below be8 kS.lt
            replace ka := ka.below be8 ka.lt
            replace kc := kc.below be8 kc.lt
            replace k7 := k7.below be8 k7.lt
            replace bb := bb.trans (be8.mono bb.size)
            simp (disch := first | with_reducible assumption | omega) only [push_cast, x_blk, x_cd, ↓reduceIte, Nat.reduceEqDiff, List.map_cons, List.map_nil, Int.reduceEq, Int.lt_irrefl]
            refine sto_bool k7 (by kernel_rfl) 0 (by simp) false ?_
            intro wf k7' gf zf
            replace kB := kB.grown gf.by_ (by simp; omega)
            replace kS := kS.grown gf.by_ (by simp; omega)
            replace ka := ka.grown gf.by_ (by simp; omega)
            replace kc := kc.grown gf.by_ (by simp; omega)
            replace k8 := k8.grown gf.by_ (by simp; omega)
            replace bb := gf.below bb bb.size (by intro a ha; injection ha with ha; subst ha; simp; omega)
            simp (disch := first | with_reducible assumption | omega) only [push_cast, x_blk, x_cd, ↓reduceIte, Nat.reduceEqDiff, List.map_cons, List.map_nil, Int.reduceEq, Int.lt_irrefl]
            refine sto_bool k8 (by kernel_rfl) 0 (by simp) false ?_
            intro wg k8' gg zg
            replace kB := kB.grown gg.by_ (by simp; omega)
            replace kS := kS.grown gg.by_ (by simp; omega)
            replace ka := ka.grown gg.by_ (by simp; omega)
            replace kc := kc.grown gg.by_ (by simp; omega)
            replace k7' := k7'.grown gg.by_ (by simp; omega)
            replace bb := gg.below bb bb.size (by intro a ha; injection ha with ha; subst ha; simp; omega)
            simp (disch := first | with_reducible assumption | omega) only [push_cast, x_blk, x_cd, ↓reduceIte, Nat.reduceEqDiff, List.map_cons, List.map_nil, Int.reduceEq, Int.lt_irrefl, kS.setA (wordsOf_words _) ty_ag_64 ty_sz_64]
            refine call_of (set_All S _) ?_
            rintro v wh ⟨rfl, kh, bh, zh⟩
            have l9 := k8'.lt
            simp (disch := first | with_reducible assumption | omega) only [push_cast, x_blk, x_cd, ↓reduceIte, Nat.reduceEqDiff, List.map_cons, List.map_nil, Int.reduceEq, Int.lt_irrefl]
            refine ⟨_, _, _, _, _, ?_, ?_, ?_, ?_, ?_, ?_, ?_, ?_, kB.below bh kB.lt, ka.below bh ka.lt, kc.below bh kc.lt, k7'.below bh k7'.lt, k8'.below bh k8'.lt, kh, bb.trans (bh.mono bb.size)⟩
            all_goals first | omega | simp only [push_cast, ↓reduceIte, Nat.reduceEqDiff, Int.reduceEq, and_self, eq_self]
        · try simp (disch := first | with_reducible assumption | omega) only [push_cast, x_blk, x_cd, ↓reduceIte, Nat.reduceEqDiff, List.map_cons, List.map_nil, Int.reduceEq, Int.lt_irrefl, hu]
          refine blk_of (cs := setCells (wordsOf [])) al_64 ?_
          intro w5 k5 b5 z5
          have lB5 := kB.lt
          have lS5 := kS.lt
          have l65 := k6.lt
          replace kB := kB.below b5 kB.lt
          replace kS := kS.below b5 kS.lt
          replace k6 := k6.below b5 k6.lt
          replace bb := bb.trans (b5.mono bb.size)
          replace bu := bu.trans (b5.mono bu.size)
          simp (disch := first | with_reducible assumption | omega) only [push_cast, x_blk, x_cd, ↓reduceIte, Nat.reduceEqDiff, List.map_cons, List.map_nil, Int.reduceEq, Int.lt_irrefl]
          refine ⟨bu, ?_⟩
          try simp (disch := first | with_reducible assumption | omega) only [push_cast, x_blk, x_cd, ↓reduceIte, Nat.reduceEqDiff, List.map_cons, List.map_nil, Int.reduceEq, Int.lt_irrefl, hu]
          refine call_of (machine_Of' (hB.a.up bb).ends b.a.ce (by omega) hE1) ?_
          rintro v w14 ⟨rfl, b14⟩
          try replace kB := Blk.below kB b14 (Blk.lt kB)
          try replace kS := Blk.below kS b14 (Blk.lt kS)
          try replace k5 := Blk.below k5 b14 (Blk.lt k5)
          try replace k6 := Blk.below k6 b14 (Blk.lt k6)
          replace bb := bb.trans (Below.mono b14 bb.size)
          try replace bu := Below.trans bu (Below.mono b14 (Below.size bu))
          simp (disch := first | with_reducible assumption | omega) only [push_cast, x_blk, x_cd, ↓reduceIte, Nat.reduceEqDiff, List.map_cons, List.map_nil, Int.reduceEq, Int.lt_irrefl]
          refine ⟨bu, ?_⟩
          try simp (disch := first | with_reducible assumption | omega) only [push_cast, x_blk, x_cd, ↓reduceIte, Nat.reduceEqDiff, List.map_cons, List.map_nil, Int.reduceEq, Int.lt_irrefl, hu]
          refine call_of (machine_Of' (hB.d.up bb).ends b.d.ce (by rw [dE]; omega) (by rw [dE]; exact hE2)) ?_
          rintro v w18 ⟨rfl, b18⟩
          try replace kB := Blk.below kB b18 (Blk.lt kB)
          try replace kS := Blk.below kS b18 (Blk.lt kS)
          try replace k5 := Blk.below k5 b18 (Blk.lt k5)
          try replace k6 := Blk.below k6 b18 (Blk.lt k6)
          replace bb := bb.trans (Below.mono b18 bb.size)
          try replace bu := Below.trans bu (Below.mono b18 (Below.size bu))
          simp (disch := first | with_reducible assumption | omega) only [push_cast, x_blk, x_cd, ↓reduceIte, Nat.reduceEqDiff, List.map_cons, List.map_nil, Int.reduceEq, Int.lt_irrefl]
          refine ⟨bu, ?_⟩
          try rw [x_t_cut]
          try simp (disch := first | with_reducible assumption | omega) only [push_cast, x_blk, x_cd, ↓reduceIte, Nat.reduceEqDiff, List.map_cons, List.map_nil, Int.reduceEq, Int.lt_irrefl]
          refine sto_blk k5 (cs := setCells (wordsOf m.ends)) (e4_set _) (by rw [setCells_4, setCells_4]) (setCells_one _) ?_
          intro wa ka ga za
          replace kB := kB.grown ga.by_ (by simp; omega)
          replace kS := kS.grown ga.by_ (by simp; omega)
          replace k6 := k6.grown ga.by_ (by simp; omega)
          replace bb := ga.below bb bb.size (by intro a ha; injection ha with ha; subst ha; simp; omega)
          try rw [x_t_cut]
          try simp (disch := first | with_reducible assumption | omega) only [push_cast, x_blk, x_cd, ↓reduceIte, Nat.reduceEqDiff, List.map_cons, List.map_nil, Int.reduceEq, Int.lt_irrefl]
          refine sto_blk k6 (cs := setCells (wordsOf dm.ends)) (e4_set _) (by rw [setCells_4, setCells_4]) (setCells_one _) ?_
          intro wc kc gc zc
          replace kB := kB.grown gc.by_ (by simp; omega)
          replace kS := kS.grown gc.by_ (by simp; omega)
          replace ka := ka.grown gc.by_ (by simp; omega)
          replace bb := gc.below bb bb.size (by intro a ha; injection ha with ha; subst ha; simp; omega)
          simp (disch := first | with_reducible assumption | omega) only [push_cast, x_blk, x_cd, ↓reduceIte, Nat.reduceEqDiff, List.map_cons, List.map_nil, Int.reduceEq, Int.lt_irrefl]
          refine blk_of (cs := [.bool false]) al_4 ?_
          intro wd k7 bd7 zd
          have l7B := kB.lt
          have l7S := kS.lt
          have l7a := ka.lt
          have l7c := kc.lt
          replace kB := kB.below bd7 kB.lt
          replace kS := kS.below bd7 kS.lt
          replace ka := ka.below bd7 ka.lt
          replace kc := kc.below bd7 kc.lt
          replace bb := bb.trans (bd7.mono bb.size)
          simp (disch := first | with_reducible assumption | omega) only [push_cast, x_blk, x_cd, ↓reduceIte, Nat.reduceEqDiff, List.map_cons, List.map_nil, Int.reduceEq, Int.lt_irrefl]
          refine blk_of (cs := [.bool false]) al_4 ?_
          intro we k8 be8 ze
          have l8 := k7.lt
          replace kB := kB.below be8 kB.lt
          replace kS := kS.below be8 kS.lt
          replace ka := ka.below be8 ka.lt
          replace kc := kc.below be8 kc.lt
          replace k7 := k7.below be8 k7.lt
          replace bb := bb.trans (be8.mono bb.size)
          simp (disch := first | with_reducible assumption | omega) only [push_cast, x_blk, x_cd, ↓reduceIte, Nat.reduceEqDiff, List.map_cons, List.map_nil, Int.reduceEq, Int.lt_irrefl]
          refine sto_bool k7 (by kernel_rfl) 0 (by simp) false ?_
          intro wf k7' gf zf
          replace kB := kB.grown gf.by_ (by simp; omega)
          replace kS := kS.grown gf.by_ (by simp; omega)
          replace ka := ka.grown gf.by_ (by simp; omega)
          replace kc := kc.grown gf.by_ (by simp; omega)
          replace k8 := k8.grown gf.by_ (by simp; omega)
          replace bb := gf.below bb bb.size (by intro a ha; injection ha with ha; subst ha; simp; omega)
          simp (disch := first | with_reducible assumption | omega) only [push_cast, x_blk, x_cd, ↓reduceIte, Nat.reduceEqDiff, List.map_cons, List.map_nil, Int.reduceEq, Int.lt_irrefl]
          refine sto_bool k8 (by kernel_rfl) 0 (by simp) false ?_
          intro wg k8' gg zg
          replace kB := kB.grown gg.by_ (by simp; omega)
          replace kS := kS.grown gg.by_ (by simp; omega)
          replace ka := ka.grown gg.by_ (by simp; omega)
          replace kc := kc.grown gg.by_ (by simp; omega)
          replace k7' := k7'.grown gg.by_ (by simp; omega)
          replace bb := gg.below bb bb.size (by intro a ha; injection ha with ha; subst ha; simp; omega)
          simp (disch := first | with_reducible assumption | omega) only [push_cast, x_blk, x_cd, ↓reduceIte, Nat.reduceEqDiff, List.map_cons, List.map_nil, Int.reduceEq, Int.lt_irrefl, kS.setA (wordsOf_words _) ty_ag_64 ty_sz_64]
          refine call_of (set_All S _) ?_
          rintro v wh ⟨rfl, kh, bh, zh⟩
          have l9 := k8'.lt
          simp (disch := first | with_reducible assumption | omega) only [push_cast, x_blk, x_cd, ↓reduceIte, Nat.reduceEqDiff, List.map_cons, List.map_nil, Int.reduceEq, Int.lt_irrefl]
          refine ⟨_, _, _, _, _, ?_, ?_, ?_, ?_, ?_, ?_, ?_, ?_, kB.below bh kB.lt, ka.below bh ka.lt, kc.below bh kc.lt, k7'.below bh k7'.lt, k8'.below bh k8'.lt, kh, bb.trans (bh.mono bb.size)⟩
          all_goals first | omega | simp only [push_cast, ↓reduceIte, Nat.reduceEqDiff, Int.reduceEq, and_self, eq_self]
  · rintro a1 f w1 hf1 ⟨g5, g6, g7, g8, Bn, h5, h6, h57, h67, h78, h8B, hBn, fr, kB, k5, k6, k7, k8, kN, bb⟩
    have hrs : rowS S = S := rowS_row hS.strict (hS.small (by decide))
    refine wps_block (range_x mixed hrf hf1 fr.2.2.2.2.2 (enters_of Tryd.func109 (by kernel_rfl) rfl)
      (set_All_stops 3 Bn w.heap.size S w1 (hT.below bb hT.lt) hT.lt kN) (Below.refl _ _) belowK_t (belowK_b bb.size) (fun W => Below.refl _ _) (fun _ => rfl)
      (fun (pre : List {x : Int // x ∈ S}) W => Blk W g7 4 [.bool (hidL m s L (pre.map (·.1)))] ∧ Blk W g8 4 [.bool (opnL m s L (pre.map (·.1)))] ∧ Below g7 w1 W) ?_ ⟨k7, k8, Below.refl _ _⟩ (fun x => upd (upd f 21 (.int .i64 x.1)) 9 (.int .i64 x.1)) ?_ ?_ ?_)
    · rintro pre W W' row ⟨g1, g2, g3⟩ hgr hr
      exact ⟨blk_grownS g1 hgr fun r e => (hr r e).2, blk_grownS g2 hgr fun r e => (hr r e).2, g3.grown hgr (by have := g3.size; omega) fun r e => by have := (hr r e).1; omega⟩
    · intro x W
      refine ⟨1000, ?_⟩
      simp (disch := first | with_reducible assumption | omega) only [push_cast, x_blk, x_cd, ↓reduceIte, Nat.reduceEqDiff, List.map_cons, List.map_nil, Int.reduceEq, Int.lt_irrefl, updL]
      first | trivial | exact ⟨(by simp only [push_cast, ↓reduceIte, Nat.reduceEqDiff, true_and, and_true, and_self, eq_self, fr]), rfl⟩
    · rintro pre x W ⟨g1, g2, g3⟩ _
      refine ⟨1000, ?_⟩
      have hx := hS.mem x.2
      rw [List.map_append, List.map_singleton, hidL_snoc, opnL_snoc]
      obtain ⟨n, hn⟩ : ∃ n : Nat, x.1 = n := ⟨x.1.toNat, by omega⟩
      obtain ⟨qn, hqn⟩ : ∃ qn, n / L.length = qn := ⟨_, rfl⟩
      obtain ⟨rn, hrn⟩ : ∃ rn, n % L.length = rn := ⟨_, rfl⟩
      have hm' : isM m L.length (n : Int) ↔ (qn : Int) ∈ m.ends := by unfold isM; rw [Int.toNat_natCast, hqn]
      have hd' : isD s L (n : Int) ↔ (rn : Int) ∈ dm.ends := by unfold isD; rw [Int.toNat_natCast, dE, hrn]
      have hat := fun W => sec_at b m dm seen n L.length dS l0 W
      rw [hrn] at hat
      have z3 := g3.size
      have bW : Below w.heap.size w W := bb.trans (g3.mono (by omega))
      replace kB := kB.below g3 (by omega)
      replace k5 := k5.below g3 h57
      replace k6 := k6.below g3 h67
      have bd : Below W.heap.size W W.drew := (Same.refl W).drew.below _
      replace kB := kB.below bd kB.lt
      replace k5 := k5.below bd k5.lt
      replace k6 := k6.below bd k6.lt
      replace g1 := g1.below bd g1.lt
      replace g2 := g2.below bd g2.lt
      have bk := bd
      generalize hu : W.drew = u at *
      generalize hidL m s L (pre.map (·.1)) = hb at *
      generalize opnL m s L (pre.map (·.1)) = ob at *
      have hnq : qn ≤ n := hqn ▸ Nat.div_le_self _ _
      have hnr : rn < L.length := hrn ▸ Nat.mod_lt _ l0
      have hq := fun {K : Fr → World → Prop} {u w : World} {f : Fr} {d : Option Nat} {t : TypeId} {xo yo : Operand} => bin_quoE (P := Tryd.prog) (K := K) (u := u) (w := w) (f := f) (d := d) (t := t) (xo := xo) (yo := yo) (k := n) (n := L.length) dS.symm hqn l0 (by omega)
      simp (disch := first | with_reducible assumption | omega) only [push_cast, x_blk, x_cd, ↓reduceIte, Nat.reduceEqDiff, List.map_cons, List.map_nil, Int.reduceEq, Int.lt_irrefl, fr, hu, hn, k5.setA (wordsOf_words _) ty_ag_64 ty_sz_64, kB.b5, hq]
      refine call_of (set_Has' m.ends (qn : Int) (by omega) (by omega) _) ?_
      rintro v W1 ⟨rfl, b1⟩
      replace kB := kB.below b1 kB.lt
      replace k5 := k5.below b1 k5.lt
      replace k6 := k6.below b1 k6.lt
      replace g1 := g1.below b1 g1.lt
      replace g2 := g2.below b1 g2.lt
      replace bk := bk.trans (Below.mono b1 (Below.size bk))
      by_cases q : (qn : Int) ∈ m.ends
      case neg =>
        rw [decide_eq_false (fun hh => q (hm'.1 hh)), Bool.false_and, Bool.false_and, Bool.or_false, Bool.or_false]
        simp (disch := first | with_reducible assumption | omega) only [push_cast, x_blk, x_cd, ↓reduceIte, Nat.reduceEqDiff, List.map_cons, List.map_nil, Int.reduceEq, Int.lt_irrefl, fr, decide_eq_false q]
        exact ⟨KeepsFrom.of_below bk (Nat.le_refl _), bk.mono (by omega), g1, g2, g3.trans (bk.mono (by omega))⟩
      rw [decide_eq_true (hm'.2 q), Bool.true_and, Bool.true_and]
      simp (disch := first | with_reducible assumption | omega) only [push_cast, x_blk, x_cd, ↓reduceIte, Nat.reduceEqDiff, List.map_cons, List.map_nil, Int.reduceEq, Int.lt_irrefl, fr, decide_eq_true q]
      have bd2 : Below W1.heap.size W1 W1.drew := (Same.refl W1).drew.below _
      replace kB := kB.below bd2 kB.lt
      replace k5 := k5.below bd2 k5.lt
      replace k6 := k6.below bd2 k6.lt
      replace g1 := g1.below bd2 g1.lt
      replace g2 := g2.below bd2 g2.lt
      replace bk := bk.trans (Below.mono bd2 (Below.size bk))
      generalize hu2 : W1.drew = u2 at *
      rw [x_t_two]
      refine ⟨?_, ?_⟩
      · try rw [x_t_cut]
        simp (disch := first | with_reducible assumption | omega) only [push_cast, x_blk, x_cd, ↓reduceIte, Nat.reduceEqDiff, List.map_cons, List.map_nil, Int.reduceEq, Int.lt_irrefl, fr, kB.bA, k6.setA (wordsOf_words _) ty_ag_64 ty_sz_64]
        refine call_of (hat _) ?_
        rintro v W2 ⟨rfl, b2⟩
        replace kB := kB.below b2 kB.lt
        replace k5 := k5.below b2 k5.lt
        replace k6 := k6.below b2 k6.lt
        replace g1 := g1.below b2 g1.lt
        replace g2 := g2.below b2 g2.lt
        replace bk := bk.trans (Below.mono b2 (Below.size bk))
        try rw [x_t_cut]
        try simp (disch := first | with_reducible assumption | omega) only [push_cast, x_blk, x_cd, ↓reduceIte, Nat.reduceEqDiff, List.map_cons, List.map_nil, Int.reduceEq, Int.lt_irrefl, fr]
        refine call_of (set_Has' dm.ends (rn : Int) (by omega) (by omega) _) ?_
        rintro v W3 ⟨rfl, b3⟩
        replace kB := kB.below b3 kB.lt
        replace k5 := k5.below b3 k5.lt
        replace k6 := k6.below b3 k6.lt
        replace g1 := g1.below b3 g1.lt
        replace g2 := g2.below b3 g2.lt
        replace bk := bk.trans (Below.mono b3 (Below.size bk))
        rw [show decide (isD s L (n : Int)) = decide ((rn : Int) ∈ dm.ends) from decide_eq_decide.2 hd']
        clear hat
        generalize decide ((rn : Int) ∈ dm.ends) = isB at *
        have hz1 := bk.size
        try simp (disch := first | with_reducible assumption | omega) only [push_cast, x_blk, x_cd, ↓reduceIte, Nat.reduceEqDiff, List.map_cons, List.map_nil, Int.reduceEq, Int.lt_irrefl, fr]
        cases hb
        all_goals cases ob
        all_goals cases isB
        all_goals (
          simp (disch := first | with_reducible assumption | omega) only [push_cast, x_blk, x_cd, ↓reduceIte, Nat.reduceEqDiff, List.map_cons, List.map_nil, Int.reduceEq, Int.lt_irrefl, fr, g1.ld ty_ag_4 0 (by simp), g2.ld ty_ag_4 0 (by simp)]
          refine sto_bool g1 (by kernel_rfl) 0 (by simp) _ ?_
          intro W4 g1' gr1 zz1
          replace g2 := g2.grown gr1.by_ (by simp; omega)
          simp (disch := first | with_reducible assumption | omega) only [push_cast, x_blk, x_cd, ↓reduceIte, Nat.reduceEqDiff, List.map_cons, List.map_nil, Int.reduceEq, Int.lt_irrefl, fr]
          refine sto_bool g2 (by kernel_rfl) 0 (by simp) _ ?_
          intro W5 g2' gr2 zz2
          replace g1' := g1'.grown gr2.by_ (by simp; omega)
          have bg := gr2.below (gr1.below (bk.mono (show g7 ≤ W.heap.size by omega)) (by omega) (by intro a ha; injection ha with ha; subst ha; exact Nat.le_refl _)) (by omega) (by intro a ha; injection ha with ha; subst ha; show g7 ≤ g8; omega)
          simp (disch := first | with_reducible assumption | omega) only [push_cast, x_blk, x_cd, ↓reduceIte, Nat.reduceEqDiff, List.map_cons, List.map_nil, Int.reduceEq, Int.lt_irrefl, fr]
          exact ⟨((KeepsFrom.of_below bk (Nat.le_refl _)).trans (KeepsFrom.of_grown (g := g7) gr1.by_ (by omega))).trans (KeepsFrom.of_grown (g := g8) gr2.by_ (by omega)), bg.mono (by omega), g1', g2', g3.trans bg⟩)
      · try rw [x_t_cut]
        simp (disch := first | with_reducible assumption | omega) only [push_cast, x_blk, x_cd, ↓reduceIte, Nat.reduceEqDiff, List.map_cons, List.map_nil, Int.reduceEq, Int.lt_irrefl, fr, kB.bA]
        rw [x_t_two]
        refine ⟨?_, ?_⟩
        · try rw [x_t_cut]
          simp (disch := first | with_reducible assumption | omega) only [push_cast, x_blk, x_cd, ↓reduceIte, Nat.reduceEqDiff, List.map_cons, List.map_nil, Int.reduceEq, Int.lt_irrefl, fr, k6.setA (wordsOf_words _) ty_ag_64 ty_sz_64]
          refine call_of (hat _) ?_
          rintro v W2 ⟨rfl, b2⟩
          replace kB := kB.below b2 kB.lt
          replace k5 := k5.below b2 k5.lt
          replace k6 := k6.below b2 k6.lt
          replace g1 := g1.below b2 g1.lt
          replace g2 := g2.below b2 g2.lt
          replace bk := bk.trans (Below.mono b2 (Below.size bk))
          try rw [x_t_cut]
          try simp (disch := first | with_reducible assumption | omega) only [push_cast, x_blk, x_cd, ↓reduceIte, Nat.reduceEqDiff, List.map_cons, List.map_nil, Int.reduceEq, Int.lt_irrefl, fr]
          refine call_of (set_Has' dm.ends (rn : Int) (by omega) (by omega) _) ?_
          rintro v W3 ⟨rfl, b3⟩
          replace kB := kB.below b3 kB.lt
          replace k5 := k5.below b3 k5.lt
          replace k6 := k6.below b3 k6.lt
          replace g1 := g1.below b3 g1.lt
          replace g2 := g2.below b3 g2.lt
          replace bk := bk.trans (Below.mono b3 (Below.size bk))
          rw [show decide (isD s L (n : Int)) = decide ((rn : Int) ∈ dm.ends) from decide_eq_decide.2 hd']
          clear hat
          generalize decide ((rn : Int) ∈ dm.ends) = isB at *
          have hz1 := bk.size
          try simp (disch := first | with_reducible assumption | omega) only [push_cast, x_blk, x_cd, ↓reduceIte, Nat.reduceEqDiff, List.map_cons, List.map_nil, Int.reduceEq, Int.lt_irrefl, fr]
          cases hb
          all_goals cases ob
          all_goals cases isB
          all_goals (
            simp (disch := first | with_reducible assumption | omega) only [push_cast, x_blk, x_cd, ↓reduceIte, Nat.reduceEqDiff, List.map_cons, List.map_nil, Int.reduceEq, Int.lt_irrefl, fr, g1.ld ty_ag_4 0 (by simp), g2.ld ty_ag_4 0 (by simp)]
            refine sto_bool g1 (by kernel_rfl) 0 (by simp) _ ?_
            intro W4 g1' gr1 zz1
            replace g2 := g2.grown gr1.by_ (by simp; omega)
            simp (disch := first | with_reducible assumption | omega) only [push_cast, x_blk, x_cd, ↓reduceIte, Nat.reduceEqDiff, List.map_cons, List.map_nil, Int.reduceEq, Int.lt_irrefl, fr]
            refine sto_bool g2 (by kernel_rfl) 0 (by simp) _ ?_
            intro W5 g2' gr2 zz2
            replace g1' := g1'.grown gr2.by_ (by simp; omega)
            have bg := gr2.below (gr1.below (bk.mono (show g7 ≤ W.heap.size by omega)) (by omega) (by intro a ha; injection ha with ha; subst ha; exact Nat.le_refl _)) (by omega) (by intro a ha; injection ha with ha; subst ha; show g7 ≤ g8; omega)
            simp (disch := first | with_reducible assumption | omega) only [push_cast, x_blk, x_cd, ↓reduceIte, Nat.reduceEqDiff, List.map_cons, List.map_nil, Int.reduceEq, Int.lt_irrefl, fr]
            exact ⟨((KeepsFrom.of_below bk (Nat.le_refl _)).trans (KeepsFrom.of_grown (g := g7) gr1.by_ (by omega))).trans (KeepsFrom.of_grown (g := g8) gr2.by_ (by omega)), bg.mono (by omega), g1', g2', g3.trans bg⟩)
        · try rw [x_t_cut]
          try simp (disch := first | with_reducible assumption | omega) only [push_cast, x_blk, x_cd, ↓reduceIte, Nat.reduceEqDiff, List.map_cons, List.map_nil, Int.reduceEq, Int.lt_irrefl, fr]
          refine call_of (hat _) ?_
          rintro v W2 ⟨rfl, b2⟩
          replace kB := kB.below b2 kB.lt
          replace k5 := k5.below b2 k5.lt
          replace k6 := k6.below b2 k6.lt
          replace g1 := g1.below b2 g1.lt
          replace g2 := g2.below b2 g2.lt
          replace bk := bk.trans (Below.mono b2 (Below.size bk))
          try rw [x_t_cut]
          try simp (disch := first | with_reducible assumption | omega) only [push_cast, x_blk, x_cd, ↓reduceIte, Nat.reduceEqDiff, List.map_cons, List.map_nil, Int.reduceEq, Int.lt_irrefl, fr, k6.setA (wordsOf_words _) ty_ag_64 ty_sz_64]
          refine call_of (set_Has' dm.ends (rn : Int) (by omega) (by omega) _) ?_
          rintro v W3 ⟨rfl, b3⟩
          replace kB := kB.below b3 kB.lt
          replace k5 := k5.below b3 k5.lt
          replace k6 := k6.below b3 k6.lt
          replace g1 := g1.below b3 g1.lt
          replace g2 := g2.below b3 g2.lt
          replace bk := bk.trans (Below.mono b3 (Below.size bk))
          rw [show decide (isD s L (n : Int)) = decide ((rn : Int) ∈ dm.ends) from decide_eq_decide.2 hd']
          clear hat
          generalize decide ((rn : Int) ∈ dm.ends) = isB at *
          have hz1 := bk.size
          try simp (disch := first | with_reducible assumption | omega) only [push_cast, x_blk, x_cd, ↓reduceIte, Nat.reduceEqDiff, List.map_cons, List.map_nil, Int.reduceEq, Int.lt_irrefl, fr]
          cases hb
          all_goals cases ob
          all_goals cases isB
          all_goals (
            simp (disch := first | with_reducible assumption | omega) only [push_cast, x_blk, x_cd, ↓reduceIte, Nat.reduceEqDiff, List.map_cons, List.map_nil, Int.reduceEq, Int.lt_irrefl, fr, g1.ld ty_ag_4 0 (by simp), g2.ld ty_ag_4 0 (by simp)]
            refine sto_bool g1 (by kernel_rfl) 0 (by simp) _ ?_
            intro W4 g1' gr1 zz1
            replace g2 := g2.grown gr1.by_ (by simp; omega)
            simp (disch := first | with_reducible assumption | omega) only [push_cast, x_blk, x_cd, ↓reduceIte, Nat.reduceEqDiff, List.map_cons, List.map_nil, Int.reduceEq, Int.lt_irrefl, fr]
            refine sto_bool g2 (by kernel_rfl) 0 (by simp) _ ?_
            intro W5 g2' gr2 zz2
            replace g1' := g1'.grown gr2.by_ (by simp; omega)
            have bg := gr2.below (gr1.below (bk.mono (show g7 ≤ W.heap.size by omega)) (by omega) (by intro a ha; injection ha with ha; subst ha; exact Nat.le_refl _)) (by omega) (by intro a ha; injection ha with ha; subst ha; show g7 ≤ g8; omega)
            simp (disch := first | with_reducible assumption | omega) only [push_cast, x_blk, x_cd, ↓reduceIte, Nat.reduceEqDiff, List.map_cons, List.map_nil, Int.reduceEq, Int.lt_irrefl, fr]
            exact ⟨((KeepsFrom.of_below bk (Nat.le_refl _)).trans (KeepsFrom.of_grown (g := g7) gr1.by_ (by omega))).trans (KeepsFrom.of_grown (g := g8) gr2.by_ (by omega)), bg.mono (by omega), g1', g2', g3.trans bg⟩)
    · rintro D xs a2 W hDl hxs ⟨g1, g2, g3⟩ hWD hf2
      rw [hxs, hrs] at g1 g2
      refine segs_end (k1 := [cE]) (n := 100000) (R := fun f w' => (f 4 = .bool (sLeak m s L S) ∧ Below w.heap.size w w') ∧ Below W.heap.size W w') mixed hf2 ?_ ?_
      · show x _ _ _ _ [.c (cC _ cE), .lp _] _ _ _
        rw [hE]
        clear hA hBc hC hDD hD hE hrf hbl hc
        have bW : Below w.heap.size w W := bb.trans (g3.mono (by omega))
        rw [leak_of]
        generalize hidL m s L S = hb at *
        generalize opnL m s L S = ob at *
        cases hb
        all_goals cases ob
        all_goals (
          simp (disch := first | with_reducible assumption | omega) only [push_cast, x_blk, x_cd, ↓reduceIte, Nat.reduceEqDiff, List.map_cons, List.map_nil, Int.reduceEq, Int.lt_irrefl, fr, g1.ld ty_ag_4 0 (by simp), g2.ld ty_ag_4 0 (by simp)]
          exact ⟨⟨(by simp only [push_cast, ↓reduceIte, Nat.reduceEqDiff, true_and, and_true, and_self, eq_self, fr, Bool.not_true, Bool.not_false, Bool.and_true, Bool.and_false, Bool.false_and, Bool.true_and]), bW⟩, Below.refl _ _⟩)
      · rintro e a3 f3 w3 he hf3 ⟨hR, hb3⟩
        refine finM_1 (Ds := [D]) he hf3 (clean_one ?_) (fun E hE => by simp at hE; subst hE; have := bb.size; omega) hR
        rw [hb3.block D (Array.getElem?_eq_some_iff.1 hWD).1]
        exact hWD
end
end Go.Proofs.YtcjinmgieiebbaaDoor
