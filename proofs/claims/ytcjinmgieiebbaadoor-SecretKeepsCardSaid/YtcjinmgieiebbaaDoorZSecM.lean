/-
  Chapter 12: the program's Leak: by its contract.
-/
import Derived.Test.YtcjinmgieiebbaaDoorZSecL
namespace Go.Proofs.YtcjinmgieiebbaaDoor
set_option linter.unusedSimpArgs false
set_option linter.unusedVariables false
set_option linter.unusedSectionVars false
open Go.RowKit

theorem blt_bes : builtPl Tryd.prog 85 = some ([(0, 5), (5, 5), (10, 1)], [.int .i64 0, .int .i64 0, .slice none 0 0, .slice none 0 0, .slice none 0 0, .int .i64 0, .int .i64 0, .slice none 0 0, .slice none 0 0, .slice none 0 0, .slice none 0 0]) := by kernel_rfl
theorem bl_bes {K : Fr → World → Prop} {u : World} {f : Fr} {d : Option Nat} {w : World} (a : MV) (m : Mach) (a' : MV) (dm : Mach) (A : Option Addr) (l : List Int) (c : Nat) :
    Val1 Tryd.prog K (Instr.build 85 #[(0, a.val m), (1, a'.val dm), (2, .slice A l.length c)]) u f d w = K (updO f d (BV.val ⟨a, a', A, c⟩ m dm l)) w := by
  refine bld_of ?_
  rw [built_of blt_bes]
  rw [fill_cons (off := 0) (size := 5) rfl rfl (by decide), fill_cons (off := 5) (size := 5) rfl rfl (by simp [putL, Value.cells, MV.cells]), fill_cons (off := 10) (size := 1) rfl rfl (by simp [putL, Value.cells, MV.cells]), fill_nil]
  simp [putL, Value.cells, MV.cells, BV.cells]
/-- What is found of the places of a machine beside a secret. -/
def SecFound (m s : Mach) (L : List (List Int)) (ar : List Arr) (seen : List Int) (b : Bool) (o : List Int) (e : Int) : Prop :=
  ((∃ k, 256 < (bIter (sNext m s L ar seen) seen (sFirst m s L ar seen) k).length) ∧ b = false ∧ o = [] ∧ e = 1) ∨
  (e = 0 ∧ ∃ k, k ≤ 256 ∧ (bIter (sNext m s L ar seen) seen (sFirst m s L ar seen) k).length = k ∧ OptIs (bestF (sLeak m s L) (bIter (sNext m s L ar seen) seen (sFirst m s L ar seen) k)) b o)
def SecIs (m s : Mach) (seen : List Int) (b : Bool) (o : List Int) (e : Int) : Prop :=
  (¬ (m.May ∧ s.May) ∧ b = false ∧ o = [] ∧ e = 2) ∨
  ((m.May ∧ s.May) ∧ m.events ≠ s.events ∧ b = false ∧ o = [] ∧ e = 3) ∨
  ((m.May ∧ s.May) ∧ m.events = s.events ∧ ¬ IsRow seen m.events ∧ b = false ∧ o = [] ∧ e = 2) ∨
  ((m.May ∧ s.May) ∧ m.events = s.events ∧ IsRow seen m.events ∧ ¬ (m.states ≤ 6 ∧ s.states ≤ 4) ∧ b = false ∧ o = [] ∧ e = 1) ∨
  (IsRow seen m.events ∧ ∃ L ar, SecD m s L ar ∧ SecFound m s L ar seen b o e)
def SecRes (m s : Mach) (seen : List Int) (w : World) (v : Value) (w' : World) : Prop :=
  ∃ (b : Bool) (O : Option Addr) (co : Nat) (o : List Int) (e : Int), v = .tuple #[.bool b, .slice O o.length co, .int .i64 e] ∧ Ints (fun x => w.heap.size ≤ x ∧ x < w'.heap.size) w' O o ∧ o.length ≤ 100000 ∧ Below w.heap.size w w' ∧ SecIs m s seen b o e
section
variable {m s : Mach} {L : List (List Int)} {ar : List Arr} (h : SecD m s L ar)
include h
theorem sec_Leak_1 {w : World} {b : BV} {seen : List Int} {g : Nat} (hg : Blk w g 85 (b.cells m (detOf s L ar) seen)) (hB : SB (· < w.heap.size) w b m (detOf s L ar) seen) (ns : seen.length ≤ 17592186043904) (S : List Int) (e : Int) :
    Cal Tryd.prog 61 [setV S, .int .i64 e, .pointer (some ⟨g, 0, none⟩)] w fun v w' => v = setV (sNext m s L ar seen S e) ∧ Below w.heap.size w w' := by
  have hstep := fun (w' : World) (bw : Below w.heap.size w w') => sec_step h (hB.up bw) S e
  have hwide := fun (w' : World) (bw : Below w.heap.size w w') => sec_wide h (hB.up bw) ns (sStep m s L ar S e) ((h.step_row S e).small (by decide))
  generalize hdm : detOf s L ar = dm at *
  refine cal_secret_Leak_1 (by simp) 100000 fun Q hQ => ?_
  simp (disch := first | with_reducible assumption | omega) only [push_cast, x_blk, x_cd, ↓reduceIte, Nat.reduceEqDiff, List.map_cons, List.map_nil, Int.reduceEq, Int.lt_irrefl, F_secret_Leak_1]
  refine blk_of (box_agg _ (setCells (wordsOf S))) ?_
  intro w1 k1 b1 z1
  replace hg := hg.below b1 hg.lt
  simp (disch := first | with_reducible assumption | omega) only [push_cast, x_blk, x_cd, ↓reduceIte, Nat.reduceEqDiff, List.map_cons, List.map_nil, Int.reduceEq, Int.lt_irrefl]
  refine blk_of (cs := setCells (wordsOf [])) al_64 ?_
  intro w2 k2 b2 z2
  replace hg := hg.below b2 hg.lt
  replace k1 := k1.below b2 k1.lt
  have bb := b1.trans (b2.mono b1.size)
  have bd : Below w2.heap.size w2 w2.drew := (Same.refl w2).drew.below _
  replace hg := hg.below bd hg.lt
  replace k1 := k1.below bd k1.lt
  replace k2 := k2.below bd k2.lt
  replace bb := bb.trans (bd.mono bb.size)
  generalize hu : w2.drew = u at *
  simp (disch := first | with_reducible assumption | omega) only [push_cast, x_blk, x_cd, ↓reduceIte, Nat.reduceEqDiff, List.map_cons, List.map_nil, Int.reduceEq, Int.lt_irrefl, hu, hg.bA, k1.setA (wordsOf_words _) ty_ag_64 ty_sz_64]
  refine call_of (hstep _ bb) ?_
  rintro v w3 ⟨rfl, b3⟩
  have bb3 := bb.trans (b3.mono bb.size)
  simp (disch := first | with_reducible assumption | omega) only [push_cast, x_blk, x_cd, ↓reduceIte, Nat.reduceEqDiff, List.map_cons, List.map_nil, Int.reduceEq, Int.lt_irrefl]
  refine ⟨b3, ?_⟩
  refine call_of (hwide _ bb3) ?_
  rintro v w4 ⟨rfl, b4⟩
  replace b3 := b3.trans (b4.mono b3.size)
  have bb4 := bb.trans (b3.mono bb.size)
  simp (disch := first | with_reducible assumption | omega) only [push_cast, x_blk, x_cd, ↓reduceIte, Nat.reduceEqDiff, List.map_cons, List.map_nil, Int.reduceEq, Int.lt_irrefl]
  refine ⟨b3, ?_⟩
  refine sto_blk (k2.below b3 k2.lt) (cs := setCells (wordsOf (sNext m s L ar seen S e))) (e4_set _) (by rw [setCells_4, setCells_4]) (setCells_one _) ?_
  intro w5 k5 g5 z5
  simp (disch := first | with_reducible assumption | omega) only [push_cast, x_blk, x_cd, ↓reduceIte, Nat.reduceEqDiff, List.map_cons, List.map_nil, Int.reduceEq, Int.lt_irrefl]
  exact fin_cell k5 ty_ag_64 (e4_set _) (by simp only [push_cast, ↓reduceIte, Nat.reduceEqDiff, Int.reduceEq]) (hQ _ _ ⟨rfl, g5.below bb4 bb4.size (by intro a ha; injection ha with ha; subst ha; show w.heap.size ≤ w1.heap.size; omega)⟩)
end
theorem sec_Leak {w : World} (hT : Tab w) {a0 : MV} {m : Mach} (ha : IsM (· < w.heap.size) w a0 m) (hf : m.Fits) {a1 : MV} {s : Mach} (hb : IsM (· < w.heap.size) w a1 s) (hf' : s.Fits) {A : Option Addr} {c : Nat} {seen : List Int} (hs : Ints (· < w.heap.size) w A seen) (ns : seen.length ≤ 17592186043904) :
    Cal Tryd.prog 24 [a0.val m, a1.val s, .slice A seen.length c] w (SecRes m s seen w) := by
  refine cal_secret_Leak (by simp) 100000 fun Q hQ => ?_
  simp (disch := first | with_reducible assumption | omega) only [push_cast, x_blk, x_cd, ↓reduceIte, Nat.reduceEqDiff, List.map_cons, List.map_nil, Int.reduceEq, Int.lt_irrefl, F_secret_Leak]
  refine blk_of (box_agg _ (a0.cells m)) ?_
  intro w1 k1 b1 z1
  simp (disch := first | with_reducible assumption | omega) only [push_cast, x_blk, x_cd, ↓reduceIte, Nat.reduceEqDiff, List.map_cons, List.map_nil, Int.reduceEq, Int.lt_irrefl]
  refine blk_of (box_agg _ (a1.cells s)) ?_
  intro w2 k2 b2 z2
  replace k1 := k1.below b2 k1.lt
  have bb := b1.trans (b2.mono b1.size)
  simp (disch := first | with_reducible assumption | omega) only [push_cast, x_blk, x_cd, ↓reduceIte, Nat.reduceEqDiff, List.map_cons, List.map_nil, Int.reduceEq, Int.lt_irrefl, k1.mA ty_ag_25 ty_sz_25]
  refine call_of (machine_May (ha.up bb) hf) ?_
  rintro v w3 ⟨rfl, b3⟩
  replace k1 := k1.below b3 k1.lt
  replace k2 := k2.below b3 k2.lt
  replace bb := bb.trans (Below.mono b3 bb.size)
  by_cases p1 : m.May
  case neg =>
    simp (disch := first | with_reducible assumption | omega) only [push_cast, x_blk, x_cd, ↓reduceIte, Nat.reduceEqDiff, List.map_cons, List.map_nil, Int.reduceEq, Int.lt_irrefl, decide_eq_false p1]
    exact fin_3 (hQ _ _ ⟨false, none, 0, [], 2, (by simp only [push_cast, ↓reduceIte, Nat.reduceEqDiff, Int.reduceEq, List.length_nil]), Ints.nil _ _ _, by simp, bb, .inl ⟨fun hh => p1 hh.1, rfl, rfl, rfl⟩⟩)
  simp (disch := first | with_reducible assumption | omega) only [push_cast, x_blk, x_cd, ↓reduceIte, Nat.reduceEqDiff, List.map_cons, List.map_nil, Int.reduceEq, Int.lt_irrefl, decide_eq_true p1, k2.mA ty_ag_25 ty_sz_25]
  refine call_of (machine_May (hb.up bb) hf') ?_
  rintro v w4 ⟨rfl, b4⟩
  replace k1 := k1.below b4 k1.lt
  replace k2 := k2.below b4 k2.lt
  replace bb := bb.trans (Below.mono b4 bb.size)
  by_cases p2 : s.May
  case neg =>
    simp (disch := first | with_reducible assumption | omega) only [push_cast, x_blk, x_cd, ↓reduceIte, Nat.reduceEqDiff, List.map_cons, List.map_nil, Int.reduceEq, Int.lt_irrefl, decide_eq_false p2]
    exact fin_3 (hQ _ _ ⟨false, none, 0, [], 2, (by simp only [push_cast, ↓reduceIte, Nat.reduceEqDiff, Int.reduceEq, List.length_nil]), Ints.nil _ _ _, by simp, bb, .inl ⟨fun hh => p2 hh.2, rfl, rfl, rfl⟩⟩)
  by_cases pe : m.events = s.events
  case neg =>
    simp (disch := first | with_reducible assumption | omega) only [push_cast, x_blk, x_cd, ↓reduceIte, Nat.reduceEqDiff, List.map_cons, List.map_nil, Int.reduceEq, Int.lt_irrefl, decide_eq_true p2, k1.m1 ty_ag_3, k2.m1 ty_ag_3, pe]
    exact fin_3 (hQ _ _ ⟨false, none, 0, [], 3, (by simp only [push_cast, ↓reduceIte, Nat.reduceEqDiff, Int.reduceEq, List.length_nil]), Ints.nil _ _ _, by simp, bb, .inr (.inl ⟨⟨p1, p2⟩, pe, rfl, rfl, rfl⟩)⟩)
  simp (disch := first | with_reducible assumption | omega) only [push_cast, x_blk, x_cd, ↓reduceIte, Nat.reduceEqDiff, List.map_cons, List.map_nil, Int.reduceEq, Int.lt_irrefl, decide_eq_true p2, k1.m1 ty_ag_3, k2.m1 ty_ag_3, pe, eq_self]
  rw [← pe]
  refine call_of (row_Is (hs.up bb) c m.events (by omega)) ?_
  rintro v w5 ⟨rfl, s5⟩
  have b5 := s5.below w4.heap.size
  replace k1 := k1.below b5 k1.lt
  replace k2 := k2.below b5 k2.lt
  replace bb := bb.trans (Below.mono b5 bb.size)
  by_cases p3 : IsRow seen m.events
  case neg =>
    simp (disch := first | with_reducible assumption | omega) only [push_cast, x_blk, x_cd, ↓reduceIte, Nat.reduceEqDiff, List.map_cons, List.map_nil, Int.reduceEq, Int.lt_irrefl, decide_eq_false p3]
    exact fin_3 (hQ _ _ ⟨false, none, 0, [], 2, (by simp only [push_cast, ↓reduceIte, Nat.reduceEqDiff, Int.reduceEq, List.length_nil]), Ints.nil _ _ _, by simp, bb, .inr (.inr (.inl ⟨⟨p1, p2⟩, pe, p3, rfl, rfl, rfl⟩))⟩)
  by_cases p6 : 6 < m.states
  case pos =>
    simp (disch := first | with_reducible assumption | omega) only [push_cast, x_blk, x_cd, ↓reduceIte, Nat.reduceEqDiff, List.map_cons, List.map_nil, Int.reduceEq, Int.lt_irrefl, decide_eq_true p3, k1.m0 ty_ag_3, p6]
    exact fin_3 (hQ _ _ ⟨false, none, 0, [], 1, (by simp only [push_cast, ↓reduceIte, Nat.reduceEqDiff, Int.reduceEq, List.length_nil]), Ints.nil _ _ _, by simp, bb, .inr (.inr (.inr (.inl ⟨⟨p1, p2⟩, pe, p3, by omega, rfl, rfl, rfl⟩)))⟩)
  by_cases p4 : 4 < s.states
  case pos =>
    simp (disch := first | with_reducible assumption | omega) only [push_cast, x_blk, x_cd, ↓reduceIte, Nat.reduceEqDiff, List.map_cons, List.map_nil, Int.reduceEq, Int.lt_irrefl, decide_eq_true p3, k1.m0 ty_ag_3, p6, k2.m0 ty_ag_3, p4]
    exact fin_3 (hQ _ _ ⟨false, none, 0, [], 1, (by simp only [push_cast, ↓reduceIte, Nat.reduceEqDiff, Int.reduceEq, List.length_nil]), Ints.nil _ _ _, by simp, bb, .inr (.inr (.inr (.inl ⟨⟨p1, p2⟩, pe, p3, by omega, rfl, rfl, rfl⟩)))⟩)
  simp (disch := first | with_reducible assumption | omega) only [push_cast, x_blk, x_cd, ↓reduceIte, Nat.reduceEqDiff, List.map_cons, List.map_nil, Int.reduceEq, Int.lt_irrefl, decide_eq_true p3, k1.m0 ty_ag_3, p6, k2.m0 ty_ag_3, p4, k2.mA ty_ag_25 ty_sz_25]
  refine call_of (determine_Make (hb.up bb) hf' (hT.below bb hT.lt)) ?_
  rintro v w6 ⟨d, dm, R, cr, hs', e, rfl, hd, _, _, b6, sp⟩
  replace k1 := k1.below b6 k1.lt
  replace k2 := k2.below b6 k2.lt
  replace bb := bb.trans (Below.mono b6 bb.size)
  have h6 : m.states ≤ 6 := by omega
  have h4 : s.states ≤ 4 := by omega
  obtain ⟨L, ar, rfl, hsd⟩ : ∃ L ar, dm = detOf s L ar ∧ SecD m s L ar := by
    rcases sp with ⟨q, _⟩ | ⟨_, ⟨ar, q, rfl⟩, _⟩ | ⟨_, q, _⟩
    · exact absurd p2 q
    · exact ⟨_, ar, rfl, ⟨p1, p2, h6, h4, Det.of p2 q, pe⟩⟩
    · exact absurd q (make_few p2 h4)
  clear sp
  simp (disch := first | with_reducible assumption | omega) only [push_cast, x_blk, x_cd, ↓reduceIte, Nat.reduceEqDiff, List.map_cons, List.map_nil, Int.reduceEq, Int.lt_irrefl]
  refine blk_of (cs := mv0.cells mach0) al_25 ?_
  intro w7 k7 b7 z7
  simp (disch := first | with_reducible assumption | omega) only [push_cast, x_blk, x_cd, ↓reduceIte, Nat.reduceEqDiff, List.map_cons, List.map_nil, Int.reduceEq, Int.lt_irrefl]
  refine sto_mach k7 rfl d _ ?_
  intro w8 k8 g8 z8
  have b8 := g8.below b7 b7.size (by intro a ha; injection ha with ha; subst ha; exact Nat.le_refl _)
  replace k1 := k1.below b8 k1.lt
  replace k2 := k2.below b8 k2.lt
  replace bb := bb.trans (Below.mono b8 bb.size)
  replace hd := hd.up b8
  simp (disch := first | with_reducible assumption | omega) only [push_cast, x_blk, x_cd, ↓reduceIte, Nat.reduceEqDiff, List.map_cons, List.map_nil, Int.reduceEq, Int.lt_irrefl, k1.mA ty_ag_25 ty_sz_25, k8.mA ty_ag_25 ty_sz_25, bl_bes]
  refine blk_of (cs := [.int .i64 0, .int .i64 0, .slice none 0 0, .slice none 0 0, .slice none 0 0, .int .i64 0, .int .i64 0, .slice none 0 0, .slice none 0 0, .slice none 0 0, .slice none 0 0]) al_85 ?_
  intro w9 k9 b9 z9
  simp (disch := first | with_reducible assumption | omega) only [push_cast, x_blk, x_cd, ↓reduceIte, Nat.reduceEqDiff, List.map_cons, List.map_nil, Int.reduceEq, Int.lt_irrefl]
  refine sto_blk k9 (cs := BV.cells ⟨a0, d, A, c⟩ m (detOf s L ar) seen) ty_sz_85 rfl (by rfl) ?_
  intro w10 kB g10 z10
  have b10 := g10.below b9 b9.size (by intro a ha; injection ha with ha; subst ha; exact Nat.le_refl _)
  replace k1 := k1.below b10 k1.lt
  replace k2 := k2.below b10 k2.lt
  replace bb := bb.trans (Below.mono b10 bb.size)
  replace hd := hd.up b10
  have hB : SB (· < w10.heap.size) w10 ⟨a0, d, A, c⟩ m (detOf s L ar) seen := ⟨ha.up bb, hd, hs.up bb⟩
  generalize hbv : (⟨a0, d, A, c⟩ : BV) = bv at *
  have hG8 : w.heap.size ≤ w8.heap.size := by have := (b1.trans (b2.mono b1.size)).size; have := b8.size; have := b6.size; have := b5.size; have := b4.size; have := b3.size; omega
  have l16 := hsd.l16
  have lpos := hsd.pos
  have nSt := small_len (may_starts p1).strict ((may_starts p1).small p1.2.1)
  have hnum := fun (x : Int) (hx : 0 ≤ x ∧ x < 6) W => sec_number bv m (detOf s L ar) seen x 0 L.length rfl hx l16 lpos W
  have hleak1 := fun (W : World) (bW : Below w10.heap.size w10 W) S e => sec_Leak_1 hsd (kB.below bW kB.lt) (hB.up bW) ns S e
  have hwide := fun (W : World) (bW : Below w10.heap.size w10 W) => sec_wide hsd (hB.up bW) ns (sFst m L.length) (fun x hx => by have := hsd.fst_rng x hx; omega)
  have hleaks := fun (W : World) (bW : Below w10.heap.size w10 W) {S : List Int} (hS : IsRow S 96) => sec_leaks hsd (hT.below (bb.trans (bW.mono bb.size)) hT.lt) (hB.up bW) hS
  generalize hdm : detOf s L ar = dm at *
  simp (disch := first | with_reducible assumption | omega) only [push_cast, x_blk, x_cd, ↓reduceIte, Nat.reduceEqDiff, List.map_cons, List.map_nil, Int.reduceEq, Int.lt_irrefl]
  refine blk_of (cs := setCells (wordsOf [])) al_64 ?_
  intro w11 k11 b11 z11
  have kB11 := kB.below b11 kB.lt
  have lB := kB.lt
  have k1' := k1.below b11 k1.lt
  simp (disch := first | with_reducible assumption | omega) only [push_cast, x_blk, x_cd, ↓reduceIte, Nat.reduceEqDiff, List.map_cons, List.map_nil, Int.reduceEq, Int.lt_irrefl, k1'.m2 ty_ag_22]
  refine loop_rule (fun f w' => ∃ k : Nat, k ≤ m.starts.length ∧ (f 2 = .slice A seen.length c ∧ f 12 = .pointer (some ⟨w8.heap.size, 0, none⟩) ∧ f 13 = .pointer (some ⟨w10.heap.size, 0, none⟩) ∧ f 60 = .slice a0.As m.starts.length a0.cs ∧ f 61 = .int .i64 m.starts.length ∧ f 62 = .int .i64 k) ∧
      Blk w' w10.heap.size 64 (setCells (wordsOf (sFst ⟨m.states, m.events, m.starts.take k, m.arrows, m.ends⟩ L.length))) ∧ Below w10.heap.size w10 w')
    (fun f _ => m.starts.length - (intOf (f 62)).toNat) ⟨0, Nat.zero_le _, ⟨rfl, rfl, rfl, rfl, rfl, rfl⟩, by simpa [sFst] using k11, b11⟩ ?_
  clear k11 b11 z11 kB11 k1'
  rintro f w12 ⟨k, hk, fr, k13, b12⟩ J hJ
  have bb12 := bb.trans (b12.mono bb.size)
  have kB12 := kB.below b12 kB.lt
  by_cases hlt : k < m.starts.length
  case pos =>
    have hI := (ha.up bb12).starts
    have hSm := hI.isSome (by omega)
    have hx := (may_starts p1).mem (getD_mem m.starts 0 k hlt)
    have hsn : sFst ⟨m.states, m.events, m.starts.take (k + 1), m.arrows, m.ends⟩ L.length = sFst ⟨m.states, m.events, m.starts.take k, m.arrows, m.ends⟩ L.length ++ [nmb L.length (m.starts.getD k 0) 0] := by
      unfold sFst
      rw [take_snoc _ (0 : Int) k hlt, List.map_append]; rfl
    have hld := fun {K : Fr → World → Prop} {f : Fr} {d : Option Nat} {w : World} => hI.ld (P := Tryd.prog) (K := K) (f := f) (d := d) (w := w) ty_ag_3 k hlt
    generalize m.starts.getD k 0 = x at *
    have hn := nmb_rng lpos l16 hx.1 (show x < 6 by omega)
    simp (disch := first | with_reducible assumption | omega) only [push_cast, x_blk, x_cd, ↓reduceIte, Nat.reduceEqDiff, List.map_cons, List.map_nil, Int.reduceEq, Int.lt_irrefl, L_secret_Leak_1, fr, hlt, hSm, hld, kB12.bA]
    refine call_of (hnum x ⟨hx.1, by omega⟩ w12) ?_
    rintro v w13 ⟨rfl, b13⟩
    replace k13 := k13.below b13 k13.lt
    have b13' := b12.trans (b13.mono b12.size)
    simp (disch := first | with_reducible assumption | omega) only [push_cast, x_blk, x_cd, ↓reduceIte, Nat.reduceEqDiff, List.map_cons, List.map_nil, Int.reduceEq, Int.lt_irrefl, fr]
    refine call_of (set_Add' _ hn.1 (by omega) k13) ?_
    rintro v w14 ⟨rfl, k14, g14, z14⟩
    rw [← hsn] at k14
    simp (disch := first | with_reducible assumption | omega) only [push_cast, x_blk, x_cd, ↓reduceIte, Nat.reduceEqDiff, List.map_cons, List.map_nil, Int.reduceEq, Int.lt_irrefl, fr]
    exact hJ _ _ ⟨k + 1, hlt, (by simp only [push_cast, ↓reduceIte, Nat.reduceEqDiff, true_and, and_true, and_self, eq_self, fr]), k14, g14.below b13' b13'.size (by intro a ha; injection ha with ha; subst ha; exact Nat.le_refl _)⟩ (by simp only [push_cast, ↓reduceIte, Nat.reduceEqDiff, intOf, fr]; omega)
  obtain rfl : k = m.starts.length := by omega
  rw [List.take_length] at k13
  replace k13 : Blk w12 w10.heap.size 64 (setCells (wordsOf (sFst m L.length))) := k13
  simp (disch := first | with_reducible assumption | omega) only [push_cast, x_blk, x_cd, ↓reduceIte, Nat.reduceEqDiff, List.map_cons, List.map_nil, Int.reduceEq, Int.lt_irrefl, L_secret_Leak_1, fr, Nat.lt_irrefl, kB12.bA, k13.setA (wordsOf_words _) ty_ag_64 ty_sz_64]
  refine call_of (hwide _ b12) ?_
  rintro v w13 ⟨rfl, b13⟩
  have b13' := b12.trans (b13.mono b12.size)
  have bb13 := bb.trans (b13'.mono bb.size)
  have nS8 : seen.length ≤ 8 := by have := row_len p3; have := p1.2.2.2.1; omega
  simp (disch := first | with_reducible assumption | omega) only [push_cast, x_blk, x_cd, ↓reduceIte, Nat.reduceEqDiff, List.map_cons, List.map_nil, Int.reduceEq, Int.lt_irrefl, fr]
  refine call_of (current_Places (step := sNext m s L ar seen) (first := sFirst m s L ar seen) (U := fun s => IsRow s 96) (fun s hs => ⟨hs.strict, hs.small (by decide)⟩) (hsd.wide_row hsd.fst_rng) (hs.up bb13) nS8 (fun S _ e _ => hsd.next_row seen S e)
    (fun w' hw S hS e he => hleak1 w' (b13'.trans (hw.mono b13'.size)) S e)) ?_
  rintro v w14 ⟨A4, c4, ps, k, rfl, hR, hro, b14, habs, hkl, h264, hend⟩
  have b14' := b13'.trans (b14.mono b13'.size)
  have bb14 := bb.trans (b14'.mono bb.size)
  have hpl : ps.length = (bIter (sNext m s L ar seen) seen (sFirst m s L ar seen) k).length := by rw [← habs, List.length_map]
  have hz13 : w.heap.size ≤ w13.heap.size := bb13.size
  by_cases hbig : (256 : Int) < (ps.length : Int)
  · simp (disch := first | with_reducible assumption | omega) only [push_cast, x_blk, x_cd, ↓reduceIte, Nat.reduceEqDiff, List.map_cons, List.map_nil, Int.reduceEq, Int.lt_irrefl, fr, hbig]
    exact fin_3 (hQ _ _ ⟨false, none, 0, [], 1, (by simp only [push_cast, ↓reduceIte, Nat.reduceEqDiff, Int.reduceEq, List.length_nil]), Ints.nil _ _ _, by simp, bb14, .inr (.inr (.inr (.inr ⟨p3, L, ar, hsd, .inl ⟨⟨k, by omega⟩, rfl, rfl, rfl⟩⟩)))⟩)
  have hke : ps.length = k := by omega
  have hsorted := (bIter_ordered (step := sNext m s L ar seen) p3.strict (sFirst m s L ar seen) k).sorted
  have hrow : ∀ x ∈ ps, IsRow x.s 96 := fun x hx => by
    have hmem : (x.s, x.w) ∈ bIter (sNext m s L ar seen) seen (sFirst m s L ar seen) k := by rw [← habs]; exact List.mem_map.2 ⟨x, hx, rfl⟩
    exact (bIter_good (step := sNext m s L ar seen) (es := seen) (U := fun s => IsRow s 96) (fun S _ e _ => hsd.next_row seen S e) (hsd.wide_row hsd.fst_rng) k).univ _ hmem
  have hword : ∀ (i : Nat) (x : Pc), ps[i]? = some x → x.w.length ≤ i := fun i x hx => by
    have : (bIter (sNext m s L ar seen) seen (sFirst m s L ar seen) k)[i]? = some x.abs := by rw [← habs, List.getElem?_map, hx]; rfl
    exact bIter_word _ _ _ _ this
  have hout : ∀ b o, OptIs (bestF (sLeak m s L) (bIter (sNext m s L ar seen) seen (sFirst m s L ar seen) k)) b o → SecIs m s seen b o 0 := fun b o ho =>
    .inr (.inr (.inr (.inr ⟨p3, L, ar, hsd, .inr ⟨rfl, k, by omega, by omega, ho⟩⟩)))
  simp (disch := first | with_reducible assumption | omega) only [push_cast, x_blk, x_cd, ↓reduceIte, Nat.reduceEqDiff, List.map_cons, List.map_nil, Int.reduceEq, Int.lt_irrefl, fr, hbig]
  refine loop_rule (fun f w' => ∃ (i : Nat), i ≤ ps.length ∧ (f 12 = .pointer (some ⟨w8.heap.size, 0, none⟩) ∧ f 80 = .slice A4 ps.length c4 ∧ f 81 = .int .i64 ps.length ∧ f 82 = .int .i64 i) ∧
      (∀ (j : Nat) (x : Pc), j < i → ps[j]? = some x → sLeak m s L x.s = false) ∧ Below w14.heap.size w14 w')
    (fun f _ => ps.length - (intOf (f 82)).toNat) ⟨0, Nat.zero_le _, (by simp only [push_cast, ↓reduceIte, Nat.reduceEqDiff, true_and, and_true, and_self, eq_self, fr]), fun j x hj => absurd hj (by omega), Below.refl _ _⟩ ?_
  clear fr hJ
  rintro f w15 ⟨i, hi, fr, hno, b15⟩ J2 hJ2
  have b15' := b14'.trans (b15.mono b14'.size)
  have bb15 := bb.trans (b15'.mono bb.size)
  by_cases hlt2 : i < ps.length
  case neg =>
    obtain rfl : i = ps.length := by omega
    simp (disch := first | with_reducible assumption | omega) only [push_cast, x_blk, x_cd, ↓reduceIte, Nat.reduceEqDiff, List.map_cons, List.map_nil, Int.reduceEq, Int.lt_irrefl, L_secret_Leak_0, fr, Nat.lt_irrefl]
    refine fin_3 (hQ _ _ ⟨false, none, 0, [], 0, (by simp only [push_cast, ↓reduceIte, Nat.reduceEqDiff, Int.reduceEq, List.length_nil]), Ints.nil _ _ _, by simp, bb15, hout _ _ ?_⟩)
    rw [bestF_none fun x hx => ?_]
    · exact ⟨rfl, rfl⟩
    · rw [← habs] at hx
      obtain ⟨y, hy, rfl⟩ := List.mem_map.1 hx
      obtain ⟨j, hj⟩ := List.mem_iff_getElem?.1 hy
      exact hno j y (getElem?_lt hj) hj
  have hpk : ps[i]? = some (ps[i]'hlt2) := List.getElem?_eq_getElem hlt2
  have hmem : ps[i]'hlt2 ∈ ps := List.getElem_mem hlt2
  generalize ps[i]'hlt2 = x at *
  have hR5 : Recs Pc.cells 5 (fun b => w13.heap.size ≤ b ∧ b < w14.heap.size) w15 A4 ps := hR.keep fun b hb => b15.block b hb.2
  have hA := hR5.isSome (by omega)
  have hldx := fun {K : Fr → World → Prop} {f : Fr} {d : Option Nat} {w' : World} => hR5.ldAll (P := Tryd.prog) (K := K) (f := f) (d := d) (w := w') pcEnc ty_ag_72 hpk ty_sz_72
  simp (disch := first | with_reducible assumption | omega) only [push_cast, x_blk, x_cd, ↓reduceIte, Nat.reduceEqDiff, List.map_cons, List.map_nil, Int.reduceEq, Int.lt_irrefl, L_secret_Leak_0, fr, hlt2, hldx]
  refine blk_of (cs := Pc.cells ⟨[], none, 0, []⟩) al_72 ?_
  intro w16 k16 b16 z16
  simp (disch := first | with_reducible assumption | omega) only [push_cast, x_blk, x_cd, ↓reduceIte, Nat.reduceEqDiff, List.map_cons, List.map_nil, Int.reduceEq, Int.lt_irrefl]
  refine sto_blk k16 (cs := Pc.cells x) (by rw [pcEnc.len]; exact ty_sz_72) (by rw [pcEnc.len, pcEnc.len]) (List.all_eq_true.2 (pcEnc.one x)) ?_
  intro w17 k17 g17 z17
  have b57 := g17.below b16 b16.size (by intro a ha; injection ha with ha; subst ha; exact Nat.le_refl _)
  have b17 := b15.trans (b57.mono b15.size)
  have b17' := b14'.trans (b17.mono b14'.size)
  have kB17 := kB.below b17' kB.lt
  have hlds := fun {K : Fr → World → Prop} {f : Fr} {d : Option Nat} {w' : World} => k17.ldSub (P := Tryd.prog) (K := K) (f := f) (d := d) (w := w') ty_ag_64 0 (vs := setCells (wordsOf x.s)) (e4_set _) x.cell0
  simp (disch := first | with_reducible assumption | omega) only [push_cast, x_blk, x_cd, ↓reduceIte, Nat.reduceEqDiff, List.map_cons, List.map_nil, Int.reduceEq, Int.lt_irrefl, fr, kB17.bA, hlds]
  refine call_of (hleaks _ b17' (hrow x hmem)) ?_
  rintro v w18 ⟨rfl, b18⟩
  have b48 := b17.trans (b18.mono b17.size)
  cases ht : sLeak m s L x.s
  · simp (disch := first | with_reducible assumption | omega) only [push_cast, x_blk, x_cd, ↓reduceIte, Nat.reduceEqDiff, List.map_cons, List.map_nil, Int.reduceEq, Int.lt_irrefl, fr]
    exact hJ2 _ _ ⟨i + 1, hlt2, (by simp only [push_cast, ↓reduceIte, Nat.reduceEqDiff, true_and, and_true, and_self, eq_self, fr]), fun j y hj hy => by
      by_cases e : j = i
      · subst e; rw [hpk] at hy; rw [← Option.some.inj hy]; exact ht
      · exact hno j y (by omega) hy, b48⟩ (by simp only [push_cast, ↓reduceIte, Nat.reduceEqDiff, intOf, fr]; omega)
  · have sd8 : Same w18 w18.drew := (Same.refl w18).drew
    have k8 := (k17.below b18 k17.lt).same sd8
    have hldw := fun {K : Fr → World → Prop} {f : Fr} {d : Option Nat} {w' : World} => k8.ld (P := Tryd.prog) (K := K) (f := f) (d := d) (w := w') ty_ag_22 4 (by rw [pcEnc.len]; omega)
    have hc4 : (Pc.cells x).getD 4 undef = .slice x.W x.w.length x.cw := by rw [List.getD_eq_getElem?_getD, x.cell4]; rfl
    rw [hc4] at hldw
    have bx := (b48.trans (sd8.below _))
    generalize hu8 : w18.drew = u8 at *
    simp (disch := first | with_reducible assumption | omega) only [push_cast, x_blk, x_cd, ↓reduceIte, Nat.reduceEqDiff, List.map_cons, List.map_nil, Int.reduceEq, Int.lt_irrefl, fr, hu8, hldw]
    have hw := hword i x hpk
    have bbx := bb14.trans (bx.mono bb14.size)
    refine fin_3 (hQ _ _ ⟨true, x.W, x.cw, x.w, 0, (by simp only [push_cast, ↓reduceIte, Nat.reduceEqDiff, Int.reduceEq]), ((hro x hmem).keep fun b hb => bx.block b hb.2).mono fun b hb => ⟨by have := hb.1; omega, by have := hb.2; have := bx.size; omega⟩, by omega, bbx, hout _ _ ?_⟩)
    rw [bestF_first hsorted (k := i) (x := x.abs) (by rw [← habs, List.getElem?_map, hpk]; rfl) ht fun j hj y hy => ?_]
    · exact ⟨rfl, rfl⟩
    · rw [← habs, List.getElem?_map] at hy
      obtain ⟨z, hz, rfl⟩ := Option.map_eq_some_iff.1 hy
      exact hno j z hj hz
end Go.Proofs.YtcjinmgieiebbaaDoor
