/-
  Chapter 7: the reference's places: by their contracts.
  Chapter 7: the reference's Places, Without, Within: by their contracts.
  Chapter 7: the reference's Without, Within; the program's Within; the law WithinTells.
  Chapter 7: the program's Within and the reference's; the law WithinTells: it returns true.
-/
import Derived.Test.YtcjedgiglimipaaDoorZWithin
import Derived.Test.YtcjedgiglimipaaDoorZRow
import Derived.Test.YtcjedgiglimipaaDoorZMach
namespace Go.Proofs.YtcjedgiglimipaaDoor
set_option linter.unusedSimpArgs false
set_option linter.unusedVariables false
set_option linter.unusedSectionVars false
section
open Go.RowKit

structure P7 where
  A : Option Addr
  ca : Nat
  a : List Int
  B : Option Addr
  cb : Nat
  b : List Int
  W : Option Addr
  cw : Nat
  w : List Int
def P7.cells (p : P7) : List Value := [.slice p.A p.a.length p.ca, .slice p.B p.b.length p.cb, .slice p.W p.w.length p.cw]
structure P7.Good (B e : Nat) (w : World) (p : P7) : Prop where
  a : RowT B e w p.A p.a
  b : RowT B e w p.B p.b
  w : RowT B e w p.W p.w
  n : p.a.length ≤ 2147483648 ∧ p.b.length ≤ 2147483648 ∧ p.w.length ≤ 2147483648
theorem P7.Good.below {B e : Nat} {w w' : World} {p : P7} (h : P7.Good B e w p) (hb : Below w.heap.size w w') : P7.Good B e w' p := ⟨h.a.below hb, h.b.below hb, h.w.below hb, h.n⟩

end

section
open Go.RowKit

end

section
open Go.RowKit

def found2 (ma mb : Mach) (s : St) : Bool := decide (MeetL s.1 ma.ends) && !decide (MeetL s.2 mb.ends)
end

section
open Go.RowKit

def WithinSpec (ma mb : Mach) (bo : Bool) (o : List Int) (e : Int) : Prop :=
  (¬ (ma.May ∧ mb.May) → bo = false ∧ o = [] ∧ e = 2) ∧ ((ma.May ∧ mb.May) ∧ ma.events ≠ mb.events → bo = false ∧ o = [] ∧ e = 3) ∧
  ((ma.May ∧ mb.May) ∧ ma.events = mb.events ∧ ¬ (ma.states ≤ 6 ∧ mb.states ≤ 6) → bo = false ∧ o = [] ∧ e = 1) ∧
  ((ma.May ∧ mb.May) ∧ ma.events = mb.events ∧ ma.states ≤ 6 ∧ mb.states ≤ 6 → e = 0 ∧ FirstIs (step2 ma mb) (found2 ma mb) (evs ma.events.toNat) (ma.starts, mb.starts) (!bo) o)
theorem spec_may {ma mb : Mach} (h : ¬ (ma.May ∧ mb.May)) : WithinSpec ma mb false [] 2 := ⟨fun _ => ⟨rfl, rfl, rfl⟩, fun hh => absurd hh.1 h, fun hh => absurd hh.1 h, fun hh => absurd hh.1 h⟩
theorem spec_kind {ma mb : Mach} (h : ma.May ∧ mb.May) (h2 : ma.events ≠ mb.events) : WithinSpec ma mb false [] 3 := ⟨fun hh => absurd h hh, fun _ => ⟨rfl, rfl, rfl⟩, fun hh => absurd hh.2.1 h2, fun hh => absurd hh.2.1 h2⟩
theorem spec_size {ma mb : Mach} (h : ma.May ∧ mb.May) (h2 : ma.events = mb.events) (h3 : ¬ (ma.states ≤ 6 ∧ mb.states ≤ 6)) : WithinSpec ma mb false [] 1 := ⟨fun hh => absurd h hh, fun hh => absurd h2 hh.2, fun _ => ⟨rfl, rfl, rfl⟩, fun hh => absurd hh.2.2 h3⟩
theorem spec_ok {ma mb : Mach} (h : ma.May ∧ mb.May) (h2 : ma.events = mb.events) (h3 : ma.states ≤ 6 ∧ mb.states ≤ 6) {b : Bool} {o : List Int} (hf : FirstIs (step2 ma mb) (found2 ma mb) (evs ma.events.toNat) (ma.starts, mb.starts) b o) : WithinSpec ma mb (!b) o 0 :=
  ⟨fun hh => absurd h hh, fun hh => absurd h2 hh.2, fun hh => absurd h3 hh.2.2, fun _ => ⟨rfl, by rw [Bool.not_not]; exact hf⟩⟩
def WithinRes (B : Prop) (ma mb : Mach) (w : World) (v : Value) (w' : World) : Prop :=
  ∃ (bo : Bool) (O : Option Addr) (co : Nat) (o : List Int) (e : Int), v = .tuple #[.bool bo, .slice O o.length co, .int .i64 e] ∧ Ints (· < w'.heap.size) w' O o ∧ Below w.heap.size w w' ∧ WithinSpec ma mb bo o e ∧ (B → o.length ≤ 2147483648)

theorem sto_set {K : Fr → World → Prop} {f : Fr} {d : Option Nat} {w : World} {g : Nat} {l0 l : List Int} (hk : Blk w g 76 (setCells (wordsOf l0)))
    (h : ∀ w', Blk w' g 76 (setCells (wordsOf l)) → Grew w w' (some ⟨g, 0, none⟩) → w'.heap.size = w.heap.size → K (updO f d undef) w') :
    Eff1 Tryd.prog K (do Instr.storeAt 76 (.pointer (some ⟨g, 0, none⟩)) (setV l); pure undef) f d w :=
  sto_blk hk (by rw [setCells_4]; exact ty_sz_76) (by rw [setCells_4, setCells_4]) (setCells_one _) h

theorem within_Within {w : World} {a b : MV} {ma mb : Mach} (ha : IsM (· < w.heap.size) w a ma) (hb : IsM (· < w.heap.size) w b mb) (fa : ma.Fits) (fb : mb.Fits) :
    Cal Tryd.prog 45 [a.val ma, b.val mb] w (WithinRes False ma mb w) := by
  refine cal_within_Within (by simp) 100000 fun Q hQ => ?_
  simp (disch := first | with_reducible assumption | omega) only [push_cast, x_blk, x_cd, ↓reduceIte, Nat.reduceEqDiff, List.map_cons, List.map_nil, Int.reduceEq, Int.lt_irrefl, F_within_Within]
  refine blk_of (box_agg _ (a.cells ma)) ?_
  intro w1 k1 b1 z1
  simp (disch := first | with_reducible assumption | omega) only [push_cast, x_blk, x_cd, ↓reduceIte, Nat.reduceEqDiff, List.map_cons, List.map_nil, Int.reduceEq, Int.lt_irrefl]
  refine blk_of (box_agg _ (b.cells mb)) ?_
  intro w2 k2 b2 z2
  have k1 := k1.below b2 k1.lt
  have bb := b1.trans (b2.mono b1.size)
  have up : ∀ {w' : World} {c : MV} {mc : Mach}, IsM (· < w.heap.size) w c mc → Below w.heap.size w w' → IsM (· < w'.heap.size) w' c mc := fun {w' c mc} h hb => (h.below hb).mono fun b hl => Nat.lt_of_lt_of_le hl hb.size
  simp (disch := first | with_reducible assumption | omega) only [push_cast, x_blk, x_cd, ↓reduceIte, Nat.reduceEqDiff, List.map_cons, List.map_nil, Int.reduceEq, Int.lt_irrefl, k1.mA ty_ag_25 ty_sz_25]
  refine call_of (machine_May (up ha bb) fa) ?_
  rintro v w3 ⟨rfl, b3⟩
  replace k1 := k1.below b3 k1.lt
  replace k2 := k2.below b3 k2.lt
  replace bb := bb.trans (b3.mono bb.size)
  by_cases p1 : ma.May
  case neg =>
    have hsp := spec_may (ma := ma) (mb := mb) (fun h => p1 h.1)
    simp (disch := first | with_reducible assumption | omega) only [push_cast, x_blk, x_cd, ↓reduceIte, Nat.reduceEqDiff, List.map_cons, List.map_nil, Int.reduceEq, Int.lt_irrefl, p1]
    exact fin_3 (hQ _ _ ⟨false, none, 0, [], _, (by simp only [push_cast, ↓reduceIte, Nat.reduceEqDiff, Int.reduceEq, List.length_nil]), Ints.nil _ _ _, bb, hsp, fun _ => by simp⟩)
  simp (disch := first | with_reducible assumption | omega) only [push_cast, x_blk, x_cd, ↓reduceIte, Nat.reduceEqDiff, List.map_cons, List.map_nil, Int.reduceEq, Int.lt_irrefl, p1, k2.mA ty_ag_25 ty_sz_25]
  refine call_of (machine_May (up hb bb) fb) ?_
  rintro v w4 ⟨rfl, b4⟩
  replace k1 := k1.below b4 k1.lt
  replace k2 := k2.below b4 k2.lt
  replace bb := bb.trans (b4.mono bb.size)
  by_cases p2 : mb.May
  case neg =>
    have hsp := spec_may (ma := ma) (mb := mb) (fun h => p2 h.2)
    simp (disch := first | with_reducible assumption | omega) only [push_cast, x_blk, x_cd, ↓reduceIte, Nat.reduceEqDiff, List.map_cons, List.map_nil, Int.reduceEq, Int.lt_irrefl, p2]
    exact fin_3 (hQ _ _ ⟨false, none, 0, [], _, (by simp only [push_cast, ↓reduceIte, Nat.reduceEqDiff, Int.reduceEq, List.length_nil]), Ints.nil _ _ _, bb, hsp, fun _ => by simp⟩)
  by_cases p3 : ma.events = mb.events
  case neg =>
    have hsp := spec_kind ⟨p1, p2⟩ p3
    simp (disch := first | with_reducible assumption | omega) only [push_cast, x_blk, x_cd, ↓reduceIte, Nat.reduceEqDiff, List.map_cons, List.map_nil, Int.reduceEq, Int.lt_irrefl, p2, p3, k1.m1 ty_ag_3, k2.m1 ty_ag_3]
    exact fin_3 (hQ _ _ ⟨false, none, 0, [], _, (by simp only [push_cast, ↓reduceIte, Nat.reduceEqDiff, Int.reduceEq, List.length_nil]), Ints.nil _ _ _, bb, hsp, fun _ => by simp⟩)
  by_cases p4 : 6 < ma.states
  · have hsp := spec_size ⟨p1, p2⟩ p3 (fun h => by omega)
    simp (disch := first | with_reducible assumption | omega) only [push_cast, x_blk, x_cd, ↓reduceIte, Nat.reduceEqDiff, List.map_cons, List.map_nil, Int.reduceEq, Int.lt_irrefl, p2, p3, eq_self, p4, k1.m1 ty_ag_3, k2.m1 ty_ag_3, k1.m0 ty_ag_3]
    exact fin_3 (hQ _ _ ⟨false, none, 0, [], _, (by simp only [push_cast, ↓reduceIte, Nat.reduceEqDiff, Int.reduceEq, List.length_nil]), Ints.nil _ _ _, bb, hsp, fun _ => by simp⟩)
  by_cases p5 : 6 < mb.states
  · have hsp := spec_size ⟨p1, p2⟩ p3 (fun h => by omega)
    simp (disch := first | with_reducible assumption | omega) only [push_cast, x_blk, x_cd, ↓reduceIte, Nat.reduceEqDiff, List.map_cons, List.map_nil, Int.reduceEq, Int.lt_irrefl, p2, p3, eq_self, p4, p5, k1.m1 ty_ag_3, k2.m1 ty_ag_3, k1.m0 ty_ag_3, k2.m0 ty_ag_3]
    exact fin_3 (hQ _ _ ⟨false, none, 0, [], _, (by simp only [push_cast, ↓reduceIte, Nat.reduceEqDiff, Int.reduceEq, List.length_nil]), Ints.nil _ _ _, bb, hsp, fun _ => by simp⟩)
  have na := fa.lenE
  have nb := fb.lenE
  have ra : Small ma.ends := (show IsRow ma.ends ma.states from p1.2.2.2.2.2.2.1).small p1.2.1
  have rb : Small mb.ends := (show IsRow mb.ends mb.states from p2.2.2.2.2.2.2.1).small p2.2.1
  have k1d := k1.drew
  have k2d := k2.drew
  have hau := (up ha bb)
  have hbu := (up hb bb)
  generalize hu : w4.drew = u at *
  have s4 : Same w4 u := hu ▸ (Same.refl w4).drew
  have zu : w4.heap.size = u.heap.size := by rw [s4.heap]
  replace hau : IsM (· < u.heap.size) u a ma := (hau.same s4).mono fun b hb => by omega
  replace hbu : IsM (· < u.heap.size) u b mb := (hbu.same s4).mono fun b hb => by omega
  have bbu := bb.trans (s4.below _)
  have bu : Below u.heap.size u u := Below.refl _ _
  simp (disch := first | with_reducible assumption | omega) only [push_cast, x_blk, x_cd, ↓reduceIte, Nat.reduceEqDiff, List.map_cons, List.map_nil, Int.reduceEq, Int.lt_irrefl, p2, p3, eq_self, p4, p5, hu, k1.m1 ty_ag_3, k2.m1 ty_ag_3, k1.m0 ty_ag_3, k2.m0 ty_ag_3, k1d.m4 ty_ag_22, k2d.m4 ty_ag_22]
  refine cutT (fun f' w' => ∃ g7 g8 : Nat, (f' 2 = .pointer (some ⟨w.heap.size, 0, none⟩) ∧ f' 3 = .pointer (some ⟨w1.heap.size, 0, none⟩) ∧ f' 7 = .pointer (some ⟨g7, 0, none⟩) ∧ f' 8 = .pointer (some ⟨g8, 0, none⟩)) ∧
      Blk w' g7 76 (setCells (wordsOf ma.ends)) ∧ Blk w' g8 76 (setCells (wordsOf mb.ends)) ∧ Below u.heap.size u w') 20000 40000 (by decide) ?_ ?_
  · intro E hE
    repeat'
      first
      | (with_reducible refine And.intro bu ?_)
      | (with_reducible refine And.intro ?_ ?_)
      | (simp only [x_t_two]; with_reducible refine And.intro ?_ ?_)
      | simp (disch := first | with_reducible assumption | omega) only [push_cast, x_blk, x_cd, ↓reduceIte, Nat.reduceEqDiff, List.map_cons, List.map_nil, Int.reduceEq, Int.lt_irrefl]
      | (with_reducible show Eff1 _ _ _ _ (some 7) _
         refine blk_of (cs := setCells (wordsOf [])) al_76 ?_
         try have l8 := k8.lt
         have s7 := bu.size
         intro wn k7 bn zn
         try have k8 := k8.below bn k8.lt
         have bu := bu.trans (bn.mono bu.size))
      | (with_reducible show Eff1 _ _ _ _ (some 8) _
         refine blk_of (cs := setCells (wordsOf [])) al_76 ?_
         try have l7 := k7.lt
         have s8 := bu.size
         intro wn k8 bn zn
         try have k7 := k7.below bn k7.lt
         have bu := bu.trans (bn.mono bu.size))
      | (with_reducible show CallX _ _ _ _ _ (some 37) _
         refine call_of (machine_Of' ((hau.ends.below bu).mono fun b hb => Nat.lt_of_lt_of_le hb bu.size) a.ce (by omega) ra) ?_
         rintro v wn ⟨rfl, bn⟩
         try have k7 := k7.below bn k7.lt
         try have k8 := k8.below bn k8.lt
         have bu := bu.trans (bn.mono bu.size))
      | (with_reducible show CallX _ _ _ _ _ (some 40) _
         refine call_of (machine_Of' ((hbu.ends.below bu).mono fun b hb => Nat.lt_of_lt_of_le hb bu.size) b.ce (by omega) rb) ?_
         rintro v wn ⟨rfl, bn⟩
         try have k7 := k7.below bn k7.lt
         try have k8 := k8.below bn k8.lt
         have bu := bu.trans (bn.mono bu.size))
      | (with_reducible refine sto_set k7 ?_
         intro wn k7n gn zn
         have k8 := k8.grown gn.by_ (by simp <;> omega)
         have bu := gn.below bu bu.size (by intro a ha; injection ha with ha; subst ha; simp <;> omega)
         have k7 := k7n)
      | (with_reducible refine sto_set k8 ?_
         intro wn k8n gn zn
         have k7 := k7.grown gn.by_ (by simp <;> omega)
         have bu := gn.below bu bu.size (by intro a ha; injection ha with ha; subst ha; simp <;> omega)
         have k8 := k8n)
      | (with_reducible refine hE _ _ ⟨_, _, ?_, k7, k8, bu⟩
         simp only [push_cast, ↓reduceIte, Nat.reduceEqDiff, true_and, and_true, and_self, eq_self]
         done)
  · rintro f w5 ⟨g7, g8, fr, k7, k8, b5⟩
    have bw5 := bbu.trans (b5.mono bbu.size)
    have k1' := k1d.below b5 k1d.lt
    have k2' := k2d.below b5 k2d.lt
    simp (disch := first | with_reducible assumption | omega) only [push_cast, x_blk, x_cd, ↓reduceIte, Nat.reduceEqDiff, List.map_cons, List.map_nil, Int.reduceEq, Int.lt_irrefl, fr, k1'.mA ty_ag_25 ty_sz_25, k2'.mA ty_ag_25 ty_sz_25]
    refine call_of (within_Least (found := found2 ma mb) (up ha bw5) (up hb bw5) p1 p2 (by omega) (by omega) (fun w' hw s hs => within_Within_1 (k7.below hw k7.lt) (k8.below hw k8.lt) hs)) ?_
    rintro v w6 ⟨O, co, o, bo, rfl, ho, b6, hfi⟩
    simp (disch := first | with_reducible assumption | omega) only [push_cast, x_blk, x_cd, ↓reduceIte, Nat.reduceEqDiff, List.map_cons, List.map_nil, Int.reduceEq, Int.lt_irrefl]
    exact fin_3 (hQ _ _ ⟨!bo, O, co, o, 0, (by simp only [push_cast, ↓reduceIte, Nat.reduceEqDiff, Int.reduceEq]), (OwnI.ints ho).lt, bw5.trans (b6.mono bw5.size), spec_ok ⟨p1, p2⟩ p3 ⟨by omega, by omega⟩ hfi, fun h => h.elim⟩)

end
end Go.Proofs.YtcjedgiglimipaaDoor
