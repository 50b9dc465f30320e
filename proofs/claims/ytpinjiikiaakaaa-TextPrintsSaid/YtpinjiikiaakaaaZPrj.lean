/-
  Projects: what they are; which may be: the program's May and the reference's: by their contracts.
-/
import Derived.Test.YtpinjiikiaakaaaZStrC
import Derived.Test.YtpinjiikiaakaaaZArgs
namespace Go.Proofs.Ytpinjiikiaakaaa
set_option linter.unusedSimpArgs false
set_option linter.unusedVariables false
set_option linter.unusedSectionVars false
open Go.RowKit

structure Pj where
  S : List ByteArray
  E : List ByteArray
  m : Mach
  seen : List Int
  free : List Int
  faults : List Int
  secret : List Int
structure JV where
  AS : Option Addr
  cS : Nat
  AE : Option Addr
  cE : Nat
  m : MV
  Ap : Option Addr
  cp : Nat
  Af : Option Addr
  cf : Nat
  Au : Option Addr
  cu : Nat
  Aq : Option Addr
  cq : Nat
abbrev JV.cells (a : JV) (p : Pj) : List Value := [.slice a.AS p.S.length a.cS, .slice a.AE p.E.length a.cE, .int .i64 p.m.states, .int .i64 p.m.events, .slice a.m.As p.m.starts.length a.m.cs, .slice a.m.Aa p.m.arrows.length a.m.ca, .slice a.m.Ae p.m.ends.length a.m.ce,
  .slice a.Ap p.seen.length a.cp, .slice a.Af p.free.length a.cf, .slice a.Au p.faults.length a.cu, .slice a.Aq p.secret.length a.cq]
abbrev JV.val (a : JV) (p : Pj) : Value := .agg (a.cells p).toArray
structure IsJ (ok : Nat → Prop) (w : World) (a : JV) (p : Pj) : Prop where
  S : Strs ok w a.AS p.S
  E : Strs ok w a.AE p.E
  m : IsM ok w a.m p.m
  seen : Ints ok w a.Ap p.seen
  free : Ints ok w a.Af p.free
  faults : Ints ok w a.Au p.faults
  secret : Ints ok w a.Aq p.secret
section
variable {u w : World} {ok ok' : Nat → Prop} {a : JV} {p : Pj}
theorem IsJ.mono (h : IsJ ok u a p) (hk : ∀ b, ok b → ok' b) : IsJ ok' u a p := ⟨h.S.mono hk, h.E.mono hk, h.m.mono hk, h.seen.mono hk, h.free.mono hk, h.faults.mono hk, h.secret.mono hk⟩
theorem IsJ.keep (h : IsJ ok u a p) (hk : ∀ b, ok b → w.heap[b]? = u.heap[b]?) : IsJ ok w a p := ⟨h.S.keep hk, h.E.keep hk, h.m.keep hk, h.seen.keep hk, h.free.keep hk, h.faults.keep hk, h.secret.keep hk⟩
theorem IsJ.up (h : IsJ (· < u.heap.size) u a p) (b : Below u.heap.size u w) : IsJ (· < w.heap.size) w a p := (h.keep fun _ hl => b.block _ hl).mono fun _ hl => Nat.lt_of_lt_of_le hl b.size
end
/-- What every project that comes in keeps to. -/
structure Pj.Fits (p : Pj) : Prop where
  S : ∀ s ∈ p.S, s.size ≤ 140737488355328
  E : ∀ s ∈ p.E, s.size ≤ 140737488355328
  nS : p.S.length ≤ 17592186043904
  nE : p.E.length ≤ 17592186043904
  m : p.m.Fits
  n1 : p.seen.length ≤ 17592186043904
  n2 : p.free.length ≤ 17592186043904
  n3 : p.faults.length ≤ 17592186043904
  n4 : p.secret.length ≤ 17592186043904
structure JV.Caps (a : JV) (p : Pj) : Prop where
  S : p.S.length ≤ a.cS
  E : p.E.length ≤ a.cE
  m : a.m.Caps p.m
section
variable {K : Fr → World → Prop} {u w : World} {f : Fr} {d : Option Nat} {g t : Nat} {a : JV} {p : Pj}
theorem Blk.jA (h : Blk u g t (a.cells p)) : Val1 Try.prog K (Instr.loadAt 28 (.pointer (some ⟨g, 0, none⟩))) u f d w = K (updO f d (a.val p)) w := h.ldAll ty_ag_28 ty_sz_28
theorem Blk.jM (h : Blk u g t (a.cells p)) : Val1 Try.prog K (Instr.loadAt 26 (.pointer (some ⟨g, 2, none⟩))) u f d w = K (updO f d (a.m.val p.m)) w :=
  h.ldSub ty_ag_26 2 (vs := a.m.cells p.m) ty_sz_26 fun k v hv => by
    match k, hv with
    | 0, hv => exact hv
    | 1, hv => exact hv
    | 2, hv => exact hv
    | 3, hv => exact hv
    | 4, hv => exact hv
    | k + 5, hv => simp at hv
theorem Blk.jS (h : Blk u g t (a.cells p)) : Val1 Try.prog K (Instr.loadAt 22 (.pointer (some ⟨g, 0, none⟩))) u f d w = K (updO f d (.slice a.AS p.S.length a.cS)) w := h.ld ty_ag_22 0 (by simp)
theorem Blk.jE (h : Blk u g t (a.cells p)) : Val1 Try.prog K (Instr.loadAt 22 (.pointer (some ⟨g, 1, none⟩))) u f d w = K (updO f d (.slice a.AE p.E.length a.cE)) w := h.ld ty_ag_22 1 (by simp)
theorem Blk.jst (h : Blk u g t (a.cells p)) : Val1 Try.prog K (Instr.loadAt 23 (.pointer (some ⟨g, 4, none⟩))) u f d w = K (updO f d (.slice a.m.As p.m.starts.length a.m.cs)) w := h.ld ty_ag_23 4 (by simp)
theorem Blk.jar (h : Blk u g t (a.cells p)) : Val1 Try.prog K (Instr.loadAt 24 (.pointer (some ⟨g, 5, none⟩))) u f d w = K (updO f d (.slice a.m.Aa p.m.arrows.length a.m.ca)) w := h.ld ty_ag_24 5 (by simp)
theorem Blk.jen (h : Blk u g t (a.cells p)) : Val1 Try.prog K (Instr.loadAt 23 (.pointer (some ⟨g, 6, none⟩))) u f d w = K (updO f d (.slice a.m.Ae p.m.ends.length a.m.ce)) w := h.ld ty_ag_23 6 (by simp)
theorem Blk.j1 (h : Blk u g t (a.cells p)) : Val1 Try.prog K (Instr.loadAt 23 (.pointer (some ⟨g, 7, none⟩))) u f d w = K (updO f d (.slice a.Ap p.seen.length a.cp)) w := h.ld ty_ag_23 7 (by simp)
theorem Blk.j2 (h : Blk u g t (a.cells p)) : Val1 Try.prog K (Instr.loadAt 23 (.pointer (some ⟨g, 8, none⟩))) u f d w = K (updO f d (.slice a.Af p.free.length a.cf)) w := h.ld ty_ag_23 8 (by simp)
theorem Blk.j3 (h : Blk u g t (a.cells p)) : Val1 Try.prog K (Instr.loadAt 23 (.pointer (some ⟨g, 9, none⟩))) u f d w = K (updO f d (.slice a.Au p.faults.length a.cu)) w := h.ld ty_ag_23 9 (by simp)
theorem Blk.j4 (h : Blk u g t (a.cells p)) : Val1 Try.prog K (Instr.loadAt 23 (.pointer (some ⟨g, 10, none⟩))) u f d w = K (updO f d (.slice a.Aq p.secret.length a.cq)) w := h.ld ty_ag_23 10 (by simp)
end
/-- The first half of what may be: names and machine. -/
structure Pj.May1 (p : Pj) : Prop where
  s1 : 1 ≤ p.S.length
  s6 : p.S.length ≤ 6
  e8 : p.E.length ≤ 8
  nS : NamesOk p.S
  nE : NamesOk p.E
  m : p.m.May
  st : p.m.states = p.S.length
  ev : p.m.events = p.E.length
structure Pj.May (p : Pj) : Prop extends p.May1 where
  r1 : IsRow p.seen p.m.events
  r2 : IsRow p.free p.m.events
  r3 : IsRow p.faults p.m.events
  r4 : IsRow p.secret p.m.states
theorem e5_machZ (a : MV) (m : Mach) : tySize Try.prog 26 = some (a.cells m).length := ty_sz_26
theorem machZ_one (a : MV) (m : Mach) : (a.cells m).all (·.oneCell') = true := by simp [MV.cells, Value.oneCell']
def machZ : List Value := [.int .i64 0, .int .i64 0, .slice none 0 0, .slice none 0 0, .slice none 0 0]
set_option maxHeartbeats 2000000 in
theorem text_May {w : World} {a : JV} {p : Pj} (ha : IsJ (· < w.heap.size) w a p) (hf : p.Fits) (hc : a.Caps p) :
    Cal Try.prog 6 [a.val p] w fun v w' => (∃ r : Bool, v = .bool r ∧ (r = true ↔ p.May)) ∧ Below w.heap.size w w' := by
  have nS := hf.nS
  have nE := hf.nE
  have n1 := hf.n1
  have n2 := hf.n2
  have n3 := hf.n3
  have n4 := hf.n4
  have zS : ∀ s ∈ p.S, s.size ≤ 9223372036854775806 := fun s hs => by have := hf.S s hs; omega
  have zE : ∀ s ∈ p.E, s.size ≤ 9223372036854775806 := fun s hs => by have := hf.E s hs; omega
  refine cal_text_May (by simp) 1000000 fun Q hQ => ?_
  simp (disch := first | with_reducible assumption | omega) only [push_cast, x_blk, x_cd, ↓reduceIte, Nat.reduceEqDiff, List.map_cons, List.map_nil, Int.reduceEq, Int.lt_irrefl, F_text_May]
  refine blk_of (box_agg _ (a.cells p)) ?_
  intro w1 k1 b1 z1
  simp (disch := first | with_reducible assumption | omega) only [push_cast, x_blk, x_cd, ↓reduceIte, Nat.reduceEqDiff, List.map_cons, List.map_nil, Int.reduceEq, Int.lt_irrefl, k1.jM]
  refine blk_of (cs := machZ) al_26 ?_
  intro w2 k2 b2 z2
  have l1 := k1.lt
  simp (disch := first | with_reducible assumption | omega) only [push_cast, x_blk, x_cd, ↓reduceIte, Nat.reduceEqDiff, List.map_cons, List.map_nil, Int.reduceEq, Int.lt_irrefl]
  refine sto_blk k2 (cs := a.m.cells p.m) (e5_machZ a.m p.m) rfl (machZ_one a.m p.m) ?_
  intro w3 k3 g3 z3
  have b23 := g3.below b2 b2.size (by intro a ha; injection ha with ha; subst ha; exact Nat.le_refl _)
  replace k1 := k1.below b23 k1.lt
  have bb := b1.trans (b23.mono b1.size)
  by_cases p1 : (p.S.length : Int) ≤ 6
  case neg =>
    simp (disch := first | with_reducible assumption | omega) only [push_cast, x_blk, x_cd, ↓reduceIte, Nat.reduceEqDiff, List.map_cons, List.map_nil, Int.reduceEq, Int.lt_irrefl, k1.jS, p1]
    have p1' : ¬ p.S.length ≤ 6 := by omega
    exact fin_1 (hQ _ _ ⟨⟨false, (by simp only [push_cast, ↓reduceIte, Nat.reduceEqDiff, Int.reduceEq]), ⟨fun h => (by cases h), fun hh => absurd hh.s6 (by assumption)⟩⟩, bb⟩)
  by_cases p2 : (p.E.length : Int) ≤ 8
  case neg =>
    simp (disch := first | with_reducible assumption | omega) only [push_cast, x_blk, x_cd, ↓reduceIte, Nat.reduceEqDiff, List.map_cons, List.map_nil, Int.reduceEq, Int.lt_irrefl, k1.jS, p1, k1.jE, p2]
    have p2' : ¬ p.E.length ≤ 8 := by omega
    exact fin_1 (hQ _ _ ⟨⟨false, (by simp only [push_cast, ↓reduceIte, Nat.reduceEqDiff, Int.reduceEq]), ⟨fun h => (by cases h), fun hh => absurd hh.e8 (by assumption)⟩⟩, bb⟩)
  simp (disch := first | with_reducible assumption | omega) only [push_cast, x_blk, x_cd, ↓reduceIte, Nat.reduceEqDiff, List.map_cons, List.map_nil, Int.reduceEq, Int.lt_irrefl, k1.jS, p1, k1.jE, p2]
  refine call_of (text_distinct (ha.up bb).S a.cS (by omega) hc.S zS 1 6) ?_
  rintro v w4 ⟨⟨r4, rfl, h4⟩, s4⟩
  replace k1 := k1.same s4
  replace k3 := k3.same s4
  replace bb := bb.trans (s4.below _)
  cases r4 with
  | false =>
    have q : ¬ (NamesOk p.S ∧ (1 : Int) ≤ p.S.length ∧ (p.S.length : Int) ≤ 6) := fun h => by have := h4.2 h; cases this
    simp (disch := first | with_reducible assumption | omega) only [push_cast, x_blk, x_cd, ↓reduceIte, Nat.reduceEqDiff, List.map_cons, List.map_nil, Int.reduceEq, Int.lt_irrefl]
    exact fin_1 (hQ _ _ ⟨⟨false, (by simp only [push_cast, ↓reduceIte, Nat.reduceEqDiff, Int.reduceEq]), ⟨fun h => (by cases h), fun hh => absurd (⟨hh.nS, by have := hh.s1; omega, by omega⟩ : NamesOk p.S ∧ (1 : Int) ≤ p.S.length ∧ (p.S.length : Int) ≤ 6) (by assumption)⟩⟩, bb⟩)
  | true =>
  have q4 := h4.1 rfl
  simp (disch := first | with_reducible assumption | omega) only [push_cast, x_blk, x_cd, ↓reduceIte, Nat.reduceEqDiff, List.map_cons, List.map_nil, Int.reduceEq, Int.lt_irrefl, k1.jE]
  refine call_of (text_distinct (ha.up bb).E a.cE (by omega) hc.E zE 0 8) ?_
  rintro v w5 ⟨⟨r5, rfl, h5⟩, s5⟩
  replace k1 := k1.same s5
  replace k3 := k3.same s5
  replace bb := bb.trans (s5.below _)
  cases r5 with
  | false =>
    have q : ¬ (NamesOk p.E ∧ (0 : Int) ≤ p.E.length ∧ (p.E.length : Int) ≤ 8) := fun h => by have := h5.2 h; cases this
    simp (disch := first | with_reducible assumption | omega) only [push_cast, x_blk, x_cd, ↓reduceIte, Nat.reduceEqDiff, List.map_cons, List.map_nil, Int.reduceEq, Int.lt_irrefl]
    exact fin_1 (hQ _ _ ⟨⟨false, (by simp only [push_cast, ↓reduceIte, Nat.reduceEqDiff, Int.reduceEq]), ⟨fun h => (by cases h), fun hh => absurd (⟨hh.nE, by omega, by omega⟩ : NamesOk p.E ∧ (0 : Int) ≤ p.E.length ∧ (p.E.length : Int) ≤ 8) (by assumption)⟩⟩, bb⟩)
  | true =>
  have q5 := h5.1 rfl
  simp (disch := first | with_reducible assumption | omega) only [push_cast, x_blk, x_cd, ↓reduceIte, Nat.reduceEqDiff, List.map_cons, List.map_nil, Int.reduceEq, Int.lt_irrefl, k3.mA ty_ag_26 ty_sz_26]
  refine call_of (machine_May (ha.up bb).m hf.m) ?_
  rintro v w6 ⟨rfl, b6⟩
  replace k1 := k1.below b6 k1.lt
  replace k3 := k3.below b6 k3.lt
  replace bb := bb.trans (b6.mono bb.size)
  by_cases qm : p.m.May
  case neg =>
    simp (disch := first | with_reducible assumption | omega) only [push_cast, x_blk, x_cd, ↓reduceIte, Nat.reduceEqDiff, List.map_cons, List.map_nil, Int.reduceEq, Int.lt_irrefl, decide_eq_false qm]
    exact fin_1 (hQ _ _ ⟨⟨false, (by simp only [push_cast, ↓reduceIte, Nat.reduceEqDiff, Int.reduceEq]), ⟨fun h => (by cases h), fun hh => absurd hh.m (by assumption)⟩⟩, bb⟩)
  by_cases p3 : p.m.states = (p.S.length : Int)
  case neg =>
    simp (disch := first | with_reducible assumption | omega) only [push_cast, x_blk, x_cd, ↓reduceIte, Nat.reduceEqDiff, List.map_cons, List.map_nil, Int.reduceEq, Int.lt_irrefl, decide_eq_true qm, k3.m0 ty_ag_3, k1.jS, p3]
    exact fin_1 (hQ _ _ ⟨⟨false, (by simp only [push_cast, ↓reduceIte, Nat.reduceEqDiff, Int.reduceEq]), ⟨fun h => (by cases h), fun hh => absurd hh.st (by assumption)⟩⟩, bb⟩)
  by_cases p4 : p.m.events = (p.E.length : Int)
  case neg =>
    simp (disch := first | with_reducible assumption | omega) only [push_cast, x_blk, x_cd, ↓reduceIte, Nat.reduceEqDiff, List.map_cons, List.map_nil, Int.reduceEq, Int.lt_irrefl, decide_eq_true qm, k3.m0 ty_ag_3, k1.jS, eq_true p3, k3.m1 ty_ag_3, k1.jE, p4]
    exact fin_1 (hQ _ _ ⟨⟨false, (by simp only [push_cast, ↓reduceIte, Nat.reduceEqDiff, Int.reduceEq]), ⟨fun h => (by cases h), fun hh => absurd hh.ev (by assumption)⟩⟩, bb⟩)
  have m1 : p.May1 := ⟨by omega, by omega, by omega, q4.1, q5.1, qm, p3, p4⟩
  simp (disch := first | with_reducible assumption | omega) only [push_cast, x_blk, x_cd, ↓reduceIte, Nat.reduceEqDiff, List.map_cons, List.map_nil, Int.reduceEq, Int.lt_irrefl, decide_eq_true qm, k3.m0 ty_ag_3, k1.jS, eq_true p3, k3.m1 ty_ag_3, k1.jE, eq_true p4, k1.j1]
  refine call_of (row_Is (ha.up bb).seen a.cp p.m.events (by omega)) ?_
  rintro v w7 ⟨rfl, s7⟩
  replace k1 := k1.same s7
  replace k3 := k3.same s7
  replace bb := bb.trans (s7.below _)
  by_cases r1 : IsRow p.seen p.m.events
  case neg =>
    simp (disch := first | with_reducible assumption | omega) only [push_cast, x_blk, x_cd, ↓reduceIte, Nat.reduceEqDiff, List.map_cons, List.map_nil, Int.reduceEq, Int.lt_irrefl, decide_eq_false r1]
    exact fin_1 (hQ _ _ ⟨⟨false, (by simp only [push_cast, ↓reduceIte, Nat.reduceEqDiff, Int.reduceEq]), ⟨fun h => (by cases h), fun hh => absurd hh.r1 (by assumption)⟩⟩, bb⟩)
  simp (disch := first | with_reducible assumption | omega) only [push_cast, x_blk, x_cd, ↓reduceIte, Nat.reduceEqDiff, List.map_cons, List.map_nil, Int.reduceEq, Int.lt_irrefl, decide_eq_true r1, k3.m1 ty_ag_3, k1.j2]
  refine call_of (row_Is (ha.up bb).free a.cf p.m.events (by omega)) ?_
  rintro v w8 ⟨rfl, s8⟩
  replace k1 := k1.same s8
  replace k3 := k3.same s8
  replace bb := bb.trans (s8.below _)
  by_cases r2 : IsRow p.free p.m.events
  case neg =>
    simp (disch := first | with_reducible assumption | omega) only [push_cast, x_blk, x_cd, ↓reduceIte, Nat.reduceEqDiff, List.map_cons, List.map_nil, Int.reduceEq, Int.lt_irrefl, decide_eq_false r2]
    exact fin_1 (hQ _ _ ⟨⟨false, (by simp only [push_cast, ↓reduceIte, Nat.reduceEqDiff, Int.reduceEq]), ⟨fun h => (by cases h), fun hh => absurd hh.r2 (by assumption)⟩⟩, bb⟩)
  simp (disch := first | with_reducible assumption | omega) only [push_cast, x_blk, x_cd, ↓reduceIte, Nat.reduceEqDiff, List.map_cons, List.map_nil, Int.reduceEq, Int.lt_irrefl, decide_eq_true r2, k3.m1 ty_ag_3, k1.j3]
  refine call_of (row_Is (ha.up bb).faults a.cu p.m.events (by omega)) ?_
  rintro v w9 ⟨rfl, s9⟩
  replace k1 := k1.same s9
  replace k3 := k3.same s9
  replace bb := bb.trans (s9.below _)
  by_cases r3 : IsRow p.faults p.m.events
  case neg =>
    simp (disch := first | with_reducible assumption | omega) only [push_cast, x_blk, x_cd, ↓reduceIte, Nat.reduceEqDiff, List.map_cons, List.map_nil, Int.reduceEq, Int.lt_irrefl, decide_eq_false r3]
    exact fin_1 (hQ _ _ ⟨⟨false, (by simp only [push_cast, ↓reduceIte, Nat.reduceEqDiff, Int.reduceEq]), ⟨fun h => (by cases h), fun hh => absurd hh.r3 (by assumption)⟩⟩, bb⟩)
  simp (disch := first | with_reducible assumption | omega) only [push_cast, x_blk, x_cd, ↓reduceIte, Nat.reduceEqDiff, List.map_cons, List.map_nil, Int.reduceEq, Int.lt_irrefl, decide_eq_true r3, k3.m0 ty_ag_3, k1.j4]
  refine call_of (row_Is (ha.up bb).secret a.cq p.m.states (by omega)) ?_
  rintro v w10 ⟨rfl, s10⟩
  replace bb := bb.trans (s10.below _)
  by_cases r4 : IsRow p.secret p.m.states
  case neg =>
    simp (disch := first | with_reducible assumption | omega) only [push_cast, x_blk, x_cd, ↓reduceIte, Nat.reduceEqDiff, List.map_cons, List.map_nil, Int.reduceEq, Int.lt_irrefl, decide_eq_false r4]
    exact fin_1 (hQ _ _ ⟨⟨false, (by simp only [push_cast, ↓reduceIte, Nat.reduceEqDiff, Int.reduceEq]), ⟨fun h => (by cases h), fun hh => absurd hh.r4 (by assumption)⟩⟩, bb⟩)
  simp (disch := first | with_reducible assumption | omega) only [push_cast, x_blk, x_cd, ↓reduceIte, Nat.reduceEqDiff, List.map_cons, List.map_nil, Int.reduceEq, Int.lt_irrefl, decide_eq_true r4]
  exact fin_1 (hQ _ _ ⟨⟨true, (by simp only [push_cast, ↓reduceIte, Nat.reduceEqDiff, Int.reduceEq]), ⟨fun _ => ⟨m1, r1, r2, r3, r4⟩, fun _ => rfl⟩⟩, bb⟩)
set_option maxHeartbeats 2000000 in
theorem ref16_May {w : World} {a : JV} {p : Pj} (ha : IsJ (· < w.heap.size) w a p) (hf : p.Fits) (hc : a.Caps p) :
    Cal Try.prog 10 [a.val p] w fun v w' => (∃ r : Bool, v = .bool r ∧ (r = true ↔ p.May)) ∧ Below w.heap.size w w' := by
  have nS := hf.nS
  have nE := hf.nE
  have n1 := hf.n1
  have n2 := hf.n2
  have n3 := hf.n3
  have n4 := hf.n4
  have zS : ∀ s ∈ p.S, s.size ≤ 9223372036854775806 := fun s hs => by have := hf.S s hs; omega
  have zE : ∀ s ∈ p.E, s.size ≤ 9223372036854775806 := fun s hs => by have := hf.E s hs; omega
  refine cal_ref16_May (by simp) 1000000 fun Q hQ => ?_
  simp (disch := first | with_reducible assumption | omega) only [push_cast, x_blk, x_cd, ↓reduceIte, Nat.reduceEqDiff, List.map_cons, List.map_nil, Int.reduceEq, Int.lt_irrefl, F_ref16_May]
  refine blk_of (box_agg _ (a.cells p)) ?_
  intro w1 k1 b1 z1
  simp (disch := first | with_reducible assumption | omega) only [push_cast, x_blk, x_cd, ↓reduceIte, Nat.reduceEqDiff, List.map_cons, List.map_nil, Int.reduceEq, Int.lt_irrefl, k1.jM]
  refine blk_of (cs := machZ) al_26 ?_
  intro w2 k2 b2 z2
  have l1 := k1.lt
  simp (disch := first | with_reducible assumption | omega) only [push_cast, x_blk, x_cd, ↓reduceIte, Nat.reduceEqDiff, List.map_cons, List.map_nil, Int.reduceEq, Int.lt_irrefl]
  refine sto_blk k2 (cs := a.m.cells p.m) (e5_machZ a.m p.m) rfl (machZ_one a.m p.m) ?_
  intro w3 k3 g3 z3
  have b23 := g3.below b2 b2.size (by intro a ha; injection ha with ha; subst ha; exact Nat.le_refl _)
  replace k1 := k1.below b23 k1.lt
  have bb := b1.trans (b23.mono b1.size)
  by_cases p0 : (p.S.length : Int) < 1
  · simp (disch := first | with_reducible assumption | omega) only [push_cast, x_blk, x_cd, ↓reduceIte, Nat.reduceEqDiff, List.map_cons, List.map_nil, Int.reduceEq, Int.lt_irrefl, k1.jS, p0]
    have p0' : ¬ 1 ≤ p.S.length := by omega
    exact fin_1 (hQ _ _ ⟨⟨false, (by simp only [push_cast, ↓reduceIte, Nat.reduceEqDiff, Int.reduceEq]), ⟨fun h => (by cases h), fun hh => absurd hh.s1 (by assumption)⟩⟩, bb⟩)
  by_cases p1 : (6 : Int) < (p.S.length : Int)
  · simp (disch := first | with_reducible assumption | omega) only [push_cast, x_blk, x_cd, ↓reduceIte, Nat.reduceEqDiff, List.map_cons, List.map_nil, Int.reduceEq, Int.lt_irrefl, k1.jS, p0, p1]
    have p1' : ¬ p.S.length ≤ 6 := by omega
    exact fin_1 (hQ _ _ ⟨⟨false, (by simp only [push_cast, ↓reduceIte, Nat.reduceEqDiff, Int.reduceEq]), ⟨fun h => (by cases h), fun hh => absurd hh.s6 (by assumption)⟩⟩, bb⟩)
  by_cases p2 : (8 : Int) < (p.E.length : Int)
  · simp (disch := first | with_reducible assumption | omega) only [push_cast, x_blk, x_cd, ↓reduceIte, Nat.reduceEqDiff, List.map_cons, List.map_nil, Int.reduceEq, Int.lt_irrefl, k1.jS, p0, p1, k1.jE, p2]
    have p2' : ¬ p.E.length ≤ 8 := by omega
    exact fin_1 (hQ _ _ ⟨⟨false, (by simp only [push_cast, ↓reduceIte, Nat.reduceEqDiff, Int.reduceEq]), ⟨fun h => (by cases h), fun hh => absurd hh.e8 (by assumption)⟩⟩, bb⟩)
  simp (disch := first | with_reducible assumption | omega) only [push_cast, x_blk, x_cd, ↓reduceIte, Nat.reduceEqDiff, List.map_cons, List.map_nil, Int.reduceEq, Int.lt_irrefl, k1.jS, p0, p1, k1.jE, p2]
  refine call_of (ref16_names (ha.up bb).S a.cS (by omega) hc.S zS) ?_
  rintro v w4 ⟨⟨r4, rfl, h4⟩, s4⟩
  replace k1 := k1.same s4
  replace k3 := k3.same s4
  replace bb := bb.trans (s4.below _)
  cases r4 with
  | false =>
    have q : ¬ NamesOk p.S := fun h => by have := h4.2 h; cases this
    simp (disch := first | with_reducible assumption | omega) only [push_cast, x_blk, x_cd, ↓reduceIte, Nat.reduceEqDiff, List.map_cons, List.map_nil, Int.reduceEq, Int.lt_irrefl]
    exact fin_1 (hQ _ _ ⟨⟨false, (by simp only [push_cast, ↓reduceIte, Nat.reduceEqDiff, Int.reduceEq]), ⟨fun h => (by cases h), fun hh => absurd hh.nS (by assumption)⟩⟩, bb⟩)
  | true =>
  have q4 := h4.1 rfl
  simp (disch := first | with_reducible assumption | omega) only [push_cast, x_blk, x_cd, ↓reduceIte, Nat.reduceEqDiff, List.map_cons, List.map_nil, Int.reduceEq, Int.lt_irrefl, k1.jE]
  refine call_of (ref16_names (ha.up bb).E a.cE (by omega) hc.E zE) ?_
  rintro v w5 ⟨⟨r5, rfl, h5⟩, s5⟩
  replace k1 := k1.same s5
  replace k3 := k3.same s5
  replace bb := bb.trans (s5.below _)
  cases r5 with
  | false =>
    have q : ¬ NamesOk p.E := fun h => by have := h5.2 h; cases this
    simp (disch := first | with_reducible assumption | omega) only [push_cast, x_blk, x_cd, ↓reduceIte, Nat.reduceEqDiff, List.map_cons, List.map_nil, Int.reduceEq, Int.lt_irrefl]
    exact fin_1 (hQ _ _ ⟨⟨false, (by simp only [push_cast, ↓reduceIte, Nat.reduceEqDiff, Int.reduceEq]), ⟨fun h => (by cases h), fun hh => absurd hh.nE (by assumption)⟩⟩, bb⟩)
  | true =>
  have q5 := h5.1 rfl
  simp (disch := first | with_reducible assumption | omega) only [push_cast, x_blk, x_cd, ↓reduceIte, Nat.reduceEqDiff, List.map_cons, List.map_nil, Int.reduceEq, Int.lt_irrefl, k3.mA ty_ag_26 ty_sz_26]
  refine call_of (ref2_May (ha.up bb).m hf.m) ?_
  rintro v w6 ⟨rfl, b6⟩
  replace k1 := k1.below b6 k1.lt
  replace k3 := k3.below b6 k3.lt
  replace bb := bb.trans (b6.mono bb.size)
  by_cases qm : p.m.May
  case neg =>
    simp (disch := first | with_reducible assumption | omega) only [push_cast, x_blk, x_cd, ↓reduceIte, Nat.reduceEqDiff, List.map_cons, List.map_nil, Int.reduceEq, Int.lt_irrefl, decide_eq_false qm]
    exact fin_1 (hQ _ _ ⟨⟨false, (by simp only [push_cast, ↓reduceIte, Nat.reduceEqDiff, Int.reduceEq]), ⟨fun h => (by cases h), fun hh => absurd hh.m (by assumption)⟩⟩, bb⟩)
  by_cases p3 : p.m.states = (p.S.length : Int)
  case neg =>
    simp (disch := first | with_reducible assumption | omega) only [push_cast, x_blk, x_cd, ↓reduceIte, Nat.reduceEqDiff, List.map_cons, List.map_nil, Int.reduceEq, Int.lt_irrefl, decide_eq_true qm, k3.m0 ty_ag_3, k1.jS, p3]
    exact fin_1 (hQ _ _ ⟨⟨false, (by simp only [push_cast, ↓reduceIte, Nat.reduceEqDiff, Int.reduceEq]), ⟨fun h => (by cases h), fun hh => absurd hh.st (by assumption)⟩⟩, bb⟩)
  by_cases p4 : p.m.events = (p.E.length : Int)
  case neg =>
    simp (disch := first | with_reducible assumption | omega) only [push_cast, x_blk, x_cd, ↓reduceIte, Nat.reduceEqDiff, List.map_cons, List.map_nil, Int.reduceEq, Int.lt_irrefl, decide_eq_true qm, k3.m0 ty_ag_3, k1.jS, eq_true p3, k3.m1 ty_ag_3, k1.jE, p4]
    exact fin_1 (hQ _ _ ⟨⟨false, (by simp only [push_cast, ↓reduceIte, Nat.reduceEqDiff, Int.reduceEq]), ⟨fun h => (by cases h), fun hh => absurd hh.ev (by assumption)⟩⟩, bb⟩)
  have m1 : p.May1 := ⟨by omega, by omega, by omega, q4, q5, qm, p3, p4⟩
  simp (disch := first | with_reducible assumption | omega) only [push_cast, x_blk, x_cd, ↓reduceIte, Nat.reduceEqDiff, List.map_cons, List.map_nil, Int.reduceEq, Int.lt_irrefl, decide_eq_true qm, k3.m0 ty_ag_3, k1.jS, eq_true p3, k3.m1 ty_ag_3, k1.jE, eq_true p4, k1.j1]
  refine call_of (ref1_Is (ha.up bb).seen a.cp p.m.events (by omega)) ?_
  rintro v w7 ⟨rfl, s7⟩
  replace k1 := k1.same s7
  replace k3 := k3.same s7
  replace bb := bb.trans (s7.below _)
  by_cases r1 : IsRow p.seen p.m.events
  case neg =>
    simp (disch := first | with_reducible assumption | omega) only [push_cast, x_blk, x_cd, ↓reduceIte, Nat.reduceEqDiff, List.map_cons, List.map_nil, Int.reduceEq, Int.lt_irrefl, decide_eq_false r1]
    exact fin_1 (hQ _ _ ⟨⟨false, (by simp only [push_cast, ↓reduceIte, Nat.reduceEqDiff, Int.reduceEq]), ⟨fun h => (by cases h), fun hh => absurd hh.r1 (by assumption)⟩⟩, bb⟩)
  simp (disch := first | with_reducible assumption | omega) only [push_cast, x_blk, x_cd, ↓reduceIte, Nat.reduceEqDiff, List.map_cons, List.map_nil, Int.reduceEq, Int.lt_irrefl, decide_eq_true r1, k3.m1 ty_ag_3, k1.j2]
  refine call_of (ref1_Is (ha.up bb).free a.cf p.m.events (by omega)) ?_
  rintro v w8 ⟨rfl, s8⟩
  replace k1 := k1.same s8
  replace k3 := k3.same s8
  replace bb := bb.trans (s8.below _)
  by_cases r2 : IsRow p.free p.m.events
  case neg =>
    simp (disch := first | with_reducible assumption | omega) only [push_cast, x_blk, x_cd, ↓reduceIte, Nat.reduceEqDiff, List.map_cons, List.map_nil, Int.reduceEq, Int.lt_irrefl, decide_eq_false r2]
    exact fin_1 (hQ _ _ ⟨⟨false, (by simp only [push_cast, ↓reduceIte, Nat.reduceEqDiff, Int.reduceEq]), ⟨fun h => (by cases h), fun hh => absurd hh.r2 (by assumption)⟩⟩, bb⟩)
  simp (disch := first | with_reducible assumption | omega) only [push_cast, x_blk, x_cd, ↓reduceIte, Nat.reduceEqDiff, List.map_cons, List.map_nil, Int.reduceEq, Int.lt_irrefl, decide_eq_true r2, k3.m1 ty_ag_3, k1.j3]
  refine call_of (ref1_Is (ha.up bb).faults a.cu p.m.events (by omega)) ?_
  rintro v w9 ⟨rfl, s9⟩
  replace k1 := k1.same s9
  replace k3 := k3.same s9
  replace bb := bb.trans (s9.below _)
  by_cases r3 : IsRow p.faults p.m.events
  case neg =>
    simp (disch := first | with_reducible assumption | omega) only [push_cast, x_blk, x_cd, ↓reduceIte, Nat.reduceEqDiff, List.map_cons, List.map_nil, Int.reduceEq, Int.lt_irrefl, decide_eq_false r3]
    exact fin_1 (hQ _ _ ⟨⟨false, (by simp only [push_cast, ↓reduceIte, Nat.reduceEqDiff, Int.reduceEq]), ⟨fun h => (by cases h), fun hh => absurd hh.r3 (by assumption)⟩⟩, bb⟩)
  simp (disch := first | with_reducible assumption | omega) only [push_cast, x_blk, x_cd, ↓reduceIte, Nat.reduceEqDiff, List.map_cons, List.map_nil, Int.reduceEq, Int.lt_irrefl, decide_eq_true r3, k3.m0 ty_ag_3, k1.j4]
  refine call_of (ref1_Is (ha.up bb).secret a.cq p.m.states (by omega)) ?_
  rintro v w10 ⟨rfl, s10⟩
  replace bb := bb.trans (s10.below _)
  by_cases r4 : IsRow p.secret p.m.states
  case neg =>
    simp (disch := first | with_reducible assumption | omega) only [push_cast, x_blk, x_cd, ↓reduceIte, Nat.reduceEqDiff, List.map_cons, List.map_nil, Int.reduceEq, Int.lt_irrefl, decide_eq_false r4]
    exact fin_1 (hQ _ _ ⟨⟨false, (by simp only [push_cast, ↓reduceIte, Nat.reduceEqDiff, Int.reduceEq]), ⟨fun h => (by cases h), fun hh => absurd hh.r4 (by assumption)⟩⟩, bb⟩)
  simp (disch := first | with_reducible assumption | omega) only [push_cast, x_blk, x_cd, ↓reduceIte, Nat.reduceEqDiff, List.map_cons, List.map_nil, Int.reduceEq, Int.lt_irrefl, decide_eq_true r4]
  exact fin_1 (hQ _ _ ⟨⟨true, (by simp only [push_cast, ↓reduceIte, Nat.reduceEqDiff, Int.reduceEq]), ⟨fun _ => ⟨m1, r1, r2, r3, r4⟩, fun _ => rfl⟩⟩, bb⟩)
end Go.Proofs.Ytpinjiikiaakaaa
