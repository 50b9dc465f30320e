/-
  Chapter 12's reference: Told: by its contract.
-/
import Derived.Test.YtcjinmgieiebbaaZToldD
import Derived.Test.YtcjinmgieiebbaaZTyB
namespace Go.Proofs.Ytcjinmgieiebbaa
set_option linter.unusedSimpArgs false
set_option linter.unusedVariables false
set_option linter.unusedSectionVars false
open Go.RowKit

structure TE where
  A : Option Addr
  c : Nat
  ps : List Atp
def TE.cells (x : TE) : List Value := [.slice x.A x.ps.length x.c]
theorem teEnc : Enc TE.cells 1 := ⟨fun _ => rfl, fun h u hu => by
  unfold TE.cells at hu
  rw [List.mem_singleton.1 hu]; rfl⟩
abbrev esT : List Nat := [3, 98]
structure PlsT (B : Nat) (w : World) (x : TE) : Prop where
  recs : Recs Atp.cells 2 (TyB esT B w) w x.A x.ps
  row : ∀ y ∈ x.ps, Ints (TyB esT B w) w y.R y.s ∧ y.s.length ≤ 256
  n : x.ps.length ≤ 384
theorem PlsT.keep {B : Nat} {w w' : World} {x : TE} (h : PlsT B w x) (k : KeepT esT B w w') : PlsT B w' x := ⟨h.recs.keepT k, fun y hy => ⟨(h.row y hy).1.keepT k, (h.row y hy).2⟩, h.n⟩
/-- A row that can be read. -/
structure HdT (B : Nat) (w : World) (x : Hd) : Prop where
  row : Ints (TyB esT B w) w x.A x.l
  n : x.l.length ≤ 100000
theorem HdT.keep {B : Nat} {w w' : World} {x : Hd} (h : HdT B w x) (k : KeepT esT B w w') : HdT B w' x := ⟨h.row.keepT k, h.n⟩

def oneM (E : Int) : Mach := ⟨1, E, [], [], []⟩
theorem bl_mach01 {K : Fr → World → Prop} {u : World} {f : Fr} {d : Option Nat} {w : World} (x : Int) :
    Val1 Try.prog K (Instr.build 25 #[(0, .int .i64 1), (1, .int .i64 x)]) u f d w = K (updO f d (mv0.val (oneM x))) w := by
  refine bld_of ?_
  rw [built_of blt_mach]
  rw [fill_cons (off := 0) (size := 1) rfl rfl (by decide), fill_cons (off := 1) (size := 1) rfl rfl (by simp [putL, Value.cells]), fill_nil]
  simp [putL, Value.cells, oneM]
/-- The three rows, by what was gone through. -/
structure TQ (B : Nat) (m : Mach) (low : List Int) (w : World) (als : List TE) (owns wds : List Hd) (Aa Ao Aw : Option Addr) (ca co cw : Nat) (L : List (St × List Int)) : Prop where
  n1 : als.length = L.length
  n2 : owns.length = L.length
  n3 : wds.length = L.length
  ra : OwnR TE.cells B 62 1 w Aa ca als
  ro : OwnR Hd.cells B 22 1 w Ao co owns
  rw : OwnR Hd.cells B 22 1 w Aw cw wds
  far : Ao = none ∨ Ao.map (·.block) ≠ Aw.map (·.block)
  ga : ∀ x ∈ als, PlsT B w x
  go : ∀ x ∈ owns, HdT B w x
  gw : ∀ x ∈ wds, HdT B w x
  ab : ∀ (i : Nat) (x : TE) (p : St × List Int), als[i]? = some x → L[i]? = some p → AftP m (oneM m.events) low p.2 (x.ps.map Atp.abs)
  ob : owns.map (·.l) = L.map (·.1.2)
  wb : wds.map (·.l) = L.map (·.2)
  ru : ∀ p ∈ L, p.1.1 = estM m low p.2
theorem TQ.below {B : Nat} {m : Mach} {low : List Int} {w w' : World} {als : List TE} {owns wds : List Hd} {Aa Ao Aw : Option Addr} {ca co cw : Nat} {L : List (St × List Int)} (h : TQ B m low w als owns wds Aa Ao Aw ca co cw L) (b : Below w.heap.size w w') : TQ B m low w' als owns wds Aa Ao Aw ca co cw L :=
  { h with
    ra := h.ra.below b (Nat.le_refl _)
    ro := h.ro.below b (Nat.le_refl _)
    rw := h.rw.below b (Nat.le_refl _)
    ga := fun x hx => (h.ga x hx).keep (.below b)
    go := fun x hx => (h.go x hx).keep (.below b)
    gw := fun x hx => (h.gw x hx).keep (.below b) }
theorem at_map {α β : Type} {f : α → β} {l : List α} {m : List β} (h : l.map f = m) {i : Nat} {x : α} (hx : l[i]? = some x) : m[i]? = some (f x) := by rw [← h, List.getElem?_map, hx]; rfl
theorem some_of_lt {α : Type} {l : List α} {i : Nat} (h : i < l.length) : ∃ x, l[i]? = some x := ⟨_, List.getElem?_eq_getElem h⟩
noncomputable def stepR (m : Mach) (low high : List Int) (s : St) (e : Int) : St := (seeL m low s.1 e, stepL (lowM m high) s.2 e)
theorem one_hst (E : Int) : ∀ l e, IsRow l 6 → IsRow (stepL (oneM E) l e) 6 := fun l e _ => by
  rw [stepL_none rfl]; intro i hi; exact absurd hi (by simp)
theorem row_nil (b : Int) : IsRow [] b := fun i hi => absurd hi (by simp)
theorem TQ.few {B : Nat} {m : Mach} {low : List Int} {w : World} {als : List TE} {owns wds : List Hd} {Aa Ao Aw : Option Addr} {ca co cw : Nat} {L : List (St × List Int)} (h : TQ B m low w als owns wds Aa Ao Aw ca co cw L) {i : Nat} {x : TE} {hd : Hd} {p : St × List Int}
    (hm : m.May) (h6 : m.states ≤ 6) (hx : als[i]? = some x) (hh : owns[i]? = some hd) (hp : L[i]? = some p) {v : List Int} {ps : List Pl} (hv : AftP m (oneM m.events) low v ps) (o : List Int) : (SameP (x.ps.map Atp.abs) ps ∧ hd.l = o) ↔ p.1 = (estM m low v, o) := by
  have h1 := h.ab i x p hx hp
  have h2 : p.1.2 = hd.l := by
    have := at_map h.ob hh
    rw [List.getElem?_map, hp] at this
    exact Option.some.inj this
  have h3 := h.ru p (List.mem_of_getElem? hp)
  have g1 := h1.good hm h6 (one_hst _) (row_nil 6)
  have g2 := hv.good hm h6 (one_hst _) (row_nil 6)
  rw [same_one hm rfl rfl h1 hv g1.nodup g2.nodup, ← h3, ← h2]
  exact ⟨fun ⟨a, b⟩ => Prod.ext a b, fun e => ⟨congrArg (·.1) e, congrArg (·.2) e⟩⟩

theorem only_zero (l m : List Int) : decide (((onlyL l m true).length : Int) = 0) = !decide (MeetL l m) := by
  have h := @only_pos l m
  by_cases c : MeetL l m
  · have := h.2 c
    rw [decide_eq_true c, decide_eq_false (by omega)]; rfl
  · have : ¬ 0 < (onlyL l m true).length := fun h' => c (h.1 h')
    rw [decide_eq_false c, decide_eq_true (by omega)]; rfl
theorem low_fits {m : Mach} (h : m.Fits) (high : List Int) : (lowM m high).Fits := by
  have hA : (lowM m high).arrows = m.arrows.filter fun a => decide (a.evt ∉ high) := by
    show lowUp m high m.arrows.length = _
    unfold lowUp; rw [List.take_length]
  exact ⟨h.states, h.events, h.starts, h.ends, fun a ha => h.arrows a (List.mem_filter.1 (hA ▸ ha)).1, h.lenS, h.lenE, by rw [hA]; exact Nat.le_trans (List.length_filter_le _ _) h.lenA⟩
def ToldRes (m : Mach) (high : List Int) (w : World) (v : Value) (w' : World) : Prop :=
  ∃ (b : Bool) (O : Option Addr) (co : Nat) (o : List Int), v = .tuple #[.bool b, .slice O o.length co] ∧ Ints (· < w'.heap.size) w' O o ∧ o.length ≤ 100000 ∧ Below w.heap.size w w' ∧
    FirstIs (stepR m (lowE high m.events.toNat) high) (foundTo m) (lowE high m.events.toNat) (firstTo m (lowE high m.events.toNat)) b o
set_option maxHeartbeats 2000000 in
theorem ref12_Told {w : World} {a : MV} {m : Mach} (h : IsM (· < w.heap.size) w a m) (hf : m.Fits) (p1 : m.May) (p3 : m.states ≤ 6) {A1 : Option Addr} {c1 : Nat} {high : List Int} (h1 : Ints (· < w.heap.size) w A1 high) (n1 : high.length ≤ 17592186043904) :
    Cal Try.prog 9 [a.val m, .slice A1 high.length c1] w (ToldRes m high w) := by
  refine cal_ref12_Told (by simp) 100000 fun Q hQ => ?_
  have hA4 : m.arrows.length ≤ 4096 := p1.2.2.2.2.1
  have ev0 : 0 ≤ m.events := p1.2.2.1
  have ev8 : m.events ≤ 8 := p1.2.2.2.1
  simp (disch := first | with_reducible assumption | omega) only [push_cast, x_blk, x_cd, ↓reduceIte, Nat.reduceEqDiff, List.map_cons, List.map_nil, Int.reduceEq, Int.lt_irrefl, F_ref12_Told]
  refine blk_of (box_agg _ (a.cells m)) ?_
  intro w1 k1 b1 z1
  simp (disch := first | with_reducible assumption | omega) only [push_cast, x_blk, x_cd, ↓reduceIte, Nat.reduceEqDiff, List.map_cons, List.map_nil, Int.reduceEq, Int.lt_irrefl, k1.mA ty_ag_25 ty_sz_25]
  refine call_of (ref12_Low (h.up b1) hf (by omega) (h1.up b1) n1) ?_
  rintro v w2 ⟨a', rfl, hL, b2⟩
  replace k1 := k1.below b2 k1.lt
  have bb := b1.trans (b2.mono b1.size)
  have hG2 : w.heap.size < w2.heap.size := k1.lt
  simp (disch := first | with_reducible assumption | omega) only [push_cast, x_blk, x_cd, ↓reduceIte, Nat.reduceEqDiff, List.map_cons, List.map_nil, Int.reduceEq, Int.lt_irrefl]
  refine blk_of (cs := mv0.cells mach0) al_25 ?_
  intro w3 k2 b3 z3
  replace k1 := k1.below b3 k1.lt
  replace bb := bb.trans (b3.mono bb.size)
  simp (disch := first | with_reducible assumption | omega) only [push_cast, x_blk, x_cd, ↓reduceIte, Nat.reduceEqDiff, List.map_cons, List.map_nil, Int.reduceEq, Int.lt_irrefl]
  refine sto_mach k2 rfl a' (lowM m high) ?_
  intro w4 k4 g4 z4
  replace k1 := k1.grown g4.by_ (by simp; omega)
  have b4 := g4.below b3 b3.size (by intro a ha; injection ha with ha; subst ha; exact Nat.le_refl _)
  replace bb := g4.below bb bb.size (by intro a ha; injection ha with ha; subst ha; exact Nat.le_of_lt hG2)
  have hL4 := hL.up b4
  have hB4 : w2.heap.size < w4.heap.size := k4.lt
  clear k2 g4 z4 z3 b3 b1 z1 b2 hL
  generalize hg2 : w2.heap.size = G2 at *
  simp (disch := first | with_reducible assumption | omega) only [push_cast, x_blk, x_cd, ↓reduceIte, Nat.reduceEqDiff, List.map_cons, List.map_nil, Int.reduceEq, Int.lt_irrefl]
  refine loop_rule (fun f w' => ∃ (k : Nat) (L : Option Addr) (c : Nat), k ≤ m.events.toNat ∧ (f 1 = .slice A1 high.length c1 ∧ f 2 = .pointer (some ⟨w.heap.size, 0, none⟩) ∧ f 6 = .pointer (some ⟨G2, 0, none⟩) ∧ f 7 = .slice L (lowE high k).length c ∧ f 8 = .int .i64 k ∧ f 4 = .bool false ∧ f 5 = .slice none 0 0) ∧
      OwnI w4.heap.size 3 w' L c (lowE high k) ∧ Below w4.heap.size w4 w')
    (fun f _ => m.events.toNat - (intOf (f 8)).toNat) ⟨0, none, 0, Nat.zero_le _, ⟨rfl, rfl, rfl, rfl, rfl, rfl, rfl⟩, Own.nil _ _ _ _, Below.refl _ _⟩ ?_
  rintro f w5 ⟨k, L, c, hk, fr, ho, b5⟩ J hJ
  have ne := lowE_len high k
  have bb5 := bb.trans (b5.mono bb.size)
  have k15 := k1.below b5 k1.lt
  by_cases hlt : (k : Int) < m.events
  case pos =>
    have hmu : (intOf (f 8)).toNat = k := by rw [fr.2.2.2.2.1]; simp [intOf]
    simp (disch := first | with_reducible assumption | omega) only [push_cast, x_blk, x_cd, ↓reduceIte, Nat.reduceEqDiff, List.map_cons, List.map_nil, Int.reduceEq, Int.lt_irrefl, L_ref12_Told_3, fr, hlt, k15.m1 ty_ag_3]
    refine call_of (ref1_Has (h1.below bb5) c1 _ (by omega)) ?_
    rintro v w6 ⟨rfl, s6⟩
    replace ho := ho.same s6
    replace b5 := b5.trans (s6.below _)
    have hs := lowE_succ high k
    by_cases q : (k : Int) ∈ high
    · rw [if_pos q] at hs
      simp (disch := first | with_reducible assumption | omega) only [push_cast, x_blk, x_cd, ↓reduceIte, Nat.reduceEqDiff, List.map_cons, List.map_nil, Int.reduceEq, Int.lt_irrefl, decide_eq_true q, fr]
      exact hJ _ _ ⟨k + 1, L, c, by omega, (by simp only [push_cast, ↓reduceIte, Nat.reduceEqDiff, true_and, and_true, and_self, eq_self, fr, hs]), by rw [hs]; exact ho, b5⟩ (by rw [hmu]; simp only [push_cast, ↓reduceIte, Nat.reduceEqDiff, intOf, fr]; omega)
    rw [if_neg q] at hs
    simp (disch := first | with_reducible assumption | omega) only [push_cast, x_blk, x_cd, ↓reduceIte, Nat.reduceEqDiff, List.map_cons, List.map_nil, Int.reduceEq, Int.lt_irrefl, decide_eq_false q, fr, bs_22]
    refine app_int slT_22 ho (k : Int) (by omega) b5.size ?_
    intro A7 c7 w7 o7 g7 e7 _ z7
    have b7 := g7.below b5 b5.size ho.geB
    simp (disch := first | with_reducible assumption | omega) only [push_cast, x_blk, x_cd, ↓reduceIte, Nat.reduceEqDiff, List.map_cons, List.map_nil, Int.reduceEq, Int.lt_irrefl, fr]
    exact hJ _ _ ⟨k + 1, A7, c7, by omega, (by simp only [push_cast, ↓reduceIte, Nat.reduceEqDiff, true_and, and_true, and_self, eq_self, fr, hs, List.length_append, List.length_cons, List.length_nil]), by rw [hs]; exact o7, b7⟩ (by rw [hmu]; simp only [push_cast, ↓reduceIte, Nat.reduceEqDiff, intOf, fr]; omega)
  obtain rfl : k = m.events.toNat := by omega
  generalize hlow : lowE high m.events.toNat = low at *
  simp (disch := first | with_reducible assumption | omega) only [push_cast, x_blk, x_cd, ↓reduceIte, Nat.reduceEqDiff, List.map_cons, List.map_nil, Int.reduceEq, Int.lt_irrefl, L_ref12_Told_3, fr, hlt, k15.m1 ty_ag_3, bl_mach01]
  refine blk_of (cs := mv0.cells mach0) al_25 ?_
  intro w6 k6 b6 z6
  have hG4 : w4.heap.size ≤ w5.heap.size := b5.size
  have l15 := k15.lt
  replace k1 := k15.below b6 k15.lt
  have k26 := (k4.below b5 k4.lt).below b6 (by omega)
  have hL6 := hL4.up (b5.trans (b6.mono b5.size))
  have hlow5 := (Ints.lt (OwnI.ints ho)).up b6
  replace bb := bb5.trans (b6.mono bb5.size)
  simp (disch := first | with_reducible assumption | omega) only [push_cast, x_blk, x_cd, ↓reduceIte, Nat.reduceEqDiff, List.map_cons, List.map_nil, Int.reduceEq, Int.lt_irrefl]
  refine sto_mach k6 rfl mv0 (oneM m.events) ?_
  intro w7 k7 g7 z7
  have b7 := g7.below b6 b6.size (by intro a ha; injection ha with ha; subst ha; exact Nat.le_refl _)
  replace k1 := k1.grown g7.by_ (by simp; omega)
  replace k26 := k26.grown g7.by_ (by simp; omega)
  have bb7 := g7.below bb bb.size (by intro a ha; injection ha with ha; subst ha; exact bb5.size)
  have hL7 : IsM (· < w7.heap.size) w7 a' (lowM m high) := (hL4.up b5).up b7
  have hI7 : Ints (· < w7.heap.size) w7 L low := (Ints.lt (OwnI.ints ho)).up b7
  have hM7 := h.up bb7
  have hG5 : w5.heap.size < w7.heap.size := k7.lt
  clear k15 k4 hL4 hL6 hlow5 ho g7 b6 z6 k6 bb5 b5 b7 bb hJ
  generalize hg5 : w5.heap.size = G5 at *
  have nlow : low.length ≤ 8 := by omega
  have hone : IsM (· < w7.heap.size) w7 mv0 (oneM m.events) := ⟨Ints.nil _ _ _, Arrs.nil _ _ _, Ints.nil _ _ _⟩
  have fone : (oneM m.events).Fits := ⟨by show I64 1; unfold I64; omega, hf.events, fun x hx => absurd hx (by simp [oneM]), fun x hx => absurd hx (by simp [oneM]), fun x hx => absurd hx (by simp [oneM]), Nat.zero_le _, Nat.zero_le _, Nat.zero_le _⟩
  have rowOne : ∀ {v : List Int} {ps : List Pl}, AftP m (oneM m.events) low v ps → ∀ x ∈ ps, x.2 = [] := fun hv x hx => ((hv.one p1 rfl rfl x).1 hx).1
  simp (disch := first | with_reducible assumption | omega) only [push_cast, x_blk, x_cd, ↓reduceIte, Nat.reduceEqDiff, List.map_cons, List.map_nil, Int.reduceEq, Int.lt_irrefl, fr, k1.mA ty_ag_25 ty_sz_25, k7.mA ty_ag_25 ty_sz_25]
  refine call_of (ref12_First (B2 := 0) (Nat.zero_le _) hM7 hf hone fone p1 p3 (one_hst _) (row_nil 6) (Ints.nil _ _ _) hI7 (by omega)) ?_
  rintro v w8 ⟨ps, A8, c8, rfl, habs, hops, hgps, b8⟩
  have hA0 : AftP m (oneM m.events) low [] (ps.map Atp.abs) := .first (by rw [List.length_map]; exact habs)
  have l1 := k1.lt
  have l2 := k26.lt
  have l7 := k7.lt
  have k1e := k1.below b8 l1
  have hst6 := row_len ((may_starts p1).more p3)
  have gps := (hA0.good p1 p3 (one_hst _) (row_nil 6)).len
  rw [List.length_map] at gps
  have oA := own_rec teEnc w8 ⟨A8, c8, ps⟩ 62
  have b9 : Below w8.heap.size w8 (w8.alloc (.cells (TE.cells ⟨A8, c8, ps⟩).toArray 62)) := (Below.refl _ _).alloc (Nat.le_refl _) _
  have z9 : (w8.alloc (.cells (TE.cells ⟨A8, c8, ps⟩).toArray 62)).heap.size = w8.heap.size + 1 := by simp
  have k19 := k1e.below b9 (Nat.lt_of_lt_of_le l1 b8.size)
  have k19m := fun {K : Fr → World → Prop} {f : Fr} {d : Option Nat} {w : World} => k19.m2 (P := Try.prog) (K := K) (f := f) (d := d) (w := w) ty_ag_22
  simp only [TE.cells] at oA b9 z9 k19 k19m
  simp (disch := first | with_reducible assumption | omega) only [push_cast, x_blk, x_cd, ↓reduceIte, Nat.reduceEqDiff, List.map_cons, List.map_nil, Int.reduceEq, Int.lt_irrefl, fr, bs_64, k19m, bs_65]
  generalize w8.alloc (.cells [.slice A8 ps.length c8].toArray 62) = w9 at *
  have oO := own_rec hdEnc w9 ⟨a.As, a.cs, m.starts⟩ 22
  have b10 : Below w9.heap.size w9 (w9.alloc (.cells (Hd.cells ⟨a.As, a.cs, m.starts⟩).toArray 22)) := (Below.refl _ _).alloc (Nat.le_refl _) _
  have z10 : (w9.alloc (.cells (Hd.cells ⟨a.As, a.cs, m.starts⟩).toArray 22)).heap.size = w9.heap.size + 1 := by simp
  simp only [Hd.cells] at oO b10 z10
  generalize w9.alloc (.cells [.slice a.As m.starts.length a.cs].toArray 22) = w10 at *
  have oW := own_rec hdEnc w10 ⟨none, 0, []⟩ 22
  have b11 : Below w10.heap.size w10 (w10.alloc (.cells (Hd.cells ⟨none, 0, []⟩).toArray 22)) := (Below.refl _ _).alloc (Nat.le_refl _) _
  simp only [Hd.cells, List.length_nil] at oW b11
  generalize w10.alloc (.cells [.slice none 0 0].toArray 22) = w11 at *
  have b811 : Below w8.heap.size w8 w11 := (b9.trans (b10.mono b9.size)).trans (b11.mono (by have := b9.size; have := b10.size; omega))
  have b711 : Below w7.heap.size w7 w11 := b8.trans (b811.mono b8.size)
  have z8 := b8.size
  have q0 : TQ w7.heap.size m low w11 [⟨A8, c8, ps⟩] [⟨a.As, a.cs, m.starts⟩] [⟨none, 0, []⟩] (some ⟨w8.heap.size, 0, none⟩) (some ⟨w9.heap.size, 0, none⟩) (some ⟨w10.heap.size, 0, none⟩) 1 1 1 [(firstTo m low, [])] := {
    n1 := rfl, n2 := rfl, n3 := rfl
    ra := ((oA.below b10 (Nat.le_refl _)).below b11 (Nat.le_refl _)).base z8
    ro := (oO.below b11 (Nat.le_refl _)).base (by omega)
    rw := oW.base (by omega)
    far := .inr (by simp; omega)
    ga := fun x hx => by
      rw [List.mem_singleton.1 hx]
      refine ⟨(OwnR.tyb hops atEnc (by decide) (by decide)).keepT (KeepT.below b811), fun y hy => ?_, gps⟩
      have := rowOne hA0 y.abs (List.mem_map.2 ⟨y, hy, rfl⟩)
      have hy0 : y.s = [] := this
      rw [hy0]; exact ⟨Ints.nil _ _ _, by simp⟩
    go := fun x hx => by
      rw [List.mem_singleton.1 hx]
      exact ⟨Ints.of_arg (hM7.starts.below b711) b711.size, by simp only; omega⟩
    gw := fun x hx => by
      rw [List.mem_singleton.1 hx]
      exact ⟨Ints.nil _ _ _, by simp⟩
    ab := fun i x p hx hp => by
      match i with
      | 0 =>
        simp at hx hp
        subst hx hp
        exact hA0
      | i + 1 => simp at hx
    ob := rfl
    wb := rfl
    ru := fun p hp => by rw [List.mem_singleton.1 hp]; rfl }
  have hlq : ∀ e ∈ low, e ∉ high := fun e he => (mem_lowE.1 (hlow ▸ he)).2
  have hU : ∀ s, U6t s → ∀ e ∈ low, U6t (stepR m low high s e) := fun s _ e he => by
    have := stepTo_U6 p1 p3 low s e
    unfold stepTo at this
    unfold stepR
    rw [stepL_low (hlq e he)]
    exact this
  have few := pairs_fewt hU (firstTo_U6 p1 p3 low)
  clear oA oO oW b9 b10 z9 z10 k19 k19m b811 z8 b8 hops hgps habs gps k1e
  refine loop_rule (fun f w' => ∃ (k : Nat) (als : List TE) (owns wds : List Hd) (Aa Ao Aw : Option Addr) (ca co cw : Nat), k ≤ als.length ∧ (f 2 = .pointer (some ⟨w.heap.size, 0, none⟩) ∧ f 4 = .bool false ∧ f 5 = .slice none 0 0 ∧ f 6 = .pointer (some ⟨G2, 0, none⟩) ∧ f 7 = .slice L low.length c ∧ f 9 = .pointer (some ⟨G5, 0, none⟩) ∧ f 10 = .slice Aa als.length ca ∧ f 11 = .slice Ao owns.length co ∧ f 12 = .slice Aw wds.length cw ∧ f 13 = .int .i64 k) ∧
      TQ w7.heap.size m low w' als owns wds Aa Ao Aw ca co cw (bIter (stepR m low high) low (firstTo m low) k) ∧ (∀ (j : Nat) (p : St × List Int), j < k → (bIter (stepR m low high) low (firstTo m low) k)[j]? = some p → foundTo m p.1 = false) ∧ Below w7.heap.size w7 w')
    (fun f _ => 4097 - (intOf (f 13)).toNat) ⟨0, _, _, _, _, _, _, _, _, _, Nat.zero_le _, (by simp only [push_cast, ↓reduceIte, Nat.reduceEqDiff, true_and, and_true, and_self, eq_self, fr, fr, List.length_cons, List.length_nil, Nat.zero_add]), q0, fun j p hj => absurd hj (by omega), b711⟩ ?_
  clear q0 b711 fr hA0 b11 w11 w10 w9 w8
  clear ps A8 c8
  rintro f w8 ⟨k, als, owns, wds, Aa, Ao, Aw, ca, co, cw, hk, fr, q, hno, b8⟩ J hJ
  have fewk := few k 0
  rw [bPart_zero] at fewk
  have hmu : (intOf (f 13)).toNat = k := by rw [fr.2.2.2.2.2.2.2.2.2]; simp [intOf]
  by_cases hlt : k < als.length
  case neg =>
    simp (disch := first | with_reducible assumption | omega) only [push_cast, x_blk, x_cd, ↓reduceIte, Nat.reduceEqDiff, List.map_cons, List.map_nil, Int.reduceEq, Int.lt_irrefl, L_ref12_Told_2, fr, hlt]
    exact fin_2 (hQ _ _ ⟨false, none, 0, [], (by simp only [push_cast, ↓reduceIte, Nat.reduceEqDiff, Int.reduceEq, fr, List.length_nil]), Ints.nil _ _ _, by simp, bb7.trans (b8.mono bb7.size), by
      rw [hlow]
      refine .inr ⟨rfl, rfl, k, by rw [← q.n1]; omega, fun j p hp => hno j p (by
        have := getElem?_lt hp
        rw [← q.n1] at this; omega) hp⟩⟩)
  obtain ⟨x, hx⟩ := some_of_lt hlt
  obtain ⟨o, ho⟩ := some_of_lt (l := owns) (i := k) (by rw [q.n2, ← q.n1]; exact hlt)
  obtain ⟨y, hy⟩ := some_of_lt (l := wds) (i := k) (by rw [q.n3, ← q.n1]; exact hlt)
  obtain ⟨p, hp⟩ := some_of_lt (l := bIter (stepR m low high) low (firstTo m low) k) (i := k) (by rw [← q.n1]; exact hlt)
  have hoL : o.l = p.1.2 := by
    have := at_map q.ob ho
    rw [List.getElem?_map, hp] at this
    exact (Option.some.inj this).symm
  have hyL : y.l = p.2 := by
    have := at_map q.wb hy
    rw [List.getElem?_map, hp] at this
    exact (Option.some.inj this).symm
  have hAf := q.ab k x p hx hp
  have hru := q.ru p (List.mem_of_getElem? hp)
  have hgood := hAf.good p1 p3 (one_hst _) (row_nil 6)
  have hjO := judO_one p1 rfl rfl hAf
  rw [← hru] at hjO
  have hw7 : w7.heap.size ≤ w8.heap.size := b8.size
  have hown : k < owns.length := by rw [q.n2, ← q.n1]; exact hlt
  have hwds : k < wds.length := by rw [q.n3, ← q.n1]; exact hlt
  have d8 : Same w8 w8.drew := (Same.refl w8).drew
  replace q := q.below (d8.below _)
  replace b8 := b8.trans (d8.below _)
  generalize hu8 : w8.drew = u8 at *
  have k18 := (k1.below b8 l1)
  have k78 := (k7.below b8 l7)
  have hRa := Recs.lt teEnc (by decide) (OwnR.recs q.ra teEnc (by decide))
  have hRo := Recs.lt hdEnc (by decide) (OwnR.recs q.ro hdEnc (by decide))
  have hRw := Recs.lt hdEnc (by decide) (OwnR.recs q.rw hdEnc (by decide))
  have sa := q.ra.isSome (by omega)
  have so := q.ro.isSome (by omega)
  have sw := q.rw.isSome (by omega)
  have gx := q.ga x (List.mem_of_getElem? hx)
  have gps := gx.n
  have lx := fun {K : Fr → World → Prop} {f : Fr} {d : Option Nat} {w' : World} => hRa.ld0 (P := Try.prog) (K := K) (f := f) (d := d) (w := w') ty_ag_62 hx (v := .slice x.A x.ps.length x.c) rfl
  have lo := fun {K : Fr → World → Prop} {f : Fr} {d : Option Nat} {w' : World} => hRo.ld0 (P := Try.prog) (K := K) (f := f) (d := d) (w := w') ty_ag_22 ho (v := .slice o.A o.l.length o.c) rfl
  simp only [Nat.mul_one] at lx lo
  simp (disch := first | with_reducible assumption | omega) only [push_cast, x_blk, x_cd, ↓reduceIte, Nat.reduceEqDiff, List.map_cons, List.map_nil, Int.reduceEq, Int.lt_irrefl, L_ref12_Told_2, fr, hlt, hu8, k18.mA ty_ag_25 ty_sz_25, k78.mA ty_ag_25 ty_sz_25, lx]
  have bb8 := bb7.trans (b8.mono bb7.size)
  refine call_of (ref12_Judge (h.up bb8) hf (hone.up b8) fone gx.recs.tlt (by omega) (fun z hz => ⟨(gx.row z hz).1.tlt, (gx.row z hz).2⟩)) ?_
  rintro v w9 ⟨rfl, b9⟩
  replace q := q.below b9
  replace b8 := b8.trans (b9.mono b8.size)
  have k19 := k18.below b9 k18.lt
  simp (disch := first | with_reducible assumption | omega) only [push_cast, x_blk, x_cd, ↓reduceIte, Nat.reduceEqDiff, List.map_cons, List.map_nil, Int.reduceEq, Int.lt_irrefl, fr, hjO]
  refine ⟨b9, ?_⟩
  clear lx lo hRa hRo hRw gx sa so sw k18 k78 d8 b9
  have d9 : Same w9 w9.drew := (Same.refl w9).drew
  replace q := q.below (d9.below _)
  replace b8 := b8.trans (d9.below _)
  replace k19 := k19.same d9
  generalize hu9 : w9.drew = u9 at *
  have hRo := Recs.lt hdEnc (by decide) (OwnR.recs q.ro hdEnc (by decide))
  have so := q.ro.isSome (by omega)
  have lo := fun {K : Fr → World → Prop} {f : Fr} {d : Option Nat} {w' : World} => hRo.ld0 (P := Try.prog) (K := K) (f := f) (d := d) (w := w') ty_ag_22 ho (v := .slice o.A o.l.length o.c) rfl
  simp only [Nat.mul_one] at lo
  have go := q.go o (List.mem_of_getElem? ho)
  have gon := go.n
  have bb9 := bb7.trans (b8.mono bb7.size)
  have hlE := hf.lenE
  simp (disch := first | with_reducible assumption | omega) only [push_cast, x_blk, x_cd, ↓reduceIte, Nat.reduceEqDiff, List.map_cons, List.map_nil, Int.reduceEq, Int.lt_irrefl, fr, hlt, hown, hu9, lo, k19.m4 ty_ag_22]
  refine call_of (ref1_Only go.row.tlt (h.up bb9).ends o.c _ true (by omega) (by omega)) ?_
  rintro v w10 ⟨A10, c10, rfl, o10, b10⟩
  replace q := q.below b10
  replace b8 := b8.trans (b10.mono b8.size)
  have hno2 := only_zero o.l m.ends
  clear o10 lo hRo so go bb9 d9 k19 b10
  rw [hoL] at hno2
  have hfd : foundTo m p.1 = (decide (MeetL p.1.1 m.ends) && !decide (MeetL p.1.2 m.ends)) := rfl
  have bb10 := bb7.trans (b8.mono bb7.size)
  have hpre := bPart_prefix (step := stepR m low high) (es := low) (firstTo m low) k
  have hkl := getElem?_lt hp
  by_cases f1 : foundTo m p.1 = true
  case pos =>
    have f2 := f1
    rw [hfd, Bool.and_eq_true] at f2
    have d10 : Same w10 w10.drew := (Same.refl w10).drew
    replace q := q.below (d10.below _)
    replace b8 := b8.trans (d10.below _)
    generalize hu10 : w10.drew = u10 at *
    have hRw := Recs.lt hdEnc (by decide) (OwnR.recs q.rw hdEnc (by decide))
    have sw := q.rw.isSome (by omega)
    have ly := fun {K : Fr → World → Prop} {f : Fr} {d : Option Nat} {w' : World} => hRw.ld0 (P := Try.prog) (K := K) (f := f) (d := d) (w := w') ty_ag_22 hy (v := .slice y.A y.l.length y.c) rfl
    simp only [Nat.mul_one] at ly
    have gy := q.gw y (List.mem_of_getElem? hy)
    simp (disch := first | with_reducible assumption | omega) only [push_cast, x_blk, x_cd, ↓reduceIte, Nat.reduceEqDiff, List.map_cons, List.map_nil, Int.reduceEq, Int.lt_irrefl, fr, f2.1, hoL, hno2, f2.2, hwds, hu10, ly]
    exact fin_2 (hQ _ _ ⟨true, y.A, y.c, y.l, (by simp only [push_cast, ↓reduceIte, Nat.reduceEqDiff, Int.reduceEq, fr]), gy.row.tlt, gy.n, bb7.trans (b8.mono bb7.size), by
      rw [hlow, hyL]
      exact .inl ⟨rfl, k, p, hp, f1, rfl, fun j hj p hp => hno j p hj hp⟩⟩)
  have f1' : foundTo m p.1 = false := by simpa using f1
  have hno' : ∀ (j : Nat) (p : St × List Int), j < k + 1 → (bIter (stepR m low high) low (firstTo m low) k)[j]? = some p → foundTo m p.1 = false := fun j p' hj hp' => by
    by_cases e : j = k
    · subst e
      rw [hp] at hp'
      rw [← Option.some.inj hp']; exact f1'
    · exact hno j p' (by omega) hp'
  have hc : (MeetL p.1.1 m.ends ∧ MeetL p.1.2 m.ends) ∨ ¬ MeetL p.1.1 m.ends := by
    by_cases c1 : MeetL p.1.1 m.ends
    · by_cases c2 : MeetL p.1.2 m.ends
      · exact .inl ⟨c1, c2⟩
      · rw [hfd, decide_eq_true c1, decide_eq_false c2] at f1'; cases f1'
    · exact .inr c1
  rcases hc with ⟨c1, c2⟩ | c1
  case' inl => simp (disch := first | with_reducible assumption | omega) only [push_cast, x_blk, x_cd, ↓reduceIte, Nat.reduceEqDiff, List.map_cons, List.map_nil, Int.reduceEq, Int.lt_irrefl, fr, hoL, hno2, c1, c2]
  case' inr => simp (disch := first | with_reducible assumption | omega) only [push_cast, x_blk, x_cd, ↓reduceIte, Nat.reduceEqDiff, List.map_cons, List.map_nil, Int.reduceEq, Int.lt_irrefl, fr, hoL, hno2, c1]
  all_goals
    refine loop_rule (fun f' w' => ∃ (j : Nat) (als : List TE) (owns wds : List Hd) (Aa Ao Aw : Option Addr) (ca co cw : Nat), j ≤ low.length ∧ (f' 2 = .pointer (some ⟨w.heap.size, 0, none⟩) ∧ f' 4 = .bool false ∧ f' 5 = .slice none 0 0 ∧ f' 6 = .pointer (some ⟨G2, 0, none⟩) ∧ f' 7 = .slice L low.length c ∧ f' 9 = .pointer (some ⟨G5, 0, none⟩) ∧ f' 10 = .slice Aa als.length ca ∧ f' 11 = .slice Ao owns.length co ∧ f' 12 = .slice Aw wds.length cw ∧ f' 13 = .int .i64 k ∧ f' 17 = .int .i64 j) ∧
        TQ w7.heap.size m low w' als owns wds Aa Ao Aw ca co cw (bPart (stepR m low high) low (firstTo m low) k j) ∧ Below w7.heap.size w7 w')
      (fun f' _ => low.length - (intOf (f' 17)).toNat) ⟨0, _, _, _, _, _, _, _, _, _, Nat.zero_le _, (by simp only [push_cast, ↓reduceIte, Nat.reduceEqDiff, true_and, and_true, and_self, eq_self, fr, fr]), q, b8⟩ ?_
    have hkk := q.n1
    clear q b8 fr hx ho hy hoL hyL hAf hru hgood hjO hown hwds x o y hno2 hk hlt bb10 gps gon
    rintro f w8 ⟨j, als, owns, wds, Aa, Ao, Aw, ca, co, cw, hj, fr, q, b8⟩ J2 hJ2
    have fewj := few k j
    have hlt : k < als.length := by
      have := (hpre j).length_le
      rw [q.n1]; omega
    by_cases hjt : j < low.length
    case neg =>
      obtain rfl : j = low.length := by omega
      rw [bPart_all] at q
      simp (disch := first | with_reducible assumption | omega) only [push_cast, x_blk, x_cd, ↓reduceIte, Nat.reduceEqDiff, List.map_cons, List.map_nil, Int.reduceEq, Int.lt_irrefl, L_ref12_Told_1, fr, Nat.lt_irrefl]
      refine hJ _ _ ⟨k + 1, als, owns, wds, Aa, Ao, Aw, ca, co, cw, hlt, (by simp only [push_cast, ↓reduceIte, Nat.reduceEqDiff, true_and, and_true, and_self, eq_self, fr]), q, fun i p hi hp => hno' i p hi ?_, b8⟩ (by rw [hmu]; simp only [push_cast, ↓reduceIte, Nat.reduceEqDiff, intOf, fr]; omega)
      rw [← bPart_all, prefix_getElem? (hpre _) (by omega)] at hp
      exact hp
    have hmu2 : (intOf (f 17)).toNat = j := by rw [fr.2.2.2.2.2.2.2.2.2.2]; simp [intOf]
    obtain ⟨x, hx⟩ := some_of_lt hlt
    obtain ⟨o, ho⟩ := some_of_lt (l := owns) (i := k) (by rw [q.n2, ← q.n1]; exact hlt)
    obtain ⟨y, hy⟩ := some_of_lt (l := wds) (i := k) (by rw [q.n3, ← q.n1]; exact hlt)
    have hp2 : (bPart (stepR m low high) low (firstTo m low) k j)[k]? = some p := by rw [prefix_getElem? (hpre j) hkl]; exact hp
    have hoL : o.l = p.1.2 := by
      have := at_map q.ob ho
      rw [List.getElem?_map, hp2] at this
      exact (Option.some.inj this).symm
    have hyL : y.l = p.2 := by
      have := at_map q.wb hy
      rw [List.getElem?_map, hp2] at this
      exact (Option.some.inj this).symm
    have hAf := q.ab k x p hx hp2
    have hru := q.ru p (List.mem_of_getElem? hp2)
    have hgood := hAf.good p1 p3 (one_hst _) (row_nil 6)
    have hown : k < owns.length := by rw [q.n2, ← q.n1]; exact hlt
    have hwds : k < wds.length := by rw [q.n3, ← q.n1]; exact hlt
    have hw7 : w7.heap.size ≤ w8.heap.size := b8.size
    have hnl : als.length ≤ 4096 := by rw [q.n1]; exact fewj
    have hno4 : owns.length ≤ 4096 := by rw [q.n2]; exact fewj
    have hnw4 : wds.length ≤ 4096 := by rw [q.n3]; exact fewj
    have hyk : y.l.length ≤ k := by rw [hyL]; exact bPart_word _ _ _ _ _ hp2
    have d8 : Same w8 w8.drew := (Same.refl w8).drew
    replace q := q.below (d8.below _)
    replace b8 := b8.trans (d8.below _)
    generalize hu8 : w8.drew = u8 at *
    have k18 := (k1.below b8 l1)
    have k78 := (k7.below b8 l7)
    have hRa := Recs.lt teEnc (by decide) (OwnR.recs q.ra teEnc (by decide))
    have sa := q.ra.isSome (by omega)
    have gx := q.ga x (List.mem_of_getElem? hx)
    have gps := gx.n
    have lx := fun {K : Fr → World → Prop} {f : Fr} {d : Option Nat} {w' : World} => hRa.ld0 (P := Try.prog) (K := K) (f := f) (d := d) (w := w') ty_ag_62 hx (v := .slice x.A x.ps.length x.c) rfl
    simp only [Nat.mul_one] at lx
    have hI8 := hI7.below b8
    have sI := hI8.isSome (by omega)
    have le := fun {u' : World} (hI : Ints (· < w7.heap.size) u' L low) {K : Fr → World → Prop} {f : Fr} {d : Option Nat} {w : World} => hI.ld (P := Try.prog) (K := K) (f := f) (d := d) (w := w) ty_ag_3 j hjt
    have hej := getD_mem low 0 j hjt
    have hsucc := bPart_succ (stepR m low high) low (firstTo m low) k j hjt
    generalize hee : low.getD j 0 = e at *
    have bb8 := bb7.trans (b8.mono bb7.size)
    simp (disch := first | with_reducible assumption | omega) only [push_cast, x_blk, x_cd, ↓reduceIte, Nat.reduceEqDiff, List.map_cons, List.map_nil, Int.reduceEq, Int.lt_irrefl, L_ref12_Told_1, fr, hlt, hjt, hu8, k18.mA ty_ag_25 ty_sz_25, k78.mA ty_ag_25 ty_sz_25, lx, le hI8]
    refine call_of (ref12_step (h.up bb8) hf (hone.up b8) fone p1 p3 (one_hst _) (hI7.up b8) (by omega) gx.recs.tlt (by omega) (fun z hz => ⟨(gx.row z hz).1.tlt, (gx.row z hz).2⟩) hgood.univ e) ?_
    rintro v w9 ⟨ps, A9, c9, rfl, habs, ops, gps9, b9⟩
    have hAf2 : AftP m (oneM m.events) low (p.2 ++ [e]) (ps.map Atp.abs) := hAf.step (by rw [List.length_map, List.length_map]; exact habs)
    have gps2 := (hAf2.good p1 p3 (one_hst _) (row_nil 6)).len
    rw [List.length_map] at gps2
    replace q := q.below b9
    replace b8 := b8.trans (b9.mono b8.size)
    have hT : PlsT w7.heap.size w9 ⟨A9, c9, ps⟩ := ⟨OwnR.tyb ops atEnc (by decide) (by decide), fun z hz => by
      have hz0 : z.s = [] := rowOne hAf2 z.abs (List.mem_map.2 ⟨z, hz, rfl⟩)
      rw [hz0]; exact ⟨Ints.nil _ _ _, by simp⟩, gps2⟩
    clear lx hRa gx sa gps9 ops habs k18 k78 hI8 sI b9 d8 hgood gps
    have d9 : Same w9 w9.drew := (Same.refl w9).drew
    replace q := q.below (d9.below _)
    replace b8 := b8.trans (d9.below _)
    replace hT := hT.keep (KeepT.same d9)
    generalize hu9 : w9.drew = u9 at *
    have k26u := k26.below b8 l2
    have hRo := Recs.lt hdEnc (by decide) (OwnR.recs q.ro hdEnc (by decide))
    have so := q.ro.isSome (by omega)
    have lo := fun {K : Fr → World → Prop} {f : Fr} {d : Option Nat} {w' : World} => hRo.ld0 (P := Try.prog) (K := K) (f := f) (d := d) (w := w') ty_ag_22 ho (v := .slice o.A o.l.length o.c) rfl
    simp only [Nat.mul_one] at lo
    have go := q.go o (List.mem_of_getElem? ho)
    have gon := go.n
    have hI9 := hI7.below b8
    have sI := hI9.isSome (by omega)
    simp (disch := first | with_reducible assumption | omega) only [push_cast, x_blk, x_cd, ↓reduceIte, Nat.reduceEqDiff, List.map_cons, List.map_nil, Int.reduceEq, Int.lt_irrefl, fr, hown, hjt, hu9, k26u.mA ty_ag_25 ty_sz_25, lo, le hI9]
    refine call_of (ref2_Step (hL7.up b8) (low_fits hf high) go.row.tlt (by omega) e) ?_
    rintro v w10 ⟨A10, c10, rfl, o10, b10⟩
    replace q := q.below b10
    replace b8 := b8.trans (b10.mono b8.size)
    replace hT := hT.keep (KeepT.below b10)
    have rst := stepL_row (low_may p1 high) o.l e
    have rlen := row_len (rst.more (b := 6) p3)
    have hS : HdT w7.heap.size w10 ⟨A10, c10, stepL (lowM m high) o.l e⟩ := ⟨OwnI.tyb o10 (by decide), by simp only; omega⟩
    clear lo hRo so go gon hI9 sI k26u o10 b10 d9 rst
    have hstp : stepR m low high p.1 e = (estM m low (p.2 ++ [e]), stepL (lowM m high) o.l e) := by unfold stepR; rw [estM_snoc, ← hru, hoL]
    have hmatch : ∀ (i : Nat) (x : TE) (h : Hd) (r : St × List Int), als[i]? = some x → owns[i]? = some h → (bPart (stepR m low high) low (firstTo m low) k j)[i]? = some r → ((SameP (x.ps.map Atp.abs) (ps.map Atp.abs) ∧ h.l = stepL (lowM m high) o.l e) ↔ r.1 = stepR m low high p.1 e) := fun i x h r h1 h2 h3 => by
      rw [hstp]; exact q.few p1 p3 h1 h2 h3 hAf2 _
    generalize stepL (lowM m high) o.l e = ol at *
    simp (disch := first | with_reducible assumption | omega) only [push_cast, x_blk, x_cd, ↓reduceIte, Nat.reduceEqDiff, List.map_cons, List.map_nil, Int.reduceEq, Int.lt_irrefl, fr]
    refine loop_rule (fun f' w' => ∃ (i : Nat) (bo : Bool), i ≤ als.length ∧ (f' 2 = .pointer (some ⟨w.heap.size, 0, none⟩) ∧ f' 4 = .bool false ∧ f' 5 = .slice none 0 0 ∧ f' 6 = .pointer (some ⟨G2, 0, none⟩) ∧ f' 7 = .slice L low.length c ∧ f' 9 = .pointer (some ⟨G5, 0, none⟩) ∧ f' 10 = .slice Aa als.length ca ∧ f' 11 = .slice Ao owns.length co ∧ f' 12 = .slice Aw wds.length cw ∧ f' 13 = .int .i64 k ∧ f' 17 = .int .i64 j ∧ f' 18 = .slice A9 ps.length c9 ∧ f' 19 = .slice A10 ol.length c10 ∧ f' 20 = .bool bo ∧ f' 21 = .int .i64 i) ∧
        (bo = true → ∃ (i : Nat) (r : St × List Int), (bPart (stepR m low high) low (firstTo m low) k j)[i]? = some r ∧ r.1 = stepR m low high p.1 e) ∧
        (bo = false → ∀ (i' : Nat) (r : St × List Int), i' < i → (bPart (stepR m low high) low (firstTo m low) k j)[i']? = some r → r.1 ≠ stepR m low high p.1 e) ∧ Below w10.heap.size w10 w')
      (fun f' _ => als.length - (intOf (f' 21)).toNat) ⟨0, false, Nat.zero_le _, (by simp only [push_cast, ↓reduceIte, Nat.reduceEqDiff, true_and, and_true, and_self, eq_self, fr, fr]), fun h => (by cases h), fun _ i' r hi => absurd hi (by omega), Below.refl _ _⟩ ?_
    clear fr
    rintro f w11 ⟨i, bo, hi, fr, hby, hbn, b11⟩ J3 hJ3
    have q1 := q.below b11
    have b81 := b8.trans (b11.mono b8.size)
    have hmu3 : (intOf (f 21)).toNat = i := by rw [fr.2.2.2.2.2.2.2.2.2.2.2.2.2.2]; simp [intOf]
    cases bo with
    | true =>
      obtain ⟨i', r, hr, hre⟩ := hby rfl
      have hin : stepR m low high p.1 e ∈ (bPart (stepR m low high) low (firstTo m low) k j).map (·.1) := List.mem_map.2 ⟨r, List.mem_of_getElem? hr, hre⟩
      rw [bAdd_old hp2 hin] at hsucc
      by_cases hil : i < als.length
      case pos =>
        simp (disch := first | with_reducible assumption | omega) only [push_cast, x_blk, x_cd, ↓reduceIte, Nat.reduceEqDiff, List.map_cons, List.map_nil, Int.reduceEq, Int.lt_irrefl, L_ref12_Told_0, fr, hil]
        exact hJ2 _ _ ⟨j + 1, als, owns, wds, Aa, Ao, Aw, ca, co, cw, by omega, (by simp only [push_cast, ↓reduceIte, Nat.reduceEqDiff, true_and, and_true, and_self, eq_self, fr]), by rw [hsucc]; exact q1, b81⟩ (by rw [hmu2]; simp only [push_cast, ↓reduceIte, Nat.reduceEqDiff, intOf, fr]; omega)
      case neg =>
        simp (disch := first | with_reducible assumption | omega) only [push_cast, x_blk, x_cd, ↓reduceIte, Nat.reduceEqDiff, List.map_cons, List.map_nil, Int.reduceEq, Int.lt_irrefl, L_ref12_Told_0, fr, hil]
        exact hJ2 _ _ ⟨j + 1, als, owns, wds, Aa, Ao, Aw, ca, co, cw, by omega, (by simp only [push_cast, ↓reduceIte, Nat.reduceEqDiff, true_and, and_true, and_self, eq_self, fr]), by rw [hsucc]; exact q1, b81⟩ (by rw [hmu2]; simp only [push_cast, ↓reduceIte, Nat.reduceEqDiff, intOf, fr]; omega)
    | false =>
      have hbn := hbn rfl
      by_cases hil : i < als.length
      case pos =>
        obtain ⟨x', hx'⟩ := some_of_lt hil
        have hio : i < owns.length := by rw [q.n2, ← q.n1]; exact hil
        obtain ⟨o', ho'⟩ := some_of_lt hio
        obtain ⟨r, hr⟩ := some_of_lt (l := bPart (stepR m low high) low (firstTo m low) k j) (i := i) (by rw [← q.n1]; exact hil)
        have hm' := hmatch i x' o' r hx' ho' hr
        have gx := q1.ga x' (List.mem_of_getElem? hx')
        have gT := hT.keep (KeepT.below b11)
        have gpx := gx.n
        have hRa := Recs.lt teEnc (by decide) (OwnR.recs q1.ra teEnc (by decide))
        have sa := q1.ra.isSome (by omega)
        have lx := fun {K : Fr → World → Prop} {f : Fr} {d : Option Nat} {w' : World} => hRa.ld0 (P := Try.prog) (K := K) (f := f) (d := d) (w := w') ty_ag_62 hx' (v := .slice x'.A x'.ps.length x'.c) rfl
        simp only [Nat.mul_one] at lx
        simp (disch := first | with_reducible assumption | omega) only [push_cast, x_blk, x_cd, ↓reduceIte, Nat.reduceEqDiff, List.map_cons, List.map_nil, Int.reduceEq, Int.lt_irrefl, L_ref12_Told_0, fr, hil, lx]
        refine call_of (ref12_Same gx.recs.tlt (by omega) (fun z hz => ⟨(gx.row z hz).1.tlt, (gx.row z hz).2⟩) gT.recs.tlt (by omega) (fun z hz => ⟨(gT.row z hz).1.tlt, (gT.row z hz).2⟩)) ?_
        rintro v w12 ⟨rfl, b12⟩
        have q2 := q1.below b12
        have b112 := b11.trans (b12.mono b11.size)
        have gS := (hS.keep (KeepT.below b11)).keep (KeepT.below b12)
        have hRo := Recs.lt hdEnc (by decide) (OwnR.recs q2.ro hdEnc (by decide))
        have so := q2.ro.isSome (by omega)
        have lo := fun {K : Fr → World → Prop} {f : Fr} {d : Option Nat} {w' : World} => hRo.ld0 (P := Try.prog) (K := K) (f := f) (d := d) (w := w') ty_ag_22 ho' (v := .slice o'.A o'.l.length o'.c) rfl
        simp only [Nat.mul_one] at lo
        have go := q2.go o' (List.mem_of_getElem? ho')
        have gon := go.n
        by_cases c3 : SameP (x'.ps.map Atp.abs) (ps.map Atp.abs)
        case neg =>
          simp (disch := first | with_reducible assumption | omega) only [push_cast, x_blk, x_cd, ↓reduceIte, Nat.reduceEqDiff, List.map_cons, List.map_nil, Int.reduceEq, Int.lt_irrefl, decide_eq_false c3, fr]
          exact hJ3 _ _ ⟨i + 1, false, by omega, (by simp only [push_cast, ↓reduceIte, Nat.reduceEqDiff, true_and, and_true, and_self, eq_self, fr]), fun h => (by cases h), fun _ i' r' hi' hr' => by
            by_cases e' : i' = i
            · subst e'
              rw [hr] at hr'
              rw [← Option.some.inj hr']
              exact fun h => c3 (hm'.2 h).1
            · exact hbn i' r' (by omega) hr', b112⟩ (by rw [hmu3]; simp only [push_cast, ↓reduceIte, Nat.reduceEqDiff, intOf, fr]; omega)
        simp (disch := first | with_reducible assumption | omega) only [push_cast, x_blk, x_cd, ↓reduceIte, Nat.reduceEqDiff, List.map_cons, List.map_nil, Int.reduceEq, Int.lt_irrefl, decide_eq_true c3, fr, hio, lo]
        refine call_of (ref1_Same go.row gS.row o'.c c10 (by omega)) ?_
        rintro v w13 ⟨rfl, s13⟩
        have b113 := b112.trans (s13.below _)
        by_cases c4 : o'.l = ol
        case neg =>
          simp (disch := first | with_reducible assumption | omega) only [push_cast, x_blk, x_cd, ↓reduceIte, Nat.reduceEqDiff, List.map_cons, List.map_nil, Int.reduceEq, Int.lt_irrefl, decide_eq_false c4, fr]
          exact hJ3 _ _ ⟨i + 1, false, by omega, (by simp only [push_cast, ↓reduceIte, Nat.reduceEqDiff, true_and, and_true, and_self, eq_self, fr]), fun h => (by cases h), fun _ i' r' hi' hr' => by
            by_cases e' : i' = i
            · subst e'
              rw [hr] at hr'
              rw [← Option.some.inj hr']
              exact fun h => c4 (hm'.2 h).2
            · exact hbn i' r' (by omega) hr', b113⟩ (by rw [hmu3]; simp only [push_cast, ↓reduceIte, Nat.reduceEqDiff, intOf, fr]; omega)
        simp (disch := first | with_reducible assumption | omega) only [push_cast, x_blk, x_cd, ↓reduceIte, Nat.reduceEqDiff, List.map_cons, List.map_nil, Int.reduceEq, Int.lt_irrefl, decide_eq_true c4, fr]
        exact hJ3 _ _ ⟨i + 1, true, by omega, (by simp only [push_cast, ↓reduceIte, Nat.reduceEqDiff, true_and, and_true, and_self, eq_self, fr]), fun _ => ⟨i, r, hr, hm'.1 ⟨c3, c4⟩⟩, fun h => (by cases h), b113⟩ (by rw [hmu3]; simp only [push_cast, ↓reduceIte, Nat.reduceEqDiff, intOf, fr]; omega)
      case neg =>
        have hnin : stepR m low high p.1 e ∉ (bPart (stepR m low high) low (firstTo m low) k j).map (·.1) := fun hin => by
          obtain ⟨r, hr, hre⟩ := List.mem_map.1 hin
          obtain ⟨i', hi', hri⟩ := List.getElem_of_mem hr
          exact hbn i' r (by rw [← q.n1] at hi'; omega) (by rw [List.getElem?_eq_getElem hi', hri]) hre
        rw [bAdd_new hp2 hnin] at hsucc
        have d11 : Same w11 w11.drew := (Same.refl w11).drew
        replace q1 := q1.below (d11.below _)
        replace b81 := b81.trans (d11.below _)
        have hTu := (hT.keep (KeepT.below b11)).keep (KeepT.same d11)
        have hSu := (hS.keep (KeepT.below b11)).keep (KeepT.same d11)
        generalize hu11 : w11.drew = u11 at *
        have hRw := Recs.lt hdEnc (by decide) (OwnR.recs q1.rw hdEnc (by decide))
        have sw := q1.rw.isSome (by omega)
        have ly := fun {K : Fr → World → Prop} {f : Fr} {d : Option Nat} {w' : World} => hRw.ld0 (P := Try.prog) (K := K) (f := f) (d := d) (w := w') ty_ag_22 hy (v := .slice y.A y.l.length y.c) rfl
        simp only [Nat.mul_one] at ly
        have gy := (q1.gw y (List.mem_of_getElem? hy)).row.tlt
        have hI9 := hI7.below b81
        have sI := hI9.isSome (by omega)
        clear q hT hS
        simp (disch := first | with_reducible assumption | omega) only [push_cast, x_blk, x_cd, ↓reduceIte, Nat.reduceEqDiff, List.map_cons, List.map_nil, Int.reduceEq, Int.lt_irrefl, L_ref12_Told_0, fr, hil, hwds, hjt, hu11, ly, le hI9]
        refine cutT (fun f' w' => ∃ (A12 : Option Addr) (c12 : Nat), (f' 2 = .pointer (some ⟨w.heap.size, 0, none⟩) ∧ f' 4 = .bool false ∧ f' 5 = .slice none 0 0 ∧ f' 6 = .pointer (some ⟨G2, 0, none⟩) ∧ f' 7 = .slice L low.length c ∧ f' 9 = .pointer (some ⟨G5, 0, none⟩) ∧ f' 10 = .slice Aa als.length ca ∧ f' 11 = .slice Ao owns.length co ∧ f' 12 = .slice Aw wds.length cw ∧ f' 13 = .int .i64 k ∧ f' 17 = .int .i64 j ∧ f' 18 = .slice A9 ps.length c9 ∧ f' 19 = .slice A10 ol.length c10 ∧ f' 22 = .slice A12 (y.l ++ [e]).length c12) ∧
            OwnI u11.heap.size 3 w' A12 c12 (y.l ++ [e]) ∧ Below u11.heap.size u11 w') 20000 40000 (by decide) ?_ ?_
        · intro E hE
          have hlw : y.l.length + 1 = (y.l ++ [e]).length := by simp
          rw [x_t_two]
          refine ⟨?_, ?_⟩
          · have b0 : Below u11.heap.size u11 (u11.alloc (.cells [].toArray 3)) := (Below.refl _ _).alloc (Nat.le_refl _) _
            have o0 : OwnI u11.heap.size 3 (u11.alloc (.cells [].toArray 3)) (some ⟨u11.heap.size, 0, none⟩) 0 [] := ⟨World.ownsRow_made u11 #[] 0 (Nat.le_refl _) (by decide) (by simp)⟩
            have z0 : (u11.alloc (.cells [].toArray 3)).heap.size = u11.heap.size + 1 := by simp
            simp (disch := first | with_reducible assumption | omega) only [push_cast, x_blk, x_cd, ↓reduceIte, Nat.reduceEqDiff, List.map_cons, List.map_nil, Int.reduceEq, Int.lt_irrefl, bs0_22]
            refine ⟨b0, ?_⟩
            generalize u11.alloc (Obj.cells [].toArray 3) = v1 at *
            rw [x_t_two]
            refine ⟨?_, ?_⟩
            · simp (disch := first | with_reducible assumption | omega) only [push_cast, x_blk, x_cd, ↓reduceIte, Nat.reduceEqDiff, List.map_cons, List.map_nil, Int.reduceEq, Int.lt_irrefl]
              refine app_ints (l := []) slT_22 o0 (gy.up b0) (by simp; omega) b0.size ?_
              intro A9' c9' w9 o9 hg9 _ z9
              have b9 := hg9.below b0 b0.size o0.geB
              rw [List.nil_append] at o9
              simp (disch := first | with_reducible assumption | omega) only [push_cast, x_blk, x_cd, ↓reduceIte, Nat.reduceEqDiff, List.map_cons, List.map_nil, Int.reduceEq, Int.lt_irrefl, List.length_nil, Nat.zero_add, bs_22]
              refine ⟨b9, b9.alloc b9.size _, ?_⟩
              refine app_int slT_22 o9 e (by omega) b9.size ?_
              intro A10' c10' w10 o10 hg10 _ _ z10
              have b10 := hg10.below b9 b9.size o9.geB
              simp (disch := first | with_reducible assumption | omega) only [push_cast, x_blk, x_cd, ↓reduceIte, Nat.reduceEqDiff, List.map_cons, List.map_nil, Int.reduceEq, Int.lt_irrefl, fr]
              exact hE _ _ ⟨A10', c10', (by simp only [push_cast, ↓reduceIte, Nat.reduceEqDiff, true_and, and_true, and_self, eq_self, fr, hlw]), o10, b10⟩
            · have oE := own_int1 v1 e 3
              have oo := o0.alloc (.cells [.int .i64 e].toArray 3)
              have b1' := b0.alloc b0.size (.cells [.int .i64 e].toArray 3)
              simp (disch := first | with_reducible assumption | omega) only [push_cast, x_blk, x_cd, ↓reduceIte, Nat.reduceEqDiff, List.map_cons, List.map_nil, Int.reduceEq, Int.lt_irrefl, bs_22]
              refine ⟨b1', ?_⟩
              generalize v1.alloc (Obj.cells [.int .i64 e].toArray 3) = v2 at *
              refine app_ints (l := []) slT_22 oo (gy.up b1') (by simp; omega) b1'.size ?_
              intro A9' c9' w9 o9 hg9 _ z9
              have b9 := hg9.below b1' b1'.size oo.geB
              rw [List.nil_append] at o9
              replace oE := oE.grew hg9 (.inr (by simp; omega))
              simp (disch := first | with_reducible assumption | omega) only [push_cast, x_blk, x_cd, ↓reduceIte, Nat.reduceEqDiff, List.map_cons, List.map_nil, Int.reduceEq, Int.lt_irrefl, List.length_nil, Nat.zero_add]
              refine ⟨b9, ?_⟩
              refine app_ints (m := [e]) slT_22 o9 (OwnI.ints oE) (by simp; omega) b9.size ?_
              intro A10' c10' w10 o10 hg10 _ z10
              have b10 := hg10.below b9 b9.size o9.geB
              simp (disch := first | with_reducible assumption | omega) only [push_cast, x_blk, x_cd, ↓reduceIte, Nat.reduceEqDiff, List.map_cons, List.map_nil, Int.reduceEq, Int.lt_irrefl, fr]
              exact hE _ _ ⟨A10', c10', (by simp only [push_cast, ↓reduceIte, Nat.reduceEqDiff, true_and, and_true, and_self, eq_self, fr, List.length_append]), o10, b10⟩
          · have oE := own_int1 u11 e 3
            have b0 : Below u11.heap.size u11 (u11.alloc (.cells [.int .i64 e].toArray 3)) := (Below.refl _ _).alloc (Nat.le_refl _) _
            simp (disch := first | with_reducible assumption | omega) only [push_cast, x_blk, x_cd, ↓reduceIte, Nat.reduceEqDiff, List.map_cons, List.map_nil, Int.reduceEq, Int.lt_irrefl, bs_22, bs0_22]
            refine ⟨b0, ?_⟩
            have z0 : (u11.alloc (.cells [.int .i64 e].toArray 3)).heap.size = u11.heap.size + 1 := by simp
            generalize u11.alloc (Obj.cells [.int .i64 e].toArray 3) = v1 at *
            have b1' := b0.alloc b0.size (.cells [].toArray 3)
            have oo : OwnI v1.heap.size 3 (v1.alloc (.cells [].toArray 3)) (some ⟨v1.heap.size, 0, none⟩) 0 [] := ⟨World.ownsRow_made v1 #[] 0 (Nat.le_refl _) (by decide) (by simp)⟩
            replace oE := oE.alloc (.cells [].toArray 3)
            refine ⟨b1', ?_⟩
            have z1 : (v1.alloc (.cells [].toArray 3)).heap.size = v1.heap.size + 1 := by simp
            generalize v1.alloc (Obj.cells [].toArray 3) = v2 at *
            refine app_ints (l := []) slT_22 oo (gy.up b1') (by simp; omega) (by omega) ?_
            intro A9' c9' w9 o9 hg9 _ z9
            have b9 := hg9.below b1' b1'.size (fun a ha => by have := oo.geB a ha; omega)
            rw [List.nil_append] at o9
            replace oE := oE.grew hg9 (.inr (by simp; omega))
            simp (disch := first | with_reducible assumption | omega) only [push_cast, x_blk, x_cd, ↓reduceIte, Nat.reduceEqDiff, List.map_cons, List.map_nil, Int.reduceEq, Int.lt_irrefl, List.length_nil, Nat.zero_add]
            refine ⟨b9, ?_⟩
            refine app_ints (m := [e]) slT_22 (o9.base (B' := u11.heap.size) (by omega)) (OwnI.ints oE) (by simp; omega) b9.size ?_
            intro A10' c10' w10 o10 hg10 _ z10
            have b10 := hg10.below b9 b9.size (fun a ha => by have := o9.geB a ha; omega)
            simp (disch := first | with_reducible assumption | omega) only [push_cast, x_blk, x_cd, ↓reduceIte, Nat.reduceEqDiff, List.map_cons, List.map_nil, Int.reduceEq, Int.lt_irrefl, fr]
            exact hE _ _ ⟨A10', c10', (by simp only [push_cast, ↓reduceIte, Nat.reduceEqDiff, true_and, and_true, and_self, eq_self, fr, List.length_append]), o10, b10⟩
        · clear fr
          rintro f w12 ⟨A12, c12, fr, o12, b12⟩
          have q2 := q1.below b12
          have b82 := b81.trans (b12.mono b81.size)
          replace hTu := hTu.keep (KeepT.below b12)
          replace hSu := hSu.keep (KeepT.below b12)
          have hwl : (y.l ++ [e]).length ≤ 100000 := by simp; omega
          have hWu : HdT w7.heap.size w12 ⟨A12, c12, y.l ++ [e]⟩ := ⟨OwnI.tyb o12 (by decide), hwl⟩
          clear q1 b81 o12 b12
          have z82 := b82.size
          simp (disch := first | with_reducible assumption | omega) only [push_cast, x_blk, x_cd, ↓reduceIte, Nat.reduceEqDiff, List.map_cons, List.map_nil, Int.reduceEq, Int.lt_irrefl, fr, bs_64]
          refine app_rec teEnc slT_64 q2.ra ⟨A9, c9, ps⟩ (by omega) (by omega) z82 ?_
          intro Aa' ca' w13 ra13 g13 hA13 hs13 z13
          have kt13 := KeepT.grew (es := esT) (B := w7.heap.size) q2.ra (Nat.le_refl _) (by decide) g13
          have ro13 := q2.ro.grew g13 (Own.apart q2.ro q2.ra (by decide))
          have rw13 := q2.rw.grew g13 (Own.apart q2.rw q2.ra (by decide))
          have b83 := g13.below b82 z82 q2.ra.geB
          have z83 := b83.size
          simp (disch := first | with_reducible assumption | omega) only [push_cast, x_blk, x_cd, ↓reduceIte, Nat.reduceEqDiff, List.map_cons, List.map_nil, Int.reduceEq, Int.lt_irrefl, fr, bs_65]
          refine app_rec hdEnc slT_65 ro13 ⟨A10, c10, ol⟩ (by omega) (by omega) z83 ?_
          intro Ao' co' w14 ro14 g14 hA14 hs14 z14
          have kt14 := kt13.trans (KeepT.grew (es := esT) (B := w7.heap.size) ro13 (Nat.le_refl _) (by decide) g14)
          have ra14 := ra13.grew g14 (Own.apart ra13 ro13 (by decide))
          have rw14 := rw13.grew g14 (far_symm q2.far)
          have far14 := far_symm (Own.far rw13 ro13 (far_symm q2.far) hA14)
          have b84 := g14.below b83 z83 ro13.geB
          have z84 := b84.size
          simp (disch := first | with_reducible assumption | omega) only [push_cast, x_blk, x_cd, ↓reduceIte, Nat.reduceEqDiff, List.map_cons, List.map_nil, Int.reduceEq, Int.lt_irrefl, fr, bs_65]
          refine app_rec hdEnc slT_65 rw14 ⟨A12, c12, y.l ++ [e]⟩ (by omega) (by omega) z84 ?_
          intro Aw' cw' w15 rw15 g15 hA15 hs15 z15
          have kt15 := kt14.trans (KeepT.grew (es := esT) (B := w7.heap.size) rw14 (Nat.le_refl _) (by decide) g15)
          have ra15 := ra14.grew g15 (Own.apart ra14 rw14 (by decide))
          have ro15 := ro14.grew g15 far14
          have far15 := Own.far ro14 rw14 far14 hA15
          have b85 := g15.below b84 z84 rw14.geB
          simp (disch := first | with_reducible assumption | omega) only [push_cast, x_blk, x_cd, ↓reduceIte, Nat.reduceEqDiff, List.map_cons, List.map_nil, Int.reduceEq, Int.lt_irrefl, fr]
          refine hJ2 _ _ ⟨j + 1, als ++ [⟨A9, c9, ps⟩], owns ++ [⟨A10, c10, ol⟩], wds ++ [⟨A12, c12, y.l ++ [e]⟩], Aa', Ao', Aw', ca', co', cw', by omega, (by simp only [push_cast, ↓reduceIte, Nat.reduceEqDiff, true_and, and_true, and_self, eq_self, fr, List.length_append, List.length_cons, List.length_nil]), ?_, b85⟩ (by rw [hmu2]; simp only [push_cast, ↓reduceIte, Nat.reduceEqDiff, intOf, fr]; omega)
          have spl : ∀ {α : Type} {P : α → Prop} {l : List α} {z : α}, (∀ x ∈ l, P x) → P z → ∀ x ∈ l ++ [z], P x := fun h1 h2 x hx => by
            rcases List.mem_append.1 hx with hx | hx
            · exact h1 x hx
            · rw [List.mem_singleton.1 hx]; exact h2
          rw [hsucc, hyL.symm]
          exact {
            n1 := by rw [List.length_append, List.length_append, q2.n1]; rfl
            n2 := by rw [List.length_append, List.length_append, q2.n2]; rfl
            n3 := by rw [List.length_append, List.length_append, q2.n3]; rfl
            ra := ra15
            ro := ro15
            rw := rw15
            far := far15
            ga := spl (fun x hx => (q2.ga x hx).keep kt15) (hTu.keep kt15)
            go := spl (fun x hx => (q2.go x hx).keep kt15) (hSu.keep kt15)
            gw := spl (fun x hx => (q2.gw x hx).keep kt15) (hWu.keep kt15)
            ab := fun i x p' hx hp' => by
              rcases Nat.lt_or_ge i als.length with h1 | h1
              · rw [List.getElem?_append_left h1] at hx
                rw [List.getElem?_append_left (by rw [← q2.n1]; exact h1)] at hp'
                exact q2.ab i x p' hx hp'
              · rw [List.getElem?_append_right h1] at hx
                rw [List.getElem?_append_right (by rw [← q2.n1]; exact h1)] at hp'
                have : i - als.length = 0 := by have := getElem?_lt hx; simp at this; omega
                rw [this] at hx
                rw [← q2.n1, this] at hp'
                simp at hx hp'
                subst hx hp'
                simp only
                rw [hyL]
                exact hAf2
            ob := by
              rw [List.map_append, List.map_append, q2.ob, hstp]; rfl
            wb := by rw [List.map_append, List.map_append, q2.wb]; rfl
            ru := spl q2.ru (by rw [hstp]; simp only; rw [hyL]) }
end Go.Proofs.Ytcjinmgieiebbaa
