/-
  The laws CurrentTells, CurrentKeeps: they return true.
-/
import Derived.Test.YtcjinmgieiebbaaDoorCurC
import Derived.Test.YtcjinmgieiebbaaDoorLawMach
namespace Go.Proofs.YtcjinmgieiebbaaDoor
set_option linter.unusedSimpArgs false
set_option linter.unusedVariables false
set_option linter.unusedSectionVars false
open Go.RowKit

theorem bestF_congr {S : Type} [DecidableEq S] {t t' : S → Bool} : ∀ {l : List (S × List Int)}, (∀ x ∈ l, t x.1 = t' x.1) → bestF t l = bestF t' l := by
  intro l h
  unfold bestF
  generalize (none : Option (List Int)) = b
  induction l generalizing b with
  | nil => rfl
  | cons x l ih =>
    rw [List.foldl_cons, List.foldl_cons, h x (List.mem_cons_self ..)]
    exact ih (fun y hy => h y (List.mem_cons_of_mem _ hy)) _
theorem bIter_same {S : Type} [DecidableEq S] {step : S → Int → S} {es : List Int} {first : S} {k k' : Nat} (h : (bIter step es first k).length = k) (h' : (bIter step es first k').length = k') : bIter step es first k = bIter step es first k' := by
  rw [← bIter_stop (Nat.le_of_eq h) (max k k') (Nat.le_max_left _ _), bIter_stop (Nat.le_of_eq h') (max k k') (Nat.le_max_right _ _)]
theorem only_all {s : List Int} {n : Int} (h : IsRow s n) : onlyL s (evs n.toNat) true = s := by
  unfold onlyL
  rw [List.filter_eq_self]
  intro x hx
  have := h.mem hx
  simp only [beq_iff_eq, decide_eq_true_eq]
  exact evs_mem.2 ⟨this.1, by omega⟩
theorem places_row {p : Plt} (h : p.May) (k : Nat) : ∀ x ∈ bIter (nextP p) p.seen (firstP p) k, IsRow x.1 p.m.states :=
  (bIter_good (step := nextP p) (es := p.seen) (U := fun s => IsRow s p.m.states) (fun s _ e _ => seeL_row h.1 _ _ _) (firstP_row h.1) k).univ
theorem lk_best {p : Plt} (h : p.May) {b : Bool} {o : List Int} {e : Int} (hl : LkIs p b o e) {k : Nat} (hk : (bIter (nextP p) p.seen (firstP p) k).length = k) : OptIs (bestF (tellsB p.secret (evs p.m.states.toNat)) (bIter (nextP p) p.seen (firstP p) k)) b o := by
  rcases hl with ⟨hn, _⟩ | ⟨_, _, k', hk', ho⟩
  · exact absurd h hn
  · rw [bIter_same hk hk', bestF_congr (t' := tellB p.secret) fun x hx => ?_]
    · exact ho
    · unfold tellsB tellB
      rw [only_all (places_row h k' x hx)]
theorem law_CurrentTells {w : World} (hT : Tab w) {a0 : PV} {p0 : Plt} (h : IsP (· < w.heap.size) w a0 p0) (hf : p0.Fits) (_hc : a0.Caps p0)
    {A1 : Option Addr} {c1 : Nat} {l1 : List Int} (h1 : Ints (· < w.heap.size) w A1 l1) (_b1 : ∀ x ∈ l1, I64 x) (n1 : l1.length ≤ 17592186043904) (_k1 : l1.length ≤ c1) :
    Cal Tryd.prog 3 [a0.val p0, .slice A1 l1.length c1] w fun v w' => v = .bool true ∧ Below w.heap.size w w' := by
  refine cal_law_CurrentTells (by simp) 100000 fun Q hQ => ?_
  simp (disch := first | with_reducible assumption | omega) only [push_cast, x_blk, x_cd, ↓reduceIte, Nat.reduceEqDiff, List.map_cons, List.map_nil, Int.reduceEq, Int.lt_irrefl, F_law_CurrentTells]
  refine blk_of (box_agg _ (a0.cells p0)) ?_
  intro w1 k1 b1 z1
  simp (disch := first | with_reducible assumption | omega) only [push_cast, x_blk, x_cd, ↓reduceIte, Nat.reduceEqDiff, List.map_cons, List.map_nil, Int.reduceEq, Int.lt_irrefl, k1.pA']
  refine call_of (current_May (h.up b1) hf) ?_
  rintro v w2 ⟨rfl, b2⟩
  replace k1 := k1.below b2 k1.lt
  have bb := b1.trans (b2.mono b1.size)
  clear b1 b2
  simp (disch := first | with_reducible assumption | omega) only [push_cast, x_blk, x_cd, ↓reduceIte, Nat.reduceEqDiff, List.map_cons, List.map_nil, Int.reduceEq, Int.lt_irrefl, k1.pA']
  refine call_of (current_Estimate (h.up bb) hf (hT.below bb hT.lt) (h1.up bb) n1) ?_
  rintro v w3 ⟨O, co, o, e, rfl, hO, b3, e1, e2, e3⟩
  replace k1 := k1.below b3 k1.lt
  have zz := bb.size
  replace bb := bb.trans (b3.mono bb.size)
  replace hO : Ints (· < w3.heap.size) w3 O o := Ints.lt (OwnI.ints hO)
  simp (disch := first | with_reducible assumption | omega) only [push_cast, x_blk, x_cd, ↓reduceIte, Nat.reduceEqDiff, List.map_cons, List.map_nil, Int.reduceEq, Int.lt_irrefl, k1.pA']
  refine call_of (current_Leak (h.up bb) hf) ?_
  rintro v w4 ⟨b2, O2, co2, o2, e', rfl, hO2, ho2, b4, hlk⟩
  replace k1 := k1.below b4 k1.lt
  replace hO := hO.up b4
  replace hO2 : Ints (· < w4.heap.size) w4 O2 o2 := hO2.mono fun b hb => hb.2
  replace bb := bb.trans (b4.mono bb.size)
  simp (disch := first | with_reducible assumption | omega) only [push_cast, x_blk, x_cd, ↓reduceIte, Nat.reduceEqDiff, List.map_cons, List.map_nil, Int.reduceEq, Int.lt_irrefl, k1.pA']
  refine call_of (ref9_May (h.up bb) hf) ?_
  rintro v w5 ⟨rfl, b5⟩
  replace k1 := k1.below b5 k1.lt
  replace hO := hO.up b5
  replace hO2 := hO2.up b5
  replace bb := bb.trans (b5.mono bb.size)
  by_cases p1 : p0.May
  case neg =>
    obtain ⟨rfl, rfl⟩ := e2 p1
    rcases hlk with ⟨_, rfl, rfl, rfl⟩ | ⟨hh, _⟩
    case inr => exact absurd hh p1
    simp (disch := first | with_reducible assumption | omega) only [push_cast, x_blk, x_cd, ↓reduceIte, Nat.reduceEqDiff, List.map_cons, List.map_nil, Int.reduceEq, Int.lt_irrefl, decide_eq_false p1, bne_self_eq_false, eq_self, List.length_nil]
    exact fin_1 (hQ _ _ ⟨rfl, bb⟩)
  have he' : e' = 0 := by
    rcases hlk with ⟨hh, _⟩ | ⟨_, hh, _⟩
    · exact absurd p1 hh
    · exact hh
  subst he'
  simp (disch := first | with_reducible assumption | omega) only [push_cast, x_blk, x_cd, ↓reduceIte, Nat.reduceEqDiff, List.map_cons, List.map_nil, Int.reduceEq, Int.lt_irrefl, decide_eq_true p1, bne_self_eq_false, k1.pA']
  refine call_of (law_seen (h.up bb) hf (h1.up bb) n1) ?_
  rintro v w6 ⟨rfl, b6⟩
  replace k1 := k1.below b6 k1.lt
  replace hO := hO.up b6
  replace hO2 := hO2.up b6
  replace bb := bb.trans (b6.mono bb.size)
  by_cases p2 : AllIn l1 p0.seen
  · obtain ⟨rfl, rfl⟩ := e1 ⟨p1, p2⟩
    simp (disch := first | with_reducible assumption | omega) only [push_cast, x_blk, x_cd, ↓reduceIte, Nat.reduceEqDiff, List.map_cons, List.map_nil, Int.reduceEq, Int.lt_irrefl, decide_eq_true p2, k1.pA']
    refine call_of (ref9_Estimate (h.up bb) hf p1.1 (h1.up bb) n1) ?_
    rintro v w7 ⟨O7, c7, rfl, o7, b7⟩
    replace k1 := k1.below b7 k1.lt
    replace hO := hO.up b7
    replace hO2 := hO2.up b7
    replace bb := bb.trans (b7.mono bb.size)
    have hrl := (estL_row p1.1 l1).len
    simp (disch := first | with_reducible assumption | omega) only [push_cast, x_blk, x_cd, ↓reduceIte, Nat.reduceEqDiff, List.map_cons, List.map_nil, Int.reduceEq, Int.lt_irrefl, eq_self]
    refine call_of (ref1_Same hO (Ints.lt (OwnI.ints o7)) co c7 (by omega)) ?_
    rintro v w8 ⟨rfl, s8⟩
    replace k1 := k1.same s8
    replace hO2 := hO2.same s8
    replace hO2 : Ints (· < w8.heap.size) w8 O2 o2 := by rw [s8.heap]; exact hO2
    replace bb := bb.trans (s8.below _)
    simp (disch := first | with_reducible assumption | omega) only [push_cast, x_blk, x_cd, ↓reduceIte, Nat.reduceEqDiff, List.map_cons, List.map_nil, Int.reduceEq, Int.lt_irrefl, eq_self, k1.pA']
    refine call_of (ref9_Forward (h.up bb) hf p1) ?_
    rintro v wf ⟨kf, ps, Lf, cf, rfl, habs, hlen, hk64, hR, hgood, bf⟩
    replace k1 := k1.below bf k1.lt
    replace hO2 := hO2.below bf
    replace bb := bb.trans (bf.mono bb.size)
    simp (disch := first | with_reducible assumption | omega) only [push_cast, x_blk, x_cd, ↓reduceIte, Nat.reduceEqDiff, List.map_cons, List.map_nil, Int.reduceEq, Int.lt_irrefl, k1.pM]
    refine call_of (law_all (h.up bb).m (by have := p1.1.1; omega) p1.1.2.1) ?_
    rintro v wa ⟨Oa, ca, rfl, oa, ba⟩
    replace k1 := k1.below ba k1.lt
    replace hO2 := (hO2.mono fun b hb => Nat.lt_of_lt_of_le hb bf.size).below ba
    replace bb := bb.trans (ba.mono bb.size)
    have hal := evs_len p0.m.states.toNat
    simp (disch := first | with_reducible assumption | omega) only [push_cast, x_blk, x_cd, ↓reduceIte, Nat.reduceEqDiff, List.map_cons, List.map_nil, Int.reduceEq, Int.lt_irrefl, k1.pA', eq_self]
    refine call_of (law_best (h.up bb) hf ((hR.below ba).mono fun b hb => Nat.lt_of_lt_of_le hb ba.size) (by omega) (fun x hx => (hgood x hx).below ba) (Ints.lt (OwnI.ints oa)) (by have := p1.1.2.1; omega) b2 (hO2.mono fun b hb => Nat.lt_of_lt_of_le hb ba.size) ho2) ?_
    rintro v wb ⟨hbest, _, bb3⟩
    rw [habs] at hbest
    obtain rfl := hbest (lk_best p1 hlk (by rw [← habs, List.length_map, hlen]))
    simp (disch := first | with_reducible assumption | omega) only [push_cast, x_blk, x_cd, ↓reduceIte, Nat.reduceEqDiff, List.map_cons, List.map_nil, Int.reduceEq, Int.lt_irrefl]
    exact fin_1 (hQ _ _ ⟨rfl, bb.trans (bb3.mono bb.size)⟩)
  · obtain ⟨rfl, rfl⟩ := e3 ⟨p1, p2⟩
    simp (disch := first | with_reducible assumption | omega) only [push_cast, x_blk, x_cd, ↓reduceIte, Nat.reduceEqDiff, List.map_cons, List.map_nil, Int.reduceEq, Int.lt_irrefl, decide_eq_false p2, eq_self, List.length_nil, k1.pA']
    refine call_of (ref9_Forward (h.up bb) hf p1) ?_
    rintro v wf ⟨kf, ps, Lf, cf, rfl, habs, hlen, hk64, hR, hgood, bf⟩
    replace k1 := k1.below bf k1.lt
    replace hO2 := hO2.below bf
    replace bb := bb.trans (bf.mono bb.size)
    simp (disch := first | with_reducible assumption | omega) only [push_cast, x_blk, x_cd, ↓reduceIte, Nat.reduceEqDiff, List.map_cons, List.map_nil, Int.reduceEq, Int.lt_irrefl, k1.pM]
    refine call_of (law_all (h.up bb).m (by have := p1.1.1; omega) p1.1.2.1) ?_
    rintro v wa ⟨Oa, ca, rfl, oa, ba⟩
    replace k1 := k1.below ba k1.lt
    replace hO2 := (hO2.mono fun b hb => Nat.lt_of_lt_of_le hb bf.size).below ba
    replace bb := bb.trans (ba.mono bb.size)
    have hal := evs_len p0.m.states.toNat
    simp (disch := first | with_reducible assumption | omega) only [push_cast, x_blk, x_cd, ↓reduceIte, Nat.reduceEqDiff, List.map_cons, List.map_nil, Int.reduceEq, Int.lt_irrefl, k1.pA', eq_self]
    refine call_of (law_best (h.up bb) hf ((hR.below ba).mono fun b hb => Nat.lt_of_lt_of_le hb ba.size) (by omega) (fun x hx => (hgood x hx).below ba) (Ints.lt (OwnI.ints oa)) (by have := p1.1.2.1; omega) b2 (hO2.mono fun b hb => Nat.lt_of_lt_of_le hb ba.size) ho2) ?_
    rintro v wb ⟨hbest, _, bb3⟩
    rw [habs] at hbest
    obtain rfl := hbest (lk_best p1 hlk (by rw [← habs, List.length_map, hlen]))
    simp (disch := first | with_reducible assumption | omega) only [push_cast, x_blk, x_cd, ↓reduceIte, Nat.reduceEqDiff, List.map_cons, List.map_nil, Int.reduceEq, Int.lt_irrefl]
    exact fin_1 (hQ _ _ ⟨rfl, bb.trans (bb3.mono bb.size)⟩)

/-! ## CurrentKeeps -/
theorem lk_none {p : Plt} {o : List Int} {e : Int} (p1 : p.May) (h : LkIs p false o e) : o = [] ∧ ∀ u, AllIn u p.seen → ¬ TellsL (estL p u) p.secret := by
  rcases h with ⟨hn, _⟩ | ⟨_, _, k, hk, ho⟩
  · exact absurd p1 hn
  · rcases bestF_spec (tellB p.secret) (bIter (nextP p) p.seen (firstP p) k) with ⟨hb, hno⟩ | ⟨x, hx, ht, hb, _⟩
    · rw [hb] at ho
      refine ⟨ho.2, fun u hu ht => ?_⟩
      have := first_none (step := nextP p) p1.2.2.1.strict (found := tellB p.secret) hk (fun j q hq => hno q (List.mem_of_getElem? hq)) u hu
      exact absurd ht (of_decide_eq_false this)
    · rw [hb] at ho
      exact absurd ho.1 (by decide)
theorem lk_some {p : Plt} {o : List Int} {e : Int} (p1 : p.May) (h : LkIs p true o e) : AllIn o p.seen ∧ TellsL (estL p o) p.secret ∧ ∀ u, AllIn u p.seen → TellsL (estL p u) p.secret → ¬ Shl u o := by
  rcases h with ⟨hn, _⟩ | ⟨_, _, k, hk, ho⟩
  · exact absurd p1 hn
  · rcases bestF_spec (tellB p.secret) (bIter (nextP p) p.seen (firstP p) k) with ⟨hb, hno⟩ | ⟨x, hx, ht, hb, hmin⟩
    · rw [hb] at ho
      exact absurd ho.1 (by decide)
    · rw [hb] at ho
      obtain rfl : o = x.2 := ho.2
      obtain ⟨i, hi⟩ := List.mem_iff_getElem?.1 hx
      obtain ⟨r1, r2⟩ := bIter_run (step := nextP p) p1.2.2.1.strict hi
      refine ⟨r2, ?_, fun u hu htu => ?_⟩
      · show TellsL (x.2.foldl (nextP p) (firstP p)) p.secret
        rw [← r1]; exact of_decide_eq_true ht
      · obtain ⟨n, i', q, hq, hqs, hle⟩ := bIter_all (step := nextP p) p1.2.2.1.strict (firstP p) u hu
        have hqk : q ∈ bIter (nextP p) p.seen (firstP p) k := by
          rcases Nat.le_total k n with c | c
          · rw [bIter_stop (Nat.le_of_eq hk) n c] at hq; exact List.mem_of_getElem? hq
          · exact (bIter_prefix (step := nextP p) (es := p.seen) (firstP p) c).subset (List.mem_of_getElem? hq)
        have := hmin q hqk (by rw [hqs]; exact decide_eq_true htu)
        exact (this.trans hle).not
theorem keep_tells {w : World} {A : Option Addr} {c : Nat} {s : List Int} (h : Ints (· < w.heap.size) w A s) (n1 : s.length ≤ 17592186043904) {A2 : Option Addr} {c2 : Nat} {l : List Int} (h2 : Ints (· < w.heap.size) w A2 l) (n2 : l.length ≤ 17592186043904) :
    Cal Tryd.prog 22 [.slice A s.length c, .slice A2 l.length c2] w fun v w' => v = .bool (decide (TellsL s l)) ∧ Same w w' := by
  refine cal_keep_tells (by simp) 100000 fun Q hQ => ?_
  simp (disch := first | with_reducible assumption | omega) only [push_cast, x_blk, x_cd, ↓reduceIte, Nat.reduceEqDiff, List.map_cons, List.map_nil, Int.reduceEq, Int.lt_irrefl, F_keep_tells]
  refine loop_rule (fun f w' => ∃ k : Nat, k ≤ s.length ∧ (f 0 = .slice A s.length c ∧ f 1 = .slice A2 l.length c2 ∧ f 5 = .int .i64 k) ∧ (∀ i, i < k → s.getD i 0 ∈ l) ∧ Same w w')
    (fun f _ => s.length - (intOf (f 5)).toNat) ⟨0, Nat.zero_le _, ⟨rfl, rfl, rfl⟩, fun i hi => absurd hi (by omega), Same.refl w⟩ ?_
  rintro f w1 ⟨k, hk, fr, hp, s1⟩ J hJ
  by_cases hlt : k < s.length
  case neg =>
    have hall : AllIn s l := fun x hx => by
      obtain ⟨i, hi, rfl⟩ := (mem_iff_getD s 0 x).1 hx
      exact hp i (by omega)
    have r : decide (TellsL s l) = decide ((0 : Int) < (s.length : Int)) := decide_eq_decide.2 ⟨fun hh => by
      have := List.length_pos_iff.2 hh.1; omega, fun hh => ⟨fun e => by rw [e] at hh; simp at hh, hall⟩⟩
    simp (disch := first | with_reducible assumption | omega) only [push_cast, x_blk, x_cd, ↓reduceIte, Nat.reduceEqDiff, List.map_cons, List.map_nil, Int.reduceEq, Int.lt_irrefl, L_keep_tells_0, fr, hlt]
    exact fin_1 (hQ _ _ ⟨(by simp only [push_cast, ↓reduceIte, Nat.reduceEqDiff, Int.reduceEq, r]), s1⟩)
  have hI := h.same s1
  have hA := hI.isSome (by omega)
  have hin := getD_mem s 0 k hlt
  have hld := fun {K : Fr → World → Prop} {f : Fr} {d : Option Nat} {w : World} => hI.ld (P := Tryd.prog) (K := K) (f := f) (d := d) (w := w) ty_ag_3 k hlt
  generalize hx : s.getD k 0 = x at *
  simp (disch := first | with_reducible assumption | omega) only [push_cast, x_blk, x_cd, ↓reduceIte, Nat.reduceEqDiff, List.map_cons, List.map_nil, Int.reduceEq, Int.lt_irrefl, L_keep_tells_0, fr, hlt, hld]
  refine call_of (keep_has (h2.same s1) c2 x (by omega)) ?_
  rintro v w3 ⟨rfl, s3⟩
  by_cases q : x ∈ l
  · simp (disch := first | with_reducible assumption | omega) only [push_cast, x_blk, x_cd, ↓reduceIte, Nat.reduceEqDiff, List.map_cons, List.map_nil, Int.reduceEq, Int.lt_irrefl, fr, decide_eq_true q]
    exact hJ _ _ ⟨k + 1, hlt, (by simp only [push_cast, ↓reduceIte, Nat.reduceEqDiff, true_and, and_true, and_self, eq_self, fr]), fun i hi => if e : i = k then by rw [e, hx]; exact q else hp i (by omega), s1.trans s3⟩ (by simp only [push_cast, ↓reduceIte, Nat.reduceEqDiff, intOf, fr]; omega)
  · have r : decide (TellsL s l) = false := decide_eq_false fun hh => q (hh.2 x hin)
    simp (disch := first | with_reducible assumption | omega) only [push_cast, x_blk, x_cd, ↓reduceIte, Nat.reduceEqDiff, List.map_cons, List.map_nil, Int.reduceEq, Int.lt_irrefl, fr, decide_eq_false q]
    exact fin_1 (hQ _ _ ⟨(by simp only [push_cast, ↓reduceIte, Nat.reduceEqDiff, Int.reduceEq, r]), s1.trans s3⟩)
theorem law_CurrentKeeps {w : World} (hT : Tab w) {a0 : PV} {p0 : Plt} (h : IsP (· < w.heap.size) w a0 p0) (hf : p0.Fits) (_hc : a0.Caps p0)
    {A1 : Option Addr} {c1 : Nat} {l1 : List Int} (h1 : Ints (· < w.heap.size) w A1 l1) (_b1 : ∀ x ∈ l1, I64 x) (n1 : l1.length ≤ 17592186043904) (_k1 : l1.length ≤ c1) :
    Cal Tryd.prog 4 [a0.val p0, .slice A1 l1.length c1] w fun v w' => v = .bool true ∧ Below w.heap.size w w' := by
  have nQ := hf.lenQ
  refine cal_keep_CurrentKeeps (by simp) 100000 fun Q hQ => ?_
  simp (disch := first | with_reducible assumption | omega) only [push_cast, x_blk, x_cd, ↓reduceIte, Nat.reduceEqDiff, List.map_cons, List.map_nil, Int.reduceEq, Int.lt_irrefl, F_keep_CurrentKeeps]
  refine blk_of (box_agg _ (a0.cells p0)) ?_
  intro w1 k1 b1 z1
  simp (disch := first | with_reducible assumption | omega) only [push_cast, x_blk, x_cd, ↓reduceIte, Nat.reduceEqDiff, List.map_cons, List.map_nil, Int.reduceEq, Int.lt_irrefl, k1.pA']
  refine call_of (current_Leak (h.up b1) hf) ?_
  rintro v w2 ⟨b2, O2, co2, o2, e', rfl, hO2, ho2, b4, hlk⟩
  replace k1 := k1.below b4 k1.lt
  replace hO2 : Ints (· < w2.heap.size) w2 O2 o2 := hO2.mono fun b hb => hb.2
  have bb := b1.trans (b4.mono b1.size)
  by_cases p1 : p0.May
  case neg =>
    rcases hlk with ⟨_, rfl, rfl, rfl⟩ | ⟨hh, _⟩
    case inr => exact absurd hh p1
    simp (disch := first | with_reducible assumption | omega) only [push_cast, x_blk, x_cd, ↓reduceIte, Nat.reduceEqDiff, List.map_cons, List.map_nil, Int.reduceEq, Int.lt_irrefl, eq_self, List.length_nil, k1.pA']
    refine call_of (current_May (h.up bb) hf) ?_
    rintro v w3 ⟨rfl, b3⟩
    simp (disch := first | with_reducible assumption | omega) only [push_cast, x_blk, x_cd, ↓reduceIte, Nat.reduceEqDiff, List.map_cons, List.map_nil, Int.reduceEq, Int.lt_irrefl, decide_eq_false p1]
    exact fin_1 (hQ _ _ ⟨(by simp only [push_cast, ↓reduceIte, Nat.reduceEqDiff, Int.reduceEq]), bb.trans (b3.mono bb.size)⟩)
  have he' : e' = 0 := by
    rcases hlk with ⟨hh, _⟩ | ⟨_, hh, _⟩
    · exact absurd p1 hh
    · exact hh
  subst he'
  simp (disch := first | with_reducible assumption | omega) only [push_cast, x_blk, x_cd, ↓reduceIte, Nat.reduceEqDiff, List.map_cons, List.map_nil, Int.reduceEq, Int.lt_irrefl, eq_self, k1.pA']
  refine call_of (current_May (h.up bb) hf) ?_
  rintro v w3 ⟨rfl, b3⟩
  replace k1 := k1.below b3 k1.lt
  replace hO2 := hO2.up b3
  replace bb := bb.trans (b3.mono bb.size)
  simp (disch := first | with_reducible assumption | omega) only [push_cast, x_blk, x_cd, ↓reduceIte, Nat.reduceEqDiff, List.map_cons, List.map_nil, Int.reduceEq, Int.lt_irrefl, decide_eq_true p1, k1.pA']
  refine call_of (current_Estimate (h.up bb) hf (hT.below bb hT.lt) (h1.up bb) n1) ?_
  rintro v w4 ⟨O, co, o, e, rfl, hO, b5, e1, e2, e3⟩
  replace k1 := k1.below b5 k1.lt
  replace hO2 := hO2.up b5
  replace bb := bb.trans (b5.mono bb.size)
  replace hO : Ints (· < w4.heap.size) w4 O o := Ints.lt (OwnI.ints hO)
  by_cases p2 : AllIn l1 p0.seen
  case neg =>
    obtain ⟨rfl, rfl⟩ := e3 ⟨p1, p2⟩
    simp (disch := first | with_reducible assumption | omega) only [push_cast, x_blk, x_cd, ↓reduceIte, Nat.reduceEqDiff, List.map_cons, List.map_nil, Int.reduceEq, Int.lt_irrefl, k1.pA']
    have h256' := p1.1.2.1
    refine call_of (current_Estimate (h.up bb) hf (hT.below bb hT.lt) hO2 (by omega)) ?_
    rintro v w8 ⟨O8, c8, o8, e8, rfl, hO8, b8, g1, g2, g3⟩
    replace k1 := k1.below b8 k1.lt
    have bb8 := bb.trans (b8.mono bb.size)
    cases b2 with
    | false =>
      first
      | exact absurd ‹false = true› (by decide)
      | (obtain ⟨rfl, _⟩ := lk_none p1 hlk
         obtain ⟨rfl, rfl⟩ := g1 ⟨p1, fun x hx => absurd hx (by simp)⟩
         simp (disch := first | with_reducible assumption | omega) only [push_cast, x_blk, x_cd, ↓reduceIte, Nat.reduceEqDiff, List.map_cons, List.map_nil, Int.reduceEq, Int.lt_irrefl, eq_self]
         exact fin_1 (hQ _ _ ⟨(by simp only [push_cast, ↓reduceIte, Nat.reduceEqDiff, Int.reduceEq]), bb8⟩))
    | true =>
      obtain ⟨q1, q2, _⟩ := lk_some p1 hlk
      obtain ⟨rfl, rfl⟩ := g1 ⟨p1, q1⟩
      have hrl := row_len (estL_row p1.1 o2)
      simp (disch := first | with_reducible assumption | omega) only [push_cast, x_blk, x_cd, ↓reduceIte, Nat.reduceEqDiff, List.map_cons, List.map_nil, Int.reduceEq, Int.lt_irrefl, eq_self, k1.p6]
      refine call_of (keep_tells (Ints.lt (OwnI.ints hO8)) (by omega) (h.up bb8).secret (by omega)) ?_
      rintro v w9 ⟨rfl, s9⟩
      simp (disch := first | with_reducible assumption | omega) only [push_cast, x_blk, x_cd, ↓reduceIte, Nat.reduceEqDiff, List.map_cons, List.map_nil, Int.reduceEq, Int.lt_irrefl, decide_eq_true q2]
      exact fin_1 (hQ _ _ ⟨(by simp only [push_cast, ↓reduceIte, Nat.reduceEqDiff, Int.reduceEq]), bb8.trans (s9.below _)⟩)
  obtain ⟨rfl, rfl⟩ := e1 ⟨p1, p2⟩
  have hrl := row_len (estL_row p1.1 l1)
  have h256 := p1.1.2.1
  simp (disch := first | with_reducible assumption | omega) only [push_cast, x_blk, x_cd, ↓reduceIte, Nat.reduceEqDiff, List.map_cons, List.map_nil, Int.reduceEq, Int.lt_irrefl, eq_self, k1.p6]
  refine call_of (keep_tells hO (by omega) (h.up bb).secret (by omega)) ?_
  rintro v w5 ⟨rfl, s5⟩
  replace k1 := k1.same s5
  replace hO2 := hO2.up (s5.below _)
  replace bb := bb.trans (s5.below _)
  by_cases p3 : TellsL (estL p0 l1) p0.secret
  case neg =>
    simp (disch := first | with_reducible assumption | omega) only [push_cast, x_blk, x_cd, ↓reduceIte, Nat.reduceEqDiff, List.map_cons, List.map_nil, Int.reduceEq, Int.lt_irrefl, decide_eq_false p3, k1.pA']
    have h256' := p1.1.2.1
    refine call_of (current_Estimate (h.up bb) hf (hT.below bb hT.lt) hO2 (by omega)) ?_
    rintro v w8 ⟨O8, c8, o8, e8, rfl, hO8, b8, g1, g2, g3⟩
    replace k1 := k1.below b8 k1.lt
    have bb8 := bb.trans (b8.mono bb.size)
    cases b2 with
    | false =>
      first
      | exact absurd ‹false = true› (by decide)
      | (obtain ⟨rfl, _⟩ := lk_none p1 hlk
         obtain ⟨rfl, rfl⟩ := g1 ⟨p1, fun x hx => absurd hx (by simp)⟩
         simp (disch := first | with_reducible assumption | omega) only [push_cast, x_blk, x_cd, ↓reduceIte, Nat.reduceEqDiff, List.map_cons, List.map_nil, Int.reduceEq, Int.lt_irrefl, eq_self]
         exact fin_1 (hQ _ _ ⟨(by simp only [push_cast, ↓reduceIte, Nat.reduceEqDiff, Int.reduceEq]), bb8⟩))
    | true =>
      obtain ⟨q1, q2, _⟩ := lk_some p1 hlk
      obtain ⟨rfl, rfl⟩ := g1 ⟨p1, q1⟩
      have hrl := row_len (estL_row p1.1 o2)
      simp (disch := first | with_reducible assumption | omega) only [push_cast, x_blk, x_cd, ↓reduceIte, Nat.reduceEqDiff, List.map_cons, List.map_nil, Int.reduceEq, Int.lt_irrefl, eq_self, k1.p6]
      refine call_of (keep_tells (Ints.lt (OwnI.ints hO8)) (by omega) (h.up bb8).secret (by omega)) ?_
      rintro v w9 ⟨rfl, s9⟩
      simp (disch := first | with_reducible assumption | omega) only [push_cast, x_blk, x_cd, ↓reduceIte, Nat.reduceEqDiff, List.map_cons, List.map_nil, Int.reduceEq, Int.lt_irrefl, decide_eq_true q2]
      exact fin_1 (hQ _ _ ⟨(by simp only [push_cast, ↓reduceIte, Nat.reduceEqDiff, Int.reduceEq]), bb8.trans (s9.below _)⟩)
  have hb2 : b2 = true := by
    cases b2 with
    | true => rfl
    | false => exact absurd p3 ((lk_none p1 hlk).2 l1 p2)
  have p4 := (lk_some p1 (hb2 ▸ hlk)).2.2 l1 p2 p3
  simp (disch := first | with_reducible assumption | omega) only [push_cast, x_blk, x_cd, ↓reduceIte, Nat.reduceEqDiff, List.map_cons, List.map_nil, Int.reduceEq, Int.lt_irrefl, decide_eq_true p3, hb2]
  refine call_of (keep_lesser (h1.up bb) hO2 c1 co2 (by omega)) ?_
  rintro v w6 ⟨rfl, s6⟩
  replace k1 := k1.same s6
  replace hO2 := hO2.up (s6.below _)
  replace bb := bb.trans (s6.below _)
  simp (disch := first | with_reducible assumption | omega) only [push_cast, x_blk, x_cd, ↓reduceIte, Nat.reduceEqDiff, List.map_cons, List.map_nil, Int.reduceEq, Int.lt_irrefl, decide_eq_false p4, k1.pA']
  have h256' := p1.1.2.1
  refine call_of (current_Estimate (h.up bb) hf (hT.below bb hT.lt) hO2 (by omega)) ?_
  rintro v w8 ⟨O8, c8, o8, e8, rfl, hO8, b8, g1, g2, g3⟩
  replace k1 := k1.below b8 k1.lt
  have bb8 := bb.trans (b8.mono bb.size)
  cases b2 with
  | false =>
    first
    | exact absurd ‹false = true› (by decide)
    | (obtain ⟨rfl, _⟩ := lk_none p1 hlk
       obtain ⟨rfl, rfl⟩ := g1 ⟨p1, fun x hx => absurd hx (by simp)⟩
       simp (disch := first | with_reducible assumption | omega) only [push_cast, x_blk, x_cd, ↓reduceIte, Nat.reduceEqDiff, List.map_cons, List.map_nil, Int.reduceEq, Int.lt_irrefl, eq_self]
       exact fin_1 (hQ _ _ ⟨(by simp only [push_cast, ↓reduceIte, Nat.reduceEqDiff, Int.reduceEq]), bb8⟩))
  | true =>
    obtain ⟨q1, q2, _⟩ := lk_some p1 hlk
    obtain ⟨rfl, rfl⟩ := g1 ⟨p1, q1⟩
    have hrl := row_len (estL_row p1.1 o2)
    simp (disch := first | with_reducible assumption | omega) only [push_cast, x_blk, x_cd, ↓reduceIte, Nat.reduceEqDiff, List.map_cons, List.map_nil, Int.reduceEq, Int.lt_irrefl, eq_self, k1.p6]
    refine call_of (keep_tells (Ints.lt (OwnI.ints hO8)) (by omega) (h.up bb8).secret (by omega)) ?_
    rintro v w9 ⟨rfl, s9⟩
    simp (disch := first | with_reducible assumption | omega) only [push_cast, x_blk, x_cd, ↓reduceIte, Nat.reduceEqDiff, List.map_cons, List.map_nil, Int.reduceEq, Int.lt_irrefl, decide_eq_true q2]
    exact fin_1 (hQ _ _ ⟨(by simp only [push_cast, ↓reduceIte, Nat.reduceEqDiff, Int.reduceEq]), bb8.trans (s9.below _)⟩)
end Go.Proofs.YtcjinmgieiebbaaDoor
