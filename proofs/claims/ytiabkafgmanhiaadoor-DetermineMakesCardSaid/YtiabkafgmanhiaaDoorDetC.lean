/-
  Chapter 6: the program's Is, by its contract; the law DetermineSame.
-/
import Derived.Test.YtiabkafgmanhiaaDoorDetP
import Derived.Test.YtiabkafgmanhiaaDoorLawMach
namespace Go.Proofs.YtiabkafgmanhiaaDoor
set_option linter.unusedSimpArgs false
set_option linter.unusedVariables false
set_option linter.unusedSectionVars false
open Go.RowKit

section
variable {P : Program} {K : Fr → World → Prop} {u w : World} {f : Fr} {d : Option Nat} {t : TypeId} {xo yo : Operand}
theorem bin_quoE {k n q : Nat} {x : Int} (hx : (n : Int) = x) (h : k / n = q) (hn : 0 < n) (hk : k ≤ 9223372036854775807) : Val1 P K (binS .quo t xo yo (.int .i64 k) (.int .i64 x)) u f d w = K (updO f d (.int .i64 q)) w := by
  subst hx; subst h; exact bin_quo k n hn hk
theorem bin_remE {k n q : Nat} {x : Int} (hx : (n : Int) = x) (h : k % n = q) (hn : 0 < n) : Val1 P K (binS .rem t xo yo (.int .i64 k) (.int .i64 x)) u f d w = K (updO f d (.int .i64 q)) w := by
  subst hx; subst h; exact bin_rem k n hn
end
theorem determine_Is {w : World} {a : MV} {m : Mach} (ha : IsM (· < w.heap.size) w a m) (hf : m.Fits) :
    Cal Tryd.prog 27 [a.val m] w fun v w' => v = .bool (decide (IsDet m)) ∧ Below w.heap.size w w' := by
  refine cal_determine_Is (by simp) 100000 fun Q hQ => ?_
  simp (disch := first | with_reducible assumption | omega) only [push_cast, x_blk, x_cd, ↓reduceIte, Nat.reduceEqDiff, List.map_cons, List.map_nil, Int.reduceEq, Int.lt_irrefl, F_determine_Is]
  refine blk_of (box_agg _ (a.cells m)) ?_
  intro w1 k1 b1 z1
  have bb := b1
  have up : ∀ {w' : World} {c : MV} {mc : Mach}, IsM (· < w.heap.size) w c mc → Below w.heap.size w w' → IsM (· < w'.heap.size) w' c mc := fun {w' c mc} h hb => (h.below hb).mono fun b hl => Nat.lt_of_lt_of_le hl hb.size
  simp (disch := first | with_reducible assumption | omega) only [push_cast, x_blk, x_cd, ↓reduceIte, Nat.reduceEqDiff, List.map_cons, List.map_nil, Int.reduceEq, Int.lt_irrefl, k1.mA ty_ag_25 ty_sz_25]
  refine call_of (machine_May (up ha bb) hf) ?_
  rintro v w2 ⟨rfl, b2⟩
  replace k1 := k1.below b2 k1.lt
  replace bb := bb.trans (b2.mono bb.size)
  by_cases p1 : m.May
  case neg =>
    have hno : IsDet m → False := fun h => p1 h.1
    simp (disch := first | with_reducible assumption | omega) only [push_cast, x_blk, x_cd, ↓reduceIte, Nat.reduceEqDiff, List.map_cons, List.map_nil, Int.reduceEq, Int.lt_irrefl, p1, p1]
    exact fin_1 (hQ _ _ ⟨by rw [decide_eq_false (fun h : IsDet m => hno h)]; rfl, bb⟩)
  have m1 : 1 ≤ m.states := p1.1
  have m2 : m.states ≤ 256 := p1.2.1
  have m3 : 0 ≤ m.events := p1.2.2.1
  have m4 : m.events ≤ 8 := p1.2.2.2.1
  have m5 : m.arrows.length ≤ 4096 := p1.2.2.2.2.1
  have x0 : 0 ≤ m.states * m.events := Int.mul_nonneg (by omega) m3
  have x1 : m.states * m.events ≤ 256 * 8 := Int.mul_le_mul m2 m4 m3 (by omega)
  by_cases p2 : (m.starts.length : Int) = 1
  case neg =>
    have hno : IsDet m → False := fun h => p2 (by have := h.2.1; omega)
    simp (disch := first | with_reducible assumption | omega) only [push_cast, x_blk, x_cd, ↓reduceIte, Nat.reduceEqDiff, List.map_cons, List.map_nil, Int.reduceEq, Int.lt_irrefl, p1, p2, k1.m2 ty_ag_22]
    exact fin_1 (hQ _ _ ⟨by rw [decide_eq_false (fun h : IsDet m => hno h)]; rfl, bb⟩)
  by_cases p3 : (m.arrows.length : Int) = m.states * m.events
  case neg =>
    have hno : IsDet m → False := fun h => p3 h.2.2.1
    simp (disch := first | with_reducible assumption | omega) only [push_cast, x_blk, x_cd, ↓reduceIte, Nat.reduceEqDiff, List.map_cons, List.map_nil, Int.reduceEq, Int.lt_irrefl, p1, p2, p3, eq_self, k1.m2 ty_ag_22, k1.m3 ty_ag_23, k1.m0 ty_ag_3, k1.m1 ty_ag_3]
    exact fin_1 (hQ _ _ ⟨by rw [decide_eq_false (fun h : IsDet m => hno h)]; rfl, bb⟩)
  simp (disch := first | with_reducible assumption | omega) only [push_cast, x_blk, x_cd, ↓reduceIte, Nat.reduceEqDiff, List.map_cons, List.map_nil, Int.reduceEq, Int.lt_irrefl, p1, p2, p3, eq_self, k1.m2 ty_ag_22, k1.m3 ty_ag_23, k1.m0 ty_ag_3, k1.m1 ty_ag_3]
  have z12 : w1.heap.size ≤ w2.heap.size := b2.size
  rw [← p3]
  refine loop_rule (fun f w' => ∃ k : Nat, k ≤ m.arrows.length ∧ (f 1 = .pointer (some ⟨w.heap.size, 0, none⟩) ∧ f 26 = .slice a.Aa m.arrows.length a.ca ∧ f 27 = .int .i64 (m.arrows.length : Int) ∧ f 28 = .int .i64 k) ∧
      (∀ i, i < k → (m.arrows.getD i default).frm = ((i / m.events.toNat : Nat) : Int) ∧ (m.arrows.getD i default).evt = ((i % m.events.toNat : Nat) : Int)) ∧ Blk w' w.heap.size 25 (a.cells m) ∧ Below w.heap.size w w')
    (fun f _ => m.arrows.length - (intOf (f 28)).toNat) ⟨0, Nat.zero_le _, ⟨rfl, rfl, rfl, rfl⟩, fun i hi => absurd hi (by omega), k1, bb⟩ ?_
  clear k1 bb
  rintro f w3 ⟨k, hk, fr, hp, k1, bb⟩ J hJ
  by_cases hlt : k < m.arrows.length
  case neg =>
    have r : decide (IsDet m) = true := decide_eq_true ⟨p1, by omega, p3, fun i hi => hp i (by omega)⟩
    simp (disch := first | with_reducible assumption | omega) only [push_cast, x_blk, x_cd, ↓reduceIte, Nat.reduceEqDiff, List.map_cons, List.map_nil, Int.reduceEq, Int.lt_irrefl, L_determine_Is_0, fr, hlt]
    exact fin_1 (hQ _ _ ⟨(by simp only [push_cast, ↓reduceIte, Nat.reduceEqDiff, Int.reduceEq, r]), bb⟩)
  have h1 := (up ha bb).arrows
  have hA := h1.isSome (by omega)
  simp (disch := first | with_reducible assumption | omega) only [push_cast, x_blk, x_cd, ↓reduceIte, Nat.reduceEqDiff, List.map_cons, List.map_nil, Int.reduceEq, Int.lt_irrefl, L_determine_Is_0, fr, hlt, h1.ldA ty_ag_75 ty_sz_75]
  refine blk_of al_75 ?_
  intro w4 k4 b4 z4
  simp (disch := first | with_reducible assumption | omega) only [push_cast, x_blk, x_cd, ↓reduceIte, Nat.reduceEqDiff, List.map_cons, List.map_nil, Int.reduceEq, Int.lt_irrefl]
  refine sto_blk k4 (cs := arrCells (m.arrows.getD k default)) ty_sz_75 rfl (by simp [arrCells, Value.oneCell']) ?_
  intro w5 k5 q5 z5
  have zz := bb.size
  have b35 : Below w3.heap.size w3 w5 := q5.below b4 (by omega) (by intro a ha; injection ha with ha; subst ha; exact Nat.le_refl _)
  have k1' := (k1.below b35 k1.lt).drew
  have bb' := drawn (bb.trans (b35.mono bb.size))
  have k5' := k5.drew
  have hnp : 0 < m.events.toNat := by
    rcases Nat.eq_zero_or_pos m.events.toNat with c | c
    · have : m.events = 0 := by omega
      rw [this, Int.mul_zero] at p3; omega
    · exact c
  have hne : ((m.events.toNat : Nat) : Int) = m.events := by omega
  have hcan := fun h : IsDet m => h.2.2.2 k hlt
  obtain ⟨qk, hqk⟩ : ∃ q, k / m.events.toNat = q := ⟨_, rfl⟩
  obtain ⟨rk, hrk⟩ : ∃ q, k % m.events.toNat = q := ⟨_, rfl⟩
  rw [hqk, hrk] at hcan
  have hq := fun {K : Fr → World → Prop} {u w : World} {f : Fr} {d : Option Nat} {t : TypeId} {xo yo : Operand} => bin_quoE (P := Tryd.prog) (K := K) (u := u) (w := w) (f := f) (d := d) (t := t) (xo := xo) (yo := yo) hne hqk hnp (by omega)
  have hr := fun {K : Fr → World → Prop} {u w : World} {f : Fr} {d : Option Nat} {t : TypeId} {xo yo : Operand} => bin_remE (P := Tryd.prog) (K := K) (u := u) (w := w) (f := f) (d := d) (t := t) (xo := xo) (yo := yo) hne hrk hnp
  have hstep : ∀ x : Int, (m.arrows.getD k default).frm = (qk : Int) → (m.arrows.getD k default).evt = (rk : Int) → ∀ i, i < k + 1 → (m.arrows.getD i default).frm = ((i / m.events.toNat : Nat) : Int) ∧ (m.arrows.getD i default).evt = ((i % m.events.toNat : Nat) : Int) := fun _ h1 h2 i hi => by
    rcases Nat.lt_or_ge i k with c | c
    · exact hp i c
    · obtain rfl : i = k := by omega
      rw [hqk, hrk]; exact ⟨h1, h2⟩
  generalize m.arrows.getD k default = y at *
  generalize hw5 : w5.drew = v at *
  by_cases d1 : y.frm = (qk : Int)
  case neg =>
    have r : decide (IsDet m) = false := decide_eq_false fun h => d1 (hcan h).1
    simp (disch := first | with_reducible assumption | omega) only [push_cast, x_blk, x_cd, ↓reduceIte, Nat.reduceEqDiff, List.map_cons, List.map_nil, Int.reduceEq, Int.lt_irrefl, hw5, fr, d1, hq, hr, k5'.a0 ty_ag_3, k5'.a1 ty_ag_3, k1'.m1 ty_ag_3]
    exact fin_1 (hQ _ _ ⟨(by simp only [push_cast, ↓reduceIte, Nat.reduceEqDiff, Int.reduceEq, r]), bb'⟩)
  by_cases d2 : y.evt = (rk : Int)
  case neg =>
    have r : decide (IsDet m) = false := decide_eq_false fun h => d2 (hcan h).2
    simp (disch := first | with_reducible assumption | omega) only [push_cast, x_blk, x_cd, ↓reduceIte, Nat.reduceEqDiff, List.map_cons, List.map_nil, Int.reduceEq, Int.lt_irrefl, hw5, fr, d1, d2, hq, hr, eq_self, k5'.a0 ty_ag_3, k5'.a1 ty_ag_3, k1'.m1 ty_ag_3]
    exact fin_1 (hQ _ _ ⟨(by simp only [push_cast, ↓reduceIte, Nat.reduceEqDiff, Int.reduceEq, r]), bb'⟩)
  have hstep := hstep 0 d1 d2
  simp (disch := first | with_reducible assumption | omega) only [push_cast, x_blk, x_cd, ↓reduceIte, Nat.reduceEqDiff, List.map_cons, List.map_nil, Int.reduceEq, Int.lt_irrefl, hw5, fr, d1, d2, hq, hr, eq_self, k5'.a0 ty_ag_3, k5'.a1 ty_ag_3, k1'.m1 ty_ag_3]
  exact hJ _ _ ⟨k + 1, hlt, (by simp only [push_cast, ↓reduceIte, Nat.reduceEqDiff, true_and, and_true, and_self, eq_self, fr]), hstep, k1', bb'⟩ (by simp only [push_cast, ↓reduceIte, Nat.reduceEqDiff, intOf, fr]; omega)

theorem Det.fits {m : Mach} {L : List (List Int)} {ar : List Arr} (h : Det m L ar) : (detOf m L ar).Fits := by
  have hm := h.may
  have a1 := hm.1
  have a2 := hm.2.1
  have a3 := hm.2.2.1
  have a4 := hm.2.2.2.1
  have a5 := hm.2.2.2.2.1
  have r6 := hm.2.2.2.2.2.1
  have r7 := hm.2.2.2.2.2.2.1
  refine ⟨⟨by omega, by omega⟩, ⟨by omega, by omega⟩, fun x hx => ?_, fun x hx => ?_, fun a ha => ?_, by have := r6.len; omega, by have := r7.len; omega, by omega⟩
  · have := r6.mem hx; exact ⟨by omega, by omega⟩
  · have := r7.mem hx; exact ⟨by omega, by omega⟩
  · have := May.arr hm ha
    unfold Mach.ArrOk at this
    exact ⟨⟨by omega, by omega⟩, ⟨by omega, by omega⟩, ⟨by omega, by omega⟩⟩

theorem law_DetermineSame {w : World} (hT : Tab w) {a0 : MV} {m0 : Mach} (h : IsM (· < w.heap.size) w a0 m0) (hf : m0.Fits)
    {A1 : Option Addr} {c1 : Nat} {l1 : List Int} (h1 : Ints (· < w.heap.size) w A1 l1) (_b1 : ∀ x ∈ l1, I64 x) (n1 : l1.length ≤ 17592186043904) (_k1 : l1.length ≤ c1) :
    Cal Tryd.prog 9 [a0.val m0, .slice A1 l1.length c1] w fun v w' => v = .bool true ∧ Below w.heap.size w w' := by
  have e5 : ∀ (a : MV) (m : Mach), tySize Tryd.prog 25 = some (a.cells m).length := fun a m => ty_sz_25
  refine cal_keep_DetermineSame (by simp) 100000 fun Q hQ => ?_
  simp (disch := first | with_reducible assumption | omega) only [push_cast, x_blk, x_cd, ↓reduceIte, Nat.reduceEqDiff, List.map_cons, List.map_nil, Int.reduceEq, Int.lt_irrefl, F_keep_DetermineSame]
  refine blk_of (box_agg _ (a0.cells m0)) ?_
  intro w1 k1 b1 z1
  have bb := b1
  have up : ∀ {w' : World} {c : MV} {mc : Mach}, IsM (· < w.heap.size) w c mc → Below w.heap.size w w' → IsM (· < w'.heap.size) w' c mc := fun {w' c mc} h hb => (h.below hb).mono fun b hl => Nat.lt_of_lt_of_le hl hb.size
  simp (disch := first | with_reducible assumption | omega) only [push_cast, x_blk, x_cd, ↓reduceIte, Nat.reduceEqDiff, List.map_cons, List.map_nil, Int.reduceEq, Int.lt_irrefl, k1.mA ty_ag_25 ty_sz_25]
  refine call_of (determine_Make (up h bb) hf (hT.below bb hT.lt)) ?_
  rintro v w2 ⟨dv, dm, R, cr, hs, e, rfl, hd, hR, hro, b2, hsp⟩
  replace k1 := k1.below b2 k1.lt
  replace bb := bb.trans (b2.mono bb.size)
  have zz := bb.size
  simp (disch := first | with_reducible assumption | omega) only [push_cast, x_blk, x_cd, ↓reduceIte, Nat.reduceEqDiff, List.map_cons, List.map_nil, Int.reduceEq, Int.lt_irrefl]
  refine blk_of (cs := mv0.cells mach0) al_25 ?_
  intro w3 k3 b3 z3
  simp (disch := first | with_reducible assumption | omega) only [push_cast, x_blk, x_cd, ↓reduceIte, Nat.reduceEqDiff, List.map_cons, List.map_nil, Int.reduceEq, Int.lt_irrefl]
  refine sto_blk k3 (cs := dv.cells dm) (e5 _ _) rfl (by rfl) ?_
  intro w4 k5 g4 z4
  have bM := g4.below b3 b3.size (by intro a ha; injection ha with ha; subst ha; exact Nat.le_refl _)
  replace k1 := k1.below bM k1.lt
  replace bb := bb.trans (bM.mono bb.size)
  rcases hsp with ⟨p1, rfl, hrows, rfl⟩ | ⟨p1, ⟨ar, hres, hdm⟩, rfl⟩ | ⟨p1, _, rfl, hrows, rfl⟩
  · obtain rfl : hs = [] := List.map_eq_nil_iff.1 hrows
    have e0 : (mach0.states) = 0 := rfl
    simp (disch := first | with_reducible assumption | omega) only [push_cast, x_blk, x_cd, ↓reduceIte, Nat.reduceEqDiff, List.map_cons, List.map_nil, Int.reduceEq, Int.lt_irrefl, k5.m0 ty_ag_3, e0, eq_self, List.length_nil]
    exact fin_1 (hQ _ _ ⟨by rfl, bb⟩)
  case inr.inr =>
    obtain rfl : hs = [] := List.map_eq_nil_iff.1 hrows
    have e0 : (mach0.states) = 0 := rfl
    simp (disch := first | with_reducible assumption | omega) only [push_cast, x_blk, x_cd, ↓reduceIte, Nat.reduceEqDiff, List.map_cons, List.map_nil, Int.reduceEq, Int.lt_irrefl, k5.m0 ty_ag_3, e0, eq_self, List.length_nil]
    exact fin_1 (hQ _ _ ⟨by rfl, bb⟩)
  generalize hL : hs.map (·.l) = L at *
  have hLl : hs.length = L.length := by rw [← hL, List.length_map]
  have hdet := Det.of p1 hres
  have hfit := hdet.fits
  have hmay := hdet.may
  have hisd := hdet.isDet
  have hacc := fun hw => hdet.accepts (word := l1) hw
  have hds : dm.states = (hs.length : Int) := by rw [hdm, hLl]; rfl
  have hde : dm.events = m0.events := by rw [hdm]; rfl
  have hst : dm.starts = [0] := by rw [hdm]; rfl
  rw [← hdm] at hfit hmay hisd hacc
  have upd : ∀ {w' : World}, Below w2.heap.size w2 w' → IsM (· < w'.heap.size) w' dv dm := fun {w'} hb => (hd.below hb).mono fun b hl => Nat.lt_of_lt_of_le hl hb.size
  simp (disch := first | with_reducible assumption | omega) only [push_cast, x_blk, x_cd, ↓reduceIte, Nat.reduceEqDiff, List.map_cons, List.map_nil, Int.reduceEq, Int.lt_irrefl, k5.mA ty_ag_25 ty_sz_25]
  refine call_of (determine_Is (upd bM) hfit) ?_
  rintro v w5 ⟨rfl, b5⟩
  rw [decide_eq_true hisd]
  replace k1 := k1.below b5 k1.lt
  replace k5 := k5.below b5 k5.lt
  replace bb := bb.trans (Below.mono b5 bb.size)
  replace bM := bM.trans (Below.mono b5 bM.size)
  simp (disch := first | with_reducible assumption | omega) only [push_cast, x_blk, x_cd, ↓reduceIte, Nat.reduceEqDiff, List.map_cons, List.map_nil, Int.reduceEq, Int.lt_irrefl, k5.m0 ty_ag_3, hds, eq_self, k1.mA ty_ag_25 ty_sz_25]
  refine call_of (machine_Accepts (up h bb) hf (hT.below bb hT.lt) (h1.below bb).lt n1) ?_
  rintro v w6 ⟨x, ex, rfl, b6, xyes, _, xno⟩
  replace k1 := k1.below b6 k1.lt
  replace k5 := k5.below b6 k5.lt
  replace bb := bb.trans (Below.mono b6 bb.size)
  replace bM := bM.trans (Below.mono b6 bM.size)
  simp (disch := first | with_reducible assumption | omega) only [push_cast, x_blk, x_cd, ↓reduceIte, Nat.reduceEqDiff, List.map_cons, List.map_nil, Int.reduceEq, Int.lt_irrefl, k5.mA ty_ag_25 ty_sz_25]
  refine call_of (machine_Accepts (upd bM) hfit (hT.below bb hT.lt) (h1.below bb).lt n1) ?_
  rintro v w7 ⟨y, ey, rfl, b7, yyes, _, yno⟩
  replace k1 := k1.below b7 k1.lt
  replace k5 := k5.below b7 k5.lt
  replace bb := bb.trans (Below.mono b7 bb.size)
  replace bM := bM.trans (Below.mono b7 bM.size)
  have rS : IsRow dm.starts dm.states := may_starts hmay
  simp (disch := first | with_reducible assumption | omega) only [push_cast, x_blk, x_cd, ↓reduceIte, Nat.reduceEqDiff, List.map_cons, List.map_nil, Int.reduceEq, Int.lt_irrefl, k5.mA ty_ag_25 ty_sz_25, k5.m2 ty_ag_22]
  refine call_of (machine_After (upd bM) hfit (hT.below bb hT.lt) (upd bM).starts (h1.below bb).lt (by have := rS.len; omega) n1) ?_
  rintro v w8 ⟨O, co, o, ez, rfl, ho, b8, zyes, _, zno⟩
  replace k1 := k1.below b8 k1.lt
  replace k5 := k5.below b8 k5.lt
  replace bb := bb.trans (Below.mono b8 bb.size)
  replace bM := bM.trans (Below.mono b8 bM.size)
  by_cases hw : IsWord m0 l1
  case neg =>
    have hw' : ¬ IsWord dm l1 := fun hh => hw fun i hi => by rw [← hde]; exact hh i hi
    obtain ⟨rfl, rfl⟩ := xno ⟨p1, hw⟩
    obtain ⟨rfl, rfl⟩ := yno ⟨hmay, hw'⟩
    obtain ⟨rfl, rfl⟩ := zno ⟨⟨hmay, rS⟩, hw'⟩
    simp (disch := first | with_reducible assumption | omega) only [push_cast, x_blk, x_cd, ↓reduceIte, Nat.reduceEqDiff, List.map_cons, List.map_nil, Int.reduceEq, Int.lt_irrefl, eq_self, List.length_nil]
    exact fin_1 (hQ _ _ ⟨by rfl, bb⟩)
  have hw' : IsWord dm l1 := fun i hi => by rw [hde]; exact hw i hi
  obtain ⟨rfl, rfl⟩ := xyes ⟨p1, hw⟩
  obtain ⟨rfl, rfl⟩ := yyes ⟨hmay, hw'⟩
  obtain ⟨rfl, hoe⟩ := zyes ⟨hmay, rS, hw'⟩
  obtain ⟨j, hj, haf, hiff⟩ := hacc hw
  rw [hst, haf] at hoe
  have hol : (o.length : Int) = 1 := by rw [hoe]; rfl
  have hol' : 0 < o.length := by rw [hoe]; exact Nat.zero_lt_one
  have ho0 : o.getD 0 0 = (j : Int) := by rw [hoe]; rfl
  have hdd : decide (AcceptsL dm l1) = decide (AcceptsL m0 l1) := decide_eq_decide.2 hiff
  rw [hdd]
  replace ho := Ints.lt (OwnI.ints ho)
  simp (disch := first | with_reducible assumption | omega) only [push_cast, x_blk, x_cd, ↓reduceIte, Nat.reduceEqDiff, List.map_cons, List.map_nil, Int.reduceEq, Int.lt_irrefl, eq_self, k1.mA ty_ag_25 ty_sz_25, k1.m2 ty_ag_22]
  refine call_of (machine_After (up h bb) hf (hT.below bb hT.lt) (up h bb).starts (h1.below bb).lt hf.lenS n1) ?_
  rintro v w9 ⟨O', co', o', ez', rfl, ho', b9, zyes', _⟩
  obtain ⟨rfl, rfl⟩ := zyes' ⟨p1, may_starts p1, hw⟩
  replace ho := (ho.below b9).lt
  replace k1 := k1.below b9 k1.lt
  replace k5 := k5.below b9 k5.lt
  replace bb := bb.trans (Below.mono b9 bb.size)
  replace bM := bM.trans (Below.mono b9 bM.size)
  have hOs := ho.isSome hol'
  have hld := fun {K : Fr → World → Prop} {f : Fr} {d : Option Nat} {w : World} => ho.ld (P := Tryd.prog) (K := K) (f := f) (d := d) (w := w) ty_ag_3 0 hol'
  rw [ho0] at hld
  obtain ⟨hh, hhj, hhl⟩ : ∃ hh : Hd, hs[j]? = some hh ∧ hh.l = afterL m0 m0.starts l1 := by
    rw [← hL, List.getElem?_map] at hj
    cases hq : hs[j]? with
    | none => rw [hq] at hj; cases hj
    | some q => rw [hq] at hj; exact ⟨q, rfl, by simpa using hj⟩
  have hjl := getElem?_lt hhj
  have hR' := hR.below bM
  have hRs := hR'.isSome (by omega)
  have hrow := (hro hh (List.mem_of_getElem? hhj)).below bM
  have hlr := fun {K : Fr → World → Prop} {f : Fr} {d : Option Nat} {w : World} => hR'.ld0 (P := Tryd.prog) (K := K) (f := f) (d := d) (w := w) ty_ag_22 hhj (v := .slice hh.A hh.l.length hh.c) rfl
  simp only [Nat.mul_one] at hlr
  have hlen : (afterL m0 m0.starts l1).length ≤ 2147483648 := (afterL_row p1 (may_starts p1) l1).len
  simp (disch := first | with_reducible assumption | omega) only [push_cast, x_blk, x_cd, ↓reduceIte, Nat.reduceEqDiff, List.map_cons, List.map_nil, Int.reduceEq, Int.lt_irrefl, eq_self, hol, Int.toNat_zero, beq_self_eq_true, hld, hlr, hjl]
  refine call_of (keep_same hrow (OwnI.ints ho') hh.c co' (by rw [hhl]; omega)) ?_
  rintro v w10 ⟨rfl, s10⟩
  rw [decide_eq_true hhl]
  simp (disch := first | with_reducible assumption | omega) only [push_cast, x_blk, x_cd, ↓reduceIte, Nat.reduceEqDiff, List.map_cons, List.map_nil, Int.reduceEq, Int.lt_irrefl, eq_self]
  exact fin_1 (hQ _ _ ⟨(by simp only [push_cast, ↓reduceIte, Nat.reduceEqDiff, Int.reduceEq]), bb.trans (s10.below _)⟩)
end Go.Proofs.YtiabkafgmanhiaaDoor
