/-
  The law TopLanguage: what is seen hangs on the language alone.
-/
import Derived.Test.YtcjedgiglimipaaDoorZLawLea
import Derived.Test.YtcjedgiglimipaaDoorZLawHid
namespace Go.Proofs.YtcjedgiglimipaaDoor
set_option linter.unusedSimpArgs false
set_option linter.unusedVariables false
set_option linter.unusedSectionVars false
open Go.RowKit

theorem step_mono {m : Mach} {l l' : List Int} (h : ∀ x ∈ l, x ∈ l') {e x : Int} (hx : x ∈ stepL m l e) : x ∈ stepL m l' e := by
  obtain ⟨a, h1, h2, h3, h4⟩ := mem_stepL.1 hx
  exact mem_stepL.2 ⟨a, h1, h2, h _ h3, h4⟩
theorem after_mono {m : Mach} : ∀ (w : List Int) {l l' : List Int}, (∀ x ∈ l, x ∈ l') → ∀ {x : Int}, x ∈ afterL m l w → x ∈ afterL m l' w
  | [], _, _, h, x, hx => h x hx
  | e :: w, l, l', h, x, hx => after_mono w (l := stepL m l e) (l' := stepL m l' e) (fun y hy => step_mono h hy) hx
theorem after_one {m : Mach} : ∀ (w : List Int) {l : List Int} {x : Int}, x ∈ afterL m l w → ∃ y ∈ l, x ∈ afterL m [y] w
  | [], l, x, hx => ⟨x, hx, by simp [afterL]⟩
  | e :: w, l, x, hx => by
    obtain ⟨z, hz, hx2⟩ := after_one w (l := stepL m l e) hx
    obtain ⟨a, h1, h2, h3, h4⟩ := mem_stepL.1 hz
    refine ⟨a.frm, h3, ?_⟩
    exact after_mono w (l := [z]) (l' := stepL m [a.frm] e) (fun y hy => by rw [List.mem_singleton.1 hy]; exact mem_stepL.2 ⟨a, h1, h2, by simp, h4⟩) hx2
theorem after_at {m : Mach} {l : List Int} {u v : List Int} {x y : Int} (h : y ∈ afterL m l u) (h2 : x ∈ afterL m [y] v) : x ∈ afterL m l (u ++ v) := by
  rw [afterL_append]
  exact after_mono v (fun z hz => by rw [List.mem_singleton.1 hz]; exact h) h2
/-- What unseen events lead to, a word of unseen events leads to. -/
theorem clos_word {m : Mach} (hm : m.May) {seen l : List Int} {x : Int} (h : Clos (unE m seen) l x) : ∃ w, (∀ e ∈ w, e ∉ seen ∧ 0 ≤ e ∧ e < m.events) ∧ x ∈ afterL m l w := by
  induction h with
  | base x hx => exact ⟨[], by simp, hx⟩
  | step p hp _ ih =>
    obtain ⟨w, h1, h2⟩ := ih
    obtain ⟨a, ha, hu, rfl⟩ := mem_eds.1 hp
    have hok := May.arr hm ha
    refine ⟨w ++ [a.evt], fun e he => ?_, after_at h2 ?_⟩
    · rcases List.mem_append.1 he with he | he
      · exact h1 e he
      · rw [List.mem_singleton.1 he]
        exact ⟨by simpa [unA] using hu, hok.2.2.1, hok.2.2.2⟩
    · exact mem_stepL.2 ⟨a, ha, rfl, List.mem_singleton.2 rfl, rfl⟩
theorem sees_app (seen u v : List Int) : seesL seen (u ++ v) = seesL seen u ++ seesL seen v := by unfold seesL; rw [List.filter_append, List.map_append]
theorem sees_none {seen w : List Int} (h : ∀ e ∈ w, e ∉ seen) : seesL seen w = [] := by
  unfold seesL
  rw [List.filter_eq_nil_iff.2 fun e he => by simpa using h e he]; rfl
/-- By a word that is seen as q. -/
def SeenAs (m : Mach) (seen q : List Int) (x : Int) : Prop := ∃ w, (∀ e ∈ w, 0 ≤ e ∧ e < m.events) ∧ seesL seen w = q ∧ x ∈ afterL m m.starts w
theorem seen_start {m : Mach} (hm : m.May) {seen : List Int} {x : Int} (h : x ∈ wideL m seen m.starts) : SeenAs m seen [] x := by
  obtain ⟨w, h1, h2⟩ := clos_word hm ((mem_wideL hm (row_range (may_starts hm))).1 h)
  exact ⟨w, fun e he => (h1 e he).2, sees_none fun e he => (h1 e he).1, h2⟩
theorem seen_step {m : Mach} (hm : m.May) {seen : List Int} (hs : IsRow seen m.events) {S q : List Int} (hS : ∀ x ∈ S, SeenAs m seen q x) {e x : Int} (hx : x ∈ stepL (hideM m seen) S e) : SeenAs m seen (q ++ [e]) x := by
  obtain ⟨a, ha, hae, haf, hat⟩ := mem_stepL.1 hx
  obtain ⟨f, k, hf, hk, t, ht, rfl⟩ := mem_hideA.1 ha
  have haf' : (f : Int) ∈ S := haf
  have hae' : (k : Int) = e := hae
  have hat' : t = x := hat
  subst hae' hat'
  have hev := hs.mem (getD_mem seen 0 k hk)
  have hsing : ∀ x ∈ [(f : Int)], 0 ≤ x ∧ x < m.states := fun x hx => by rw [List.mem_singleton.1 hx]; omega
  have hix : ix (seen.getD k 0) seen = k := ix_first hk rfl fun i hi => by
    have := hs.strict.getD_lt hi hk
    omega
  generalize seen.getD k 0 = ev at *
  obtain ⟨w0, a1, a2, a3⟩ := hS _ haf'
  obtain ⟨w2, c1, c2⟩ := clos_word hm ((mem_wideL hm (stepL_range hm _ _)).1 ht)
  obtain ⟨y, hy, c3⟩ := after_one w2 c2
  obtain ⟨b, d1, d2, d3, d4⟩ := mem_stepL.1 hy
  obtain ⟨w1, e1, e2⟩ := clos_word hm ((mem_wideL hm hsing).1 d3)
  refine ⟨(w0 ++ w1) ++ ([ev] ++ w2), fun z hz => ?_, ?_, ?_⟩
  · rcases List.mem_append.1 hz with hz | hz
    · rcases List.mem_append.1 hz with hz | hz
      · exact a1 z hz
      · exact (e1 z hz).2
    · rcases List.mem_append.1 hz with hz | hz
      · rw [List.mem_singleton.1 hz]; exact ⟨hev.1, hev.2.1⟩
      · exact (c1 z hz).2
  · rw [sees_app, sees_app, sees_app, a2, sees_none fun z hz => (e1 z hz).1, sees_none fun z hz => (c1 z hz).1]
    have hin : ev ∈ seen := by
      rw [← hix]  at hk
      exact Classical.byContradiction fun hno => by
        have : ∀ {l : List Int}, ev ∉ l → ix ev l = l.length := fun {l} => by
          induction l with
          | nil => intro _; rfl
          | cons y l ih =>
            intro h
            unfold ix
            rw [if_neg (fun e => h (by rw [e]; exact List.mem_cons_self ..)), ih fun hh => h (List.mem_cons_of_mem _ hh)]
            rfl
        rw [this hno] at hk
        omega
    have h1 : seesL seen [ev] = [(k : Int)] := by unfold seesL; simp [hin, hix]
    rw [h1]; simp
  · refine after_at (after_at a3 e2) ?_
    show t ∈ afterL m (stepL m [b.frm] ev) w2
    exact after_mono w2 (fun z hz => by rw [List.mem_singleton.1 hz]; exact mem_stepL.2 ⟨b, d1, d2, List.mem_singleton.2 rfl, d4⟩) c3
theorem seen_after {m : Mach} (hm : m.May) {seen : List Int} (hs : IsRow seen m.events) : ∀ (u : List Int) {S q : List Int}, (∀ x ∈ S, SeenAs m seen q x) → ∀ x ∈ afterL (hideM m seen) S u, SeenAs m seen (q ++ u) x
  | [], S, q, hS, x, hx => by rw [List.append_nil]; exact hS x hx
  | e :: u, S, q, hS, x, hx => by
    have := seen_after hm hs u (S := stepL (hideM m seen) S e) (q := q ++ [e]) (fun y hy => seen_step hm hs hS hy) x hx
    rwa [List.append_assoc] at this
/-- What is seen of a language. -/
theorem lgM_hide {m : Mach} (hm : m.May) {seen : List Int} (hs : IsRow seen m.events) (u : List Int) : lgM (hideM m seen) u ↔ ∃ w, lgM m w ∧ seesL seen w = u := by
  constructor
  · rintro ⟨hu, x, hx, hxe⟩
    obtain ⟨w, h1, h2, h3⟩ := seen_after hm hs u (S := wideL m seen m.starts) (q := []) (fun x hx => seen_start hm hx) x hx
    exact ⟨w, ⟨h1, x, h3, hxe⟩, by rw [h2]; rfl⟩
  · rintro ⟨w, ⟨h1, h2⟩, rfl⟩
    exact ⟨isWord_in.1 (seesL_word m seen w), hide_accepts hm seen h2⟩
theorem hide_same {m l : Mach} (hm : m.May) (hl : l.May) {seen : List Int} (hs : IsRow seen m.events) (he : l.events = m.events) (h : lgM m = lgM l) : lgM (hideM m seen) = lgM (hideM l seen) := by
  funext u
  exact propext ((lgM_hide hm hs u).trans (by rw [h]; exact (lgM_hide hl (by rw [he]; exact hs) u).symm))
theorem least_lang {E : Int} {X : Lg} {o : Mach} (h0 : 0 ≤ E) (h8 : E ≤ 8) (hX : ∀ u, X u → ∀ x ∈ u, 0 ≤ x ∧ x < E) (h : LeastOf E X o) : lgM o = X := by
  have he := h.events
  funext u
  by_cases hu : ∀ x ∈ u, 0 ≤ x ∧ x < E
  · exact propext ((lgM_acc (by rw [he]; exact hu)).trans (h.accepts h0 h8 hu))
  · exact propext ⟨fun hh => absurd (by rw [← he]; exact hh.1) hu, fun hh => absurd (hX u hh) hu⟩
/-- Of up to six states there are not too many arrows. -/
theorem hide_small {m : Mach} (hm : m.May) (h6 : m.states ≤ 6) {seen : List Int} (hs : seen.length ≤ 8) : (hideA m seen m.states.toNat).length ≤ 4096 := by
  have h1 : ∀ f k, (hideFK m seen f k).length ≤ 6 := fun f k => by
    unfold hideFK
    rw [List.length_map]
    have := row_lenH (seeL_row hm seen (wideL m seen [f]) (seen.getD k 0))
    omega
  have h2 : ∀ f (K : Nat), (hideF m seen f K).length ≤ 6 * K := fun f K => by
    induction K with
    | zero => simp [hideF]
    | succ K ih => rw [hideF_succ, List.length_append]; have := h1 f K; omega
  have h3 : ∀ n : Nat, (hideA m seen n).length ≤ 48 * n := fun n => by
    induction n with
    | zero => simp [hideA]
    | succ n ih => rw [hideA_succ, List.length_append]; have := h2 n seen.length; omega
  have := h3 m.states.toNat
  omega

theorem law_TopLanguage {w : World} (hT : Tab w) {a0 : MV} {m0 : Mach} (h : IsM (· < w.heap.size) w a0 m0) (hf : m0.Fits)
    {A1 : Option Addr} {c1 : Nat} {l1 : List Int} (h1 : Ints (· < w.heap.size) w A1 l1) (_b1 : ∀ x ∈ l1, I64 x) (n1 : l1.length ≤ 17592186043904) (_k1 : l1.length ≤ c1) :
    Cal Tryd.prog 4 [a0.val m0, .slice A1 l1.length c1] w fun v w' => v = .bool true ∧ Below w.heap.size w w' := by
  refine cal_top_TopLanguage (by simp) 100000 fun Q hQ => ?_
  simp (disch := first | with_reducible assumption | omega) only [push_cast, x_blk, x_cd, ↓reduceIte, Nat.reduceEqDiff, List.map_cons, List.map_nil, Int.reduceEq, Int.lt_irrefl, F_top_TopLanguage]
  refine blk_of (box_agg _ (a0.cells m0)) ?_
  intro w1 k1 b1 z1
  have bb := b1
  simp (disch := first | with_reducible assumption | omega) only [push_cast, x_blk, x_cd, ↓reduceIte, Nat.reduceEqDiff, List.map_cons, List.map_nil, Int.reduceEq, Int.lt_irrefl, k1.mA ty_ag_25 ty_sz_25]
  refine call_of (ref2_May (h.up bb) hf) ?_
  rintro v w2 ⟨rfl, b2⟩
  replace k1 := k1.below b2 k1.lt
  replace bb := bb.trans (b2.mono bb.size)
  by_cases p1 : m0.May
  case neg =>
    simp (disch := first | with_reducible assumption | omega) only [push_cast, x_blk, x_cd, ↓reduceIte, Nat.reduceEqDiff, List.map_cons, List.map_nil, Int.reduceEq, Int.lt_irrefl, p1]
    exact fin_1 (hQ _ _ ⟨(by simp only [push_cast, ↓reduceIte, Nat.reduceEqDiff, Int.reduceEq]), bb⟩)
  by_cases p4 : (6 : Int) < m0.states
  · simp (disch := first | with_reducible assumption | omega) only [push_cast, x_blk, x_cd, ↓reduceIte, Nat.reduceEqDiff, List.map_cons, List.map_nil, Int.reduceEq, Int.lt_irrefl, p1, p4, k1.m0 ty_ag_3]
    exact fin_1 (hQ _ _ ⟨(by simp only [push_cast, ↓reduceIte, Nat.reduceEqDiff, Int.reduceEq]), bb⟩)
  simp (disch := first | with_reducible assumption | omega) only [push_cast, x_blk, x_cd, ↓reduceIte, Nat.reduceEqDiff, List.map_cons, List.map_nil, Int.reduceEq, Int.lt_irrefl, p1, p4, k1.m0 ty_ag_3, k1.m1 ty_ag_3]
  refine call_of (ref1_Is (h1.up bb) c1 m0.events (by omega)) ?_
  rintro v w3 ⟨rfl, s3⟩
  replace k1 := k1.same s3
  replace bb := bb.trans (s3.below _)
  by_cases p2 : IsRow l1 m0.events
  case neg =>
    simp (disch := first | with_reducible assumption | omega) only [push_cast, x_blk, x_cd, ↓reduceIte, Nat.reduceEqDiff, List.map_cons, List.map_nil, Int.reduceEq, Int.lt_irrefl, decide_eq_false p2]
    exact fin_1 (hQ _ _ ⟨(by simp only [push_cast, ↓reduceIte, Nat.reduceEqDiff, Int.reduceEq]), bb⟩)
  have n0 : m0.states ≤ 6 := by omega
  have e0 : 0 ≤ m0.events := by have := p1.2.2.1; omega
  have e8 : m0.events ≤ 8 := p1.2.2.2.1
  have ns8 : l1.length ≤ 8 := by have := row_lenH p2; omega
  have s0 : (0 : Int) ≤ (l1.length : Int) := by omega
  have s8 : (l1.length : Int) ≤ 8 := by omega
  simp (disch := first | with_reducible assumption | omega) only [push_cast, x_blk, x_cd, ↓reduceIte, Nat.reduceEqDiff, List.map_cons, List.map_nil, Int.reduceEq, Int.lt_irrefl, decide_eq_true p2, k1.mA ty_ag_25 ty_sz_25]
  refine call_of (least_Least (h.up bb) hf (hT.below bb hT.lt)) ?_
  rintro v w4 ⟨dl, l, e, rfl, hl, b4, or1⟩
  have L1 : LeastOf m0.events (lgM m0) l ∧ e = 0 := by
    rcases or1 with ⟨q, _⟩ | ⟨q, _⟩ | ⟨_, q⟩
    · exact absurd p1 q
    · exact absurd q.2 (by omega)
    · exact q
  obtain ⟨L1, rfl⟩ := L1
  replace k1 := k1.below b4 k1.lt
  replace bb := bb.trans (b4.mono bb.size)
  obtain ⟨pl, _, _, _⟩ := least_lens e0 e8 L1
  have hle := L1.events
  have hlg := least_lang e0 e8 (fun u hu => hu.1) L1
  simp (disch := first | with_reducible assumption | omega) only [push_cast, x_blk, x_cd, ↓reduceIte, Nat.reduceEqDiff, List.map_cons, List.map_nil, Int.reduceEq, Int.lt_irrefl]
  refine blk_of (cs := mv0.cells mach0) al_25 ?_
  intro w5 k5 b5 z5
  simp (disch := first | with_reducible assumption | omega) only [push_cast, x_blk, x_cd, ↓reduceIte, Nat.reduceEqDiff, List.map_cons, List.map_nil, Int.reduceEq, Int.lt_irrefl]
  refine sto_mach k5 rfl dl l ?_
  intro w6 k6 g6 z6
  have b6 := g6.below b5 b5.size (by intro a ha; injection ha with ha; subst ha; exact Nat.le_refl _)
  replace bb := bb.trans (b6.mono bb.size)
  replace hl := hl.up b6
  replace k1 := k1.below b6 k1.lt
  by_cases p5 : (6 : Int) < l.states
  · simp (disch := first | with_reducible assumption | omega) only [push_cast, x_blk, x_cd, ↓reduceIte, Nat.reduceEqDiff, List.map_cons, List.map_nil, Int.reduceEq, Int.lt_irrefl, eq_self, p5, k6.m0 ty_ag_3]
    exact fin_1 (hQ _ _ ⟨(by simp only [push_cast, ↓reduceIte, Nat.reduceEqDiff, Int.reduceEq]), bb⟩)
  have n5 : l.states ≤ 6 := by omega
  have p2l : IsRow l1 l.events := by rw [hle]; exact p2
  have hlf := May.fits pl
  simp (disch := first | with_reducible assumption | omega) only [push_cast, x_blk, x_cd, ↓reduceIte, Nat.reduceEqDiff, List.map_cons, List.map_nil, Int.reduceEq, Int.lt_irrefl, eq_self, p5, k6.m0 ty_ag_3, k1.mA ty_ag_25 ty_sz_25]
  refine call_of (hide_Hide (h.up bb) hf (h1.up bb) n1 (hT.below bb hT.lt)) ?_
  rintro v w7 ⟨da, am, e, rfl, ha, b7, or2⟩
  have hs1 := hide_small p1 n0 (seen := l1) ns8
  have L2 : am = hideM m0 l1 ∧ e = 0 := by
    rcases or2 with ⟨q, _⟩ | ⟨_, _, q⟩ | ⟨_, q, _⟩
    · exact absurd ⟨p1, p2⟩ q
    · exact q
    · omega
  obtain ⟨rfl, rfl⟩ := L2
  have pa := hideM_may p1 p2 hs1
  replace hl := hl.up b7
  replace k1 := k1.below b7 k1.lt
  replace k6 := k6.below b7 k6.lt
  replace bb := bb.trans (b7.mono bb.size)
  simp (disch := first | with_reducible assumption | omega) only [push_cast, x_blk, x_cd, ↓reduceIte, Nat.reduceEqDiff, List.map_cons, List.map_nil, Int.reduceEq, Int.lt_irrefl]
  refine blk_of (cs := mv0.cells mach0) al_25 ?_
  intro w8 k8 b8 z8
  simp (disch := first | with_reducible assumption | omega) only [push_cast, x_blk, x_cd, ↓reduceIte, Nat.reduceEqDiff, List.map_cons, List.map_nil, Int.reduceEq, Int.lt_irrefl]
  refine sto_mach k8 rfl da (hideM m0 l1) ?_
  intro w9 k9 g9 z9
  have b9 := g9.below b8 b8.size (by intro a ha; injection ha with ha; subst ha; exact Nat.le_refl _)
  replace bb := bb.trans (b9.mono bb.size)
  replace hl := hl.up b9
  replace ha := ha.up b9
  replace k1 := k1.below b9 k1.lt
  replace k6 := k6.below b9 k6.lt
  simp (disch := first | with_reducible assumption | omega) only [push_cast, x_blk, x_cd, ↓reduceIte, Nat.reduceEqDiff, List.map_cons, List.map_nil, Int.reduceEq, Int.lt_irrefl, k6.mA ty_ag_25 ty_sz_25]
  refine call_of (hide_Hide hl hlf (h1.up bb) n1 (hT.below bb hT.lt)) ?_
  rintro v w10 ⟨db, bm, e, rfl, hb, b10, or3⟩
  have hs2 := hide_small pl n5 (seen := l1) ns8
  have L3 : bm = hideM l l1 ∧ e = 0 := by
    rcases or3 with ⟨q, _⟩ | ⟨_, _, q⟩ | ⟨_, q, _⟩
    · exact absurd ⟨pl, p2l⟩ q
    · exact q
    · omega
  obtain ⟨rfl, rfl⟩ := L3
  have pb := hideM_may pl p2l hs2
  replace ha := ha.up b10
  replace k1 := k1.below b10 k1.lt
  replace k9 := k9.below b10 k9.lt
  replace bb := bb.trans (b10.mono bb.size)
  simp (disch := first | with_reducible assumption | omega) only [push_cast, x_blk, x_cd, ↓reduceIte, Nat.reduceEqDiff, List.map_cons, List.map_nil, Int.reduceEq, Int.lt_irrefl]
  refine blk_of (cs := mv0.cells mach0) al_25 ?_
  intro w11 k11 b11 z11
  simp (disch := first | with_reducible assumption | omega) only [push_cast, x_blk, x_cd, ↓reduceIte, Nat.reduceEqDiff, List.map_cons, List.map_nil, Int.reduceEq, Int.lt_irrefl]
  refine sto_mach k11 rfl db (hideM l l1) ?_
  intro w12 k12 g12 z12
  have b12 := g12.below b11 b11.size (by intro a ha; injection ha with ha; subst ha; exact Nat.le_refl _)
  replace bb := bb.trans (b12.mono bb.size)
  replace ha := ha.up b12
  replace hb := hb.up b12
  replace k1 := k1.below b12 k1.lt
  replace k9 := k9.below b12 k9.lt
  simp (disch := first | with_reducible assumption | omega) only [push_cast, x_blk, x_cd, ↓reduceIte, Nat.reduceEqDiff, List.map_cons, List.map_nil, Int.reduceEq, Int.lt_irrefl, k9.mA ty_ag_25 ty_sz_25]
  refine call_of (least_Least ha (May.fits pa) (hT.below bb hT.lt)) ?_
  rintro v w13 ⟨dx, x, e, rfl, hx, b13, or4⟩
  have L4 : LeastOf (l1.length : Int) (lgM (hideM m0 l1)) x ∧ e = 0 := by
    rcases or4 with ⟨q, _⟩ | ⟨q, _⟩ | ⟨_, q⟩
    · exact absurd pa q
    · exact absurd q.2 (by show ¬ 6 < m0.states; omega)
    · exact q
  obtain ⟨L4, rfl⟩ := L4
  replace hb := hb.up b13
  replace k1 := k1.below b13 k1.lt
  replace k12 := k12.below b13 k12.lt
  replace bb := bb.trans (b13.mono bb.size)
  simp (disch := first | with_reducible assumption | omega) only [push_cast, x_blk, x_cd, ↓reduceIte, Nat.reduceEqDiff, List.map_cons, List.map_nil, Int.reduceEq, Int.lt_irrefl]
  refine blk_of (cs := mv0.cells mach0) al_25 ?_
  intro w14 k14 b14 z14
  simp (disch := first | with_reducible assumption | omega) only [push_cast, x_blk, x_cd, ↓reduceIte, Nat.reduceEqDiff, List.map_cons, List.map_nil, Int.reduceEq, Int.lt_irrefl]
  refine sto_mach k14 rfl dx x ?_
  intro w15 k15 g15 z15
  have b15 := g15.below b14 b14.size (by intro a ha; injection ha with ha; subst ha; exact Nat.le_refl _)
  replace bb := bb.trans (b15.mono bb.size)
  replace hb := hb.up b15
  replace hx := hx.up b15
  replace k1 := k1.below b15 k1.lt
  replace k12 := k12.below b15 k12.lt
  simp (disch := first | with_reducible assumption | omega) only [push_cast, x_blk, x_cd, ↓reduceIte, Nat.reduceEqDiff, List.map_cons, List.map_nil, Int.reduceEq, Int.lt_irrefl, k12.mA ty_ag_25 ty_sz_25]
  refine call_of (least_Least hb (May.fits pb) (hT.below bb hT.lt)) ?_
  rintro v w16 ⟨dy, y, e, rfl, hy, b16, or5⟩
  have L5 : LeastOf (l1.length : Int) (lgM (hideM l l1)) y ∧ e = 0 := by
    rcases or5 with ⟨q, _⟩ | ⟨q, _⟩ | ⟨_, q⟩
    · exact absurd pb q
    · exact absurd q.2 (by show ¬ 6 < l.states; omega)
    · exact q
  obtain ⟨L5, rfl⟩ := L5
  replace hx := hx.up b16
  replace k1 := k1.below b16 k1.lt
  replace k15 := k15.below b16 k15.lt
  replace bb := bb.trans (b16.mono bb.size)
  simp (disch := first | with_reducible assumption | omega) only [push_cast, x_blk, x_cd, ↓reduceIte, Nat.reduceEqDiff, List.map_cons, List.map_nil, Int.reduceEq, Int.lt_irrefl]
  refine blk_of (cs := mv0.cells mach0) al_25 ?_
  intro w17 k17 b17 z17
  simp (disch := first | with_reducible assumption | omega) only [push_cast, x_blk, x_cd, ↓reduceIte, Nat.reduceEqDiff, List.map_cons, List.map_nil, Int.reduceEq, Int.lt_irrefl]
  refine sto_mach k17 rfl dy y ?_
  intro w18 k18 g18 z18
  have b18 := g18.below b17 b17.size (by intro a ha; injection ha with ha; subst ha; exact Nat.le_refl _)
  replace bb := bb.trans (b18.mono bb.size)
  replace hx := hx.up b18
  replace hy := hy.up b18
  replace k1 := k1.below b18 k1.lt
  replace k15 := k15.below b18 k15.lt
  rw [← hide_same p1 pl p2 hle hlg.symm] at L5
  obtain rfl := L4.unique L5
  obtain ⟨px, q1, q2, q3⟩ := least_lens s0 s8 L4
  have hx0 : (0 : Int) < x.states := by have := px.1; omega
  simp (disch := first | with_reducible assumption | omega) only [push_cast, x_blk, x_cd, ↓reduceIte, Nat.reduceEqDiff, List.map_cons, List.map_nil, Int.reduceEq, Int.lt_irrefl, eq_self, k15.mA ty_ag_25 ty_sz_25, k18.mA ty_ag_25 ty_sz_25]
  refine call_of (ref2_Same hx hy q1 q2 q3) ?_
  rintro v w19 ⟨rfl, b19⟩
  rw [decide_eq_true rfl]
  replace k1 := k1.below b19 k1.lt
  replace k15 := k15.below b19 k15.lt
  replace bb := bb.trans (b19.mono bb.size)
  by_cases q : m0.events = 0
  · simp (disch := first | with_reducible assumption | omega) only [push_cast, x_blk, x_cd, ↓reduceIte, Nat.reduceEqDiff, List.map_cons, List.map_nil, Int.reduceEq, Int.lt_irrefl, q, eq_self, k1.m1 ty_ag_3]
    exact fin_1 (hQ _ _ ⟨(by simp only [push_cast, ↓reduceIte, Nat.reduceEqDiff, Int.reduceEq]), bb⟩)
  · simp (disch := first | with_reducible assumption | omega) only [push_cast, x_blk, x_cd, ↓reduceIte, Nat.reduceEqDiff, List.map_cons, List.map_nil, Int.reduceEq, Int.lt_irrefl, q, eq_self, k1.m1 ty_ag_3, k15.m0 ty_ag_3, eq_true hx0]
    exact fin_1 (hQ _ _ ⟨(by simp only [push_cast, ↓reduceIte, Nat.reduceEqDiff, Int.reduceEq]), bb⟩)
end Go.Proofs.YtcjedgiglimipaaDoor
