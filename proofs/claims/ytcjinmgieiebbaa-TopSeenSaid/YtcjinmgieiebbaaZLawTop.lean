/-
  The law TopSeen: it returns true.
-/
import Derived.Test.YtcjinmgieiebbaaZLawStp
import Derived.Test.YtcjinmgieiebbaaZObs
namespace Go.Proofs.Ytcjinmgieiebbaa
set_option linter.unusedSimpArgs false
set_option linter.unusedVariables false
set_option linter.unusedSectionVars false
open Go.RowKit

section
variable {p q : Plt} (p1 : p.May) (q1 : q.May) (hm : q.m = p.m) (hsec : q.secret = p.secret) (hs : ∀ x ∈ p.seen, x ∈ q.seen)
include p1 q1 hm hsec hs
theorem more_current {b b' : Bool} {o o' : List Int} {e e' : Int} (hl : LkIs p b o e) (hl' : LkIs q b' o' e') (hb : b = true) : b' = true := by
  subst hb
  obtain ⟨h1, h2, _⟩ := lk_some p1 hl
  obtain ⟨x, hx⟩ := List.exists_mem_of_ne_nil _ h2.1
  obtain ⟨u', hu, hxu, hsub⟩ := more_est p1.1 hm hs h1 hx
  cases b' with
  | true => rfl
  | false =>
    refine absurd ⟨?_, fun y hy => ?_⟩ ((lk_none q1 hl').2 u' hu)
    · intro hn; rw [hn] at hxu; simp at hxu
    · rw [hsec]; exact h2.2 y (hsub y hy)
theorem more_initial {b b' : Bool} {o o' : List Int} {e e' : Int} (hl : IniIs p b o e) (hl' : IniIs q b' o' e') (hb : b = true) : b' = true := by
  subst hb
  obtain ⟨h1, h2, _⟩ := ini_some p1 hl
  obtain ⟨x, hx⟩ := List.exists_mem_of_ne_nil _ h2.1
  obtain ⟨hx1, hx2⟩ := mem_onlyT.1 hx
  obtain ⟨v', hv, hxv, hsub⟩ := more_backs p1.1 hm hs h1 hx1
  cases b' with
  | true => rfl
  | false =>
    have hin : x ∈ begL q v' := mem_onlyT.2 ⟨hxv, by rw [hm]; exact hx2⟩
    refine absurd ⟨?_, fun y hy => ?_⟩ ((ini_none q1 hl').2 v' hv)
    · intro hn; rw [hn] at hin; simp at hin
    · obtain ⟨hy1, hy2⟩ := mem_onlyT.1 hy
      rw [hsec]
      exact h2.2 y (mem_onlyT.2 ⟨hsub y hy1, by rw [← hm]; exact hy2⟩)
theorem more_steps {b b' : Bool} {u v u' v' : List Int} (hl : StpIs p (-1) b u v 0) (hl' : StpIs q (-1) b' u' v' 0) (hb : b = true) : b' = true := by
  rcases hl with ⟨_, _, _, _, hh⟩ | ⟨_, _, _, _, _, hh⟩ | ⟨_, r1, _, o, ho, hO⟩
  · exact absurd hh (by decide)
  · exact absurd hh (by decide)
  rcases hl' with ⟨_, _, _, _, hh⟩ | ⟨_, _, _, _, _, hh⟩ | ⟨_, r2, _, o', ho', hO'⟩
  · exact absurd hh (by decide)
  · exact absurd hh (by decide)
  cases o with
  | none => rw [hO.1] at hb; cases hb
  | some m =>
    cases o' with
    | some m' => exact hO'.1
    | none =>
      obtain ⟨g1, g2, _, g4⟩ := ho.1
      obtain ⟨x, hx⟩ := List.exists_mem_of_ne_nil _ g4.1
      obtain ⟨hx1, hx2⟩ := mem_onlyT.1 hx
      obtain ⟨a, ha, hxa, hsa⟩ := more_est p1.1 hm hs g1 hx1
      obtain ⟨c, hc, hxc, hsc⟩ := more_backs p1.1 hm hs g2 hx2
      have hin : x ∈ onlyL (estL q a) (backsL q c) true := mem_onlyT.2 ⟨hxa, hxc⟩
      refine absurd ⟨ha, hc, .inl (by decide), ?_, fun y hy => ?_⟩ (ho' (a, c))
      · intro hn; rw [hn] at hin; simp at hin
      · obtain ⟨hy1, hy2⟩ := mem_onlyT.1 hy
        rw [hsec]
        exact g4.2 y (mem_onlyT.2 ⟨hsa y hy1, hsc y hy2⟩)
end
theorem lk_ok {p : Plt} (p1 : p.May) {b : Bool} {o : List Int} {e : Int} (h : LkIs p b o e) : e = 0 := by
  rcases h with ⟨hh, _⟩ | ⟨_, hh, _⟩
  · exact absurd p1 hh
  · exact hh
theorem ini_ok {p : Plt} (p1 : p.May) {b : Bool} {o : List Int} {e : Int} (h : IniIs p b o e) : e = 0 := by
  rcases h with ⟨hh, _⟩ | ⟨_, hh, _⟩
  · exact absurd p1 hh
  · exact hh
theorem stp_ok {p : Plt} (p1 : p.May) {b : Bool} {u v : List Int} {e : Int} (h : StpIs p (-1) b u v e) : e = 0 := by
  rcases h with ⟨hh, _⟩ | ⟨_, hh, _⟩ | ⟨_, _, hh, _⟩
  · exact absurd p1 hh
  · exact absurd (by decide) hh
  · exact hh
theorem law_TopSeen {w : World} {a0 : PV} {p0 : Plt} (h : IsP (· < w.heap.size) w a0 p0) (hf : p0.Fits) (_hc : a0.Caps p0)
    {A1 : Option Addr} {c1 : Nat} {l1 : List Int} (h1 : Ints (· < w.heap.size) w A1 l1) (b1 : ∀ x ∈ l1, I64 x) (n1 : l1.length ≤ 17592186043904) (_k1 : l1.length ≤ c1) :
    Cal Try.prog 4 [a0.val p0, .slice A1 l1.length c1] w fun v w' => v = .bool true ∧ Below w.heap.size w w' := by
  refine cal_top_TopSeen (by simp) 100000 fun Q hQ => ?_
  simp (disch := first | with_reducible assumption | omega) only [push_cast, x_blk, x_cd, ↓reduceIte, Nat.reduceEqDiff, List.map_cons, List.map_nil, Int.reduceEq, Int.lt_irrefl, F_top_TopSeen]
  refine blk_of (box_agg _ (a0.cells p0)) ?_
  intro w1 k1 bb z1
  simp (disch := first | with_reducible assumption | omega) only [push_cast, x_blk, x_cd, ↓reduceIte, Nat.reduceEqDiff, List.map_cons, List.map_nil, Int.reduceEq, Int.lt_irrefl, k1.pA']
  refine call_of (ref9_May (h.up bb) hf) ?_
  rintro v w2 ⟨rfl, b2⟩
  replace k1 := k1.below b2 k1.lt
  replace bb := bb.trans (b2.mono bb.size)
  by_cases p1 : p0.May
  case neg =>
    simp (disch := first | with_reducible assumption | omega) only [push_cast, x_blk, x_cd, ↓reduceIte, Nat.reduceEqDiff, List.map_cons, List.map_nil, Int.reduceEq, Int.lt_irrefl, decide_eq_false p1]
    exact fin_1 (hQ _ _ ⟨(by simp only [push_cast, ↓reduceIte, Nat.reduceEqDiff, Int.reduceEq]), bb⟩)
  simp (disch := first | with_reducible assumption | omega) only [push_cast, x_blk, x_cd, ↓reduceIte, Nat.reduceEqDiff, List.map_cons, List.map_nil, Int.reduceEq, Int.lt_irrefl, decide_eq_true p1, k1.p1]
  refine call_of (ref1_Is (h1.up bb) c1 p0.m.events (by omega)) ?_
  rintro v w3 ⟨rfl, s3⟩
  replace k1 := k1.same s3
  replace bb := bb.trans (s3.below _)
  by_cases p2 : IsRow l1 p0.m.events
  case neg =>
    simp (disch := first | with_reducible assumption | omega) only [push_cast, x_blk, x_cd, ↓reduceIte, Nat.reduceEqDiff, List.map_cons, List.map_nil, Int.reduceEq, Int.lt_irrefl, decide_eq_false p2]
    exact fin_1 (hQ _ _ ⟨(by simp only [push_cast, ↓reduceIte, Nat.reduceEqDiff, Int.reduceEq]), bb⟩)
  have nP := p1.seen8
  have n8 : l1.length ≤ 8 := by
    have := row_len p2
    have := p1.1.2.2.2.1
    omega
  simp (disch := first | with_reducible assumption | omega) only [push_cast, x_blk, x_cd, ↓reduceIte, Nat.reduceEqDiff, List.map_cons, List.map_nil, Int.reduceEq, Int.lt_irrefl, decide_eq_true p2, k1.pA']
  refine blk_of (cs := [.int .i64 0, .int .i64 0, .slice none 0 0, .slice none 0 0, .slice none 0 0, .slice none 0 0, .slice none 0 0]) al_36 ?_
  intro w4 k4 b4 z4
  have lg : w.heap.size < w3.heap.size := k1.lt
  replace k1 := k1.below b4 k1.lt
  replace bb := bb.trans (b4.mono bb.size)
  simp (disch := first | with_reducible assumption | omega) only [push_cast, x_blk, x_cd, ↓reduceIte, Nat.reduceEqDiff, List.map_cons, List.map_nil, Int.reduceEq, Int.lt_irrefl]
  refine sto_blk k4 (cs := a0.cells p0) (by kernel_rfl) rfl (by rfl) ?_
  intro w5 k5 g5 z5
  replace k1 := k1.grown g5.by_ (by simp; omega)
  replace bb := g5.below bb bb.size (by intro a ha; injection ha with ha; subst ha; show w.heap.size ≤ w3.heap.size; omega)
  simp (disch := first | with_reducible assumption | omega) only [push_cast, x_blk, x_cd, ↓reduceIte, Nat.reduceEqDiff, List.map_cons, List.map_nil, Int.reduceEq, Int.lt_irrefl, k1.p5]
  refine call_of (ref1_Join (h.up bb).seen (h1.up bb) (by omega) (by omega)) ?_
  rintro v w6 ⟨Aj, cj, rfl, oj, b6⟩
  replace k1 := k1.below b6 k1.lt
  replace k5 := k5.below b6 k5.lt
  have z6 := bb.size
  replace bb := bb.trans (b6.mono bb.size)
  have hsp := sortedL_spec (p0.seen ++ l1)
  have hjl := sortedL_len (p0.seen ++ l1)
  rw [List.length_append] at hjl
  simp (disch := first | with_reducible assumption | omega) only [push_cast, x_blk, x_cd, ↓reduceIte, Nat.reduceEqDiff, List.map_cons, List.map_nil, Int.reduceEq, Int.lt_irrefl]
  refine sto_slice k5 (by kernel_rfl) 5 (by simp) Aj _ cj ?_
  intro w7 k7 g7 z7
  generalize hj : sortedL (p0.seen ++ l1) = js at *
  have hrowj : IsRow js p0.m.events := IsRow.of_strict hsp.1 fun x hx => by
    rcases List.mem_append.1 ((hsp.2 x).1 hx) with h | h
    · exact p1.2.2.1.mem h
    · exact p2.mem h
  have q1 : (⟨p0.m, js, p0.secret⟩ : Plt).May := ⟨p1.1, p1.2.1, hrowj, p1.2.2.2⟩
  have hqf : (⟨p0.m, js, p0.secret⟩ : Plt).Fits := ⟨hf.m, fun x hx => by
    rcases List.mem_append.1 ((hsp.2 x).1 hx) with h | h
    · exact hf.seen x h
    · exact b1 x h, hf.secret, by simp only; omega, hf.lenQ⟩
  have hss : ∀ x ∈ p0.seen, x ∈ (⟨p0.m, js, p0.secret⟩ : Plt).seen := fun x hx => (hsp.2 x).2 (List.mem_append_left _ hx)
  replace k7 : Blk w7 w3.heap.size 36 ((⟨a0.m, Aj, cj, a0.Aq, a0.cq⟩ : PV).cells ⟨p0.m, js, p0.secret⟩) := k7
  have hgj := k5.lt
  replace k1 := k1.grown g7.by_ (by simp; omega)
  have bb6 := bb
  replace bb := g7.below bb bb.size (by intro a ha; injection ha with ha; subst ha; show w.heap.size ≤ w3.heap.size; omega)
  have hq : IsP (· < w7.heap.size) w7 ⟨a0.m, Aj, cj, a0.Aq, a0.cq⟩ ⟨p0.m, js, p0.secret⟩ := ⟨(h.up bb).m, (Ints.lt (OwnI.ints (oj.grew g7 (by
    cases hA : Aj with
    | none => exact .inl rfl
    | some g =>
      refine .inr fun e => ?_
      subst hA
      have h1 := oj.geB g rfl
      have h2 : g.block = w3.heap.size := by injection e
      have h3 := k4.lt
      omega)))), (h.up bb).secret⟩
  clear oj k5
  have k5 := k7
  simp (disch := first | with_reducible assumption | omega) only [push_cast, x_blk, x_cd, ↓reduceIte, Nat.reduceEqDiff, List.map_cons, List.map_nil, Int.reduceEq, Int.lt_irrefl, k1.pA']
  refine call_of (current_Leak (h.up bb) hf) ?_
  rintro v w8 ⟨ba, _, ca, oa, ea, rfl, _, _, b8, hla⟩
  replace k1 := k1.below b8 k1.lt
  replace k5 := k5.below b8 k5.lt
  replace hq := hq.up b8
  replace bb := bb.trans (b8.mono bb.size)
  simp (disch := first | with_reducible assumption | omega) only [push_cast, x_blk, x_cd, ↓reduceIte, Nat.reduceEqDiff, List.map_cons, List.map_nil, Int.reduceEq, Int.lt_irrefl, k5.pA']
  refine call_of (current_Leak hq hqf) ?_
  rintro v w9 ⟨bx, _, cb, ob, eb, rfl, _, _, b9, hlb⟩
  replace k1 := k1.below b9 k1.lt
  replace k5 := k5.below b9 k5.lt
  replace hq := hq.up b9
  replace bb := bb.trans (b9.mono bb.size)
  simp (disch := first | with_reducible assumption | omega) only [push_cast, x_blk, x_cd, ↓reduceIte, Nat.reduceEqDiff, List.map_cons, List.map_nil, Int.reduceEq, Int.lt_irrefl, k1.pA']
  refine call_of (initial_Leak (h.up bb) hf) ?_
  rintro v w10 ⟨bc, _, cc, oc, ec, rfl, _, _, b10, hlc⟩
  replace k1 := k1.below b10 k1.lt
  replace k5 := k5.below b10 k5.lt
  replace hq := hq.up b10
  replace bb := bb.trans (b10.mono bb.size)
  simp (disch := first | with_reducible assumption | omega) only [push_cast, x_blk, x_cd, ↓reduceIte, Nat.reduceEqDiff, List.map_cons, List.map_nil, Int.reduceEq, Int.lt_irrefl, k5.pA']
  refine call_of (initial_Leak hq hqf) ?_
  rintro v w11 ⟨bd, _, cd, od, ed, rfl, _, _, b11, hld⟩
  replace k1 := k1.below b11 k1.lt
  replace k5 := k5.below b11 k5.lt
  replace hq := hq.up b11
  replace bb := bb.trans (b11.mono bb.size)
  simp (disch := first | with_reducible assumption | omega) only [push_cast, x_blk, x_cd, ↓reduceIte, Nat.reduceEqDiff, List.map_cons, List.map_nil, Int.reduceEq, Int.lt_irrefl, k1.pA']
  refine call_of (steps_Leak (h.up bb) hf (-1)) ?_
  rintro v w12 ⟨be, _, ce, oe, _, ce', oe', ee, rfl, _, _, _, _, b12, hle⟩
  replace k1 := k1.below b12 k1.lt
  replace k5 := k5.below b12 k5.lt
  replace hq := hq.up b12
  replace bb := bb.trans (b12.mono bb.size)
  simp (disch := first | with_reducible assumption | omega) only [push_cast, x_blk, x_cd, ↓reduceIte, Nat.reduceEqDiff, List.map_cons, List.map_nil, Int.reduceEq, Int.lt_irrefl, k5.pA']
  refine call_of (steps_Leak hq hqf (-1)) ?_
  rintro v w13 ⟨bf, _, cf, of, _, cf', of', ef, rfl, _, _, _, _, b13, hlf⟩
  replace k1 := k1.below b13 k1.lt
  replace k5 := k5.below b13 k5.lt
  replace hq := hq.up b13
  replace bb := bb.trans (b13.mono bb.size)
  obtain rfl := lk_ok p1 hla
  obtain rfl := lk_ok q1 hlb
  obtain rfl := ini_ok p1 hlc
  obtain rfl := ini_ok q1 hld
  obtain rfl := stp_ok p1 hle
  obtain rfl := stp_ok q1 hlf
  have hA := more_current p1 q1 rfl rfl hss hla hlb
  have hC := more_initial p1 q1 rfl rfl hss hlc hld
  have hE := more_steps p1 q1 rfl rfl hss hle hlf
  clear hla hlb hlc hld hle hlf
  have key : ∀ (t t' : Bool), (t = true → t' = true) → t = false ∨ (t = true ∧ t' = true) := fun t t' ht => by
    cases t with
    | false => exact .inl rfl
    | true => exact .inr ⟨rfl, ht rfl⟩
  rcases key _ _ hA with rfl | ⟨rfl, rfl⟩ <;> rcases key _ _ hC with rfl | ⟨rfl, rfl⟩ <;> rcases key _ _ hE with rfl | ⟨rfl, rfl⟩
  all_goals
    simp (disch := first | with_reducible assumption | omega) only [push_cast, x_blk, x_cd, ↓reduceIte, Nat.reduceEqDiff, List.map_cons, List.map_nil, Int.reduceEq, Int.lt_irrefl, eq_self, k1.pA']
    refine call_of (current_May (h.up bb) hf) ?_
    rintro v wy ⟨rfl, by1⟩
    replace k5 := k5.below by1 k5.lt
    replace hq := hq.up by1
    replace bb := bb.trans (by1.mono bb.size)
    simp (disch := first | with_reducible assumption | omega) only [push_cast, x_blk, x_cd, ↓reduceIte, Nat.reduceEqDiff, List.map_cons, List.map_nil, Int.reduceEq, Int.lt_irrefl, decide_eq_true p1, k5.pA']
    refine call_of (current_May hq hqf) ?_
    rintro v wz ⟨rfl, bz1⟩
    simp (disch := first | with_reducible assumption | omega) only [push_cast, x_blk, x_cd, ↓reduceIte, Nat.reduceEqDiff, List.map_cons, List.map_nil, Int.reduceEq, Int.lt_irrefl, decide_eq_true q1]
    exact fin_1 (hQ _ _ ⟨(by simp only [push_cast, ↓reduceIte, Nat.reduceEqDiff, Int.reduceEq]), bb.trans (bz1.mono bb.size)⟩)
end Go.Proofs.Ytcjinmgieiebbaa
