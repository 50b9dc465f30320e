/-
  Chapters 10 and 11: what two sets have both; the program's Leak (initial): by their contracts.
-/
import Derived.Test.YtcjinmgieiebbaaZIniB
import Derived.Test.YtcjinmgieiebbaaZCurD
namespace Go.Proofs.Ytcjinmgieiebbaa
set_option linter.unusedSimpArgs false
set_option linter.unusedVariables false
set_option linter.unusedSectionVars false
open Go.RowKit

/-- The first i words of both. -/
structure WAt (a b : List Nat) (i : Nat) (ws : List Nat) : Prop where
  len : ws.length = 4
  at_ : ∀ k, ws.getD k 0 = if k < i then a.getD k 0 &&& b.getD k 0 else a.getD k 0
theorem WAt.start {a : List Nat} (ha : a.length = 4) (b : List Nat) : WAt a b 0 a := ⟨ha, fun k => by rw [if_neg (by omega)]⟩
theorem WAt.step {a b ws : List Nat} {i : Nat} (h : WAt a b i ws) (hi : i < 4) : WAt a b (i + 1) (ws.set i (ws.getD i 0 &&& b.getD i 0)) := by
  refine ⟨by rw [List.length_set]; exact h.len, fun k => ?_⟩
  rw [getD_set _ _ _ _ _ (by rw [h.len]; exact hi)]
  by_cases e : k = i
  · subst e
    rw [if_pos rfl, if_pos (by omega), h.at_, if_neg (by omega)]
  · rw [if_neg e, h.at_]
    by_cases c : k < i
    · rw [if_pos c, if_pos (by omega)]
    · rw [if_neg c, if_neg (by omega)]
theorem WAt.done {s t : List Int} {ws : List Nat} (h : WAt (wordsOf s) (wordsOf t) 4 ws) : ws = wordsOf (onlyL s t true) := by
  refine words_eq ⟨h.len, fun i => ?_⟩ fun n hn => ?_
  · rw [h.at_]
    split
    · exact Nat.and_lt_two_pow _ ((wordsOf_words t).2 i)
    · exact (wordsOf_words s).2 i
  · unfold setHas
    rw [h.at_, if_pos (by omega), Nat.testBit_and]
    have h1 := wordsOf_has s n hn
    have h2 := wordsOf_has t n hn
    unfold setHas at h1 h2
    rw [h1, h2, ← Bool.decide_and]
    exact decide_eq_decide.2 (by rw [mem_onlyT])
theorem setCells_set (ws : List Nat) (i z : Nat) (tl : List Value) (hi : i < ws.length) : (setCells ws ++ tl).set i (.int .u64 (z : Int)) = setCells (ws.set i z) ++ tl := by
  rw [List.set_append_left _ _ (by rw [setCells_len]; exact hi)]
  unfold setCells
  rw [List.map_set]
theorem setCells_getD (ws : List Nat) (i : Nat) (tl : List Value) (hi : i < ws.length) : (setCells ws ++ tl).getD i undef = .int .u64 ((ws.getD i 0 : Nat) : Int) := by
  rw [List.getD_eq_getElem?_getD, List.getElem?_append_left (by rw [setCells_len]; exact hi)]
  unfold setCells
  simp [List.getD_eq_getElem?_getD, hi]
theorem steps_meet {w : World} (s t : List Int) :
    Cal Try.prog 45 [setV s, setV t] w fun v w' => v = setV (onlyL s t true) ∧ Below w.heap.size w w' := by
  refine cal_steps_meet (by simp) 100000 fun Q hQ => ?_
  simp (disch := first | with_reducible assumption | omega) only [push_cast, x_blk, x_cd, ↓reduceIte, Nat.reduceEqDiff, List.map_cons, List.map_nil, Int.reduceEq, Int.lt_irrefl, F_steps_meet]
  refine blk_of (box_agg _ (setCells (wordsOf s))) ?_
  intro w1 k1 b1 z1
  simp (disch := first | with_reducible assumption | omega) only [push_cast, x_blk, x_cd, ↓reduceIte, Nat.reduceEqDiff, List.map_cons, List.map_nil, Int.reduceEq, Int.lt_irrefl]
  refine blk_of (box_agg _ (setCells (wordsOf t))) ?_
  intro w2 k2 b2 z2
  replace k1 := k1.below b2 k1.lt
  have bb := b1.trans (b2.mono b1.size)
  simp (disch := first | with_reducible assumption | omega) only [push_cast, x_blk, x_cd, ↓reduceIte, Nat.reduceEqDiff, List.map_cons, List.map_nil, Int.reduceEq, Int.lt_irrefl]
  refine blk_of (cs := setCells (wordsOf [])) al_46 ?_
  intro w3 k3 b3 z3
  replace k1 := k1.below b3 k1.lt
  replace k2 := k2.below b3 k2.lt
  replace bb := bb.trans (b3.mono bb.size)
  simp (disch := first | with_reducible assumption | omega) only [push_cast, x_blk, x_cd, ↓reduceIte, Nat.reduceEqDiff, List.map_cons, List.map_nil, Int.reduceEq, Int.lt_irrefl]
  refine loop_rule (fun f w' => ∃ (i : Nat) (ws : List Nat), i ≤ 4 ∧ (f 2 = .pointer (some ⟨w.heap.size, 0, none⟩) ∧ f 3 = .pointer (some ⟨w1.heap.size, 0, none⟩) ∧ f 4 = .pointer (some ⟨w2.heap.size, 0, none⟩) ∧ f 6 = .int .i64 i) ∧ WAt (wordsOf s) (wordsOf t) i ws ∧
      Blk w' w.heap.size 46 (setCells ws ++ []) ∧ Blk w' w1.heap.size 46 (setCells (wordsOf t)) ∧ Blk w' w2.heap.size 46 (setCells (wordsOf [])) ∧ Below w.heap.size w w')
    (fun f _ => 4 - (intOf (f 6)).toNat) ⟨0, wordsOf s, by omega, ⟨rfl, rfl, rfl, rfl⟩, WAt.start (wordsOf_words s).1 _, by rw [List.append_nil]; exact k1, k2, k3, bb⟩ ?_
  clear k1 k2 k3 bb
  rintro f w4 ⟨i, ws, hi, fr, hw, k1, k2, k3, bb⟩ J hJ
  by_cases hlt : (i : Int) < 4
  case neg =>
    have hie : i = 4 := by omega
    have hd := (hie ▸ hw : WAt _ _ 4 ws).done
    subst hd
    rw [List.append_nil] at k1
    simp (disch := first | with_reducible assumption | omega) only [push_cast, x_blk, x_cd, ↓reduceIte, Nat.reduceEqDiff, List.map_cons, List.map_nil, Int.reduceEq, Int.lt_irrefl, L_steps_meet_0, fr, hlt, k1.setA (wordsOf_words _) ty_ag_46 ty_sz_46]
    refine sto_blk k3 (cs := setCells (wordsOf (onlyL s t true))) (e4_set _) (by rw [setCells_4, setCells_4]) (setCells_one _) ?_
    intro w5 k5 g5 z5
    simp (disch := first | with_reducible assumption | omega) only [push_cast, x_blk, x_cd, ↓reduceIte, Nat.reduceEqDiff, List.map_cons, List.map_nil, Int.reduceEq, Int.lt_irrefl]
    exact fin_cell k5 ty_ag_46 (e4_set _) (by simp only [push_cast, ↓reduceIte, Nat.reduceEqDiff, Int.reduceEq, fr]) (hQ _ _ ⟨rfl, g5.below bb bb.size (by intro a ha; injection ha with ha; subst ha; show w.heap.size ≤ w2.heap.size; omega)⟩)
  have hi4 : i < 4 := by omega
  have k1d := k1.drew
  have k2d := k2.drew
  have hx : ws.getD i 0 < 2 ^ 64 := by rw [hw.at_, if_neg (by omega)]; exact (wordsOf_words s).2 i
  have hy := (wordsOf_words t).2 i
  have hst := hw.step hi4
  have hl1 := fun {K : Fr → World → Prop} {f : Fr} {d : Option Nat} {w : World} => k1d.ld (P := Try.prog) (K := K) (f := f) (d := d) (w := w) ty_ag_44 i (by rw [List.length_append, setCells_len, hw.len]; simp; omega)
  rw [setCells_getD ws i [] (by rw [hw.len]; exact hi4)] at hl1
  generalize ws.getD i 0 = x at *
  generalize hu : (wordsOf t).getD i 0 = y at *
  generalize hz : x &&& y = z at *
  simp (disch := first | with_reducible assumption | omega) only [push_cast, x_blk, x_cd, ↓reduceIte, Nat.reduceEqDiff, List.map_cons, List.map_nil, Int.reduceEq, Int.lt_irrefl, L_steps_meet_0, fr, hlt, Int.natCast_nonneg, bin_and' hz hx hy, hl1, k2d.word' (wordsOf_words t) ty_ag_44 i hi4 hu]
  refine sto_cell k1d (by kernel_rfl) i (by rw [List.length_append, setCells_len, hw.len]; simp; omega) .u64 (z : Int) ?_
  intro w5 k5 g5 z5
  rw [setCells_set ws i z [] (by rw [hw.len]; exact hi4)] at k5
  simp (disch := first | with_reducible assumption | omega) only [push_cast, x_blk, x_cd, ↓reduceIte, Nat.reduceEqDiff, List.map_cons, List.map_nil, Int.reduceEq, Int.lt_irrefl, fr]
  exact hJ _ _ ⟨i + 1, _, by omega, (by simp only [push_cast, ↓reduceIte, Nat.reduceEqDiff, true_and, and_true, and_self, eq_self, fr]), hst, k5, k2d.grown g5.by_ (by simp; omega), k3.drew.grown g5.by_ (by simp; omega), g5.below (drawn bb) bb.size (by intro a ha; injection ha with ha; subst ha; exact Nat.le_refl _)⟩ (by simp only [push_cast, ↓reduceIte, Nat.reduceEqDiff, intOf, fr]; omega)

def IniIs (p : Plt) (b : Bool) (o : List Int) (e : Int) : Prop :=
  (¬ p.May ∧ b = false ∧ o = [] ∧ e = 2) ∨ (p.May ∧ e = 0 ∧ ∃ n, (layP p n).2 = [] ∧ OptIs (bestF (tellsB p.secret p.m.starts) (layP p n).1) b o)
def IniRes (p : Plt) (w : World) (v : Value) (w' : World) : Prop :=
  ∃ (b : Bool) (O : Option Addr) (co : Nat) (o : List Int) (e : Int), v = .tuple #[.bool b, .slice O o.length co, .int .i64 e] ∧ Ints (fun x => w.heap.size ≤ x ∧ x < w'.heap.size) w' O o ∧ o.length ≤ 100000 ∧ Below w.heap.size w w' ∧ IniIs p b o e
theorem pc_split (x : Pc) : Pc.cells x = setCells (wordsOf x.s) ++ [.slice x.W x.w.length x.cw] := rfl
theorem initial_Leak {w : World} {a : PV} {p : Plt} (ha : IsP (· < w.heap.size) w a p) (hf : p.Fits) : Cal Try.prog 14 [a.val p] w (IniRes p w) := by
  refine cal_initial_Leak (by simp) 100000 fun Q hQ => ?_
  simp (disch := first | with_reducible assumption | omega) only [push_cast, x_blk, x_cd, ↓reduceIte, Nat.reduceEqDiff, List.map_cons, List.map_nil, Int.reduceEq, Int.lt_irrefl, F_initial_Leak]
  refine blk_of (box_agg _ (a.cells p)) ?_
  intro w1 k1 b1 z1
  simp (disch := first | with_reducible assumption | omega) only [push_cast, x_blk, x_cd, ↓reduceIte, Nat.reduceEqDiff, List.map_cons, List.map_nil, Int.reduceEq, Int.lt_irrefl, k1.pA']
  refine call_of (current_May (ha.up b1) hf) ?_
  rintro v w2 ⟨rfl, b2⟩
  replace k1 := k1.below b2 k1.lt
  have bb := b1.trans (b2.mono b1.size)
  by_cases p1 : p.May
  case neg =>
    simp (disch := first | with_reducible assumption | omega) only [push_cast, x_blk, x_cd, ↓reduceIte, Nat.reduceEqDiff, List.map_cons, List.map_nil, Int.reduceEq, Int.lt_irrefl, decide_eq_false p1]
    exact fin_3 (hQ _ _ ⟨false, none, 0, [], 2, (by simp only [push_cast, ↓reduceIte, Nat.reduceEqDiff, Int.reduceEq, List.length_nil]), Ints.nil _ _ _, by simp, bb, .inl ⟨p1, rfl, rfl, rfl⟩⟩)
  have hm := p1.1
  have hst : p.m.states ≤ 256 := hm.2.1
  have nP := p1.seen8
  have nQ := hf.lenQ
  simp (disch := first | with_reducible assumption | omega) only [push_cast, x_blk, x_cd, ↓reduceIte, Nat.reduceEqDiff, List.map_cons, List.map_nil, Int.reduceEq, Int.lt_irrefl, decide_eq_true p1, k1.p2]
  refine call_of (machine_Of' (ha.up bb).m.starts _ hf.m.lenS ((may_starts hm).small hst)) ?_
  rintro v w3 ⟨rfl, b3⟩
  replace k1 := k1.below b3 k1.lt
  have hz1 := b1.size
  have hz2 := b2.size
  replace bb := bb.trans (b3.mono bb.size)
  simp (disch := first | with_reducible assumption | omega) only [push_cast, x_blk, x_cd, ↓reduceIte, Nat.reduceEqDiff, List.map_cons, List.map_nil, Int.reduceEq, Int.lt_irrefl]
  refine blk_of (cs := setCells (wordsOf [])) al_46 ?_
  intro w4 k4 b4 z4
  have hz3 := bb.size
  replace k1 := k1.below b4 k1.lt
  replace bb := bb.trans (b4.mono bb.size)
  simp (disch := first | with_reducible assumption | omega) only [push_cast, x_blk, x_cd, ↓reduceIte, Nat.reduceEqDiff, List.map_cons, List.map_nil, Int.reduceEq, Int.lt_irrefl]
  refine sto_blk k4 (cs := setCells (wordsOf p.m.starts)) (e4_set _) (by rw [setCells_4, setCells_4]) (setCells_one _) ?_
  intro w5 k5 g5 z5
  replace k1 := k1.grown g5.by_ (by have := k1.lt; simp; have := b3.size; omega)
  replace bb := g5.below bb bb.size (by intro a ha; injection ha with ha; subst ha; exact hz3)
  simp (disch := first | with_reducible assumption | omega) only [push_cast, x_blk, x_cd, ↓reduceIte, Nat.reduceEqDiff, List.map_cons, List.map_nil, Int.reduceEq, Int.lt_irrefl, k1.pA']
  refine call_of (initial_Places (ha.up bb) hf p1) ?_
  rintro v w6 ⟨A, c, ps, n, rfl, hR, hro, b6, habs, hnil, h64, hn64⟩
  have k16 := k1.below b6 k1.lt
  have k56 := k5.below b6 k5.lt
  have hz5 := bb.size
  have bb6 := bb.trans (b6.mono bb.size)
  have good := lays_good (step := backP p) (es := p.seen) (first := allP p) (U := UB p) (fun s _ e _ => UB.back hm s e) (UB.all hm) n
  have hps : ∀ x ∈ ps, UB p x.s ∧ x.w.length ≤ 64 := fun x hx => by
    have hmem : x.abs ∈ (layP p n).1 := by rw [← habs]; exact List.mem_map.2 ⟨x, hx, rfl⟩
    exact ⟨good.univ _ hmem, by have := (good.run _ hmem).2.2; exact Nat.le_trans this hn64⟩
  have hg5 : w3.heap.size < w6.heap.size := k56.lt
  simp (disch := first | with_reducible assumption | omega) only [push_cast, x_blk, x_cd, ↓reduceIte, Nat.reduceEqDiff, List.map_cons, List.map_nil, Int.reduceEq, Int.lt_irrefl]
  refine loop_rule (fun f w' => ∃ (i : Nat) (O : Option Addr) (co : Nat) (o : List Int) (b : Bool), i ≤ ps.length ∧ (f 1 = .pointer (some ⟨w.heap.size, 0, none⟩) ∧ f 5 = .pointer (some ⟨w3.heap.size, 0, none⟩) ∧ f 6 = .slice O o.length co ∧ f 7 = .bool b ∧ f 19 = .slice A ps.length c ∧ f 20 = .int .i64 ps.length ∧ f 21 = .int .i64 i) ∧
      Ints (fun x => w5.heap.size ≤ x ∧ x < w6.heap.size) w' O o ∧ o.length ≤ 64 ∧ OptIs (bestF (tellsB p.secret p.m.starts) ((ps.take i).map Pc.abs)) b o ∧ Below w6.heap.size w6 w')
    (fun f _ => ps.length - (intOf (f 21)).toNat) ⟨0, none, 0, [], false, Nat.zero_le _, ⟨rfl, rfl, rfl, rfl, rfl, rfl, rfl⟩, Ints.nil _ _ _, by simp, ⟨rfl, rfl⟩, Below.refl _ _⟩ ?_
  rintro f w7 ⟨i, O, co, o, b, hi, fr, hO, ho, hopt, b7⟩ J hJ
  have bb7 := bb6.trans (b7.mono bb6.size)
  by_cases hlt : i < ps.length
  case neg =>
    obtain rfl : i = ps.length := by omega
    rw [List.take_length, habs] at hopt
    simp (disch := first | with_reducible assumption | omega) only [push_cast, x_blk, x_cd, ↓reduceIte, Nat.reduceEqDiff, List.map_cons, List.map_nil, Int.reduceEq, Int.lt_irrefl, L_initial_Leak_1, fr, Nat.lt_irrefl]
    exact fin_3 (hQ _ _ ⟨b, O, co, o, 0, (by simp only [push_cast, ↓reduceIte, Nat.reduceEqDiff, Int.reduceEq, fr]), hO.mono fun x hx => ⟨by have := hx.1; omega, by have := hx.2; have := b7.size; omega⟩, by omega, bb7, .inr ⟨p1, rfl, n, hnil, hopt⟩⟩)
  have hpk : ps[i]? = some (ps[i]'hlt) := List.getElem?_eq_getElem hlt
  have hmem : ps[i]'hlt ∈ ps := List.getElem_mem hlt
  have htk : ps.take (i + 1) = ps.take i ++ [ps[i]'hlt] := List.take_succ_eq_append_getElem hlt
  generalize ps[i]'hlt = x at *
  have hsucc : bestF (tellsB p.secret p.m.starts) ((ps.take (i + 1)).map Pc.abs) = if tellsB p.secret p.m.starts x.s = true ∧ (∀ v, bestF (tellsB p.secret p.m.starts) ((ps.take i).map Pc.abs) = some v → Shl x.w v) then some x.w else bestF (tellsB p.secret p.m.starts) ((ps.take i).map Pc.abs) := by
    rw [htk, List.map_append, List.map_singleton, bestF_snoc]; rfl
  obtain ⟨hxU, hxw⟩ := hps x hmem
  have hR7 := hR.keep fun b hb => b7.block b hb.2
  have hA := hR7.isSome (by omega)
  have hldx := fun {K : Fr → World → Prop} {f : Fr} {d : Option Nat} {w' : World} => hR7.ldAll (P := Try.prog) (K := K) (f := f) (d := d) (w := w') pcEnc ty_ag_77 hpk ty_sz_77
  simp (disch := first | with_reducible assumption | omega) only [push_cast, x_blk, x_cd, ↓reduceIte, Nat.reduceEqDiff, List.map_cons, List.map_nil, Int.reduceEq, Int.lt_irrefl, L_initial_Leak_1, fr, hlt, hldx]
  refine blk_of (cs := Pc.cells ⟨[], none, 0, []⟩) al_77 ?_
  intro w8 k8 b8 z8
  simp (disch := first | with_reducible assumption | omega) only [push_cast, x_blk, x_cd, ↓reduceIte, Nat.reduceEqDiff, List.map_cons, List.map_nil, Int.reduceEq, Int.lt_irrefl]
  refine sto_blk k8 (cs := Pc.cells x) (by rw [pcEnc.len]; exact ty_sz_77) (by rw [pcEnc.len, pcEnc.len]) (List.all_eq_true.2 (pcEnc.one x)) ?_
  intro w9 k9 g9 z9
  have b79 := g9.below b8 b8.size (by intro a ha; injection ha with ha; subst ha; exact Nat.le_refl _)
  have b69 := b7.trans (b79.mono b7.size)
  have h67 := b7.size
  simp (disch := first | with_reducible assumption | omega) only [push_cast, x_blk, x_cd, ↓reduceIte, Nat.reduceEqDiff, List.map_cons, List.map_nil, Int.reduceEq, Int.lt_irrefl, fr]
  rw [pc_split] at k9
  have hu9 : w9.heap.size = w9.heap.size := rfl
  refine loop_rule (fun f' w' => ∃ (q : Nat) (ws : List Nat), q ≤ 4 ∧ (f' 1 = .pointer (some ⟨w.heap.size, 0, none⟩) ∧ f' 5 = .pointer (some ⟨w3.heap.size, 0, none⟩) ∧ f' 6 = .slice O o.length co ∧ f' 7 = .bool b ∧ f' 9 = .pointer (some ⟨w7.heap.size, 0, none⟩) ∧ f' 19 = .slice A ps.length c ∧ f' 20 = .int .i64 ps.length ∧ f' 21 = .int .i64 i ∧ f' 25 = .int .i64 q) ∧
      WAt (wordsOf x.s) (wordsOf p.m.starts) q ws ∧ Blk w' w7.heap.size 77 (setCells ws ++ [.slice x.W x.w.length x.cw]) ∧ Below w6.heap.size w6 w')
    (fun f' _ => 4 - (intOf (f' 25)).toNat) ⟨0, wordsOf x.s, by omega, (by simp only [push_cast, ↓reduceIte, Nat.reduceEqDiff, true_and, and_true, and_self, eq_self, fr]), WAt.start (wordsOf_words _).1 _, k9, b69⟩ ?_
  have hmu : (intOf (f 21)).toNat = i := by rw [fr.2.2.2.2.2.2]; simp [intOf]
  clear k9 k8 b79 b69 b8 g9 hldx hR7 fr
  rintro f w10 ⟨q, ws, hq, fr, hw, k9, b10⟩ J2 hJ2
  have k56' := k56.below b10 hg5
  by_cases hlt2 : (q : Int) < 4
  case pos =>
    have hi4 : q < 4 := by omega
    have k1d := k9.drew
    have k2d := k56'.drew
    have hx : ws.getD q 0 < 2 ^ 64 := by rw [hw.at_, if_neg (by omega)]; exact (wordsOf_words _).2 q
    have hy := (wordsOf_words p.m.starts).2 q
    have hst := hw.step hi4
    have hl1 := fun {K : Fr → World → Prop} {f : Fr} {d : Option Nat} {w : World} => k1d.ld (P := Try.prog) (K := K) (f := f) (d := d) (w := w) ty_ag_44 q (by rw [List.length_append, setCells_len, hw.len]; simp; omega)
    rw [setCells_getD ws q _ (by rw [hw.len]; exact hi4)] at hl1
    generalize ws.getD q 0 = xx at *
    generalize hu : (wordsOf p.m.starts).getD q 0 = y at *
    generalize hz : xx &&& y = z at *
    simp (disch := first | with_reducible assumption | omega) only [push_cast, x_blk, x_cd, ↓reduceIte, Nat.reduceEqDiff, List.map_cons, List.map_nil, Int.reduceEq, Int.lt_irrefl, L_initial_Leak_0, fr, hlt2, Int.natCast_nonneg, bin_and' hz hx hy, hl1, k2d.word' (wordsOf_words _) ty_ag_44 q hi4 hu]
    refine sto_cell k1d (by kernel_rfl) q (by rw [List.length_append, setCells_len, hw.len]; simp; omega) .u64 (z : Int) ?_
    intro w11 k11 g11 z11
    rw [setCells_set ws q z _ (by rw [hw.len]; exact hi4)] at k11
    simp (disch := first | with_reducible assumption | omega) only [push_cast, x_blk, x_cd, ↓reduceIte, Nat.reduceEqDiff, List.map_cons, List.map_nil, Int.reduceEq, Int.lt_irrefl, fr]
    exact hJ2 _ _ ⟨q + 1, _, by omega, (by simp only [push_cast, ↓reduceIte, Nat.reduceEqDiff, true_and, and_true, and_self, eq_self, fr]), hst, k11, g11.below (drawn b10) b10.size (by intro a ha; injection ha with ha; subst ha; exact h67)⟩ (by simp only [push_cast, ↓reduceIte, Nat.reduceEqDiff, intOf, fr]; omega)
  have hqe : q = 4 := by omega
  have hd := (hqe ▸ hw : WAt _ _ 4 ws).done
  subst hd
  have hcs : setCells (wordsOf (onlyL x.s p.m.starts true)) ++ [.slice x.W x.w.length x.cw] = Pc.cells ⟨onlyL x.s p.m.starts true, x.W, x.cw, x.w⟩ := rfl
  rw [hcs] at k9
  have bb10 := bb6.trans (b10.mono bb6.size)
  have k110 := k16.below b10 k16.lt
  have hlds := fun {K : Fr → World → Prop} {f : Fr} {d : Option Nat} {w' : World} => k9.ldSub (P := Try.prog) (K := K) (f := f) (d := d) (w := w') ty_ag_46 0 (vs := setCells (wordsOf (onlyL x.s p.m.starts true))) (e4_set _) (Pc.cell0 ⟨onlyL x.s p.m.starts true, x.W, x.cw, x.w⟩)
  have hsm : Small (onlyL x.s p.m.starts true) := fun z hz => hxU.1.small hst z (mem_onlyT.1 hz).1
  have htb : tellsB p.secret p.m.starts x.s = decide (TellsL (onlyL x.s p.m.starts true) p.secret) := rfl
  simp (disch := first | with_reducible assumption | omega) only [push_cast, x_blk, x_cd, ↓reduceIte, Nat.reduceEqDiff, List.map_cons, List.map_nil, Int.reduceEq, Int.lt_irrefl, L_initial_Leak_0, fr, hlt2, hlds, k110.p6]
  refine call_of (current_Tells hsm (ha.up bb10).secret (by omega) (p1.2.2.2.small hst)) ?_
  rintro v w11 ⟨rfl, b11⟩
  have k911 := k9.below b11 k9.lt
  have b611 := b10.trans (b11.mono b10.size)
  have hOw : ∀ {w' : World}, Below w6.heap.size w6 w' → Ints (fun x => w5.heap.size ≤ x ∧ x < w6.heap.size) w' x.W x.w := fun {w'} hb => (hro x hmem).keep fun b hb' => hb.block b hb'.2
  have hO6 : ∀ {w' : World}, Below w6.heap.size w6 w' → Ints (fun x => w5.heap.size ≤ x ∧ x < w6.heap.size) w' O o := fun {w'} hb => hO.keep fun z hz => by rw [hb.block z hz.2, b7.block z hz.2]
  have hld4 := fun {w' : World} (h : Blk w' w7.heap.size 77 (Pc.cells ⟨onlyL x.s p.m.starts true, x.W, x.cw, x.w⟩)) {K : Fr → World → Prop} {f : Fr} {d : Option Nat} {w : World} => h.ld (P := Try.prog) (K := K) (f := f) (d := d) (w := w) ty_ag_22 4 (by rw [pcEnc.len]; omega)
  have hc4 : (Pc.cells ⟨onlyL x.s p.m.starts true, x.W, x.cw, x.w⟩).getD 4 undef = .slice x.W x.w.length x.cw := by rw [List.getD_eq_getElem?_getD, Pc.cell4 ⟨onlyL x.s p.m.starts true, x.W, x.cw, x.w⟩]; rfl
  rw [hc4] at hld4
  by_cases c1 : TellsL (onlyL x.s p.m.starts true) p.secret
  case neg =>
    rw [if_neg (fun hh => c1 (of_decide_eq_true (htb ▸ hh.1)))] at hsucc
    simp (disch := first | with_reducible assumption | omega) only [push_cast, x_blk, x_cd, ↓reduceIte, Nat.reduceEqDiff, List.map_cons, List.map_nil, Int.reduceEq, Int.lt_irrefl, decide_eq_false c1, fr]
    exact hJ _ _ ⟨i + 1, O, co, o, b, hlt, (by simp only [push_cast, ↓reduceIte, Nat.reduceEqDiff, true_and, and_true, and_self, eq_self, fr]), hO6 b611, ho, by rw [hsucc]; exact hopt, b611⟩ (by rw [hmu]; simp only [push_cast, ↓reduceIte, Nat.reduceEqDiff, intOf, fr]; omega)
  have hc1 : tellsB p.secret p.m.starts x.s = true := by rw [htb]; exact decide_eq_true c1
  cases b with
  | false =>
    have hno : bestF (tellsB p.secret p.m.starts) ((ps.take i).map Pc.abs) = none := by
      cases hh : bestF (tellsB p.secret p.m.starts) ((ps.take i).map Pc.abs) with
      | none => rfl
      | some v => rw [hh] at hopt; exact absurd hopt.1 (by decide)
    rw [if_pos ⟨hc1, fun v hv => by rw [hno] at hv; cases hv⟩] at hsucc
    simp (disch := first | with_reducible assumption | omega) only [push_cast, x_blk, x_cd, ↓reduceIte, Nat.reduceEqDiff, List.map_cons, List.map_nil, Int.reduceEq, Int.lt_irrefl, decide_eq_true c1, fr, hld4 k911]
    exact hJ _ _ ⟨i + 1, x.W, x.cw, x.w, true, hlt, (by simp only [push_cast, ↓reduceIte, Nat.reduceEqDiff, true_and, and_true, and_self, eq_self, fr]), hOw b611, hxw, by rw [hsucc]; exact ⟨rfl, rfl⟩, b611⟩ (by rw [hmu]; simp only [push_cast, ↓reduceIte, Nat.reduceEqDiff, intOf, fr]; omega)
  | true =>
    have hso : bestF (tellsB p.secret p.m.starts) ((ps.take i).map Pc.abs) = some o := by
      cases hh : bestF (tellsB p.secret p.m.starts) ((ps.take i).map Pc.abs) with
      | none => rw [hh] at hopt; exact absurd hopt.1 (by decide)
      | some v => rw [hh] at hopt; rw [hopt.2]
    simp (disch := first | with_reducible assumption | omega) only [push_cast, x_blk, x_cd, ↓reduceIte, Nat.reduceEqDiff, List.map_cons, List.map_nil, Int.reduceEq, Int.lt_irrefl, decide_eq_true c1, fr, hld4 k911]
    refine call_of (initial_lesser (hOw b611) (hO6 b611) x.cw co (by omega)) ?_
    rintro v w12 ⟨rfl, s12⟩
    have b612 := b611.trans (s12.below _)
    have k912 := k911.same s12
    by_cases c2 : Shl x.w o
    · rw [if_pos ⟨hc1, fun v hv => by rw [hso] at hv; rw [← Option.some.inj hv]; exact c2⟩] at hsucc
      simp (disch := first | with_reducible assumption | omega) only [push_cast, x_blk, x_cd, ↓reduceIte, Nat.reduceEqDiff, List.map_cons, List.map_nil, Int.reduceEq, Int.lt_irrefl, decide_eq_true c2, fr, hld4 k912]
      exact hJ _ _ ⟨i + 1, x.W, x.cw, x.w, true, hlt, (by simp only [push_cast, ↓reduceIte, Nat.reduceEqDiff, true_and, and_true, and_self, eq_self, fr]), hOw b612, hxw, by rw [hsucc]; exact ⟨rfl, rfl⟩, b612⟩ (by rw [hmu]; simp only [push_cast, ↓reduceIte, Nat.reduceEqDiff, intOf, fr]; omega)
    · rw [if_neg (fun hh => c2 (hh.2 o hso))] at hsucc
      simp (disch := first | with_reducible assumption | omega) only [push_cast, x_blk, x_cd, ↓reduceIte, Nat.reduceEqDiff, List.map_cons, List.map_nil, Int.reduceEq, Int.lt_irrefl, decide_eq_false c2, fr]
      exact hJ _ _ ⟨i + 1, O, co, o, true, hlt, (by simp only [push_cast, ↓reduceIte, Nat.reduceEqDiff, true_and, and_true, and_self, eq_self, fr]), hO6 b612, ho, by rw [hsucc]; exact hopt, b612⟩ (by rw [hmu]; simp only [push_cast, ↓reduceIte, Nat.reduceEqDiff, intOf, fr]; omega)
end Go.Proofs.Ytcjinmgieiebbaa
