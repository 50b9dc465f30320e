/-
  Chapter 10's reference: Backward: by its contract.
-/
import Derived.Test.YtcjinmgieiebbaaDoorZRef9B
namespace Go.Proofs.YtcjinmgieiebbaaDoor
set_option linter.unusedSimpArgs false
set_option linter.unusedVariables false
set_option linter.unusedSectionVars false
open Go.RowKit

theorem Kn.set1 (p : Kn) (W : Option Addr) (cw : Nat) (v : List Int) : (Kn.cells p).set 1 (.slice W v.length cw) = Kn.cells ⟨p.R, p.cr, p.r, W, cw, v⟩ := rfl
theorem kn_set : ∀ (l : List Kn) (k : Nat) (p : Kn), l[k]? = some p → ∀ (W : Option Addr) (cw : Nat) (v : List Int), (l.flatMap Kn.cells).set (k * 2 + 1) (.slice W v.length cw) = (l.set k ⟨p.R, p.cr, p.r, W, cw, v⟩).flatMap Kn.cells
  | [], k, p, h, _, _, _ => by simp at h
  | q :: l, 0, p, h, W, cw, v => by
    simp only [List.getElem?_cons_zero, Option.some.injEq] at h
    subst h
    rw [List.flatMap_cons, List.set_cons_zero, List.flatMap_cons, Nat.zero_mul, Nat.zero_add, List.set_append_left _ _ (by rw [knEnc.len]; omega), Kn.set1]
  | q :: l, k + 1, p, h, W, cw, v => by
    simp only [List.getElem?_cons_succ] at h
    rw [List.flatMap_cons, List.set_cons_succ, List.flatMap_cons, List.set_append_right _ _ (by rw [knEnc.len]; omega), knEnc.len, show (k + 1) * 2 + 1 - 2 = k * 2 + 1 by omega, kn_set l k p h]
def BwdRes (p : Plt) (w : World) (v : Value) (w' : World) : Prop :=
  ∃ (n : Nat) (ps : List Kn) (L : Option Addr) (c : Nat), v = .slice L ps.length c ∧ ps.map Kn.abs = (layP p n).1 ∧ (layP p n).2 = [] ∧ ps.length ≤ 64 ∧ Recs Kn.cells 2 (· < w'.heap.size) w' L ps ∧ (∀ x ∈ ps, KnAt w.heap.size w' x) ∧ Below w.heap.size w w'
theorem recs_own {α : Type} {enc : α → List Value} {sz B e c : Nat} {w : World} {A : Option Addr} {l : List α} (E : Enc enc sz) (hs : 0 < sz) (h : OwnR enc B e sz w A c l) : Recs enc sz (· < w.heap.size) w A l := Recs.lt E hs (OwnR.recs h E hs)
theorem ref9_Backward {w : World} {a : PV} {p : Plt} (ha : IsP (· < w.heap.size) w a p) (hf : p.Fits) (hp : p.May) : Cal Tryd.prog 35 [a.val p] w (BwdRes p w) := by
  have hm := hp.1
  have nP := hf.lenP
  have nP8 := hp.seen8
  have hst : p.m.states ≤ 256 := hm.2.1
  have hs0 : 0 ≤ p.m.states := by have := hm.1; omega
  have hU : ∀ s, UB p s → ∀ e ∈ p.seen, UB p (backP p s e) := fun s _ e _ => UB.back hm s e
  have hU0 : UB p (allP p) := UB.all hm
  have hU6 : ∀ s, UB p s → IsRow s 6 := fun s hs => hs.1.more hp.2.1
  have good := lays_good (step := backP p) (es := p.seen) (first := allP p) hU hU0
  have few : ∀ n (next : List (List Int × List Int)), LGood (backP p) p.seen (allP p) (UB p) (lays (backP p) p.seen (allP p) n).1 (n + 1) next → ((lays (backP p) p.seen (allP p) n).1 ++ next).length ≤ 64 := fun n next hn =>
    LGood.few (good n) hn codeR 64 (fun s hs => codeR_lt (hU6 s hs)) (fun s t hs ht e => codeR_inj (hU6 s hs) (hU6 t ht) e)
  have few0 : ∀ n, (layP p n).1.length ≤ 64 := fun n => (good n).few codeR 64 (fun s hs => codeR_lt (hU6 s hs)) (fun s t hs ht e => codeR_inj (hU6 s hs) (hU6 t ht) e)
  refine cal_ref9_Backward (by simp) 100000 fun Q hQ => ?_
  simp (disch := first | with_reducible assumption | omega) only [push_cast, x_blk, x_cd, ↓reduceIte, Nat.reduceEqDiff, List.map_cons, List.map_nil, Int.reduceEq, Int.lt_irrefl, F_ref9_Backward]
  refine blk_of (box_agg _ (a.cells p)) ?_
  intro w1 k1 b1 z1
  have hb1 := b1.size
  simp (disch := first | with_reducible assumption | omega) only [push_cast, x_blk, x_cd, ↓reduceIte, Nat.reduceEqDiff, List.map_cons, List.map_nil, Int.reduceEq, Int.lt_irrefl]
  refine loop_rule (fun f w' => ∃ (k : Nat) (O : Option Addr) (co : Nat), (k : Int) ≤ p.m.states ∧ (f 1 = .pointer (some ⟨w.heap.size, 0, none⟩) ∧ f 3 = .slice O (evs k).length co ∧ f 4 = .int .i64 k) ∧
      OwnI w1.heap.size 3 w' O co (evs k) ∧ Below w1.heap.size w1 w')
    (fun f _ => p.m.states.toNat - (intOf (f 4)).toNat) ⟨0, none, 0, by simpa using hs0, ⟨rfl, rfl, rfl⟩, Own.nil _ _ _ _, Below.refl _ _⟩ ?_
  rintro f w2 ⟨k, O, co, hk, fr, ho, b2⟩ J hJ
  have k2 := k1.below b2 k1.lt
  by_cases hlt : (k : Int) < p.m.states
  case pos =>
    have hl := evs_len k
    simp (disch := first | with_reducible assumption | omega) only [push_cast, x_blk, x_cd, ↓reduceIte, Nat.reduceEqDiff, List.map_cons, List.map_nil, Int.reduceEq, Int.lt_irrefl, L_ref9_Backward_4, fr, hlt, k2.p0, bs_22]
    refine app_int slT_22 ho _ (by omega) b2.size ?_
    intro A' c' w3 ho3 hg3 hA3 hs3 hz3
    simp (disch := first | with_reducible assumption | omega) only [push_cast, x_blk, x_cd, ↓reduceIte, Nat.reduceEqDiff, List.map_cons, List.map_nil, Int.reduceEq, Int.lt_irrefl, fr]
    exact hJ _ _ ⟨k + 1, A', c', by omega, (by simp only [push_cast, ↓reduceIte, Nat.reduceEqDiff, true_and, and_true, and_self, eq_self, fr, evs_snoc, List.length_append, List.length_cons, List.length_nil]), by rw [evs_snoc]; exact ho3, hg3.below b2 b2.size ho.geB⟩ (by simp only [push_cast, ↓reduceIte, Nat.reduceEqDiff, intOf, fr]; omega)
  obtain rfl : k = p.m.states.toNat := by omega
  clear hJ
  have hal : (allP p).length ≤ 256 := by rw [evs_len]; omega
  have ro := RowT.of_own (B := w.heap.size) ho
  simp (disch := first | with_reducible assumption | omega) only [push_cast, x_blk, x_cd, ↓reduceIte, Nat.reduceEqDiff, List.map_cons, List.map_nil, Int.reduceEq, Int.lt_irrefl, L_ref9_Backward_4, fr, hlt, k2.p0, bl_kn0]
  change LoopX _ _ _ _ (w2.alloc (.cells (Kn.cells ⟨O, co, allP p, none, 0, []⟩).toArray 76))
  have o3 := own_rec knEnc w2 ⟨O, co, allP p, none, 0, []⟩ 76
  have b3 : Below w2.heap.size w2 (w2.alloc (.cells (Kn.cells ⟨O, co, allP p, none, 0, []⟩).toArray 76)) := (Below.refl _ _).alloc (Nat.le_refl _) _
  generalize w2.alloc (.cells (Kn.cells ⟨O, co, allP p, none, 0, []⟩).toArray 76) = w3 at *
  have hg0 : KnAt w.heap.size w3 ⟨O, co, allP p, none, 0, []⟩ := ⟨ro.below b3, ⟨Ints.nil _ _ _⟩, hal, by simp⟩
  have zb := b2.size
  replace b3 := b2.trans (b3.mono b2.size)
  have hgl : ∀ x ∈ [(⟨O, co, allP p, none, 0, []⟩ : Kn)], KnAt w.heap.size w3 x := fun x hx => by rw [List.mem_singleton.1 hx]; exact hg0
  refine loop_ix (fun q f w' => ∃ (n : Nat) (ps lay : List Kn) (L LA : Option Addr) (c lc : Nat), q + n = 66 ∧ n ≤ ps.length ∧ (0 < lay.length → n < ps.length) ∧ (f 1 = .pointer (some ⟨w.heap.size, 0, none⟩) ∧ f 5 = .slice L ps.length c ∧ f 6 = .slice LA lay.length lc) ∧
      ps.map Kn.abs = (layP p n).1 ∧ lay.map Kn.abs = (layP p n).2 ∧ OwnR Kn.cells w1.heap.size 76 2 w' L c ps ∧ (∀ x ∈ ps, KnAt w.heap.size w' x) ∧
      Recs Kn.cells 2 (· < w'.heap.size) w' LA lay ∧ (∀ x ∈ lay, KnAt w.heap.size w' x) ∧ Below w1.heap.size w1 w')
    (n0 := 66) ⟨0, [⟨O, co, allP p, none, 0, []⟩], [⟨O, co, allP p, none, 0, []⟩], some ⟨w2.heap.size, 0, none⟩, some ⟨w2.heap.size, 0, none⟩, 1, 1, rfl, by simp, by simp, (by simp only [push_cast, ↓reduceIte, Nat.reduceEqDiff, true_and, and_true, and_self, eq_self, fr, List.length_cons, List.length_nil, Nat.zero_add]), rfl, rfl, o3.base zb, hgl, recs_own knEnc (by decide) o3, hgl, b3⟩ ?_
  clear o3 b3 hg0 hgl ro k2 b2 ho fr
  rintro qq f w4 ⟨n, ps, lay, L, LA, c, lc, hq, hn, hnl, fr, habs, hlay, ho, hgood, hRl, hlg, b4⟩ J hJ
  have hps : ps.length ≤ 64 := by have := few0 n; rw [← habs, List.length_map] at this; exact this
  have hl64 : lay.length ≤ 64 := by
    obtain ⟨pre, hpre⟩ := lays_suffix (step := backP p) (es := p.seen) (first := allP p) n
    have h1 := congrArg List.length hpre
    rw [List.length_append, ← habs, ← hlay, List.length_map, List.length_map] at h1
    omega
  by_cases hlt : 0 < lay.length
  case neg =>
    have hnil : (layP p n).2 = [] := by
      rw [← hlay, List.eq_nil_of_length_eq_zero (by omega : lay.length = 0)]; rfl
    have hl0 : ¬ (0 : Int) < (lay.length : Int) := by omega
    simp (disch := first | with_reducible assumption | omega) only [push_cast, x_blk, x_cd, ↓reduceIte, Nat.reduceEqDiff, List.map_cons, List.map_nil, Int.reduceEq, Int.lt_irrefl, L_ref9_Backward_3, fr, hl0]
    exact fin_1 (hQ _ _ ⟨n, ps, L, c, (by simp only [push_cast, ↓reduceIte, Nat.reduceEqDiff, Int.reduceEq, fr]), habs, hnil, hps, recs_own knEnc (by decide) ho, hgood, b1.trans (b4.mono b1.size)⟩)
  have hl1 : (0 : Int) < (lay.length : Int) := by omega
  simp (disch := first | with_reducible assumption | omega) only [push_cast, x_blk, x_cd, ↓reduceIte, Nat.reduceEqDiff, List.map_cons, List.map_nil, Int.reduceEq, Int.lt_irrefl, L_ref9_Backward_3, fr, hl1]
  refine loop_rule (fun f' w' => ∃ (i : Nat) (nx : List Kn) (NA : Option Addr) (nc : Nat), i ≤ lay.length ∧ (f' 1 = .pointer (some ⟨w.heap.size, 0, none⟩) ∧ f' 5 = .slice L ps.length c ∧ f' 6 = .slice LA lay.length lc ∧ f' 7 = .slice NA nx.length nc ∧ f' 8 = .int .i64 i) ∧
      nx.map Kn.abs = lNext (backP p) p.seen (layP p n).1 (layP p n).2 i ∧ OwnR Kn.cells w4.heap.size 76 2 w' NA nc nx ∧ (∀ x ∈ nx, KnAt w.heap.size w' x) ∧ Below w4.heap.size w4 w')
    (fun f' _ => lay.length - (intOf (f' 8)).toNat) ⟨0, [], none, 0, Nat.zero_le _, (by simp only [push_cast, ↓reduceIte, Nat.reduceEqDiff, true_and, and_true, and_self, eq_self, fr, List.length_nil]), by unfold lNext; simp, Own.nil _ _ _ _, fun x hx => absurd hx (by simp), Below.refl _ _⟩ ?_
  clear fr
  have hb4 := b4.size
  have hll : lay.length = (layP p n).2.length := by rw [← hlay, List.length_map]
  rintro f w5 ⟨i, nx, NA, nc, hi, fr, hnx, on, hng, b5⟩ J2 hJ2
  by_cases hil : i < lay.length
  case neg =>
    obtain rfl : i = lay.length := by omega
    have hnx64 := few n _ (lays_next hU (good n) lay.length)
    rw [← hnx, ← habs, ← List.map_append, List.length_map, List.length_append] at hnx64
    have ho5 := ho.below b5 (Nat.le_refl _)
    have hz5 := b5.size
    simp (disch := first | with_reducible assumption | omega) only [push_cast, x_blk, x_cd, ↓reduceIte, Nat.reduceEqDiff, List.map_cons, List.map_nil, Int.reduceEq, Int.lt_irrefl, L_ref9_Backward_2, fr, Nat.lt_irrefl]
    refine append_own slT_37 _ ho5 (Own.rd on (by decide)) (flatMap_len knEnc nx) (fun u hu => by
      obtain ⟨x, _, hx⟩ := List.mem_flatMap.1 hu
      exact knEnc.one x u hx) (by omega) (by omega) (by omega) ?_
    intro A' c' w6 h6 hg6 hA6 _ z6
    have hM1 : (ps ++ nx).map Kn.abs = (layP p (n + 1)).1 := by rw [List.map_append, habs, hnx, hll]; rfl
    have hM2 : nx.map Kn.abs = (layP p (n + 1)).2 := by rw [hnx, hll]; rfl
    have hlp := hnl hlt
    have on6 := on.grew hg6 (by
      cases NA with
      | none => exact .inl rfl
      | some g =>
        refine .inr fun e => ?_
        have h1 := on.geB g rfl
        have h2 := ho.ltB (b := g.block) (by rw [← e]; rfl)
        omega)
    simp (disch := first | with_reducible assumption | omega) only [push_cast, x_blk, x_cd, ↓reduceIte, Nat.reduceEqDiff, List.map_cons, List.map_nil, Int.reduceEq, Int.lt_irrefl, fr]
    refine hJ (qq - 1) _ _ ⟨n + 1, ps ++ nx, nx, A', NA, c', nc, by omega, by rw [List.length_append]; omega, fun h => by rw [List.length_append]; omega, (by simp only [push_cast, ↓reduceIte, Nat.reduceEqDiff, true_and, and_true, and_self, eq_self, fr, List.length_append]), hM1, hM2, by unfold OwnR; rw [List.length_append, List.flatMap_append]; exact h6, fun r hr => ?_, recs_own knEnc (by decide) on6,
      fun r hr => (hng r hr).grew (ho5.base hb1) (by decide) hg6, hg6.below (b4.trans (b5.mono b4.size)) (by omega) ho.geB⟩ (by omega)
    rcases List.mem_append.1 hr with hr | hr
    · exact ((hgood r hr).below b5).grew (ho5.base hb1) (by decide) hg6
    · exact (hng r hr).grew (ho5.base hb1) (by decide) hg6
  have hxk : lay[i]? = some (lay[i]'hil) := List.getElem?_eq_getElem hil
  have hxm : lay[i]'hil ∈ lay := List.getElem_mem hil
  generalize lay[i]'hil = x at hxk hxm
  have hxl : (layP p n).2[i]? = some x.abs := by rw [← hlay, List.getElem?_map, hxk]; rfl
  have hxg := (good n).layer x.abs (List.mem_of_getElem? hxl)
  have hxw : x.w.length = n := hxg.2.2.2
  have hUx : UB p x.r := hxg.1
  have gx4 := hlg x hxm
  simp (disch := first | with_reducible assumption | omega) only [push_cast, x_blk, x_cd, ↓reduceIte, Nat.reduceEqDiff, List.map_cons, List.map_nil, Int.reduceEq, Int.lt_irrefl, L_ref9_Backward_2, fr, hil]
  refine loop_rule (fun f' w' => ∃ (j : Nat) (nx : List Kn) (NA : Option Addr) (nc : Nat), j ≤ p.seen.length ∧ (f' 1 = .pointer (some ⟨w.heap.size, 0, none⟩) ∧ f' 5 = .slice L ps.length c ∧ f' 6 = .slice LA lay.length lc ∧ f' 7 = .slice NA nx.length nc ∧ f' 8 = .int .i64 i ∧ f' 9 = .int .i64 j) ∧
      nx.map Kn.abs = lPart (backP p) p.seen (layP p n).1 (layP p n).2 i j ∧ OwnR Kn.cells w4.heap.size 76 2 w' NA nc nx ∧ (∀ x ∈ nx, KnAt w.heap.size w' x) ∧ Below w4.heap.size w4 w')
    (fun f' _ => p.seen.length - (intOf (f' 9)).toNat) ⟨0, nx, NA, nc, Nat.zero_le _, (by simp only [push_cast, ↓reduceIte, Nat.reduceEqDiff, true_and, and_true, and_self, eq_self, fr]), by rw [lPart_zero]; exact hnx, on, hng, b5⟩ ?_
  have hmu2 : (intOf (f 8)).toNat = i := by rw [fr.2.2.2.2]; simp [intOf]
  clear on hng b5 fr hnx
  rintro f w6 ⟨j, nx, NA, nc, hj, fr, hnx, on, hng, b6⟩ J3 hJ3
  have bb6 := b1.trans ((b4.trans (b6.mono hb4)).mono b1.size)
  have k6 := k1.below (b4.trans (b6.mono hb4)) k1.lt
  by_cases hjt : j < p.seen.length
  case neg =>
    obtain rfl : j = p.seen.length := by omega
    rw [lPart_all (by omega)] at hnx
    simp (disch := first | with_reducible assumption | omega) only [push_cast, x_blk, x_cd, ↓reduceIte, Nat.reduceEqDiff, List.map_cons, List.map_nil, Int.reduceEq, Int.lt_irrefl, L_ref9_Backward_1, fr, Nat.lt_irrefl, k6.p5]
    exact hJ2 _ _ ⟨i + 1, nx, NA, nc, hil, (by simp only [push_cast, ↓reduceIte, Nat.reduceEqDiff, true_and, and_true, and_self, eq_self, fr]), hnx, on, hng, b6⟩ (by rw [hmu2]; simp only [push_cast, ↓reduceIte, Nat.reduceEqDiff, intOf, fr]; omega)
  have hmu3 : (intOf (f 9)).toNat = j := by rw [fr.2.2.2.2.2]; simp [intOf]
  have hlgd := lays_part (step := backP p) hU (good n) i j
  have hsucc := lPart_succ (step := backP p) (old := (layP p n).1) hxl hjt
  have fewj := few n _ hlgd
  rw [← hnx, ← habs, ← List.map_append, List.length_map, List.length_append] at fewj
  have sd : Same w6 w6.drew := (Same.refl w6).drew
  have bu : Below w4.heap.size w4 w6.drew := b6.trans (sd.below _)
  have k6' := k6.same sd
  have bbu := bb6.trans (sd.below _)
  have hRu := hRl.below bu
  have hA := hRu.isSome (by omega)
  have hIs := (ha.up bbu).seen
  have hAs := hIs.isSome (by omega)
  have gxu := gx4.below bu
  have l0 := fun {K : Fr → World → Prop} {f : Fr} {d : Option Nat} {w' : World} => hRu.ld (P := Tryd.prog) (K := K) (f := f) (d := d) (w := w') ty_ag_22 hxk (j := 0) (v := .slice x.R x.r.length x.cr) rfl
  have le := fun {u' : World} (hI : Ints (· < u'.heap.size) u' a.Ap p.seen) {K : Fr → World → Prop} {f : Fr} {d : Option Nat} {w : World} => hI.ld (P := Tryd.prog) (K := K) (f := f) (d := d) (w := w) ty_ag_3 j hjt
  generalize hee : p.seen.getD j 0 = e at *
  simp (disch := first | with_reducible assumption | omega) only [push_cast, x_blk, x_cd, ↓reduceIte, Nat.reduceEqDiff, List.map_cons, List.map_nil, Int.reduceEq, Int.lt_irrefl, L_ref9_Backward_1, fr, hjt, hil, k6.p5, k6'.pA', k6'.p5, l0, le hIs]
  refine call_of (ref9_into (ha.up bbu) hf hm gxu.r.lt gxu.nr e) ?_
  rintro v w7 ⟨X, cx, rfl, ox, b7⟩
  rw [into_eq hm hUx.2 e] at ox
  rw [into_eq hm hUx.2 e]
  have hUs : UB p (backL p.m p.seen x.r e) := UB.back hm _ _
  generalize hs : backL p.m p.seen x.r e = s at *
  have hs1 : backP p x.abs.1 e = s := hs
  have b67 : Below w6.heap.size w6 w7 := (sd.below _).trans b7
  have z67 := b67.size
  have b47 := b6.trans (b67.mono b6.size)
  have k7 := k6.below b67 k6.lt
  have bb7 := bb6.trans (b67.mono bb6.size)
  replace on := on.below b67 (Nat.le_refl _)
  replace hng : ∀ x ∈ nx, KnAt w.heap.size w7 x := fun x hx => (hng x hx).below b67
  have ho7 := ho.below b47 (Nat.le_refl _)
  have hg7 : ∀ x ∈ ps, KnAt w.heap.size w7 x := fun x hx => (hgood x hx).below b47
  have gx7 := gx4.below b47
  have hR7 := hRl.below b47
  have hmp : ps.map (·.r) = (layP p n).1.map (·.1) := by rw [← habs, List.map_map]; rfl
  have hxl' := small_len hUs.1.strict (hUs.1.small hm.2.1)
  clear b7 gxu hRu hIs l0 k6' bbu bu
  simp (disch := first | with_reducible assumption | omega) only [push_cast, x_blk, x_cd, ↓reduceIte, Nat.reduceEqDiff, List.map_cons, List.map_nil, Int.reduceEq, Int.lt_irrefl, fr]
  refine call_of (ref9_Has (recs_own knEnc (by decide) ho7) (by omega) (fun q hq => ⟨(hg7 q hq).r.lt, (hg7 q hq).nr⟩) (Ints.lt (OwnI.ints ox))) ?_
  rintro v w8 ⟨rfl, s8⟩
  replace on := on.same s8
  replace hng : ∀ x ∈ nx, KnAt w.heap.size w8 x := fun x hx => (hng x hx).below (s8.below _)
  replace b47 := b47.trans (s8.below _)
  replace k7 := k7.same s8
  replace bb7 := bb7.trans (s8.below _)
  replace ox := ox.same s8
  replace hR7 := hR7.same s8
  replace gx7 := gx7.below (s8.below _)
  have z78 : w8.heap.size = w7.heap.size := by rw [s8.heap]
  rw [hmp]
  by_cases hin : s ∈ (layP p n).1.map (·.1)
  · rw [lAdd_old (by rw [hs1]; exact hin)] at hsucc
    simp (disch := first | with_reducible assumption | omega) only [push_cast, x_blk, x_cd, ↓reduceIte, Nat.reduceEqDiff, List.map_cons, List.map_nil, Int.reduceEq, Int.lt_irrefl, decide_eq_true hin, fr]
    exact hJ3 _ _ ⟨j + 1, nx, NA, nc, by omega, (by simp only [push_cast, ↓reduceIte, Nat.reduceEqDiff, true_and, and_true, and_self, eq_self, fr]), by rw [hsucc]; exact hnx, on, hng, b47⟩ (by rw [hmu3]; simp only [push_cast, ↓reduceIte, Nat.reduceEqDiff, intOf, fr]; omega)
  have hin' : backP p x.abs.1 e ∉ (layP p n).1.map (·.1) := by rw [hs1]; exact hin
  have sd8 : Same w8 w8.drew := (Same.refl w8).drew
  replace on := on.same sd8
  replace hng : ∀ x ∈ nx, KnAt w.heap.size w8.drew x := fun x hx => (hng x hx).below (sd8.below _)
  replace b47 := b47.trans (sd8.below _)
  replace k7 := k7.same sd8
  replace bb7 := bb7.trans (sd8.below _)
  replace ox := ox.same sd8
  replace hR7 := hR7.same sd8
  replace gx7 := gx7.below (sd8.below _)
  have hA7 := hR7.isSome (by omega)
  have hI7 := (ha.up bb7).seen
  have hAs7 := hI7.isSome (by omega)
  have l1 := fun {K : Fr → World → Prop} {f : Fr} {d : Option Nat} {w' : World} => hR7.ld (P := Tryd.prog) (K := K) (f := f) (d := d) (w := w') ty_ag_22 hxk (j := 1) (v := .slice x.W x.w.length x.cw) rfl
  have hz8 : w8.drew.heap.size = w8.heap.size := rfl
  simp (disch := first | with_reducible assumption | omega) only [push_cast, x_blk, x_cd, ↓reduceIte, Nat.reduceEqDiff, List.map_cons, List.map_nil, Int.reduceEq, Int.lt_irrefl, decide_eq_false hin, fr, hjt, hil, k7.p5, l1, le hI7]
  generalize w8.drew = u8 at *
  have oE := own_int1 u8 e 3
  have bE : Below u8.heap.size u8 (u8.alloc (.cells [.int .i64 e].toArray 3)) := (Below.refl _ _).alloc (Nat.le_refl _) _
  have zE : (u8.alloc (.cells [.int .i64 e].toArray 3)).heap.size = u8.heap.size + 1 := by simp
  refine ⟨bE, ?_⟩
  generalize u8.alloc (Obj.cells [.int .i64 e].toArray 3) = v8 at *
  refine app_ints (l := [e]) slT_22 oE (gx7.below bE).w.lt (by simp; omega) (by omega) ?_
  intro W9 c9 w9 o9 hg9 _ z9
  have b89 := hg9.below bE bE.size (by intro a ha; injection ha with ha; subst ha; exact Nat.le_refl _)
  replace o9 : OwnI u8.heap.size 3 w9 W9 c9 (e :: x.w) := o9
  have hlw : ([e] : List Int).length + x.w.length = (e :: x.w).length := by simp; omega
  have b49 := b47.trans (b89.mono b47.size)
  replace on := on.below b89 (Nat.le_refl _)
  replace hng : ∀ x ∈ nx, KnAt w.heap.size w9 x := fun x hx => (hng x hx).below b89
  replace ox := ox.below b89 (Nat.le_refl _)
  have rX := RowT.of_own (B := w.heap.size) ox
  have rW := RowT.of_own (B := w.heap.size) o9
  have z49 := b49.size
  have hnw : (e :: x.w).length ≤ 100000 := by simp; omega
  rw [hlw]
  clear b89 bE oE ox o9 hg9 hR7 gx7 l1 k7 bb7 hI7 b47 sd8 zE
  simp (disch := first | with_reducible assumption | omega) only [push_cast, x_blk, x_cd, ↓reduceIte, Nat.reduceEqDiff, List.map_cons, List.map_nil, Int.reduceEq, Int.lt_irrefl, fr]
  refine loop_rule (fun f' w' => ∃ q : Nat, q ≤ nx.length ∧ (f' 1 = .pointer (some ⟨w.heap.size, 0, none⟩) ∧ f' 5 = .slice L ps.length c ∧ f' 6 = .slice LA lay.length lc ∧ f' 7 = .slice NA nx.length nc ∧ f' 8 = .int .i64 i ∧ f' 9 = .int .i64 j ∧ f' 10 = .slice X s.length cx ∧ f' 11 = .slice W9 (e :: x.w).length c9 ∧ f' 12 = .int .i64 q) ∧
      (∀ (i : Nat) (y : Kn), i < q → nx[i]? = some y → y.r ≠ s) ∧ Same w9 w')
    (fun f' _ => nx.length - (intOf (f' 12)).toNat) ⟨0, Nat.zero_le _, (by simp only [push_cast, ↓reduceIte, Nat.reduceEqDiff, true_and, and_true, and_self, eq_self, fr]), fun i y hi => absurd hi (by omega), Same.refl _⟩ ?_
  clear fr
  rintro f w10 ⟨q, hq, fr, hqs, s10⟩ J4 hJ4
  have b410 := b49.trans (s10.below _)
  replace on := on.same s10
  replace hng : ∀ x ∈ nx, KnAt w.heap.size w10 x := fun x hx => (hng x hx).below (s10.below _)
  replace rX := rX.below (s10.below _)
  replace rW := rW.below (s10.below _)
  have z410 := b410.size
  by_cases hql : q < nx.length
  case neg =>
    obtain rfl : q = nx.length := by omega
    have hnn : backP p x.abs.1 e ∉ (lPart (backP p) p.seen (layP p n).1 (layP p n).2 i j).map (·.1) := fun h => by
      rw [hs1, ← hnx, List.map_map] at h
      obtain ⟨y, hy, hye⟩ := List.mem_map.1 h
      obtain ⟨k, hk, hke⟩ := List.getElem_of_mem hy
      exact hqs k y hk (by rw [List.getElem?_eq_getElem hk, hke]) hye
    rw [lAdd_new hin' hnn, hs1] at hsucc
    simp (disch := first | with_reducible assumption | omega) only [push_cast, x_blk, x_cd, ↓reduceIte, Nat.reduceEqDiff, List.map_cons, List.map_nil, Int.reduceEq, Int.lt_irrefl, L_ref9_Backward_0, fr, Nat.lt_irrefl, eq_self, bl_kn ⟨X, cx, s, W9, c9, e :: x.w⟩, bs_rec knEnc slT_37 _ (by decide)]
    refine app_rec knEnc slT_37 on ⟨X, cx, s, W9, c9, e :: x.w⟩ (by omega) (by omega) z410 ?_
    intro A14 c14 w14 oR g14 hA14 hs14 z14
    simp (disch := first | with_reducible assumption | omega) only [push_cast, x_blk, x_cd, ↓reduceIte, Nat.reduceEqDiff, List.map_cons, List.map_nil, Int.reduceEq, Int.lt_irrefl, fr]
    refine hJ3 _ _ ⟨j + 1, nx ++ [⟨X, cx, s, W9, c9, e :: x.w⟩], A14, c14, hjt, (by simp only [push_cast, ↓reduceIte, Nat.reduceEqDiff, true_and, and_true, and_self, eq_self, fr, List.length_append, List.length_cons, List.length_nil]), by rw [hsucc, List.map_append, hnx]; rfl, oR, fun r hr => ?_, g14.below b410 z410 on.geB⟩ (by rw [hmu3]; simp only [push_cast, ↓reduceIte, Nat.reduceEqDiff, intOf, fr]; omega)
    rcases List.mem_append.1 hr with hr | hr
    · exact (hng r hr).grew (on.base (by omega)) (by decide) g14
    · rw [List.mem_singleton.1 hr]
      exact ⟨rX.grew (on.base (by omega)) (by decide) g14, rW.grew (on.base (by omega)) (by decide) g14, hxl', hnw⟩
  have hyk : nx[q]? = some (nx[q]'hql) := List.getElem?_eq_getElem hql
  have hym : nx[q]'hql ∈ nx := List.getElem_mem hql
  generalize nx[q]'hql = y at hyk hym
  have gy := hng y hym
  have hRn := recs_own knEnc (by decide) on
  have hAn := on.isSome (by omega)
  have ny := gy.nr
  have ly0 := fun {K : Fr → World → Prop} {f : Fr} {d : Option Nat} {w' : World} => hRn.ld (P := Tryd.prog) (K := K) (f := f) (d := d) (w := w') ty_ag_22 hyk (j := 0) (v := .slice y.R y.r.length y.cr) rfl
  simp (disch := first | with_reducible assumption | omega) only [push_cast, x_blk, x_cd, ↓reduceIte, Nat.reduceEqDiff, List.map_cons, List.map_nil, Int.reduceEq, Int.lt_irrefl, L_ref9_Backward_0, fr, hql, ly0]
  refine call_of (ref1_Same gy.r.lt rX.lt y.cr cx (by omega)) ?_
  rintro v w11 ⟨rfl, s11⟩
  by_cases c1 : y.r = s
  case neg =>
    simp (disch := first | with_reducible assumption | omega) only [push_cast, x_blk, x_cd, ↓reduceIte, Nat.reduceEqDiff, List.map_cons, List.map_nil, Int.reduceEq, Int.lt_irrefl, c1, fr]
    exact hJ4 _ _ ⟨q + 1, hql, (by simp only [push_cast, ↓reduceIte, Nat.reduceEqDiff, true_and, and_true, and_self, eq_self, fr]), fun i' y' hi' hy' hh => by
      by_cases e' : i' = q
      · subst e'; rw [hyk] at hy'; obtain rfl := Option.some.inj hy'; exact c1 hh
      · exact hqs i' y' (by omega) hy' hh, s10.trans s11⟩ (by simp only [push_cast, ↓reduceIte, Nat.reduceEqDiff, intOf, fr]; omega)
  have b411 := b410.trans (s11.below _)
  have hqi : ¬ (q : Int) = (nx.length : Int) := by omega
  have hRn1 := hRn.same s11
  have ly1 := fun {K : Fr → World → Prop} {f : Fr} {d : Option Nat} {w' : World} => hRn1.ld (P := Tryd.prog) (K := K) (f := f) (d := d) (w := w') ty_ag_22 hyk (j := 1) (v := .slice y.W y.w.length y.cw) rfl
  replace on := on.same s11
  replace hng : ∀ x ∈ nx, KnAt w.heap.size w11 x := fun x hx => (hng x hx).below (s11.below _)
  replace rX := rX.below (s11.below _)
  replace rW := rW.below (s11.below _)
  replace gy := gy.below (s11.below _)
  have hat : (lPart (backP p) p.seen (layP p n).1 (layP p n).2 i j)[q]? = some (backP p x.abs.1 e, y.w) := by rw [hs1, ← hnx, List.getElem?_map, hyk, ← c1]; rfl
  simp (disch := first | with_reducible assumption | omega) only [push_cast, x_blk, x_cd, ↓reduceIte, Nat.reduceEqDiff, List.map_cons, List.map_nil, Int.reduceEq, Int.lt_irrefl, c1, eq_self, fr, hqi, hql, ly1]
  refine call_of (ref9_Lesser rW.lt gy.w.lt c9 y.cw (by omega)) ?_
  rintro v w12 ⟨rfl, s12⟩
  replace on := on.same s12
  replace hng : ∀ x ∈ nx, KnAt w.heap.size w12 x := fun x hx => (hng x hx).below (s12.below _)
  replace rX := rX.below (s12.below _)
  replace rW := rW.below (s12.below _)
  replace b411 := b411.trans (s12.below _)
  by_cases c2 : Shl (e :: x.w) y.w
  case neg =>
    rw [lAdd_keep hin' hlgd.nodup hat c2] at hsucc
    simp (disch := first | with_reducible assumption | omega) only [push_cast, x_blk, x_cd, ↓reduceIte, Nat.reduceEqDiff, List.map_cons, List.map_nil, Int.reduceEq, Int.lt_irrefl, decide_eq_false c2, fr]
    exact hJ3 _ _ ⟨j + 1, nx, NA, nc, by omega, (by simp only [push_cast, ↓reduceIte, Nat.reduceEqDiff, true_and, and_true, and_self, eq_self, fr]), by rw [hsucc]; exact hnx, on, hng, b411⟩ (by rw [hmu3]; simp only [push_cast, ↓reduceIte, Nat.reduceEqDiff, intOf, fr]; omega)
  rw [lAdd_set hin' hlgd.nodup hat c2, hs1] at hsucc
  simp (disch := first | with_reducible assumption | omega) only [push_cast, x_blk, x_cd, ↓reduceIte, Nat.reduceEqDiff, List.map_cons, List.map_nil, Int.reduceEq, Int.lt_irrefl, decide_eq_true c2, fr, hql]
  refine sto_own_sl (by decide) on (q * 2 + 1) (by rw [flatMap_len knEnc]; omega) (by kernel_rfl) _ _ _ ?_
  intro w13 o13 g13 z13
  rw [kn_set nx q y hyk] at o13
  have o13' : OwnR Kn.cells w4.heap.size 76 2 w13 NA nc (nx.set q ⟨y.R, y.cr, y.r, W9, c9, e :: x.w⟩) := by unfold OwnR; rw [List.length_set]; exact o13
  simp (disch := first | with_reducible assumption | omega) only [push_cast, x_blk, x_cd, ↓reduceIte, Nat.reduceEqDiff, List.map_cons, List.map_nil, Int.reduceEq, Int.lt_irrefl, fr]
  refine hJ3 _ _ ⟨j + 1, nx.set q ⟨y.R, y.cr, y.r, W9, c9, e :: x.w⟩, NA, nc, hjt, (by simp only [push_cast, ↓reduceIte, Nat.reduceEqDiff, true_and, and_true, and_self, eq_self, fr, List.length_set]), by rw [hsucc, List.map_set, hnx, ← c1]; rfl, o13', fun r hr => ?_, g13.below b411 b411.size on.geB⟩ (by rw [hmu3]; simp only [push_cast, ↓reduceIte, Nat.reduceEqDiff, intOf, fr]; omega)
  rcases List.mem_or_eq_of_mem_set hr with hr | rfl
  · exact (hng r hr).grew (on.base (by omega)) (by decide) g13
  · exact ⟨(hng y hym).r.grew (on.base (by omega)) (by decide) g13, rW.grew (on.base (by omega)) (by decide) g13, ny, hnw⟩
end Go.Proofs.YtcjinmgieiebbaaDoor
