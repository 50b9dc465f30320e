/-
  Chapter 4: the program's machine of what was found (done): by its contract.
-/
import Derived.Test.YtcjedgiglimipaaDoorZBesS
namespace Go.Proofs.YtcjedgiglimipaaDoor
set_option linter.unusedSimpArgs false
set_option linter.unusedVariables false
set_option linter.unusedSectionVars false
open Go.RowKit

theorem own_far {B1 e1 s1 c1 n1 B2 e2 s2 c2 n2 : Nat} {w : World} {A1 A2 : Option Addr} {xs ys : List Value} (o : Own B1 e1 s1 w A1 c1 n1 xs) (p : Own B2 e2 s2 w A2 c2 n2 ys) (hne : e1 ≠ e2) : A1 = none ∨ A1.map (·.block) ≠ A2.map (·.block) := by
  rcases o.own.2 with ⟨h0, _⟩ | ⟨gg, cap, cur, hv, _, hh, _⟩
  · injection h0 with h0; exact .inl h0
  · injection hv with hv
    subst hv
    refine .inr fun e => ?_
    rcases p.own.2 with ⟨h0, _⟩ | ⟨gg', cap', cur', hv', _, hh', _⟩
    · injection h0 with h0; rw [h0] at e; cases e
    · injection hv' with hv'
      rw [hv'] at e
      injection e with e
      simp only at e
      subst e
      rw [hh] at hh'
      injection hh' with hh'
      injection hh' with _ ht
      exact hne ht
theorem own_farB {B1 e1 s1 c1 n1 g t : Nat} {w : World} {A1 : Option Addr} {xs cs : List Value} (o : Own B1 e1 s1 w A1 c1 n1 xs) (k : Blk w g t cs) (hne : e1 ≠ t) : A1 = none ∨ A1.map (·.block) ≠ (some (⟨g, 0, none⟩ : Addr)).map (·.block) :=
  .inr (o.ne_blk k hne)
/-- The finder's cells, with ends. -/
def fE (E : Int) (v : FV) (n1 n2 n4 gm : Nat) (A5 : Option Addr) (n5 c5 : Nat) : List Value := [.int .i64 0, .int .i64 E, .slice v.A1 n1 v.c1, .slice v.A2 n2 v.c2, .slice A5 n5 c5, .map (some gm), .slice v.A4 n4 v.c4]
theorem fE_4 (E : Int) (v : FV) (n1 n2 n4 gm : Nat) (A5 : Option Addr) (n5 c5 : Nat) : (fE E v n1 n2 n4 gm A5 n5 c5)[4]? = some (.slice A5 n5 c5) := rfl
theorem fE_6 (E : Int) (v : FV) (n1 n2 n4 gm : Nat) (A5 : Option Addr) (n5 c5 : Nat) : (fE E v n1 n2 n4 gm A5 n5 c5)[6]? = some (.slice v.A4 n4 v.c4) := rfl
theorem fE_len (E : Int) (v : FV) (n1 n2 n4 gm : Nat) (A5 : Option Addr) (n5 c5 : Nat) : (fE E v n1 n2 n4 gm A5 n5 c5).length = 7 := rfl
def endK (a b : Mach) (ps : List Pr) (k : Nat) : List Int := (evs k).filter fun n => decide ((ps.getD n.toNat default).1 ∈ a.ends ∧ (ps.getD n.toNat default).2 ∈ b.ends)
theorem endK_succ (a b : Mach) (ps : List Pr) (k : Nat) : endK a b ps (k + 1) = endK a b ps k ++ (if (ps.getD k default).1 ∈ a.ends ∧ (ps.getD k default).2 ∈ b.ends then [(k : Int)] else []) := by
  have : evs (k + 1) = evs k ++ [(k : Int)] := by unfold evs; rw [List.range_succ, List.map_append]; rfl
  unfold endK
  rw [this, List.filter_append]
  congr 1
  by_cases h : (ps.getD k default).1 ∈ a.ends ∧ (ps.getD k default).2 ∈ b.ends
  · rw [if_pos h, List.filter_cons_of_pos (by simpa using h)]; rfl
  · rw [if_neg h, List.filter_cons_of_neg (by simpa using h)]; rfl
theorem endK_all (a b : Mach) (ps : List Pr) : endK a b ps ps.length = bsEnds a b ps := rfl
theorem endK_len (a b : Mach) (ps : List Pr) (k : Nat) : (endK a b ps k).length ≤ k := by
  unfold endK
  exact Nat.le_trans (List.length_filter_le _ _) (by rw [evs_len]; exact Nat.le_refl _)
def prL (p : Pr) : List Int := [p.1, p.2]
/-- While the names are made. -/
structure DnW (B lo : Nat) (w : World) (g gm : Nat) (E : Int) (v : FV) (S : List Int) (ar : List Arr) (ps : List Pr) (A5 : Option Addr) (c5 : Nat) (es : List Int) (An : Option Addr) (cn : Nat) (hs : List Hd) : Prop where
  blk : Blk w g 136 (fE E v S.length ar.length ps.length gm A5 es.length c5)
  st : OwnI B 3 w v.A1 v.c1 S
  ar : OwnR arrCells B 85 3 w v.A2 v.c2 ar
  ps : OwnR prP B 139 2 w v.A4 v.c4 ps
  es : OwnI B 3 w A5 c5 es
  far : v.A1 = none ∨ v.A1.map (·.block) ≠ A5.map (·.block)
  nm : OwnR Hd.cells B 22 1 w An cn hs
  rows : RowsAt (Apt lo w g (A5.map (·.block)) (An.map (·.block))) w hs
  gB : B ≤ g
section
variable {B lo : Nat} {w w' : World} {g gm : Nat} {E : Int} {v : FV} {S : List Int} {ar : List Arr} {ps : List Pr} {A5 : Option Addr} {c5 : Nat} {es : List Int} {An : Option Addr} {cn : Nat} {hs : List Hd}
theorem DnW.below (h : DnW B lo w g gm E v S ar ps A5 c5 es An cn hs) (b : Below w.heap.size w w') : DnW B lo w' g gm E v S ar ps A5 c5 es An cn hs :=
  ⟨h.blk.below b h.blk.lt, h.st.below b (Nat.le_refl _), h.ar.below b (Nat.le_refl _), h.ps.below b (Nat.le_refl _), h.es.below b (Nat.le_refl _), h.far, h.nm.below b (Nat.le_refl _), h.rows.below b, h.gB⟩
/-- One name more. -/
theorem DnW.name (h : DnW B lo w g gm E v S ar ps A5 c5 es An cn hs) {x : Hd} (hx : Ints (Apt lo w g (A5.map (·.block)) (An.map (·.block))) w x.A x.l) {An' : Option Addr} {cn' : Nat} (ho : OwnR Hd.cells B 22 1 w' An' cn' (hs ++ [x])) (hg : Grew w w' An)
    (hA : An'.map (·.block) = An.map (·.block) ∨ ∃ g', An'.map (·.block) = some g' ∧ w.heap.size ≤ g') : DnW B lo w' g gm E v S ar ps A5 c5 es An' cn' (hs ++ [x]) := by
  refine ⟨h.blk.grown hg.by_ (fun e => h.nm.ne_blk h.blk (by decide) e.symm), h.st.grew hg (own_far h.st h.nm (by decide)), h.ar.grew hg (own_far h.ar h.nm (by decide)), h.ps.grew hg (own_far h.ps h.nm (by decide)), h.es.grew hg (own_far h.es h.nm (by decide)), h.far, ho, ?_, h.gB⟩
  refine RowsAt.grewY (hs := hs ++ [x]) ?_ hg hA
  intro y hy
  rcases List.mem_append.1 hy with hy | hy
  · exact h.rows y hy
  · rw [List.mem_singleton.1 hy]; exact hx
/-- One end more. -/
theorem DnW.end_ (h : DnW B lo w g gm E v S ar ps A5 c5 es An cn hs) {x : Int} {w2 : World} {A' : Option Addr} {c' : Nat} (ho : OwnI B 3 w' A' c' (es ++ [x])) (hg : Grew w w' A5)
    (hA : A'.map (·.block) = A5.map (·.block) ∨ ∃ g', A'.map (·.block) = some g' ∧ w.heap.size ≤ g') (hk : Blk w2 g 136 (fE E v S.length ar.length ps.length gm A' (es.length + 1) c')) (hg2 : Grew w' w2 (some ⟨g, 0, none⟩)) : DnW B lo w2 g gm E v S ar ps A' c' (es ++ [x]) An cn hs := by
  have k1 : Blk w' g 136 (fE E v S.length ar.length ps.length gm A5 es.length c5) := h.blk.grown hg.by_ (fun e => h.es.ne_blk h.blk (by decide) e.symm)
  have st1 := h.st.grew hg h.far
  have ar1 := h.ar.grew hg (own_far h.ar h.es (by decide))
  have ps1 := h.ps.grew hg (own_far h.ps h.es (by decide))
  have nm1 := h.nm.grew hg (own_far h.nm h.es (by decide))
  have r1 := h.rows.grewX hg hA
  exact ⟨by rw [List.length_append]; exact hk, st1.grew hg2 (own_farB st1 k1 (by decide)), ar1.grew hg2 (own_farB ar1 k1 (by decide)), ps1.grew hg2 (own_farB ps1 k1 (by decide)), ho.grew hg2 (own_farB ho k1 (by decide)), Own.far h.st h.es h.far hA, nm1.grew hg2 (own_farB nm1 k1 (by decide)), r1.grewG hg2, h.gB⟩
end
theorem bsl2_at {P : Program} {K : Fr → World → Prop} {f : Fr} {d : Option Nat} {w : World} {t e bytes : Nat} (hT : SlT P t e 1 bytes) (a b : Int)
    (h : ∀ w1, Ints (fun x => w.heap.size ≤ x ∧ x < w1.heap.size) w1 (some ⟨w.heap.size, 0, none⟩) [a, b] → Below w.heap.size w w1 → w1.heap.size = w.heap.size + 1 → K (updO f d (.slice (some ⟨w.heap.size, 0, none⟩) 2 2)) w1) :
    Eff1 P K (Instr.buildSlice t 2 #[(0, .int .i64 a), (1, .int .i64 b)]) f d w := by
  rw [bsl2_eq hT]
  refine h _ ?_ ((Below.refl _ _).alloc (Nat.le_refl _) _) (by simp)
  have := ints_new2 w a b e
  exact ⟨this.isSome, fun _ => ⟨Nat.le_refl _, by simp⟩, this.cell⟩

set_option maxHeartbeats 1000000 in
theorem bes_done {B : Nat} {w : World} {g gm : Nat} {v : FV} {S : List Int} {ar : List Arr} {ps : List Pr} {a b : MV} {ma mb : Mach} (h : FinW B w g gm ma.events v S ar ps) (hB : B ≤ w.heap.size) (hB0 : 0 < B) (ha : IsM (· < B) w a ma) (hb : IsM (· < B) w b mb)
    (la : ma.ends.length ≤ 17592186043904) (lb : mb.ends.length ≤ 17592186043904) (hl : ps.length ≤ 256) (hal : ar.length ≤ 4096) (har : ∀ x ∈ ar, ASm x) (hnd : ar.Nodup) :
    Cal Tryd.prog 86 [.pointer (some ⟨g, 0, none⟩), a.val ma, b.val mb] w fun r w' => ∃ (d : MV) (dm : Mach) (R : Option Addr) (cr : Nat) (hs : List Hd), r = .tuple #[d.val dm, .slice R hs.length cr, .int .i64 0] ∧
      dm = ⟨(max ps.length 1 : Nat), ma.events, S, sortA ar, bsEnds ma mb ps⟩ ∧ IsM (fun x => B ≤ x ∧ x < w'.heap.size) w' d dm ∧ Recs Hd.cells 1 (fun x => B ≤ x ∧ x < w'.heap.size) w' R hs ∧ RowsAt (fun x => B ≤ x ∧ x < w'.heap.size) w' hs ∧ hs.map (·.l) = ps.map prL ∧ Below B w w' := by
  have e5 : ∀ (a : MV) (m : Mach), tySize Tryd.prog 25 = some (a.cells m).length := fun a m => ty_sz_25
  refine cal_beside_finder_done (by simp) 100000 fun Q hQ => ?_
  have hgw := h.blk.lt
  have hA2' := fun x => h.ar.ltB (b := x)
  simp (disch := first | with_reducible assumption | omega) only [push_cast, x_blk, x_cd, ↓reduceIte, Nat.reduceEqDiff, List.map_cons, List.map_nil, Int.reduceEq, Int.lt_irrefl, F_beside_finder_done]
  refine blk_of (box_agg _ (a.cells ma)) ?_
  intro w1 k1 b1 z1
  simp (disch := first | with_reducible assumption | omega) only [push_cast, x_blk, x_cd, ↓reduceIte, Nat.reduceEqDiff, List.map_cons, List.map_nil, Int.reduceEq, Int.lt_irrefl]
  refine blk_of (box_agg _ (b.cells mb)) ?_
  intro w2 k2 b2 z2
  replace k1 := k1.below b2 k1.lt
  simp (disch := first | with_reducible assumption | omega) only [push_cast, x_blk, x_cd, ↓reduceIte, Nat.reduceEqDiff, List.map_cons, List.map_nil, Int.reduceEq, Int.lt_irrefl]
  refine blk_of (cs := mv0.cells mach0) al_25 ?_
  intro w3 k3 b3 z3
  replace k1 := k1.below b3 k1.lt
  replace k2 := k2.below b3 k2.lt
  have b03 := (b1.trans (b2.mono b1.size)).trans (b3.mono (b1.trans (b2.mono b1.size)).size)
  replace h := h.below b03
  have bb : Below B w w3 := b03.mono hB
  have hn256 : ¬ ((256 : Int) < (ps.length : Int)) := by omega
  have l6 := fun {K : Fr → World → Prop} {f : Fr} {d : Option Nat} {w : World} => bes_ldq (P := Tryd.prog) (K := K) (f := f) (d := d) (w := w) h.blk ty_ag_134 (fC_6 _ _ _ _ _ _)
  simp (disch := first | with_reducible assumption | omega) only [push_cast, x_blk, x_cd, ↓reduceIte, Nat.reduceEqDiff, List.map_cons, List.map_nil, Int.reduceEq, Int.lt_irrefl, l6, hn256]
  have hA2 : ∀ x, v.A2.map (·.block) = some x → x < w.heap.size := fun x hx => hA2' x hx.symm
  have D0 : DnW B (w.heap.size + 2) w3 g gm ma.events v S ar ps none 0 [] none 0 [] := ⟨h.blk, h.st, h.ar, h.ps, Own.nil _ _ _ _, by
    cases v.A1 with
    | none => exact .inl rfl
    | some a => exact .inr (by simp), Own.nil _ _ _ _, fun x hx => absurd hx (by simp), h.gB⟩
  have hg1 : g < w.heap.size := hgw
  have z13 : w3.heap.size = w.heap.size + 3 := by omega
  have hw1 : w1.heap.size = w.heap.size + 1 := z1
  have hw2 : w2.heap.size = w.heap.size + 2 := by omega
  rw [hw1] at k2
  rw [hw2] at k3
  refine loop_rule (fun f w' => ∃ (k : Nat) (A5 An : Option Addr) (c5 cn : Nat) (hs : List Hd), k ≤ ps.length ∧ hs.length = k ∧ hs.map (·.l) = (ps.take k).map prL ∧
      (f 0 = .pointer (some ⟨g, 0, none⟩) ∧ f 4 = .pointer (some ⟨w.heap.size, 0, none⟩) ∧ f 5 = .pointer (some ⟨w.heap.size + 1, 0, none⟩) ∧ f 6 = .pointer (some ⟨w.heap.size + 2, 0, none⟩) ∧ f 8 = .int .i64 0 ∧ f 9 = .slice An k cn ∧ f 22 = .slice v.A4 ps.length v.c4 ∧ f 23 = .int .i64 ps.length ∧ f 24 = .int .i64 k) ∧
      DnW B (w.heap.size + 2) w' g gm ma.events v S ar ps A5 c5 (endK ma mb ps k) An cn hs ∧ Blk w' w.heap.size 25 (a.cells ma) ∧ Blk w' (w.heap.size + 1) 25 (b.cells mb) ∧ Blk w' (w.heap.size + 2) 25 (mv0.cells mach0) ∧ Below B w w')
    (fun f _ => ps.length - (intOf (f 24)).toNat) ⟨0, none, none, 0, 0, [], Nat.zero_le _, rfl, rfl, ⟨rfl, rfl, (by simp only [push_cast, ↓reduceIte, Nat.reduceEqDiff, Int.reduceEq, hw1]), (by simp only [push_cast, ↓reduceIte, Nat.reduceEqDiff, Int.reduceEq, hw2]), rfl, rfl, rfl, rfl, rfl⟩, D0, k1, k2, k3, bb⟩ ?_
  clear D0 k1 k2 k3 bb l6 h b03 b1 b2 b3 z1 z2 z3 z13 hw1 hw2
  rintro f w4 ⟨k, A5, An, c5, cn, hs, hk, hsl, hvl, fr, D, k1, k2, k3, bb⟩ J hJ
  have zb := bb.size
  have l1 := k1.lt
  have l2 := k2.lt
  have l3 := k3.lt
  by_cases hlt : k < ps.length
  case neg =>
    obtain rfl : k = ps.length := by omega
    rw [List.take_length] at hvl
    have lp := fun {K : Fr → World → Prop} {f : Fr} {d : Option Nat} {w : World} => bes_ldq (P := Tryd.prog) (K := K) (f := f) (d := d) (w := w) D.blk ty_ag_134 (fE_6 _ _ _ _ _ _ _ _ _)
    simp (disch := first | with_reducible assumption | omega) only [push_cast, x_blk, x_cd, ↓reduceIte, Nat.reduceEqDiff, List.map_cons, List.map_nil, Int.reduceEq, Int.lt_irrefl, L_beside_finder_done_0, fr, Nat.lt_irrefl, Int.lt_irrefl, lp, max_one]
    refine sto_cell D.blk (by kernel_rfl) 0 (by rw [fE_len]; decide) _ _ ?_
    intro w5 k5 g5 z5
    have st5 := D.st.grew g5 (own_farB D.st D.blk (by decide))
    have ar5 := D.ar.grew g5 (own_farB D.ar D.blk (by decide))
    have es5 := D.es.grew g5 (own_farB D.es D.blk (by decide))
    have nm5 := D.nm.grew g5 (own_farB D.nm D.blk (by decide))
    have rw5 := D.rows.grewG g5
    have k35 := k3.grown g5.by_ (by simp; omega)
    have bb5 := g5.below bb (by omega) (by intro a ha; injection ha with ha; subst ha; exact D.gB)
    have k5' : Blk w5 g 136 (.int .i64 ((max ps.length 1 : Nat) : Int) :: (fE ma.events v S.length ar.length ps.length gm A5 (endK ma mb ps ps.length).length c5).tail) := k5
    have q3 : (.int .i64 ((max ps.length 1 : Nat) : Int) :: (fE ma.events v S.length ar.length ps.length gm A5 (endK ma mb ps ps.length).length c5).tail)[3]? = some (.slice v.A2 ar.length v.c2) := rfl
    have la3 := fun {K : Fr → World → Prop} {f : Fr} {d : Option Nat} {w : World} => bes_ldq (P := Tryd.prog) (K := K) (f := f) (d := d) (w := w) k5' ty_ag_23 q3
    simp (disch := first | with_reducible assumption | omega) only [push_cast, x_blk, x_cd, ↓reduceIte, Nat.reduceEqDiff, List.map_cons, List.map_nil, Int.reduceEq, Int.lt_irrefl, fr, la3]
    refine call_of (bes_sort ar5 (by omega) har hnd) ?_
    rintro r w6 ⟨rfl, hsl6, ar6, g6⟩
    have k6 := k5'.grown g6.by_ (fun e => ar5.ne_blk k5' (by decide) e.symm)
    have st6 := st5.grew g6 (own_far st5 ar5 (by decide))
    have es6 := es5.grew g6 (own_far es5 ar5 (by decide))
    have nm6 := nm5.grew g6 (own_far nm5 ar5 (by decide))
    have k36 := k35.grown g6.by_ (fun e => ar5.ne_blk k35 (by decide) e.symm)
    have bb6 := g6.below bb5 (by omega) ar5.geB
    have rw6 : RowsAt (fun x => w.heap.size + 2 < x ∧ x < w6.heap.size) w6 hs := rw5.keep fun x hx => by
      have h1 := hx.lo
      have h2 := hx.lt
      have h3 := g6.by_.size
      exact ⟨g6.by_.block x h2 (fun e => by have := hA2 x e.symm; omega), h1, by omega⟩
    have lm : ∀ {K : Fr → World → Prop} {f : Fr} {d : Option Nat} {w : World}, Val1 Tryd.prog K (Instr.loadAt 25 (.pointer (some ⟨g, 0, none⟩))) w6 f d w = K (updO f d (MV.val ⟨v.A1, v.c1, v.A2, v.c2, A5, c5⟩ ⟨(max ps.length 1 : Nat), ma.events, S, sortA ar, endK ma mb ps ps.length⟩)) w := fun {K f d w} => k6.ldSub ty_ag_25 0 (vs := MV.cells ⟨v.A1, v.c1, v.A2, v.c2, A5, c5⟩ ⟨(max ps.length 1 : Nat), ma.events, S, sortA ar, endK ma mb ps ps.length⟩) ty_sz_25 (fun j x hx => by
      rw [Nat.zero_add]
      match j, hx with
      | 0, hx => exact hx
      | 1, hx => exact hx
      | 2, hx => exact hx
      | 3, hx => rw [← hx]; show some (Value.slice v.A2 ar.length v.c2) = some (Value.slice v.A2 (sortA ar).length v.c2); rw [hsl6]
      | 4, hx => exact hx
      | n + 5, hx => cases hx)
    simp (disch := first | with_reducible assumption | omega) only [push_cast, x_blk, x_cd, ↓reduceIte, Nat.reduceEqDiff, List.map_cons, List.map_nil, Int.reduceEq, Int.lt_irrefl, fr, lm]
    refine sto_mach k36 rfl ⟨v.A1, v.c1, v.A2, v.c2, A5, c5⟩ ⟨(max ps.length 1 : Nat), ma.events, S, sortA ar, endK ma mb ps ps.length⟩ ?_
    intro w7 k7 g7 z7
    simp (disch := first | with_reducible assumption | omega) only [push_cast, x_blk, x_cd, ↓reduceIte, Nat.reduceEqDiff, List.map_cons, List.map_nil, Int.reduceEq, Int.lt_irrefl, fr]
    have st7 := st6.grew g7 (own_farB st6 k36 (by decide))
    have ar7 := ar6.grew g7 (own_farB ar6 k36 (by decide))
    have es7 := es6.grew g7 (own_farB es6 k36 (by decide))
    have nm7 := nm6.grew g7 (own_farB nm6 k36 (by decide))
    have rw7 : RowsAt (fun x => B ≤ x ∧ x < w7.heap.size) w7 hs := rw6.keep fun x hx => ⟨g7.by_.block x hx.2 (by have := hx.1; simp; omega), by have := hx.1; omega, by have := hx.2; omega⟩
    have bb7 := g7.below bb6 (by have := bb6.size; omega) (by intro a ha; injection ha with ha; subst ha; show B ≤ w.heap.size + 2; omega)
    have hd := ((OwnR.recs nm7 hdEnc (by decide)).both (Recs.lt hdEnc (by decide) (OwnR.recs nm7 hdEnc (by decide)))).mono fun x hx => (⟨hx.1.1, hx.2⟩ : B ≤ x ∧ x < w7.heap.size)
    refine fin_c3 k7 ty_ag_25 (e5 _ _) (by simp only [push_cast, ↓reduceIte, Nat.reduceEqDiff, Int.reduceEq, fr]) (hQ _ _ ⟨⟨v.A1, v.c1, v.A2, v.c2, A5, c5⟩, ⟨(max ps.length 1 : Nat), ma.events, S, sortA ar, endK ma mb ps ps.length⟩, An, cn, hs, (by simp only [push_cast, ↓reduceIte, Nat.reduceEqDiff, Int.reduceEq, fr, hsl]), by rw [endK_all], ⟨((OwnI.ints st7).both (OwnI.ints st7).lt).mono fun x hx => ⟨hx.1.1, hx.2⟩, ?_, ((OwnI.ints es7).both (OwnI.ints es7).lt).mono fun x hx => ⟨hx.1.1, hx.2⟩⟩, hd, rw7, hvl, bb7⟩)
    exact Arrs.of_recs (((OwnR.recs ar7 arrEnc (by decide)).both (Recs.lt arrEnc (by decide) (OwnR.recs ar7 arrEnc (by decide)))).mono fun x hx => ⟨hx.1.1, hx.2⟩)
  obtain ⟨p, hp⟩ : ∃ p, ps[k]? = some p := ⟨_, List.getElem?_eq_getElem hlt⟩
  have hpd : ps.getD k default = p := by rw [List.getD_eq_getElem?_getD, hp]; rfl
  have rps := OwnR.recs D.ps prEnc (by decide)
  have hAp := rps.isSome (by omega)
  have lpA := fun {K : Fr → World → Prop} {f : Fr} {d : Option Nat} {w : World} => rps.ldAll (P := Tryd.prog) (K := K) (f := f) (d := d) (w := w) prEnc ty_ag_139 hp (prp_sz p)
  simp (disch := first | with_reducible assumption | omega) only [push_cast, x_blk, x_cd, ↓reduceIte, Nat.reduceEqDiff, List.map_cons, List.map_nil, Int.reduceEq, Int.lt_irrefl, L_beside_finder_done_0, fr, hlt, hAp, lpA]
  refine blk_of (cs := [.int .i64 0, .int .i64 0]) al_139 ?_
  intro w5 k5 b5 z5
  simp (disch := first | with_reducible assumption | omega) only [push_cast, x_blk, x_cd, ↓reduceIte, Nat.reduceEqDiff, List.map_cons, List.map_nil, Int.reduceEq, Int.lt_irrefl, fr]
  refine sto_blk k5 (cs := prP p) (prp_sz p) rfl rfl ?_
  intro w6 k6 g6 z6
  have b6 := g6.below b5 b5.size (by intro a ha; injection ha with ha; subst ha; exact Nat.le_refl _)
  replace D := D.below b6
  replace k1 := k1.below b6 k1.lt
  replace k2 := k2.below b6 k2.lt
  replace k3 := k3.below b6 k3.lt
  replace bb := bb.trans (b6.mono (by omega))
  have p0 : ∀ {w6 : World}, Blk w6 w4.heap.size 139 (prP p) → ∀ {K : Fr → World → Prop} {f : Fr} {d : Option Nat} {w : World}, Val1 Tryd.prog K (Instr.loadAt 3 (.pointer (some ⟨w4.heap.size, 0, none⟩))) w6 f d w = K (updO f d (.int .i64 p.1)) w := fun {_} k {K f d w} => bes_ldq k ty_ag_3 (j := 0) rfl
  have p1 : ∀ {w6 : World}, Blk w6 w4.heap.size 139 (prP p) → ∀ {K : Fr → World → Prop} {f : Fr} {d : Option Nat} {w : World}, Val1 Tryd.prog K (Instr.loadAt 3 (.pointer (some ⟨w4.heap.size, 1, none⟩))) w6 f d w = K (updO f d (.int .i64 p.2)) w := fun {_} k {K f d w} => bes_ldq k ty_ag_3 (j := 1) rfl
  simp (disch := first | with_reducible assumption | omega) only [push_cast, x_blk, x_cd, ↓reduceIte, Nat.reduceEqDiff, List.map_cons, List.map_nil, Int.reduceEq, Int.lt_irrefl, fr, p0 k6, p1 k6]
  refine bsl2_at slT_22 p.1 p.2 ?_
  intro w7 i7 b7 z7
  have hs7 : w.heap.size + 2 < w6.heap.size := by have := b6.size; omega
  have hg7 : g < w6.heap.size := D.blk.lt
  have hX7 : ∀ x, w6.heap.size ≤ x → some x ≠ A5.map (·.block) := fun x hx e => by have := D.es.ltB e; omega
  have hY7 : ∀ x, w6.heap.size ≤ x → some x ≠ An.map (·.block) := fun x hx e => by have := D.nm.ltB e; omega
  have r7 : Ints (Apt (w.heap.size + 2) w7 g (A5.map (·.block)) (An.map (·.block))) w7 (some ⟨w6.heap.size, 0, none⟩) [p.1, p.2] := i7.mono fun x hx => ⟨by have := hx.1; omega, hx.2, by have := hx.1; omega, hX7 x hx.1, hY7 x hx.1⟩
  replace D := D.below b7
  replace k1 := k1.below b7 k1.lt
  replace k2 := k2.below b7 k2.lt
  replace k3 := k3.below b7 k3.lt
  replace k6 := k6.below b7 k6.lt
  replace bb := bb.trans (b7.mono (by omega))
  simp (disch := first | with_reducible assumption | omega) only [push_cast, x_blk, x_cd, ↓reduceIte, Nat.reduceEqDiff, List.map_cons, List.map_nil, Int.reduceEq, Int.lt_irrefl, fr, bs_44]
  refine app_rec' hdEnc slT_44 hsl D.nm ⟨some ⟨w6.heap.size, 0, none⟩, 2, [p.1, p.2]⟩ (by omega) (by omega) (by have := bb.size; omega) ?_
  intro An' cn' w8 o8 g8 hA8 hs8 z8
  have hB7 : B ≤ w7.heap.size := by have := bb.size; omega
  have D8 := D.name (x := ⟨some ⟨w6.heap.size, 0, none⟩, 2, [p.1, p.2]⟩) r7 o8 g8 hA8
  have k18 := k1.grown g8.by_ (fun e => D.nm.ne_blk k1 (by decide) e.symm)
  have k28 := k2.grown g8.by_ (fun e => D.nm.ne_blk k2 (by decide) e.symm)
  have k38 := k3.grown g8.by_ (fun e => D.nm.ne_blk k3 (by decide) e.symm)
  have k68 := k6.grown g8.by_ (fun e => D.nm.ne_blk k6 (by decide) e.symm)
  have bb8 := g8.below bb hB7 D.nm.geB
  clear D k1 k2 k3 k6 bb
  have hen := endK_succ ma mb ps k
  rw [hpd] at hen
  have hel := endK_len ma mb ps k
  have hvl' : (hs ++ [(⟨some ⟨w6.heap.size, 0, none⟩, 2, [p.1, p.2]⟩ : Hd)]).map (·.l) = (ps.take (k + 1)).map prL := by
    rw [List.map_append, hvl, take_snoc ps default k hlt, hpd, List.map_append]; rfl
  have hsl' : (hs ++ [(⟨some ⟨w6.heap.size, 0, none⟩, 2, [p.1, p.2]⟩ : Hd)]).length = k + 1 := by rw [List.length_append, hsl]; rfl
  simp (disch := first | with_reducible assumption | omega) only [push_cast, x_blk, x_cd, ↓reduceIte, Nat.reduceEqDiff, List.map_cons, List.map_nil, Int.reduceEq, Int.lt_irrefl, fr, k18.m4 ty_ag_22, p0 k68]
  refine call_of (row_Has (ha.below bb8).ends a.ce p.1 (by omega)) ?_
  rintro r w9 ⟨rfl, s9⟩
  replace D8 := D8.below (s9.below _)
  replace k18 := k18.same s9
  replace k28 := k28.same s9
  replace k38 := k38.same s9
  replace k68 := k68.same s9
  replace bb8 := bb8.trans (s9.below _)
  by_cases q1 : p.1 ∈ ma.ends
  case neg =>
    rw [if_neg (fun h => q1 h.1), List.append_nil] at hen
    simp (disch := first | with_reducible assumption | omega) only [push_cast, x_blk, x_cd, ↓reduceIte, Nat.reduceEqDiff, List.map_cons, List.map_nil, Int.reduceEq, Int.lt_irrefl, fr, decide_eq_false q1]
    exact hJ _ _ ⟨k + 1, A5, An', c5, cn', _, hlt, hsl', hvl', (by simp only [push_cast, ↓reduceIte, Nat.reduceEqDiff, true_and, and_true, and_self, eq_self, fr]), by rw [hen]; exact D8, k18, k28, k38, bb8⟩ (by simp only [push_cast, ↓reduceIte, Nat.reduceEqDiff, intOf, fr]; omega)
  simp (disch := first | with_reducible assumption | omega) only [push_cast, x_blk, x_cd, ↓reduceIte, Nat.reduceEqDiff, List.map_cons, List.map_nil, Int.reduceEq, Int.lt_irrefl, fr, decide_eq_true q1, k28.m4 ty_ag_22, p1 k68]
  refine call_of (row_Has (hb.below bb8).ends b.ce p.2 (by omega)) ?_
  rintro r w10 ⟨rfl, s10⟩
  replace D8 := D8.below (s10.below _)
  replace k18 := k18.same s10
  replace k28 := k28.same s10
  replace k38 := k38.same s10
  replace bb8 := bb8.trans (s10.below _)
  by_cases q2 : p.2 ∈ mb.ends
  case neg =>
    rw [if_neg (fun h => q2 h.2), List.append_nil] at hen
    simp (disch := first | with_reducible assumption | omega) only [push_cast, x_blk, x_cd, ↓reduceIte, Nat.reduceEqDiff, List.map_cons, List.map_nil, Int.reduceEq, Int.lt_irrefl, fr, decide_eq_false q2]
    exact hJ _ _ ⟨k + 1, A5, An', c5, cn', _, hlt, hsl', hvl', (by simp only [push_cast, ↓reduceIte, Nat.reduceEqDiff, true_and, and_true, and_self, eq_self, fr]), by rw [hen]; exact D8, k18, k28, k38, bb8⟩ (by simp only [push_cast, ↓reduceIte, Nat.reduceEqDiff, intOf, fr]; omega)
  rw [if_pos ⟨q1, q2⟩] at hen
  have le4 := fun {K : Fr → World → Prop} {f : Fr} {d : Option Nat} {w : World} => bes_ldq (P := Tryd.prog) (K := K) (f := f) (d := d) (w := w) D8.blk ty_ag_22 (fE_4 _ _ _ _ _ _ _ _ _)
  have hB10 : B ≤ w10.heap.size := by have := bb8.size; omega
  simp (disch := first | with_reducible assumption | omega) only [push_cast, x_blk, x_cd, ↓reduceIte, Nat.reduceEqDiff, List.map_cons, List.map_nil, Int.reduceEq, Int.lt_irrefl, fr, decide_eq_true q2, le4, bs_22]
  refine app_int slT_22 D8.es (k : Int) (by omega) hB10 ?_
  intro A5' c5' w11 o11 g11 hA11 hs11 z11
  have k11 := D8.blk.grown g11.by_ (fun e => D8.es.ne_blk D8.blk (by decide) e.symm)
  have bb11 := g11.below bb8 hB10 D8.es.geB
  simp (disch := first | with_reducible assumption | omega) only [push_cast, x_blk, x_cd, ↓reduceIte, Nat.reduceEqDiff, List.map_cons, List.map_nil, Int.reduceEq, Int.lt_irrefl, fr]
  refine sto_slice k11 (by kernel_rfl) 4 (by rw [fE_len]; decide) _ _ _ ?_
  intro w12 k12 g12 z12
  have D12 := D8.end_ (w2 := w12) o11 g11 hA11 k12 g12
  have up : ∀ {q : Nat} {cs : List Value}, q ≠ g → Blk w10 q 25 cs → Blk w12 q 25 cs := fun {q cs} hne k => (k.grown g11.by_ (fun e => D8.es.ne_blk k (by decide) e.symm)).grown g12.by_ (by simpa using hne)
  have bb12 := g12.below bb11 (by omega) (by intro a ha; injection ha with ha; subst ha; exact D8.gB)
  simp (disch := first | with_reducible assumption | omega) only [push_cast, x_blk, x_cd, ↓reduceIte, Nat.reduceEqDiff, List.map_cons, List.map_nil, Int.reduceEq, Int.lt_irrefl, fr]
  exact hJ _ _ ⟨k + 1, A5', An', c5', cn', _, hlt, hsl', hvl', (by simp only [push_cast, ↓reduceIte, Nat.reduceEqDiff, true_and, and_true, and_self, eq_self, fr]), by rw [hen]; exact D12, up (by omega) k18, up (by omega) k28, up (by omega) k38, bb12⟩ (by simp only [push_cast, ↓reduceIte, Nat.reduceEqDiff, intOf, fr]; omega)
end Go.Proofs.YtcjedgiglimipaaDoor
