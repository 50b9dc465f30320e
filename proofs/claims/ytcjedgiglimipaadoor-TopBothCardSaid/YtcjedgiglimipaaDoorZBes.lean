/-
  Chapter 4: the program's finder of pairs: number; where a state leads to: by their contracts.
-/
import Derived.Test.YtcjedgiglimipaaDoorZBesP
import Derived.Test.YtcjedgiglimipaaDoorZTyB
namespace Go.Proofs.YtcjedgiglimipaaDoor
set_option linter.unusedSimpArgs false
set_option linter.unusedVariables false
set_option linter.unusedSectionVars false
open Go.RowKit

def prP (p : Pr) : List Value := [.int .i64 p.1, .int .i64 p.2]
abbrev prV (p : Pr) : Value := .agg (prP p).toArray
theorem prEnc : Enc prP 2 := ⟨fun _ => rfl, fun x u hu => by
  unfold prP at hu
  rcases List.mem_cons.1 hu with rfl | hu
  · rfl
  · rw [List.mem_singleton.1 hu]; rfl⟩
theorem prV_inj {x y : Pr} (h : prV x = prV y) : x = y := by
  obtain ⟨a, b⟩ := x
  obtain ⟨c, d⟩ := y
  simp [prV, prP] at h
  obtain ⟨rfl, rfl⟩ := h
  rfl
theorem laidOutB' : laidOutB Tryd.prog = true := by kernel_rfl
theorem keyed_pr : Maps.Keyed Tryd.prog 139 := Maps.Keyed.of_law (deep_law_laid laidOutB' (m := 3) (by decide) (of_decide_eq_true (by kernel_rfl)) (by kernel_rfl) (by kernel_rfl))
def PrI64 (x : Pr) : Prop := I64 x.1 ∧ I64 x.2
theorem bes_wf {x : Int} (h : I64 x) : (Lit.int .i64 x).wf = true := by
  unfold I64 at h
  simp [Lit.wf, IntKind.min, IntKind.max, IntKind.signed, IntKind.bits]; omega
theorem key_pr {x : Pr} (hx : PrI64 x) : KeyIs Tryd.prog 139 (prV x) := by
  have hs : Tryd.prog.types.size + 1 = (Tryd.prog.types.size - 1) + 1 + 1 := by
    have : 1 < Tryd.prog.types.size := of_decide_eq_true (by kernel_rfl)
    omega
  obtain ⟨n, hn⟩ : ∃ n, Tryd.prog.types.size - 1 = n := ⟨_, rfl⟩
  rw [hn] at hs
  obtain ⟨f0, f1, hu, h0, h1, o0, o1, n0, n1⟩ : ∃ f0 f1 : Field, Tryd.prog.underlying 139 = some (.struct #[f0, f1]) ∧ f0.type = 3 ∧ f1.type = 3 ∧ f0.offset = 0 ∧ f1.offset = 1 ∧ (f0.name != "_") = true ∧ (f1.name != "_") = true :=
    ⟨_, _, Tryd.underlying139, by kernel_rfl, by kernel_rfl, by kernel_rfl, by kernel_rfl, by kernel_rfl, by kernel_rfl⟩
  have hk : Tryd.prog.keyType 139 = true := by kernel_rfl
  have hc2 : Tryd.prog.cellsOf 139 = 2 := by kernel_rfl
  have hci : Tryd.prog.cellsOf 3 = 1 := by kernel_rfl
  have hui : Tryd.prog.underlying 3 = some (.int .i64) := Tryd.underlying3
  have hf : (prV x).formed Tryd.prog 139 = true := by
    simp only [prV, prP, Value.formed, hu, hc2, beq_iff_eq, List.size_toArray]; rfl
  unfold KeyIs keyOf
  simp only [hu, hk, hf, Bool.and_self, if_true]
  refine ⟨.string (keyBytes [.int .i64 x.1, .int .i64 x.2]), ?_⟩
  have : Tryd.prog.keyLits (Tryd.prog.types.size + 1) 139 (prV x).cells.toList = some [.int .i64 x.1, .int .i64 x.2] := by
    rw [hs]
    show Tryd.prog.keyLits (n + 1 + 1) 139 (prP x) = _
    unfold Program.keyLits
    simp only [hu, hc2, prP, List.length_cons, List.length_nil, true_and]
    rw [if_pos (by simp [n0, n1])]
    simp [h0, h1, o0, o1, hci, Program.keyLits, hui, bes_wf hx.1, bes_wf hx.2]
  rw [this]; rfl
def kvN (ps : List Pr) : List (Value × Value) := ps.zipIdx.map fun q => (prV q.1, .int .i64 (q.2 : Int))
theorem kvN_snoc (ps : List Pr) (p : Pr) : kvN ps ++ [(prV p, .int .i64 (ps.length : Int))] = kvN (ps ++ [p]) := by
  unfold kvN
  rw [List.zipIdx_append, List.map_append]
  simp
theorem mem_kvN {ps : List Pr} {p : Pr} {v : Value} (h : (prV p, v) ∈ kvN ps) : ∃ i : Nat, ps[i]? = some p ∧ v = .int .i64 (i : Int) := by
  unfold kvN at h
  obtain ⟨⟨q, i⟩, hq, e⟩ := List.mem_map.1 h
  injection e with e1 e2
  have := prV_inj e1
  subst this
  exact ⟨i, List.mem_zipIdx_iff_getElem?.1 hq, e2.symm⟩
theorem kvN_none {ps : List Pr} {p : Pr} (h : ∀ q ∈ kvN ps, q.1 ≠ prV p) : p ∉ ps := fun hp => by
  obtain ⟨i, hi⟩ := List.mem_iff_getElem?.1 hp
  exact h (prV p, .int .i64 (i : Int)) (List.mem_map.2 ⟨(p, i), List.mem_zipIdx_iff_getElem?.2 hi, rfl⟩) rfl
theorem prp_sz (x : Pr) : tySize Tryd.prog 139 = some (prP x).length := by show _ = some 2; kernel_rfl
theorem bes_ldq {P : Program} {K : Fr → World → Prop} {u w : World} {f : Fr} {d : Option Nat} {g t ty j : Nat} {cs : List Value} {v : Value} (h : Blk u g t cs) (ht : tyAgg P ty = some false) (hv : cs[j]? = some v) : Val1 P K (Instr.loadAt ty (.pointer (some ⟨g, j, none⟩))) u f d w = K (updO f d v) w :=
  load_one_of u f d w ht (by rw [h.cell, hv])

structure FV where
  A1 : Option Addr
  c1 : Nat
  A2 : Option Addr
  c2 : Nat
  A4 : Option Addr
  c4 : Nat
def fC (E : Int) (v : FV) (n1 n2 n4 gm : Nat) : List Value := [.int .i64 0, .int .i64 E, .slice v.A1 n1 v.c1, .slice v.A2 n2 v.c2, .slice none 0 0, .map (some gm), .slice v.A4 n4 v.c4]
structure FinW (B : Nat) (w : World) (g gm : Nat) (E : Int) (v : FV) (S : List Int) (ar : List Arr) (ps : List Pr) : Prop where
  blk : Blk w g 136 (fC E v S.length ar.length ps.length gm)
  map : MapIs Tryd.prog 139 w gm (kvN ps)
  st : OwnI B 3 w v.A1 v.c1 S
  ar : OwnR arrCells B 85 3 w v.A2 v.c2 ar
  ps : OwnR prP B 139 2 w v.A4 v.c4 ps
  gB : B ≤ g
  gmB : B ≤ gm
/-- What is kept, some blocks apart. -/
structure KeepN (X : List (Option Nat)) (w w' : World) : Prop where
  size : w.heap.size ≤ w'.heap.size
  at_ : ∀ b, b < w.heap.size → (∀ x ∈ X, some b ≠ x) → w'.heap[b]? = w.heap[b]?
def MovN (w : World) (A A' : Option Addr) : Prop := A'.map (·.block) = A.map (·.block) ∨ ∃ g', A'.map (·.block) = some g' ∧ w.heap.size ≤ g'
section
variable {B : Nat} {w w' : World} {g gm : Nat} {E : Int} {v : FV} {S : List Int} {ar : List Arr} {ps : List Pr}
theorem FinW.below (h : FinW B w g gm E v S ar ps) (b : Below w.heap.size w w') : FinW B w' g gm E v S ar ps :=
  ⟨h.blk.below b h.blk.lt, h.map.below b h.map.lt, h.st.below b (Nat.le_refl _), h.ar.below b (Nat.le_refl _), h.ps.below b (Nat.le_refl _), h.gB, h.gmB⟩
theorem FinW.ne (h : FinW B w g gm E v S ar ps) : g ≠ gm := fun e => by
  obtain ⟨es', clock, h1, _⟩ := h.map
  have := h.blk
  unfold Blk at this
  rw [e, h1] at this; cases this
theorem KeepN.below {X : List (Option Nat)} (b : Below w.heap.size w w') : KeepN X w w' := ⟨b.size, fun k hk _ => b.block k hk⟩
theorem KeepN.blk {X : List (Option Nat)} (h : KeepN X w w') {q t : Nat} {cs : List Value} (k : Blk w q t cs) (hq : ∀ x ∈ X, some q ≠ x) : Blk w' q t cs := k.keep (h.at_ q k.lt hq)
theorem keepT_grewM {es : List Nat} {k : Nat} {kv : List (Value × Value)} (hm : MapIs Tryd.prog k w gm kv) (hB : B ≤ gm) (hg : Grew w w' (some ⟨gm, 0, none⟩)) : KeepT es B w w' :=
  ⟨hg.by_.size, fun b hb => hg.by_.block b hb.1 (by
    simp only [Option.map_some, ne_eq, Option.some.injEq]
    rintro rfl
    rcases hb.2 with h1 | ⟨e, he, cs, r, h1⟩
    · omega
    · obtain ⟨es', clock, h2, _⟩ := hm
      rw [h1] at h2; cases h2)⟩
end
theorem fC_5 (E : Int) (v : FV) (n1 n2 n4 gm : Nat) : (fC E v n1 n2 n4 gm)[5]? = some (.map (some gm)) := rfl
theorem fC_6 (E : Int) (v : FV) (n1 n2 n4 gm : Nat) : (fC E v n1 n2 n4 gm)[6]? = some (.slice v.A4 n4 v.c4) := rfl
theorem fC_2 (E : Int) (v : FV) (n1 n2 n4 gm : Nat) : (fC E v n1 n2 n4 gm)[2]? = some (.slice v.A1 n1 v.c1) := rfl
theorem fC_3 (E : Int) (v : FV) (n1 n2 n4 gm : Nat) : (fC E v n1 n2 n4 gm)[3]? = some (.slice v.A2 n2 v.c2) := rfl
theorem fC_len (E : Int) (v : FV) (n1 n2 n4 gm : Nat) : (fC E v n1 n2 n4 gm).length = 7 := rfl

set_option maxHeartbeats 1000000 in
theorem bes_number {B : Nat} {w : World} {g gm : Nat} {E : Int} {v : FV} {S : List Int} {ar : List Arr} {ps : List Pr} (h : FinW B w g gm E v S ar ps) (hB : B ≤ w.heap.size) (hn : ps.Nodup) (hl : ps.length ≤ 100000) {p : Pr} (hp : PrI64 p) :
    Cal Tryd.prog 84 [.pointer (some ⟨g, 0, none⟩), prV p] w fun r w' => ∃ (A' : Option Addr) (c' : Nat), r = .int .i64 (fnd p ps : Nat) ∧
      FinW B w' g gm E { v with A4 := A', c4 := c' } S ar (if p ∈ ps then ps else ps ++ [p]) ∧ Below B w w' ∧ KeepT [3] B w w' ∧ KeepN [some g, some gm, v.A4.map (·.block)] w w' ∧ MovN w v.A4 A' := by
  refine cal_beside_finder_number (by simp) 100000 fun Q hQ => ?_
  simp (disch := first | with_reducible assumption | omega) only [push_cast, x_blk, x_cd, ↓reduceIte, Nat.reduceEqDiff, List.map_cons, List.map_nil, Int.reduceEq, Int.lt_irrefl, F_beside_finder_number]
  have hgw := h.blk.lt
  have hgmw := h.map.lt
  have hgm := h.ne
  refine blk_of (box_agg _ (prP p)) ?_
  intro w1 k1 b1 z1
  replace h := h.below b1
  have bb : Below B w w1 := b1.mono hB
  have d1 : Same w1 w1.drew := (Same.refl w1).drew
  replace h := h.below (d1.below _)
  have k1c := k1.same d1
  replace bb := bb.trans (d1.below _)
  generalize hu : w1.drew = u at *
  have lmap := fun {K : Fr → World → Prop} {f : Fr} {d : Option Nat} {w : World} => bes_ldq (P := Tryd.prog) (K := K) (f := f) (d := d) (w := w) (ty := 133) h.blk (by kernel_rfl) (fC_5 _ _ _ _ _ _)
  have lx := fun {w2 : World} (k : Blk w2 w.heap.size 139 (prP p)) {K : Fr → World → Prop} {f : Fr} {d : Option Nat} {w : World} => k.ldAll (P := Tryd.prog) (K := K) (f := f) (d := d) (w := w) ty_ag_139 (prp_sz p)
  simp (disch := first | with_reducible assumption | omega) only [push_cast, x_blk, x_cd, ↓reduceIte, Nat.reduceEqDiff, List.map_cons, List.map_nil, Int.reduceEq, Int.lt_irrefl, hu, lmap, lx k1c]
  have hmt : Tryd.prog.underlying 133 = some (.map 139 3) := Tryd.underlying133
  have hzi : (Tryd.prog.info? 3).map (·.zero) = some (some (.int .i64 0)) := by kernel_rfl
  have hzu : w.heap.size ≤ u.heap.size := by rw [← hu]; exact b1.size
  have hkt0 : KeepT [3] B w u := ⟨hzu, fun b hb => by rw [← hu]; exact b1.block b hb.1⟩
  have hkn0 : KeepN [some g, some gm, v.A4.map (·.block)] w u := ⟨hzu, fun b hb _ => by rw [← hu]; exact b1.block b hb⟩
  refine map_look keyed_pr hmt hzi true h.map (key_pr hp) (fun r hr => ?_) fun hno => ?_
  · obtain ⟨i, hi, rfl⟩ := mem_kvN hr
    have hin := List.mem_of_getElem? hi
    have hfi := fnd_of hn hi
    simp (disch := first | with_reducible assumption | omega) only [push_cast, x_blk, x_cd, ↓reduceIte, Nat.reduceEqDiff, List.map_cons, List.map_nil, Int.reduceEq, Int.lt_irrefl]
    refine fin_1 (hQ _ _ ⟨v.A4, v.c4, (by simp only [push_cast, ↓reduceIte, Nat.reduceEqDiff, Int.reduceEq, hfi]), ?_, bb, hkt0, hkn0, .inl rfl⟩)
    rw [if_pos hin]; exact h
  · have hnin := kvN_none hno
    have hfi := fnd_none hnin
    have l6 := fun {K : Fr → World → Prop} {f : Fr} {d : Option Nat} {w : World} => bes_ldq (P := Tryd.prog) (K := K) (f := f) (d := d) (w := w) h.blk ty_ag_134 (fC_6 _ _ _ _ _ _)
    have d2 : Same u u.drew := (Same.refl u).drew
    have h2 := h.below (d2.below _)
    have k2 := k1c.same d2
    have bb2 := bb.trans (d2.below _)
    have lmap2 := fun {K : Fr → World → Prop} {f : Fr} {d : Option Nat} {w : World} => bes_ldq (P := Tryd.prog) (K := K) (f := f) (d := d) (w := w) (ty := 133) h2.blk (by kernel_rfl) (fC_5 _ _ _ _ _ _)
    simp (disch := first | with_reducible assumption | omega) only [push_cast, x_blk, x_cd, ↓reduceIte, Nat.reduceEqDiff, List.map_cons, List.map_nil, Int.reduceEq, Int.lt_irrefl, l6, lmap2, lx k2, e_mapUpdate]
    refine map_new keyed_pr hmt h2.map (key_pr hp) hno _ ?_
    intro w3 m3 g3 z3
    rw [kvN_snoc] at m3
    have kt3 := keepT_grewM (es := [3]) (B := B) h2.map h.gmB g3
    have blk3 := h2.blk.grown g3.by_ (by simpa using hgm)
    have ownM : ∀ {B' e' sz n c : Nat} {A : Option Addr} {xs : List Value}, Own B' e' sz u.drew A c n xs → A = none ∨ A.map (·.block) ≠ (some (⟨gm, 0, none⟩ : Addr)).map (·.block) := fun {B' e' sz n c A xs} o => by
      rcases o.form with ⟨h0, _⟩ | ⟨gg, h0, _⟩
      · exact .inl h0
      · exact .inr fun e => h2.map.ne_own o e.symm
    have ps3 := h2.ps.grew g3 (ownM h2.ps)
    have ar3 := h2.ar.grew g3 (ownM h2.ar)
    have st3 := h2.st.grew g3 (ownM h2.st)
    have k3 := k2.grown g3.by_ (by simp; omega)
    have bb3 := g3.below bb2 (by have := bb2.size; omega) (by intro a ha; injection ha with ha; subst ha; exact h.gmB)
    have s3 : Same w3 w3.drew := (Same.refl w3).drew
    have blk4 := blk3.same s3
    have ps4 := ps3.same s3
    have ar4 := ar3.same s3
    have st4 := st3.same s3
    have k4 := k3.same s3
    have m4 := m3.same s3
    have bb4 := bb3.trans (s3.below _)
    have kt4 := kt3.trans (KeepT.same s3)
    generalize hu4 : w3.drew = u4 at *
    have l6' := fun {K : Fr → World → Prop} {f : Fr} {d : Option Nat} {w : World} => bes_ldq (P := Tryd.prog) (K := K) (f := f) (d := d) (w := w) blk4 ty_ag_134 (fC_6 _ _ _ _ _ _)
    simp (disch := first | with_reducible assumption | omega) only [push_cast, x_blk, x_cd, ↓reduceIte, Nat.reduceEqDiff, List.map_cons, List.map_nil, Int.reduceEq, Int.lt_irrefl, hu4, l6', lx k4, bs_rec prEnc slT_134 _ (by decide)]
    refine ⟨(Below.refl _ _).alloc (Nat.le_refl _) _, ?_⟩
    refine app_rec prEnc slT_134 ps4 p (by omega) (by omega) (by have := bb4.size; omega) ?_
    intro A' c' w5 ps5 g5 hA5 hs5 hz5
    have kt5 := kt4.trans (KeepT.grew (es := [3]) (B := B) ps4 (Nat.le_refl _) (by decide) g5)
    have blk5 := blk4.grown g5.by_ (fun e => ps4.ne_blk blk4 (by decide) e.symm)
    have m5 := m4.grown g5.by_ (m4.ne_own ps4)
    have farE : ∀ {B' e' sz n c : Nat} {A : Option Addr} {xs : List Value}, Own B' e' sz u4 A c n xs → e' ≠ 139 → A = none ∨ A.map (·.block) ≠ v.A4.map (·.block) := fun {B' e' sz n c A xs} o hne => by
      rcases o.own.2 with ⟨h0, _⟩ | ⟨gg, cap, cur, hv, _, hh, _⟩
      · injection h0 with h0; exact .inl h0
      · injection hv with hv
        subst hv
        refine .inr fun e => ?_
        rcases ps4.own.2 with ⟨h0, _⟩ | ⟨gg', cap', cur', hv', _, hh', _⟩
        · injection h0 with h0; rw [h0] at e; cases e
        · injection hv' with hv'
          rw [hv'] at e
          injection e with e
          simp only at e
          subst e
          rw [hh] at hh'
          injection hh' with hh'
          injection hh' with _ ht
          exact hne ht
    have ar5 := ar4.grew g5 (farE ar4 (by decide))
    have st5 := st4.grew g5 (farE st4 (by decide))
    have bb5 := g5.below bb4 (by have := bb4.size; omega) ps4.geB
    have hne5 : gm ≠ g := fun e => hgm e.symm
    simp (disch := first | with_reducible assumption | omega) only [push_cast, x_blk, x_cd, ↓reduceIte, Nat.reduceEqDiff, List.map_cons, List.map_nil, Int.reduceEq, Int.lt_irrefl]
    refine sto_slice blk5 (by kernel_rfl) 6 (by rw [fC_len]; decide) _ _ _ ?_
    intro w6 blk6 g6 z6
    have hln : (ps ++ [p]).length = ps.length + 1 := by simp
    have blk6' : Blk w6 g 136 (fC E { v with A4 := A', c4 := c' } S.length ar.length (ps ++ [p]).length gm) := by rw [hln]; exact blk6
    have kt6 := hkt0.trans ((KeepT.same d2).trans (kt5.trans (KeepT.grewB (es := [3]) (B := B) blk5 h.gB (by decide) g6)))
    have m6 := m5.grown g6.by_ (by simpa using hne5)
    have ps6 := ps5.grew g6 (.inr (ps5.ne_blk blk5 (by decide)))
    have ar6 := ar5.grew g6 (.inr (ar5.ne_blk blk5 (by decide)))
    have st6 := st5.grew g6 (.inr (st5.ne_blk blk5 (by decide)))
    have bb6 := g6.below bb5 (by have := bb5.size; omega) (by intro a ha; injection ha with ha; subst ha; exact h.gB)
    have hz3 := g3.by_.size
    have hz5 := g5.by_.size
    have hz6 := g6.by_.size
    have hzd : u.drew.heap.size = u.heap.size := rfl
    have hzd4 : u4.heap.size = w3.heap.size := by rw [s3.heap]
    have hkeep : KeepN [some g, some gm, v.A4.map (·.block)] w w6 := ⟨by omega, fun b hb hX => by
      have x1 := hX _ (List.mem_cons_self ..)
      have x2 := hX _ (List.mem_cons_of_mem _ (List.mem_cons_self ..))
      have x3 := hX _ (List.mem_cons_of_mem _ (List.mem_cons_of_mem _ (List.mem_cons_self ..)))
      have e1 := hkn0.at_ b hb hX
      have e2 : w3.heap[b]? = u.drew.heap[b]? := g3.by_.block b (by omega) (by simpa using x2)
      have e4 : u4.heap[b]? = w3.heap[b]? := by rw [s3.heap]
      have e5 : w5.heap[b]? = u4.heap[b]? := g5.by_.block b (by omega) x3
      have e6 : w6.heap[b]? = w5.heap[b]? := g6.by_.block b (by omega) (by simpa using x1)
      rw [e6, e5, e4, e2]; exact e1⟩
    have hmv : MovN w v.A4 A' := hA5.imp id fun ⟨g', h1, h2⟩ => ⟨g', h1, by omega⟩
    simp (disch := first | with_reducible assumption | omega) only [push_cast, x_blk, x_cd, ↓reduceIte, Nat.reduceEqDiff, List.map_cons, List.map_nil, Int.reduceEq, Int.lt_irrefl]
    refine fin_1 (hQ _ _ ⟨A', c', (by simp only [push_cast, ↓reduceIte, Nat.reduceEqDiff, Int.reduceEq, hfi]), ?_, bb6, kt6, hkeep, hmv⟩)
    rw [if_neg hnin]
    exact ⟨blk6', m6, st6, ar6, ps6, h.gB, h.gmB⟩

theorem bes_to {w : World} {a : MV} {m : Mach} (ha : IsM (· < w.heap.size) w a m) (hm : m.May) (hT : Tab w) {s : Int} (hs : 0 ≤ s ∧ s < m.states) (e : Int) (part : Bool) :
    Cal Tryd.prog 85 [a.val m, .int .i64 s, .int .i64 e, .bool part] w fun r w' => ∃ A c, r = .slice A (bsTo m s e part).length c ∧ OwnI w.heap.size 3 w' A c (bsTo m s e part) ∧ Below w.heap.size w w' := by
  have h256 := hm.2.1
  refine cal_beside_to (by simp) 100000 fun Q hQ => ?_
  simp (disch := first | with_reducible assumption | omega) only [push_cast, x_blk, x_cd, ↓reduceIte, Nat.reduceEqDiff, List.map_cons, List.map_nil, Int.reduceEq, Int.lt_irrefl, F_beside_to]
  refine blk_of (box_agg _ (a.cells m)) ?_
  intro w1 k1 b1 z1
  cases part
  case false =>
    simp (disch := first | with_reducible assumption | omega) only [push_cast, x_blk, x_cd, ↓reduceIte, Nat.reduceEqDiff, List.map_cons, List.map_nil, Int.reduceEq, Int.lt_irrefl, bs_22]
    have o := own_int1 w1 s 3
    refine fin_1 (hQ _ _ ⟨some ⟨w1.heap.size, 0, none⟩, 1, (by simp only [push_cast, ↓reduceIte, Nat.reduceEqDiff, Int.reduceEq, bsTo, List.length_cons, List.length_nil]), o.base b1.size, b1.trans ((Below.refl _ _).alloc b1.size _)⟩)
  case true =>
    have d1 : Same w1 w1.drew := (Same.refl w1).drew
    have k1c := k1.same d1
    have bb := b1.trans (d1.below _)
    generalize hu : w1.drew = u at *
    simp (disch := first | with_reducible assumption | omega) only [push_cast, x_blk, x_cd, ↓reduceIte, Nat.reduceEqDiff, List.map_cons, List.map_nil, Int.reduceEq, Int.lt_irrefl, hu, k1c.mA ty_ag_25 ty_sz_25, bs_22]
    have o := own_int1 u s 3
    have b2 : Below u.heap.size u (u.alloc (.cells [.int .i64 s].toArray 3)) := (Below.refl _ _).alloc (Nat.le_refl _) _
    generalize u.alloc (.cells [.int .i64 s].toArray 3) = w2 at *
    refine ⟨b2, ?_⟩
    have hsm : Small [s] := fun x hx => by rw [List.mem_singleton.1 hx]; omega
    refine call_of (machine_Of' (OwnI.ints o).lt 1 (by simp) hsm) ?_
    rintro r w3 ⟨rfl, b3⟩
    have b23 := b2.trans (b3.mono b2.size)
    simp (disch := first | with_reducible assumption | omega) only [push_cast, x_blk, x_cd, ↓reduceIte, Nat.reduceEqDiff, List.map_cons, List.map_nil, Int.reduceEq, Int.lt_irrefl]
    refine ⟨b23, ?_⟩
    have bb3 := bb.trans (b23.mono bb.size)
    refine call_of (machine_Step (ha.up bb3) hm [s] e) ?_
    rintro r w4 ⟨rfl, b4⟩
    have b24 := b23.trans (b4.mono b23.size)
    simp (disch := first | with_reducible assumption | omega) only [push_cast, x_blk, x_cd, ↓reduceIte, Nat.reduceEqDiff, List.map_cons, List.map_nil, Int.reduceEq, Int.lt_irrefl]
    refine ⟨b24, ?_⟩
    have bb4 := bb.trans (b24.mono bb.size)
    have hrow := stepL_row hm [s] e
    refine call_of (set_Row' hrow.strict (hrow.small h256) (hT.below bb4 hT.lt)) ?_
    rintro r w5 ⟨A, c, rfl, ho, b5⟩
    have b25 := b24.trans (b5.mono b24.size)
    simp (disch := first | with_reducible assumption | omega) only [push_cast, x_blk, x_cd, ↓reduceIte, Nat.reduceEqDiff, List.map_cons, List.map_nil, Int.reduceEq, Int.lt_irrefl]
    refine ⟨b25, ?_⟩
    exact fin_1 (hQ _ _ ⟨A, c, (by simp only [push_cast, ↓reduceIte, Nat.reduceEqDiff, Int.reduceEq, bsTo]), ho.base bb4.size, bb.trans (b25.mono bb.size)⟩)
end Go.Proofs.YtcjedgiglimipaaDoor
