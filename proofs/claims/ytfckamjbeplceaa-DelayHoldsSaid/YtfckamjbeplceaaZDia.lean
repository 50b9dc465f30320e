/-
  Chapter 13: the program's watcher: comes, by its contract.
-/
import Derived.Test.YtfckamjbeplceaaZDelM
import Derived.Test.YtfckamjbeplceaaZTyB
import Derived.Test.YtfckamjbeplceaaZReachD
namespace Go.Proofs.Ytfckamjbeplceaa
set_option linter.unusedSimpArgs false
set_option linter.unusedVariables false
set_option linter.unusedSectionVars false
open Go.RowKit

def twP (x : Tw) : List Value := [.int .i64 x.1, .int .i64 x.2.1, .bool x.2.2]
abbrev twV (x : Tw) : Value := .agg (twP x).toArray
theorem twpEnc : Enc twP 3 := ⟨fun _ => rfl, fun x u hu => by
  unfold twP at hu
  rcases List.mem_cons.1 hu with rfl | hu
  · rfl
  · rcases List.mem_cons.1 hu with rfl | hu
    · rfl
    · rw [List.mem_singleton.1 hu]; rfl⟩
theorem twV_inj {x y : Tw} (h : twV x = twV y) : x = y := by
  obtain ⟨a, b, c⟩ := x
  obtain ⟨a', b', c'⟩ := y
  simp [twV, twP] at h
  obtain ⟨rfl, rfl, rfl⟩ := h
  rfl
theorem laidOutD : laidOutB Try.prog = true := by kernel_rfl
theorem keyed_tw : Maps.Keyed Try.prog 52 := Maps.Keyed.of_law (deep_law_laid laidOutD (m := 3) (by decide) (of_decide_eq_true (by kernel_rfl)) (by kernel_rfl) (by kernel_rfl))
def TwI64 (x : Tw) : Prop := I64 x.1 ∧ I64 x.2.1
theorem i64_wf {x : Int} (h : I64 x) : (Lit.int .i64 x).wf = true := by
  unfold I64 at h
  simp [Lit.wf, IntKind.min, IntKind.max, IntKind.signed, IntKind.bits]; omega
theorem key_tw {x : Tw} (hx : TwI64 x) : KeyIs Try.prog 52 (twV x) := by
  have hs : Try.prog.types.size + 1 = (Try.prog.types.size - 1) + 1 + 1 := by
    have : 1 < Try.prog.types.size := of_decide_eq_true (by kernel_rfl)
    omega
  obtain ⟨n, hn⟩ : ∃ n, Try.prog.types.size - 1 = n := ⟨_, rfl⟩
  rw [hn] at hs
  obtain ⟨f0, f1, f2, hu, h0, h1, h2, o0, o1, o2, n0, n1, n2⟩ : ∃ f0 f1 f2 : Field, Try.prog.underlying 52 = some (.struct #[f0, f1, f2]) ∧ f0.type = 3 ∧ f1.type = 3 ∧ f2.type = 4 ∧ f0.offset = 0 ∧ f1.offset = 1 ∧ f2.offset = 2 ∧ (f0.name != "_") = true ∧ (f1.name != "_") = true ∧ (f2.name != "_") = true :=
    ⟨_, _, _, Try.underlying52, by kernel_rfl, by kernel_rfl, by kernel_rfl, by kernel_rfl, by kernel_rfl, by kernel_rfl, by kernel_rfl, by kernel_rfl, by kernel_rfl⟩
  have hk : Try.prog.keyType 52 = true := by kernel_rfl
  have hc3 : Try.prog.cellsOf 52 = 3 := by kernel_rfl
  have hci : Try.prog.cellsOf 3 = 1 := by kernel_rfl
  have hcb : Try.prog.cellsOf 4 = 1 := by kernel_rfl
  have hui : Try.prog.underlying 3 = some (.int .i64) := Try.underlying3
  have hub : Try.prog.underlying 4 = some .bool := Try.underlying4
  have hf : (twV x).formed Try.prog 52 = true := by
    simp only [twV, twP, Value.formed, hu, hc3, beq_iff_eq, List.size_toArray]; rfl
  unfold KeyIs keyOf
  simp only [hu, hk, hf, Bool.and_self, if_true]
  refine ⟨.string (keyBytes [.int .i64 x.1, .int .i64 x.2.1, .bool x.2.2]), ?_⟩
  have : Try.prog.keyLits (Try.prog.types.size + 1) 52 (twV x).cells.toList = some [.int .i64 x.1, .int .i64 x.2.1, .bool x.2.2] := by
    rw [hs]
    show Try.prog.keyLits (n + 1 + 1) 52 (twP x) = _
    unfold Program.keyLits
    simp only [hu, hc3, twP, List.length_cons, List.length_nil, true_and]
    rw [if_pos (by simp [n0, n1, n2])]
    simp [h0, h1, h2, o0, o1, o2, hci, hcb, Program.keyLits, hui, hub, i64_wf hx.1, i64_wf hx.2]
  rw [this]; rfl
def hdV (h : Hd) : Value := .slice h.A h.l.length h.c
structure WV where
  a : MV
  m : Mach
  A1 : Option Addr
  c1 : Nat
  seen : List Int
  A2 : Option Addr
  c2 : Nat
  faults : List Int
def wCells (v : WV) (tos : List Hd) (gm : Nat) (Aw : Option Addr) (n cw : Nat) : List Value :=
  v.a.cells v.m ++ ([.slice v.A1 v.seen.length v.c1, .slice v.A2 v.faults.length v.c2] ++ (tos.map hdV ++ [.map (some gm), .slice Aw n cw]))
section
variable {v : WV} {tos : List Hd} {gm n cw : Nat} {Aw : Option Addr}
theorem wC_5 : (wCells v tos gm Aw n cw)[5]? = some (.slice v.A1 v.seen.length v.c1) := rfl
theorem wC_6 : (wCells v tos gm Aw n cw)[6]? = some (.slice v.A2 v.faults.length v.c2) := rfl
theorem wC_1 : (wCells v tos gm Aw n cw)[1]? = some (.int .i64 v.m.events) := rfl
theorem wC_to {i : Nat} {h : Hd} (hi : tos[i]? = some h) : (wCells v tos gm Aw n cw)[7 + i]? = some (hdV h) := by
  have hl := lt_of_some hi
  unfold wCells
  rw [List.getElem?_append_right (by simp [MV.cells]; omega)]
  rw [List.getElem?_append_right (by simp [MV.cells]; omega)]
  simp only [MV.cells, List.length_cons, List.length_nil]
  rw [show 7 + i - (0 + 1 + 1 + 1 + 1 + 1) - (0 + 1 + 1) = i by omega, List.getElem?_append_left (by simpa using hl), List.getElem?_map, hi]; rfl
theorem wC_55 (ht : tos.length = 48) : (wCells v tos gm Aw n cw)[55]? = some (.map (some gm)) := by
  unfold wCells
  rw [List.getElem?_append_right (by simp [MV.cells]), List.getElem?_append_right (by simp [MV.cells]), List.getElem?_append_right (by simp [MV.cells, ht])]
  simp [MV.cells, ht]
theorem wC_56 (ht : tos.length = 48) : (wCells v tos gm Aw n cw)[56]? = some (.slice Aw n cw) := by
  unfold wCells
  rw [List.getElem?_append_right (by simp [MV.cells]), List.getElem?_append_right (by simp [MV.cells]), List.getElem?_append_right (by simp [MV.cells, ht])]
  simp [MV.cells, ht]
theorem wC_set (ht : tos.length = 48) (Aw' : Option Addr) (n' cw' : Nat) : (wCells v tos gm Aw n cw).set 56 (.slice Aw' n' cw') = wCells v tos gm Aw' n' cw' := by
  unfold wCells
  rw [List.set_append_right _ _ (by simp [MV.cells]), List.set_append_right _ _ (by simp [MV.cells]), List.set_append_right _ _ (by simp [MV.cells, ht])]
  simp [MV.cells, ht]
theorem wC_setTo {i : Nat} (hi : i < tos.length) (h : Hd) : (wCells v tos gm Aw n cw).set (7 + i) (hdV h) = wCells v (tos.set i h) gm Aw n cw := by
  unfold wCells
  rw [List.set_append_right _ _ (by simp [MV.cells]; omega), List.set_append_right _ _ (by simp [MV.cells]; omega)]
  simp only [MV.cells, List.length_cons, List.length_nil]
  rw [show 7 + i - (0 + 1 + 1 + 1 + 1 + 1) - (0 + 1 + 1) = i by omega, List.set_append_left _ _ (by simpa using hi), ← List.map_set]
theorem wC_len (ht : tos.length = 48) : (wCells v tos gm Aw n cw).length = 57 := by
  unfold wCells; simp [MV.cells, ht]
end
theorem Blk.ldq {P : Program} {K : Fr → World → Prop} {u w : World} {f : Fr} {d : Option Nat} {g t ty j : Nat} {cs : List Value} {v : Value} (h : Blk u g t cs) (ht : tyAgg P ty = some false) (hv : cs[j]? = some v) :
    Val1 P K (Instr.loadAt ty (.pointer (some ⟨g, j, none⟩))) u f d w = K (updO f d v) w := by
  have hj := lt_of_some hv
  rw [h.ld ht j hj]
  rw [List.getD_eq_getElem?_getD, hv]; rfl
theorem Blk.ldE {P : Program} {K : Fr → World → Prop} {u w : World} {f : Fr} {d : Option Nat} {g t ty j et e : Nat} {cs : List Value} {v : Value} (h : Blk u g t cs) (hT : P.underlying et = some (.slice e)) (hne : t ≠ e) (ht : tyAgg P ty = some false) (hv : cs[j]? = some v) :
    ValE P K et (Instr.loadAt ty (.pointer (some ⟨g, j, none⟩))) u f d w = K (updO f d v) w :=
  e_load_one u f d w hT ht (a := ⟨g, j, none⟩) h (by rw [h.cell, hv]) hne
theorem BelowE.of_below {P : Program} {t : Nat} {u w : World} (h : Below u.heap.size u w) : BelowE P t u w := ⟨h.size, fun k hk _ => h.block k hk⟩
theorem BelowE.grew {P : Program} {t e B sz c n : Nat} {u w : World} {A : Option Addr} {xs : List Value} (ho : Own B e sz u A c n xs) (hT : P.underlying t = some (.slice e)) (hg : Grew u w A) : BelowE P t u w :=
  ⟨hg.by_.size, fun k hk hne => hg.by_.block k hk (by
    rcases ho.own.2 with ⟨h0, _⟩ | ⟨g, cap, cur, hv, hB', hh, _⟩
    · injection h0 with h0; subst h0; simp
    · injection hv with hv
      subst hv
      simp only [Option.map_some, ne_eq, Option.some.injEq]
      rintro rfl
      exact hne _ _ _ hT hh)⟩
def kvM (M : List (Tw × Nat)) : List (Value × Value) := M.map fun p => (twV p.1, .int .i64 (p.2 : Int))
theorem mem_kvM {M : List (Tw × Nat)} {x : Tw} {v : Value} (h : (twV x, v) ∈ kvM M) : ∃ n : Nat, (x, n) ∈ M ∧ v = .int .i64 (n : Int) := by
  obtain ⟨p, hp, he⟩ := List.mem_map.1 h
  injection he with h1 h2
  rw [← twV_inj h1]
  exact ⟨p.2, hp, h2.symm⟩
/-- The watcher as it lies, and what it knows. -/
structure WS (B : Nat) (w : World) (g gm : Nat) (v : WV) (tos : List Hd) (Aw : Option Addr) (cw : Nat) (M : List (Tw × Nat)) (W : List Tw) : Prop where
  blk : Blk w g 49 (wCells v tos gm Aw W.length cw)
  t48 : tos.length = 48
  map : MapIs Try.prog 52 w gm (kvM M)
  row : OwnR twP B 52 3 w Aw cw W
  to_ : ∀ h ∈ tos, Ints (TyB [3] B w) w h.A h.l
  gB : B ≤ g
  gmB : B ≤ gm
theorem WS.below {B : Nat} {w w' : World} {g gm : Nat} {v : WV} {tos : List Hd} {Aw : Option Addr} {cw : Nat} {M : List (Tw × Nat)} {W : List Tw} (h : WS B w g gm v tos Aw cw M W) (b : Below w.heap.size w w') : WS B w' g gm v tos Aw cw M W :=
  ⟨h.blk.below b h.blk.lt, h.t48, h.map.below b h.map.lt, h.row.below b (Nat.le_refl _), fun x hx => (h.to_ x hx).keepT (KeepT.below b), h.gB, h.gmB⟩
/-- What all else keeps. -/
structure KeepW (g gm : Nat) (Aw : Option Addr) (w w' : World) : Prop where
  size : w.heap.size ≤ w'.heap.size
  at_ : ∀ b, b < w.heap.size → b ≠ g → b ≠ gm → some b ≠ Aw.map (·.block) → w'.heap[b]? = w.heap[b]?
/-- The row of what is to be gone on from lies where it lay, or anew. -/
def MovedW (w : World) (Aw Aw' : Option Addr) : Prop := Aw'.map (·.block) = Aw.map (·.block) ∨ ∃ g', Aw'.map (·.block) = some g' ∧ w.heap.size ≤ g'

theorem KeepW.trans {g gm : Nat} {A A1 : Option Addr} {w w1 w2 : World} (h : KeepW g gm A w w1) (hm : MovedW w A A1) (k : KeepW g gm A1 w1 w2) : KeepW g gm A w w2 :=
  ⟨Nat.le_trans h.size k.size, fun b hb h1 h2 h3 => by
    have hs := h.size
    rw [k.at_ b (by omega) h1 h2 ?_, h.at_ b hb h1 h2 h3]
    rcases hm with hm | ⟨g', e, hg'⟩
    · rw [hm]; exact h3
    · rw [e]; intro e'; injection e' with e'; omega⟩
theorem MovedW.trans {A A1 A2 : Option Addr} {w w1 : World} (h : MovedW w A A1) (hs : w.heap.size ≤ w1.heap.size) (k : MovedW w1 A1 A2) : MovedW w A A2 := by
  rcases k with k | ⟨g', e, hg'⟩
  · rcases h with h | ⟨g2, e2, h2⟩
    · exact .inl (k.trans h)
    · exact .inr ⟨g2, k.trans e2, h2⟩
  · exact .inr ⟨g', e, by omega⟩
theorem KeepW.below {g gm : Nat} {A : Option Addr} {w w1 : World} (b : Below w.heap.size w w1) : KeepW g gm A w w1 := ⟨b.size, fun k hk _ _ _ => b.block k hk⟩
theorem MovedW.refl (w : World) (A : Option Addr) : MovedW w A A := .inl rfl
theorem KeepW.blk {g gm q t : Nat} {A : Option Addr} {w w1 : World} {cs : List Value} (h : KeepW g gm A w w1) (k : Blk w q t cs) (h1 : q ≠ g) (h2 : q ≠ gm) (h3 : some q ≠ A.map (·.block)) : Blk w1 q t cs := k.keep (h.at_ q k.lt h1 h2 h3)
theorem KeepT.grewM {es : List Nat} {B : Nat} {w w' : World} {k gm : Nat} {kv : List (Value × Value)} (hm : MapIs Try.prog k w gm kv) (hB : B ≤ gm) (hg : Grew w w' (some ⟨gm, 0, none⟩)) : KeepT es B w w' :=
  ⟨hg.by_.size, fun b hb => hg.by_.block b hb.1 (by
    simp only [Option.map_some, ne_eq, Option.some.injEq]
    rintro rfl
    obtain ⟨es', clock, h1, _⟩ := hm
    rcases hb.2 with h2 | ⟨e, he, cs, r, h2⟩
    · omega
    · rw [h1] at h2; cases h2)⟩
theorem kvM_none {M : List (Tw × Nat)} {x : Tw} (h : ∀ p ∈ kvM M, p.1 ≠ twV x) : ∀ p ∈ M, p.1 ≠ x := fun p hp e => h (twV p.1, .int .i64 (p.2 : Int)) (List.mem_map.2 ⟨p, hp, rfl⟩) (by rw [e])
theorem kvM_at {M : List (Tw × Nat)} {j : Nat} {x : Tw} {n : Nat} (h : (kvM M)[j]? = some (twV x, .int .i64 (n : Int))) : M[j]? = some (x, n) := by
  unfold kvM at h
  rw [List.getElem?_map] at h
  cases hm : M[j]? with
  | none => rw [hm] at h; cases h
  | some p =>
    rw [hm] at h
    injection h with h
    injection h with h1 h2
    have e1 := twV_inj h1
    injection h2 with _ h2
    have e2 : p.2 = n := by omega
    rw [← e1, ← e2]
theorem kvM_set (M : List (Tw × Nat)) (j : Nat) (x : Tw) (n : Nat) : (kvM M).set j (twV x, .int .i64 (n : Int)) = kvM (M.set j (x, n)) := by unfold kvM; rw [List.map_set]
theorem kvM_snoc (M : List (Tw × Nat)) (x : Tw) (n : Nat) : kvM M ++ [(twV x, .int .i64 (n : Int))] = kvM (M ++ [(x, n)]) := by unfold kvM; rw [List.map_append]; rfl
theorem twp_sz (x : Tw) : tySize Try.prog 52 = some (twP x).length := ty_sz_52
theorem dia_comes {B : Nat} {w : World} {g gm : Nat} {v : WV} {tos : List Hd} {Aw : Option Addr} {cw : Nat} {M : List (Tw × Nat)} {W : List Tw} (h : WS B w g gm v tos Aw cw M W) (hB : B ≤ w.heap.size) (hW : W.length ≤ 100000) (hM : ∀ p ∈ M, TwI64 p.1 ∧ p.2 ≤ 1000) {x : Tw} (hx : TwI64 x) {n : Nat} (hn : n ≤ 1000) :
    Cal Try.prog 19 [.pointer (some ⟨g, 0, none⟩), twV x, .int .i64 n] w fun r w' => ∃ (M' : List (Tw × Nat)) (W' : List Tw) (Aw' : Option Addr) (cw' : Nat), r = .tuple #[] ∧ Come M W x n M' W' ∧
      WS B w' g gm v tos Aw' cw' M' W' ∧ Below B w w' ∧ KeepW g gm Aw w w' ∧ MovedW w Aw Aw' := by
  refine cal_diagnose_watcher_comes (by simp) 100000 fun Q hQ => ?_
  simp (disch := first | with_reducible assumption | omega) only [push_cast, x_blk, x_cd, ↓reduceIte, Nat.reduceEqDiff, List.map_cons, List.map_nil, Int.reduceEq, Int.lt_irrefl, F_diagnose_watcher_comes]
  have hgw := h.blk.lt
  have hgmw := h.map.lt
  have hAww : ∀ b, Aw.map (·.block) = some b → b < w.heap.size := fun b hb => h.row.ltB hb.symm
  refine blk_of (box_agg _ (twP x)) ?_
  intro w1 k1 b1 z1
  replace h := h.below b1
  have bb : Below B w w1 := b1.mono hB
  have d1 : Same w1 w1.drew := (Same.refl w1).drew
  replace h := h.below (d1.below _)
  have k1c := k1.same d1
  replace bb := bb.trans (d1.below _)
  generalize hu : w1.drew = u at *
  have lmap := fun {K : Fr → World → Prop} {f : Fr} {d : Option Nat} {w : World} => h.blk.ldq (P := Try.prog) (K := K) (f := f) (d := d) (w := w) (ty := 44) (by kernel_rfl) (wC_55 h.t48)
  have lx := fun {w2 : World} (k : Blk w2 w.heap.size 52 (twP x)) {K : Fr → World → Prop} {f : Fr} {d : Option Nat} {w : World} => k.ldAll (P := Try.prog) (K := K) (f := f) (d := d) (w := w) ty_ag_52 (twp_sz x)
  simp (disch := first | with_reducible assumption | omega) only [push_cast, x_blk, x_cd, ↓reduceIte, Nat.reduceEqDiff, List.map_cons, List.map_nil, Int.reduceEq, Int.lt_irrefl, hu, lmap, lx k1c]
  have hmt : Try.prog.underlying 44 = some (.map 52 3) := Try.underlying44
  have hzi : (Try.prog.info? 3).map (·.zero) = some (some (.int .i64 0)) := by kernel_rfl
  have hgm : g ≠ gm := fun e => by
    obtain ⟨es', clock, h1, _⟩ := h.map
    have := h.blk
    unfold Blk at this
    rw [e, h1] at this; cases this
  have hzu : w.heap.size ≤ u.heap.size := by rw [← hu]; exact b1.size
  refine map_look keyed_tw hmt hzi true h.map (key_tw hx) (fun r hr => ?_) fun hno => ?_
  · obtain ⟨n', hin, rfl⟩ := mem_kvM hr
    have hn' := (hM _ hin).2
    by_cases c : n' < n
    case neg =>
      have c' : ¬ (n' : Int) < (n : Int) := by omega
      simp (disch := first | with_reducible assumption | omega) only [push_cast, x_blk, x_cd, ↓reduceIte, Nat.reduceEqDiff, List.map_cons, List.map_nil, Int.reduceEq, Int.lt_irrefl, c']
      exact fin_0 (hQ _ _ ⟨M, W, Aw, cw, rfl, .no hin (by omega), h, bb, ⟨hzu, fun b hb _ _ _ => by rw [← hu]; exact b1.block b hb⟩, .inl rfl⟩)
    have c' : (n' : Int) < (n : Int) := by omega
    have d2 : Same u u.drew := (Same.refl u).drew
    have h2 := h.below (d2.below _)
    have k2 := k1c.same d2
    have bb2 := bb.trans (d2.below _)
    have lmap2 := fun {K : Fr → World → Prop} {f : Fr} {d : Option Nat} {w : World} => h2.blk.ldq (P := Try.prog) (K := K) (f := f) (d := d) (w := w) (ty := 44) (by kernel_rfl) (wC_55 h.t48)
    simp (disch := first | with_reducible assumption | omega) only [push_cast, x_blk, x_cd, ↓reduceIte, Nat.reduceEqDiff, List.map_cons, List.map_nil, Int.reduceEq, Int.lt_irrefl, c', lmap2, lx k2, e_mapUpdate]
    refine map_old keyed_tw hmt h2.map (key_tw hx) hr _ ?_
    intro j w3 hj m3 g3 z3
    rw [kvM_set] at m3
    have kt3 := KeepT.grewM (es := [3]) (B := B) h2.map h.gmB g3
    have blk3 := h2.blk.grown g3.by_ (by simpa using hgm)
    have row3 := h2.row.grew g3 (by
      rcases h2.row.form with ⟨h0, _⟩ | ⟨gg, h0, _⟩
      · exact .inl h0
      · exact .inr fun e => h2.map.ne_own h2.row e.symm)
    have k3 := k2.grown g3.by_ (by simp; omega)
    have bb3 := g3.below bb2 (by have := bb2.size; omega) (by intro a ha; injection ha with ha; subst ha; exact h.gmB)
    have z3' : w.heap.size ≤ w3.heap.size := by have := g3.by_.size; have := (d2.below 0).size; omega
    have s3 : Same w3 w3.drew := (Same.refl w3).drew
    have blk4 := blk3.same s3
    have row4 := row3.same s3
    have k4 := k3.same s3
    have m4 := m3.same s3
    have bb4 := bb3.trans (s3.below _)
    have kt4 := kt3.trans (KeepT.same s3)
    generalize hu4 : w3.drew = u4 at *
    have z4' : w.heap.size ≤ u4.heap.size := by have := (s3.below 0).size; omega
    have lw := fun {K : Fr → World → Prop} {f : Fr} {d : Option Nat} {w : World} => blk4.ldq (P := Try.prog) (K := K) (f := f) (d := d) (w := w) ty_ag_47 (wC_56 h.t48)
    simp (disch := first | with_reducible assumption | omega) only [push_cast, x_blk, x_cd, ↓reduceIte, Nat.reduceEqDiff, List.map_cons, List.map_nil, Int.reduceEq, Int.lt_irrefl, hu4, lw, lx k4, bs_rec twpEnc slT_47 _ (by decide)]
    refine ⟨(Below.refl _ _).alloc (Nat.le_refl _) _, ?_⟩
    refine app_rec twpEnc slT_47 row4 x (by omega) (by omega) (by have := bb4.size; omega) ?_
    intro Aw' cw' w5 row5 g5 hA5 hs5 hz5
    have kt5 := kt4.trans (KeepT.grew (es := [3]) (B := B) row4 (Nat.le_refl _) (by decide) g5)
    have blk5 := blk4.grown g5.by_ (fun e => row4.ne_blk blk4 (by decide) e.symm)
    have m5 := m4.grown g5.by_ (m4.ne_own row4)
    have bb5 := g5.below bb4 (by have := bb4.size; omega) row4.geB
    have hne5 : gm ≠ g := fun e => hgm e.symm
    simp (disch := first | with_reducible assumption | omega) only [push_cast, x_blk, x_cd, ↓reduceIte, Nat.reduceEqDiff, List.map_cons, List.map_nil, Int.reduceEq, Int.lt_irrefl]
    refine sto_slice blk5 (by kernel_rfl) 56 (by rw [wC_len h.t48]; decide) _ _ _ ?_
    intro w6 blk6 g6 z6
    rw [wC_set h.t48] at blk6
    have hln : (W ++ [x]).length = W.length + 1 := by simp
    have kt6 := kt5.trans (KeepT.grewB (es := [3]) (B := B) blk5 h.gB (by decide) g6)
    have m6 := m5.grown g6.by_ (by simpa using hne5)
    have row6 := row5.grew g6 (.inr (row5.ne_blk blk5 (by decide)))
    have bb6 := g6.below bb5 (by have := bb5.size; omega) (by intro a ha; injection ha with ha; subst ha; exact h.gB)
    have hkeep : KeepW g gm Aw w w6 := ⟨by have := g6.by_.size; have := g5.by_.size; omega, fun b hb h1 h2' h3 => by
      have e1 : u.heap[b]? = w.heap[b]? := by rw [← hu]; exact b1.block b hb
      have e2 : w3.heap[b]? = u.drew.heap[b]? := g3.by_.block b (by have : u.drew.heap.size = u.heap.size := rfl; omega) (by simpa using h2')
      have e4 : u4.heap[b]? = w3.heap[b]? := by rw [s3.heap]
      have e5 : w5.heap[b]? = u4.heap[b]? := g5.by_.block b (by omega) h3
      have e6 : w6.heap[b]? = w5.heap[b]? := g6.by_.block b (by have := g5.by_.size; omega) (by simpa using h1)
      rw [e6, e5, e4, e2]; exact e1⟩
    have hmv : MovedW w Aw Aw' := hA5.imp id fun ⟨g', h1, h2⟩ => ⟨g', h1, by omega⟩
    simp (disch := first | with_reducible assumption | omega) only [push_cast, x_blk, x_cd, ↓reduceIte, Nat.reduceEqDiff, List.map_cons, List.map_nil, Int.reduceEq, Int.lt_irrefl]
    exact fin_0 (hQ _ _ ⟨_, _, Aw', cw', rfl, .more (kvM_at hj) c, ⟨by rw [hln]; exact blk6, h.t48, m6, row6, fun hd hh => (h2.to_ hd hh).keepT kt6, h.gB, h.gmB⟩, bb6, hkeep, hmv⟩)
  · have d2 : Same u u.drew := (Same.refl u).drew
    have h2 := h.below (d2.below _)
    have k2 := k1c.same d2
    have bb2 := bb.trans (d2.below _)
    have lmap2 := fun {K : Fr → World → Prop} {f : Fr} {d : Option Nat} {w : World} => h2.blk.ldq (P := Try.prog) (K := K) (f := f) (d := d) (w := w) (ty := 44) (by kernel_rfl) (wC_55 h.t48)
    simp (disch := first | with_reducible assumption | omega) only [push_cast, x_blk, x_cd, ↓reduceIte, Nat.reduceEqDiff, List.map_cons, List.map_nil, Int.reduceEq, Int.lt_irrefl, lmap2, lx k2, e_mapUpdate]
    refine map_new keyed_tw hmt h2.map (key_tw hx) hno _ ?_
    intro w3 m3 g3 z3
    rw [kvM_snoc] at m3
    have kt3 := KeepT.grewM (es := [3]) (B := B) h2.map h.gmB g3
    have blk3 := h2.blk.grown g3.by_ (by simpa using hgm)
    have row3 := h2.row.grew g3 (by
      rcases h2.row.form with ⟨h0, _⟩ | ⟨gg, h0, _⟩
      · exact .inl h0
      · exact .inr fun e => h2.map.ne_own h2.row e.symm)
    have k3 := k2.grown g3.by_ (by simp; omega)
    have bb3 := g3.below bb2 (by have := bb2.size; omega) (by intro a ha; injection ha with ha; subst ha; exact h.gmB)
    have z3' : w.heap.size ≤ w3.heap.size := by have := g3.by_.size; have := (d2.below 0).size; omega
    have s3 : Same w3 w3.drew := (Same.refl w3).drew
    have blk4 := blk3.same s3
    have row4 := row3.same s3
    have k4 := k3.same s3
    have m4 := m3.same s3
    have bb4 := bb3.trans (s3.below _)
    have kt4 := kt3.trans (KeepT.same s3)
    generalize hu4 : w3.drew = u4 at *
    have z4' : w.heap.size ≤ u4.heap.size := by have := (s3.below 0).size; omega
    have lw := fun {K : Fr → World → Prop} {f : Fr} {d : Option Nat} {w : World} => blk4.ldq (P := Try.prog) (K := K) (f := f) (d := d) (w := w) ty_ag_47 (wC_56 h.t48)
    simp (disch := first | with_reducible assumption | omega) only [push_cast, x_blk, x_cd, ↓reduceIte, Nat.reduceEqDiff, List.map_cons, List.map_nil, Int.reduceEq, Int.lt_irrefl, hu4, lw, lx k4, bs_rec twpEnc slT_47 _ (by decide)]
    refine ⟨(Below.refl _ _).alloc (Nat.le_refl _) _, ?_⟩
    refine app_rec twpEnc slT_47 row4 x (by omega) (by omega) (by have := bb4.size; omega) ?_
    intro Aw' cw' w5 row5 g5 hA5 hs5 hz5
    have kt5 := kt4.trans (KeepT.grew (es := [3]) (B := B) row4 (Nat.le_refl _) (by decide) g5)
    have blk5 := blk4.grown g5.by_ (fun e => row4.ne_blk blk4 (by decide) e.symm)
    have m5 := m4.grown g5.by_ (m4.ne_own row4)
    have bb5 := g5.below bb4 (by have := bb4.size; omega) row4.geB
    have hne5 : gm ≠ g := fun e => hgm e.symm
    simp (disch := first | with_reducible assumption | omega) only [push_cast, x_blk, x_cd, ↓reduceIte, Nat.reduceEqDiff, List.map_cons, List.map_nil, Int.reduceEq, Int.lt_irrefl]
    refine sto_slice blk5 (by kernel_rfl) 56 (by rw [wC_len h.t48]; decide) _ _ _ ?_
    intro w6 blk6 g6 z6
    rw [wC_set h.t48] at blk6
    have hln : (W ++ [x]).length = W.length + 1 := by simp
    have kt6 := kt5.trans (KeepT.grewB (es := [3]) (B := B) blk5 h.gB (by decide) g6)
    have m6 := m5.grown g6.by_ (by simpa using hne5)
    have row6 := row5.grew g6 (.inr (row5.ne_blk blk5 (by decide)))
    have bb6 := g6.below bb5 (by have := bb5.size; omega) (by intro a ha; injection ha with ha; subst ha; exact h.gB)
    have hkeep : KeepW g gm Aw w w6 := ⟨by have := g6.by_.size; have := g5.by_.size; omega, fun b hb h1 h2' h3 => by
      have e1 : u.heap[b]? = w.heap[b]? := by rw [← hu]; exact b1.block b hb
      have e2 : w3.heap[b]? = u.drew.heap[b]? := g3.by_.block b (by have : u.drew.heap.size = u.heap.size := rfl; omega) (by simpa using h2')
      have e4 : u4.heap[b]? = w3.heap[b]? := by rw [s3.heap]
      have e5 : w5.heap[b]? = u4.heap[b]? := g5.by_.block b (by omega) h3
      have e6 : w6.heap[b]? = w5.heap[b]? := g6.by_.block b (by have := g5.by_.size; omega) (by simpa using h1)
      rw [e6, e5, e4, e2]; exact e1⟩
    have hmv : MovedW w Aw Aw' := hA5.imp id fun ⟨g', h1, h2⟩ => ⟨g', h1, by omega⟩
    simp (disch := first | with_reducible assumption | omega) only [push_cast, x_blk, x_cd, ↓reduceIte, Nat.reduceEqDiff, List.map_cons, List.map_nil, Int.reduceEq, Int.lt_irrefl]
    exact fin_0 (hQ _ _ ⟨_, _, Aw', cw', rfl, .new (kvM_none hno), ⟨by rw [hln]; exact blk6, h.t48, m6, row6, fun hd hh => (h2.to_ hd hh).keepT kt6, h.gB, h.gmB⟩, bb6, hkeep, hmv⟩)
end Go.Proofs.Ytfckamjbeplceaa
