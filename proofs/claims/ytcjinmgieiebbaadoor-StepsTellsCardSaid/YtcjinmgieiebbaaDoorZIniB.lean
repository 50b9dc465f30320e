/-
  Chapter 10: the program's Places: by its contract.
-/
import Derived.Test.YtcjinmgieiebbaaDoorZIni
import Derived.Test.YtcjinmgieiebbaaDoorZApp2
namespace Go.Proofs.YtcjinmgieiebbaaDoor
set_option linter.unusedSimpArgs false
set_option linter.unusedVariables false
set_option linter.unusedSectionVars false
open Go.RowKit

section
variable {P : Program} {K : Fr → World → Prop} {u w : World} {f : Fr} {d : Option Nat} {A : Option Addr} {B e bytes t ty c sz n : Nat} {xs : List Value}
theorem sto_own_sl (hsz : 0 < sz) (hown : Own B e sz w A c n xs) (q : Nat) (hq : q < xs.length) (hty : tySize P ty = some 1) (S : Option Addr) (N C : Nat)
    (hk : ∀ w', Own B e sz w' A c n (xs.set q (.slice S N C)) → Grew w w' A → w'.heap.size = w.heap.size → K (updO f d undef) w') :
    Eff1 P K (do Instr.storeAt ty (.pointer (some (eA A q))) (.slice S N C); pure undef) f d w := by
  rcases hown.form with ⟨_, _, _, h0⟩ | ⟨g, rfl, _, hg⟩
  · rw [h0] at hq; simp at hq
  · have hs := hown.own.stored q (.slice S N C)
    have hc := (hown.rd hsz).cell q _ (List.getElem?_eq_getElem hq)
    rw [eA_zero] at hc ⊢
    have hf := hown.own.frozenAt (g := g) q
    refine ⟨undef, w.setCell ⟨g, q, none⟩ (.slice S N C), ?_, hk _ ⟨hs.1⟩ ⟨hs.2⟩ (by simp)⟩
    unfold tySize at hty
    cases hi : P.info? ty with
    | none => simp [hi] at hty
    | some ie =>
      simp only [hi, Option.map_some, Option.some.injEq] at hty
      simp [Instr.storeAt, Instr.sureAddr, storeVar, sizeOf, typeInfo, hi, hty, Value.cells, storeCells, addr_add, run_store_slice, stored, hc, hf]
theorem slice_mid {e' : TypeId} (hT : SlT P t e' sz bytes) (i j n : Nat) (hi : i ≤ j) (hj : j ≤ c) : Val1 P K (Instr.sliceAt t (.slice A n c) (some (.int .i64 i)) (some (.int .i64 j)) none) u f d w =
    K (updO f d (.slice (if c = i then A else A.map (·.add (i * sz))) (j - i) (c - i))) w :=
  val1_of u f d w fun w' _ => by
    obtain ⟨ii, z, hii, hz, hs, hb, hcc⟩ := hT.get
    have h1 : (0 : Int) ≤ (j : Int) ∧ (j : Int) ≤ (c : Int) := by omega
    have h2 : (0 : Int) ≤ (i : Int) ∧ (i : Int) ≤ (j : Int) := by omega
    simp [Instr.sliceAt, run_underlying hT.under, Instr.slice, Instr.sliceBounds, Instr.sliceBound, asIntOf, h1, h2, sizeOf, typeInfo, hii, hs]
    rw [if_pos hj, if_pos hi]
end
theorem Pc.set4 (p : Pc) (W : Option Addr) (cw : Nat) (v : List Int) : (Pc.cells p).set 4 (.slice W v.length cw) = Pc.cells ⟨p.s, W, cw, v⟩ := by
  unfold Pc.cells
  rw [List.set_append_right _ _ (by rw [setCells_4]; omega), setCells_4]
  rfl
theorem pc_set : ∀ (l : List Pc) (k : Nat) (p : Pc), l[k]? = some p → ∀ (W : Option Addr) (cw : Nat) (v : List Int), (l.flatMap Pc.cells).set (k * 5 + 4) (.slice W v.length cw) = (l.set k ⟨p.s, W, cw, v⟩).flatMap Pc.cells
  | [], k, p, h, _, _, _ => by simp at h
  | q :: l, 0, p, h, W, cw, v => by
    simp only [List.getElem?_cons_zero, Option.some.injEq] at h
    subst h
    rw [List.flatMap_cons, List.set_cons_zero, List.flatMap_cons, Nat.zero_mul, Nat.zero_add, List.set_append_left _ _ (by rw [pcEnc.len]; omega), Pc.set4]
  | q :: l, k + 1, p, h, W, cw, v => by
    simp only [List.getElem?_cons_succ] at h
    rw [List.flatMap_cons, List.set_cons_succ, List.flatMap_cons, List.set_append_right _ _ (by rw [pcEnc.len]; omega), pcEnc.len, show (k + 1) * 5 + 4 - 5 = k * 5 + 4 by omega, pc_set l k p h]

theorem lays_suffix {S : Type} [DecidableEq S] {step : S → Int → S} {es : List Int} {first : S} : ∀ n, ∃ pre, (lays step es first n).1 = pre ++ (lays step es first n).2
  | 0 => ⟨[], rfl⟩
  | _ + 1 => ⟨_, rfl⟩
theorem LGood.few {S : Type} [DecidableEq S] {step : S → Int → S} {es : List Int} {first : S} {U : S → Prop} {n : Nat} {A : List (S × List Int) × List (S × List Int)} (h : AGood step es first U n A) {next : List (S × List Int)} (hn : LGood step es first U A.1 (n + 1) next) (code : S → Nat) (N : Nat) (hc : ∀ s, U s → code s < N) (hi : ∀ s t, U s → U t → code s = code t → s = t) : (A.1 ++ next).length ≤ N :=
  BGood.len (step := step) (es := es) (U := U) ⟨by
    rw [List.map_append, List.nodup_append]
    refine ⟨h.nodup, hn.nodup, fun a ha b hb hab => ?_⟩
    obtain ⟨p, hp, rfl⟩ := List.mem_map.1 hb
    exact hn.apart p hp (by rw [← hab]; exact ha), fun p hp => by
    rcases List.mem_append.1 hp with hp | hp
    · exact h.univ p hp
    · exact hn.univ p hp⟩ code N hc hi
/-- The places of the layer, as they are read: in the row's block as it was when the layer began. -/
structure Snap (b0 frm : Nat) (lps : List Pc) (w : World) (A : Option Addr) : Prop where
  recs : Recs Pc.cells 5 (fun b => b = b0 ∧ b < w.heap.size) w (some ⟨b0, frm * 5, none⟩) lps
  lt : b0 < w.heap.size
  or : A = some ⟨b0, 0, none⟩ ∨ A.map (·.block) ≠ some b0
theorem Snap.keep {b0 frm : Nat} {lps : List Pc} {w w' : World} {A : Option Addr} (h : Snap b0 frm lps w A) (hz : w.heap.size ≤ w'.heap.size) (hk : w'.heap[b0]? = w.heap[b0]?) : Snap b0 frm lps w' A :=
  ⟨(h.recs.keep fun b hb => by rw [hb.1]; exact hk).mono fun b hb => ⟨hb.1, by omega⟩, by have := h.lt; omega, h.or⟩
theorem Snap.below {b0 frm : Nat} {lps : List Pc} {w w' : World} {A : Option Addr} (h : Snap b0 frm lps w A) (hb : Below w.heap.size w w') : Snap b0 frm lps w' A := h.keep hb.size (hb.block b0 h.lt)
theorem Snap.of_own {B b0 frm c e : Nat} {lps ps : List Pc} {w : World} (ho : OwnR Pc.cells B e 5 w (some ⟨b0, 0, none⟩) c ps) (hl : ∀ (i : Nat) (x : Pc), lps[i]? = some x → ps[frm + i]? = some x) : Snap b0 frm lps w (some ⟨b0, 0, none⟩) := by
  have hR := OwnR.recs ho pcEnc (by decide)
  have hlt := (ho.block rfl).2
  refine ⟨⟨fun _ => rfl, fun _ => ⟨rfl, hlt⟩, fun i a hi j v hv => ?_⟩, hlt, .inl rfl⟩
  have := hR.cell (frm + i) a (hl i a hi) j v hv
  rw [eA_zero] at this
  rw [eA_some, addr_add]
  rw [show frm * 5 + (i * 5 + j) = (frm + i) * 5 + j by rw [Nat.add_mul, Nat.add_assoc]]
  exact this
/-- append, seen from the layer -/
theorem Snap.app {B b0 frm c' e : Nat} {lps ps : List Pc} {w w' : World} {A A' : Option Addr} (h : Snap b0 frm lps w A) (hg : Grew w w' A) (ho : OwnR Pc.cells B e 5 w' A' c' ps) (hl : ∀ (i : Nat) (x : Pc), lps[i]? = some x → ps[frm + i]? = some x)
    (hA : A' = A ∨ ((∃ g, A' = some ⟨g, 0, none⟩ ∧ w.heap.size ≤ g) ∧ ∀ k, k < w.heap.size → w'.heap[k]? = w.heap[k]?)) : Snap b0 frm lps w' A' := by
  have hlt := h.lt
  rcases hA with rfl | ⟨⟨g, rfl, hgz⟩, hk⟩
  · rcases h.or with rfl | hne
    · exact Snap.of_own ho hl
    · have := h.keep hg.by_.size (hg.by_.block b0 hlt (fun e => hne e.symm))
      exact this
  · have := h.keep hg.by_.size (hk b0 hlt)
    exact ⟨this.recs, this.lt, .inr (by simp; omega)⟩
theorem Snap.sto {B b0 frm c e : Nat} {lps ps : List Pc} {w w' : World} {A : Option Addr} (h : Snap b0 frm lps w A) (hg : Grew w w' A) (ho : OwnR Pc.cells B e 5 w' A c ps) (hl : ∀ (i : Nat) (x : Pc), lps[i]? = some x → ps[frm + i]? = some x) : Snap b0 frm lps w' A :=
  h.app hg ho hl (.inl rfl)
theorem Snap.grewB {b0 frm g : Nat} {lps : List Pc} {w w' : World} {A : Option Addr} (h : Snap b0 frm lps w A) {i : Nat} (hg : Grew w w' (some ⟨g, i, none⟩)) (hne : b0 ≠ g) : Snap b0 frm lps w' A :=
  h.keep hg.by_.size (hg.by_.block b0 h.lt (by simpa using hne))
noncomputable abbrev layP (p : Plt) (n : Nat) : List (List Int × List Int) × List (List Int × List Int) := lays (backP p) p.seen (allP p) n
theorem prefix_at {α : Type} {l m : List α} (h : l <+: m) {i : Nat} {x : α} (hi : l[i]? = some x) : m[i]? = some x := by
  rw [prefix_getElem? h (getElem?_lt hi)]; exact hi
theorem prefix_set {α : Type} {l m : List α} (h : l <+: m) {k : Nat} (hk : l.length ≤ k) (x : α) : l <+: m.set k x := by
  obtain ⟨t, rfl⟩ := h
  rw [List.set_append_right _ _ hk]
  exact List.prefix_append _ _
def PlRes (p : Plt) (w : World) (v : Value) (w' : World) : Prop :=
  ∃ (A : Option Addr) (c : Nat) (ps : List Pc) (n : Nat), v = .slice A ps.length c ∧ Recs Pc.cells 5 (fun b => w.heap.size ≤ b ∧ b < w'.heap.size) w' A ps ∧ (∀ x ∈ ps, Ints (fun b => w.heap.size ≤ b ∧ b < w'.heap.size) w' x.W x.w) ∧ Below w.heap.size w w' ∧
    ps.map Pc.abs = (lays (backP p) p.seen (allP p) n).1 ∧ (lays (backP p) p.seen (allP p) n).2 = [] ∧ ps.length ≤ 64 ∧ n ≤ 64
theorem initial_Places {w : World} {a : PV} {p : Plt} (ha : IsP (· < w.heap.size) w a p) (hf : p.Fits) (hp : p.May) : Cal Tryd.prog 75 [a.val p] w (PlRes p w) := by
  have hmt : Tryd.prog.underlying 122 = some (.map 64 3) := Tryd.underlying122
  have hzi : (Tryd.prog.info? 3).map (·.zero) = some (some (.int .i64 0)) := by kernel_rfl
  have hm := hp.1
  have nP := hp.seen8
  have hU : ∀ s, UB p s → ∀ e ∈ p.seen, UB p (backP p s e) := fun s _ e _ => UB.back hm s e
  have hU0 : UB p (allP p) := UB.all hm
  have hU6 : ∀ s, UB p s → IsRow s 6 := fun s hs => hs.1.more hp.2.1
  have hU1 : ∀ s, UB p s → U1 s := fun s hs => ⟨hs.1.strict, hs.1.small hm.2.1⟩
  have good := lays_good (step := backP p) (es := p.seen) (first := allP p) hU hU0
  have few : ∀ n (next : List (List Int × List Int)), LGood (backP p) p.seen (allP p) (UB p) (lays (backP p) p.seen (allP p) n).1 (n + 1) next → ((lays (backP p) p.seen (allP p) n).1 ++ next).length ≤ 64 := fun n next hn =>
    LGood.few (good n) hn codeR 64 (fun s hs => codeR_lt (hU6 s hs)) (fun s t hs ht e => codeR_inj (hU6 s hs) (hU6 t ht) e)
  refine cal_initial_Places (by simp) 100000 fun Q hQ => ?_
  simp (disch := first | with_reducible assumption | omega) only [push_cast, x_blk, x_cd, ↓reduceIte, Nat.reduceEqDiff, List.map_cons, List.map_nil, Int.reduceEq, Int.lt_irrefl, F_initial_Places]
  refine blk_of (box_agg _ (a.cells p)) ?_
  intro w1 k1 b1 z1
  simp (disch := first | with_reducible assumption | omega) only [push_cast, x_blk, x_cd, ↓reduceIte, Nat.reduceEqDiff, List.map_cons, List.map_nil, Int.reduceEq, Int.lt_irrefl, k1.pM]
  refine call_of (initial_All (ha.up b1).m (by have := hm.1; omega) hm.2.1) ?_
  rintro v w2 ⟨rfl, b2⟩
  have k2 := k1.below b2 k1.lt
  have bb := b1.trans (b2.mono b1.size)
  simp (disch := first | with_reducible assumption | omega) only [push_cast, x_blk, x_cd, ↓reduceIte, Nat.reduceEqDiff, List.map_cons, List.map_nil, Int.reduceEq, Int.lt_irrefl, bl_pc0, bs_rec pcEnc slT_68 _ (by decide)]
  have o3 := own_rec pcEnc w2 ⟨allP p, none, 0, []⟩ 72
  have b3 : Below w2.heap.size w2 (w2.alloc (.cells (Pc.cells ⟨allP p, none, 0, []⟩).toArray 72)) := (Below.refl _ _).alloc (Nat.le_refl _) _
  have kB := Blk.new w2 72 (Pc.cells ⟨allP p, none, 0, []⟩)
  generalize w2.alloc (.cells (Pc.cells ⟨allP p, none, 0, []⟩).toArray 72) = w3 at *
  have k3 := k2.below b3 k2.lt
  replace o3 := o3.base (B' := w.heap.size) bb.size
  have hw3 : w.heap.size < w3.heap.size := k3.lt
  replace bb := bb.trans (b3.mono bb.size)
  simp (disch := first | with_reducible assumption | omega) only [push_cast, x_blk, x_cd, ↓reduceIte, Nat.reduceEqDiff, List.map_cons, List.map_nil, Int.reduceEq, Int.lt_irrefl, e_makeMap]
  refine map_made (k := 64) _ ?_
  intro w4 m4 b4 z4
  have k4 := k3.below b4 k3.lt
  have o4 := o3.below b4 (Nat.le_refl _)
  have zb3 := bb.size
  replace bb := bb.trans (b4.mono bb.size)
  replace kB := kB.below b4 kB.lt
  have hld4 := fun {K : Fr → World → Prop} {f : Fr} {d : Option Nat} {w' : World} => kB.ldSub (P := Tryd.prog) (K := K) (f := f) (d := d) (w := w') ty_ag_64 0 (vs := setCells (wordsOf (allP p))) (e4_set _) (Pc.cell0 ⟨allP p, none, 0, []⟩)
  have hsm : (some (⟨w2.heap.size, 0, none⟩ : Addr)).isSome = true := rfl
  simp (disch := first | with_reducible assumption | omega) only [push_cast, x_blk, x_cd, ↓reduceIte, Nat.reduceEqDiff, List.map_cons, List.map_nil, Int.reduceEq, Int.lt_irrefl, e_insert, hld4, Int.toNat_zero, Nat.zero_mul, eA_zero]
  refine map_new keyed_set hmt m4 (key_set _) (by simp) _ ?_
  intro w5 m5 g5 z5
  have o5 := o4.grew g5 (.inr fun e => m4.ne_own o4 e.symm)
  have k5 := k4.grown g5.by_ (by have := k3.lt; simp; omega)
  replace bb := g5.below bb bb.size (by intro a ha; injection ha with ha; subst ha; exact zb3)
  simp (disch := first | with_reducible assumption | omega) only [push_cast, x_blk, x_cd, ↓reduceIte, Nat.reduceEqDiff, List.map_cons, List.map_nil, Int.reduceEq, Int.lt_irrefl]
  refine loop_rule (fun f w' => ∃ (n frm : Nat) (ps : List Pc) (A : Option Addr) (c : Nat), n ≤ frm ∧ (layP p n).2.length + frm = ps.length ∧
      (f 1 = .pointer (some ⟨w.heap.size, 0, none⟩) ∧ f 3 = .slice A ps.length c ∧ f 4 = .map (some w3.heap.size) ∧ f 5 = .int .i64 frm) ∧ ps.map Pc.abs = (layP p n).1 ∧
      OwnR Pc.cells w.heap.size 72 5 w' A c ps ∧ (∀ x ∈ ps, RowF w.heap.size 3 w' x.W x.w) ∧ MapIs Tryd.prog 64 w' w3.heap.size (kvOf (ps.map (·.s))) ∧ Blk w' w.heap.size 27 (a.cells p) ∧ Below w.heap.size w w')
    (fun f _ => 65 - (intOf (f 5)).toNat) ⟨0, 0, [⟨allP p, none, 0, []⟩], _, 1, Nat.le_refl _, rfl, ⟨rfl, rfl, rfl, rfl⟩, rfl, o5, fun x hx => by rw [List.mem_singleton.1 hx]; exact RowF.nil _ _ _ _, m5, k5, bb⟩ ?_
  clear o5 m5 k5 bb g5 m4 o4 k4 b4 o3 k3 b3 k2 b2 k1 kB hld4 hsm z5 z4 zb3 b1 z1
  rintro f w6 ⟨n, frm, ps0, A0, c0, hnf, hlen, fr, hL, ho, hro, hmp, k1, bb⟩ J hJ
  have hps0 : ps0.length ≤ 64 := by
    have := (good n).few codeR 64 (fun s hs => codeR_lt (hU6 s hs)) (fun s t hs ht e => codeR_inj (hU6 s hs) (hU6 t ht) e)
    rw [← hL, List.length_map] at this
    exact this
  have hmu : (intOf (f 5)).toNat = frm := by rw [fr.2.2.2]; simp [intOf]
  by_cases hlt : frm < ps0.length
  case neg =>
    have hnil : (layP p n).2 = [] := List.eq_nil_of_length_eq_zero (by omega)
    simp (disch := first | with_reducible assumption | omega) only [push_cast, x_blk, x_cd, ↓reduceIte, Nat.reduceEqDiff, List.map_cons, List.map_nil, Int.reduceEq, Int.lt_irrefl, L_initial_Places_2, fr, hlt]
    exact fin_1 (hQ _ _ ⟨A0, c0, ps0, n, (by simp only [push_cast, ↓reduceIte, Nat.reduceEqDiff, Int.reduceEq, fr]), ((OwnR.recs ho pcEnc (by decide)).both (Recs.lt pcEnc (by decide) (OwnR.recs ho pcEnc (by decide)))).mono fun b hb => ⟨hb.1.1, hb.2⟩, fun x hx => (hro x hx).mid, bb, hL, hnil, hps0, by omega⟩)
  obtain ⟨b0, rfl⟩ : ∃ b0, A0 = some ⟨b0, 0, none⟩ := by
    rcases ho.form with ⟨_, h0, _⟩ | ⟨g, h, _⟩
    · omega
    · exact ⟨g, h⟩
  have hcap := ho.cap
  have h0m : b0 ≠ w3.heap.size := fun e => hmp.ne_own ho (by rw [e]; rfl)
  have hb0 := (ho.block rfl).2
  obtain ⟨lps, hlps⟩ : ∃ lps, ps0.drop frm = lps := ⟨_, rfl⟩
  have hll : lps.length = ps0.length - frm := by rw [← hlps]; simp
  have hat : ∀ (i : Nat) (x : Pc), lps[i]? = some x → ps0[frm + i]? = some x := fun i x hi => by rw [← hlps, List.getElem?_drop] at hi; exact hi
  have hlay : lps.map Pc.abs = (layP p n).2 := by
    obtain ⟨pre, hpre⟩ := lays_suffix (step := backP p) (es := p.seen) (first := allP p) n
    have hpl : pre.length = frm := by
      have hlen' : (lays (backP p) p.seen (allP p) n).2.length + frm = ps0.length := hlen
      have := congrArg List.length hpre
      rw [← hL, List.length_map, List.length_append] at this
      omega
    rw [← hlps, List.map_drop, hL, hpre, ← hpl, List.drop_left]
  have hsl := fun {K : Fr → World → Prop} {u w : World} {f : Fr} {d : Option Nat} => slice_mid (P := Tryd.prog) (K := K) (u := u) (w := w) (f := f) (d := d) (A := some ⟨b0, 0, none⟩) slT_68 frm ps0.length ps0.length (by omega) hcap
  rw [if_neg (by omega), Option.map_some, addr_add, Nat.zero_add, ← hll] at hsl
  simp (disch := first | with_reducible assumption | omega) only [push_cast, x_blk, x_cd, ↓reduceIte, Nat.reduceEqDiff, List.map_cons, List.map_nil, Int.reduceEq, Int.lt_irrefl, L_initial_Places_2, fr, hlt, hsl]
  have sn0 : Snap b0 frm lps w6 (some ⟨b0, 0, none⟩) := Snap.of_own ho hat
  have hrl0 : ∀ x ∈ lps, RowF w.heap.size 3 w6 x.W x.w := fun x hx => hro x (by rw [← hlps] at hx; exact List.mem_of_mem_drop hx)
  refine loop_rule (fun f' w' => ∃ (i : Nat) (ps : List Pc) (A : Option Addr) (c : Nat), i ≤ lps.length ∧
      (f' 1 = .pointer (some ⟨w.heap.size, 0, none⟩) ∧ f' 3 = .slice A ps.length c ∧ f' 4 = .map (some w3.heap.size) ∧ f' 5 = .int .i64 frm ∧ f' 6 = .int .i64 ps0.length ∧ f' 35 = .slice (some ⟨b0, frm * 5, none⟩) lps.length (c0 - frm) ∧ f' 36 = .int .i64 lps.length ∧ f' 37 = .int .i64 i) ∧
      ps.map Pc.abs = (layP p n).1 ++ lNext (backP p) p.seen (layP p n).1 (layP p n).2 i ∧ ps0 <+: ps ∧
      OwnR Pc.cells w.heap.size 72 5 w' A c ps ∧ (∀ x ∈ ps, RowF w.heap.size 3 w' x.W x.w) ∧ MapIs Tryd.prog 64 w' w3.heap.size (kvOf (ps.map (·.s))) ∧ Snap b0 frm lps w' A ∧ (∀ x ∈ lps, RowF w.heap.size 3 w' x.W x.w) ∧ Blk w' w.heap.size 27 (a.cells p) ∧ Below w.heap.size w w' ∧ w6.heap.size ≤ w'.heap.size)
    (fun f' _ => lps.length - (intOf (f' 37)).toNat) ⟨0, ps0, _, c0, Nat.zero_le _, (by simp only [push_cast, ↓reduceIte, Nat.reduceEqDiff, true_and, and_true, and_self, eq_self, fr]), by rw [hL]; unfold lNext; simp, List.prefix_refl _, ho, hro, hmp, sn0, hrl0, k1, bb, Nat.le_refl _⟩ ?_
  clear ho hro hmp sn0 hrl0 k1 bb fr hsl
  rintro f w7 ⟨i, ps, A, c, hi, fr, hM, hpf, ho, hro, hmp, sn, hrl, k1, bb, h67⟩ J2 hJ2
  have hlpl : lps.length = (layP p n).2.length := by rw [← hlay, List.length_map]
  by_cases hil : i < lps.length
  case neg =>
    obtain rfl : i = lps.length := by omega
    have hM2 : ps.map Pc.abs = (layP p (n + 1)).1 := by
      rw [hM, hlpl]; rfl
    have hlen2 : (layP p (n + 1)).2.length + ps0.length = ps.length := by
      have := congrArg List.length hM2
      rw [List.length_map] at this
      rw [this]
      show _ = ((layP p n).1 ++ (layP p (n + 1)).2).length
      rw [List.length_append, ← hL, List.length_map]; omega
    simp (disch := first | with_reducible assumption | omega) only [push_cast, x_blk, x_cd, ↓reduceIte, Nat.reduceEqDiff, List.map_cons, List.map_nil, Int.reduceEq, Int.lt_irrefl, L_initial_Places_1, fr, Nat.lt_irrefl]
    exact hJ _ _ ⟨n + 1, ps0.length, ps, A, c, by omega, hlen2, (by simp only [push_cast, ↓reduceIte, Nat.reduceEqDiff, true_and, and_true, and_self, eq_self, fr]), hM2, ho, hro, hmp, k1, bb⟩ (by rw [hmu]; simp only [push_cast, ↓reduceIte, Nat.reduceEqDiff, intOf, fr]; omega)
  have hxk : lps[i]? = some (lps[i]'hil) := List.getElem?_eq_getElem hil
  have hxm : lps[i]'hil ∈ lps := List.getElem_mem hil
  generalize lps[i]'hil = x at *
  have hxl : (layP p n).2[i]? = some x.abs := by rw [← hlay, List.getElem?_map, hxk]; rfl
  have hxg := (good n).layer x.abs (List.mem_of_getElem? hxl)
  have hxw : x.w.length = n := hxg.2.2.2
  have hldx := fun {K : Fr → World → Prop} {f : Fr} {d : Option Nat} {w' : World} => sn.recs.ldAll (P := Tryd.prog) (K := K) (f := f) (d := d) (w := w') pcEnc ty_ag_72 hxk ty_sz_72
  have hsm : (some (⟨b0, frm * 5, none⟩ : Addr)).isSome = true := rfl
  simp (disch := first | with_reducible assumption | omega) only [push_cast, x_blk, x_cd, ↓reduceIte, Nat.reduceEqDiff, List.map_cons, List.map_nil, Int.reduceEq, Int.lt_irrefl, L_initial_Places_1, fr, hil, hldx]
  refine blk_of (cs := Pc.cells ⟨[], none, 0, []⟩) al_72 ?_
  intro w8 k8 b8 z8
  simp (disch := first | with_reducible assumption | omega) only [push_cast, x_blk, x_cd, ↓reduceIte, Nat.reduceEqDiff, List.map_cons, List.map_nil, Int.reduceEq, Int.lt_irrefl]
  refine sto_blk k8 (cs := Pc.cells x) (by rw [pcEnc.len]; exact ty_sz_72) (by rw [pcEnc.len, pcEnc.len]) (List.all_eq_true.2 (pcEnc.one x)) ?_
  intro w9 k9 g9 z9
  have b79 := g9.below b8 b8.size (by intro a ha; injection ha with ha; subst ha; exact Nat.le_refl _)
  have hAg : A.map (·.block) ≠ some w7.heap.size := fun e => by have := ho.ltB e.symm; omega
  have h0g : b0 ≠ w7.heap.size := by have := sn.lt; omega
  have hwg : w3.heap.size < w7.heap.size := hmp.lt
  have hkg := k1.lt
  replace ho := ho.below b79 (Nat.le_refl _)
  replace hro : ∀ x ∈ ps, RowF w.heap.size 3 w9 x.W x.w := fun x hx => (hro x hx).below b79
  replace hrl : ∀ x ∈ lps, RowF w.heap.size 3 w9 x.W x.w := fun x hx => (hrl x hx).below b79
  replace hmp := hmp.below b79 hmp.lt
  replace sn := sn.below b79
  replace k1 := k1.below b79 k1.lt
  replace bb := bb.trans (b79.mono bb.size)
  have z79 := b79.size
  simp (disch := first | with_reducible assumption | omega) only [push_cast, x_blk, x_cd, ↓reduceIte, Nat.reduceEqDiff, List.map_cons, List.map_nil, Int.reduceEq, Int.lt_irrefl, fr, k1.p5]
  refine loop_rule (fun f' w' => ∃ (j : Nat) (ps : List Pc) (A : Option Addr) (c : Nat), j ≤ p.seen.length ∧
      (f' 1 = .pointer (some ⟨w.heap.size, 0, none⟩) ∧ f' 3 = .slice A ps.length c ∧ f' 4 = .map (some w3.heap.size) ∧ f' 5 = .int .i64 frm ∧ f' 6 = .int .i64 ps0.length ∧ f' 8 = .pointer (some ⟨w7.heap.size, 0, none⟩) ∧ f' 35 = .slice (some ⟨b0, frm * 5, none⟩) lps.length (c0 - frm) ∧ f' 36 = .int .i64 lps.length ∧ f' 37 = .int .i64 i ∧ f' 42 = .slice a.Ap p.seen.length a.cp ∧ f' 43 = .int .i64 p.seen.length ∧ f' 44 = .int .i64 j) ∧
      ps.map Pc.abs = (layP p n).1 ++ lPart (backP p) p.seen (layP p n).1 (layP p n).2 i j ∧ ps0 <+: ps ∧ A.map (·.block) ≠ some w7.heap.size ∧
      OwnR Pc.cells w.heap.size 72 5 w' A c ps ∧ (∀ x ∈ ps, RowF w.heap.size 3 w' x.W x.w) ∧ MapIs Tryd.prog 64 w' w3.heap.size (kvOf (ps.map (·.s))) ∧ Snap b0 frm lps w' A ∧ (∀ x ∈ lps, RowF w.heap.size 3 w' x.W x.w) ∧ Blk w' w7.heap.size 72 (Pc.cells x) ∧ Blk w' w.heap.size 27 (a.cells p) ∧ Below w.heap.size w w' ∧ w9.heap.size ≤ w'.heap.size)
    (fun f' _ => p.seen.length - (intOf (f' 44)).toNat) ⟨0, ps, A, c, Nat.zero_le _, (by simp only [push_cast, ↓reduceIte, Nat.reduceEqDiff, true_and, and_true, and_self, eq_self, fr]), by rw [lPart_zero]; exact hM, hpf, hAg, ho, hro, hmp, sn, hrl, k9, k1, bb, Nat.le_refl _⟩ ?_
  have hmu2 : (intOf (f 37)).toNat = i := by rw [fr.2.2.2.2.2.2.2]; simp [intOf]
  clear ho hro hmp sn hrl k9 k8 k1 bb fr hM hpf hAg hldx b8 b79 g9
  rintro f w10 ⟨j, ps, A, c, hj, fr, hM, hpf, hAg, ho, hro, hmp, sn, hrl, k8, k1, bb, h910⟩ J3 hJ3
  by_cases hjt : j < p.seen.length
  case neg =>
    obtain rfl : j = p.seen.length := by omega
    rw [lPart_all (by omega)] at hM
    simp (disch := first | with_reducible assumption | omega) only [push_cast, x_blk, x_cd, ↓reduceIte, Nat.reduceEqDiff, List.map_cons, List.map_nil, Int.reduceEq, Int.lt_irrefl, L_initial_Places_0, fr, Nat.lt_irrefl]
    exact hJ2 _ _ ⟨i + 1, ps, A, c, hil, (by simp only [push_cast, ↓reduceIte, Nat.reduceEqDiff, true_and, and_true, and_self, eq_self, fr]), hM, hpf, ho, hro, hmp, sn, hrl, k1, bb, by omega⟩ (by rw [hmu2]; simp only [push_cast, ↓reduceIte, Nat.reduceEqDiff, intOf, fr]; omega)
  have hlg := lays_part (step := backP p) hU (good n) i j
  have hlg' := lays_part (step := backP p) hU (good n) i (j + 1)
  have hsucc := lPart_succ (step := backP p) (old := (layP p n).1) hxl hjt
  have fewj := few n _ hlg
  rw [← hM, List.length_map] at fewj
  have hIe := (ha.up bb).seen
  have hAe := hIe.isSome (by omega)
  have hein := getD_mem p.seen 0 j hjt
  have hlde := fun {K : Fr → World → Prop} {f : Fr} {d : Option Nat} {w : World} => hIe.ld (P := Tryd.prog) (K := K) (f := f) (d := d) (w := w) ty_ag_3 j hjt
  generalize p.seen.getD j 0 = e at *
  have hlds := fun {K : Fr → World → Prop} {f : Fr} {d : Option Nat} {w' : World} => k8.ldSub (P := Tryd.prog) (K := K) (f := f) (d := d) (w := w') ty_ag_64 0 (vs := setCells (wordsOf x.s)) (e4_set _) x.cell0
  simp (disch := first | with_reducible assumption | omega) only [push_cast, x_blk, x_cd, ↓reduceIte, Nat.reduceEqDiff, List.map_cons, List.map_nil, Int.reduceEq, Int.lt_irrefl, L_initial_Places_0, fr, hjt, hlde, k1.pA', hlds]
  refine call_of (initial_Back (ha.up bb) hf hm x.s e) ?_
  rintro v w11 ⟨rfl, b11⟩
  have hs1 : backP p x.abs.1 e = backP p x.s e := rfl
  have hUs : UB p (backP p x.s e) := UB.back hm _ _
  rw [show x.abs.2 = x.w from rfl] at *
  generalize hs : backP p x.s e = s at *
  simp (disch := first | with_reducible assumption | omega) only [push_cast, x_blk, x_cd, ↓reduceIte, Nat.reduceEqDiff, List.map_cons, List.map_nil, Int.reduceEq, Int.lt_irrefl, fr]
  refine blk_of (cs := setCells (wordsOf [])) al_64 ?_
  intro w12 k12 b12 z12
  replace b12 := b11.trans (b12.mono b11.size)
  simp (disch := first | with_reducible assumption | omega) only [push_cast, x_blk, x_cd, ↓reduceIte, Nat.reduceEqDiff, List.map_cons, List.map_nil, Int.reduceEq, Int.lt_irrefl]
  refine sto_blk k12 (cs := setCells (wordsOf s)) (e4_set _) (by rw [setCells_4, setCells_4]) (setCells_one _) ?_
  intro w13 k13 g13 z13
  have b13 := g13.below b12 b12.size (by intro a ha; injection ha with ha; subst ha; exact b11.size)
  have k8' := k8.below b13 k8.lt
  have hldw := fun {w' : World} (h : Blk w' w7.heap.size 72 (Pc.cells x)) {K : Fr → World → Prop} {f : Fr} {d : Option Nat} {w : World} => h.ld (P := Tryd.prog) (K := K) (f := f) (d := d) (w := w) ty_ag_22 4 (by rw [pcEnc.len]; omega)
  have hc4 : (Pc.cells x).getD 4 undef = .slice x.W x.w.length x.cw := by rw [List.getD_eq_getElem?_getD, x.cell4]; rfl
  rw [hc4] at hldw
  have oE := own_int1 w13 e 3
  have b14 := b13.alloc b13.size (.cells [.int .i64 e].toArray 3)
  have k13' := k13.alloc (.cells [.int .i64 e].toArray 3)
  have k8'' := k8'.alloc (.cells [.int .i64 e].toArray 3)
  simp (disch := first | with_reducible assumption | omega) only [push_cast, x_blk, x_cd, ↓reduceIte, Nat.reduceEqDiff, List.map_cons, List.map_nil, Int.reduceEq, Int.lt_irrefl, fr, bs_22, hldw k8'']
  generalize w13.alloc (Obj.cells [.int .i64 e].toArray 3) = w14 at *
  have hxr := ((hrl x hxm).below b14).lt
  have hoEb := (oE.block rfl)
  have hz13 : (some (⟨w13.heap.size, 0, none⟩ : Addr)).getD default = ⟨w13.heap.size, 0, none⟩ := rfl
  rw [hz13] at hoEb
  refine app_ints (l := [e]) slT_22 oE hxr (by simp; omega) (by have := hoEb.2; show w13.heap.size ≤ _; omega) ?_
  intro W15 c15 w15 o15 hg15 _ z15
  have b15 := hg15.below b14 b14.size (by intro a ha; injection ha with ha; subst ha; exact b13.size)
  have hk13 := k13.lt
  have k15 := k13'.grown hg15.by_ (by simp; omega)
  replace ho := ho.below b15 (Nat.le_refl _)
  replace hro : ∀ x ∈ ps, RowF w.heap.size 3 w15 x.W x.w := fun x hx => (hro x hx).below b15
  replace hrl : ∀ x ∈ lps, RowF w.heap.size 3 w15 x.W x.w := fun x hx => (hrl x hx).below b15
  replace hmp := hmp.below b15 hmp.lt
  replace sn := sn.below b15
  replace k8 := k8.below b15 k8.lt
  replace k1 := k1.below b15 k1.lt
  have z10 := bb.size
  replace bb := bb.trans (b15.mono bb.size)
  have z1015 := b15.size
  have z13 := b13.size
  have z11 := b11.size
  replace o15 : OwnI w13.heap.size 3 w15 W15 c15 (e :: x.w) := o15
  have r15 : RowF w.heap.size 3 w15 W15 (e :: x.w) := RowF.of_own o15 (by omega)
  clear b14 oE hg15 hxr k13' k8'' k8' g13 hlds hlde hIe
  rw [show ([e] : List Int).length + x.w.length = (e :: x.w).length by simp; omega]
  have hl15 := fun {K : Fr → World → Prop} {f : Fr} {d : Option Nat} {w' : World} => k15.setA (K := K) (f := f) (d := d) (w := w') (wordsOf_words _) ty_ag_64 ty_sz_64
  simp (disch := first | with_reducible assumption | omega) only [push_cast, x_blk, x_cd, ↓reduceIte, Nat.reduceEqDiff, List.map_cons, List.map_nil, Int.reduceEq, Int.lt_irrefl, fr, hl15, v_lookup]
  have hnl : (e :: x.w).length ≤ 65 := by simp; omega
  have hallU : ∀ y ∈ ps, UB p y.s := fun y hy => by
    have : y.abs ∈ ps.map Pc.abs := List.mem_map.2 ⟨y, hy, rfl⟩
    rw [hM] at this
    rcases List.mem_append.1 this with h | h
    · exact (good n).univ _ h
    · exact hlg.univ _ h
  have hL0 : (layP p n).1.length = ps0.length := by rw [← hL, List.length_map]
  refine map_look keyed_set hmt hzi true hmp (key_set _) (fun v hv => ?_) fun hno => ?_
  · obtain ⟨q, t, hit, hte⟩ := kvOf_mem hv
    injection hte with hte hvi
    subst hvi
    rw [List.getElem?_map] at hit
    obtain ⟨y, hy, rfl⟩ := Option.map_eq_some_iff.1 hit
    have hym := List.mem_of_getElem? hy
    have hys := setV_inj (hU1 _ (hallU y hym)) (hU1 _ hUs) hte.symm
    have hyq : (ps.map Pc.abs)[q]? = some (s, y.w) := by rw [List.getElem?_map, hy, ← hys]; rfl
    have hql := getElem?_lt hy
    by_cases hqo : q < ps0.length
    · have hold : backP p x.abs.1 e ∈ (layP p n).1.map (·.1) := by
        rw [hs1]
        rw [hM, List.getElem?_append_left (by omega)] at hyq
        exact List.mem_map.2 ⟨_, List.mem_of_getElem? hyq, rfl⟩
      rw [lAdd_old hold] at hsucc
      have hge : ¬ ((ps0.length : Int) ≤ (q : Int)) := by omega
      simp (disch := first | with_reducible assumption | omega) only [push_cast, x_blk, x_cd, ↓reduceIte, Nat.reduceEqDiff, List.map_cons, List.map_nil, Int.reduceEq, Int.lt_irrefl, fr, hge]
      exact hJ3 _ _ ⟨j + 1, ps, A, c, hjt, (by simp only [push_cast, ↓reduceIte, Nat.reduceEqDiff, true_and, and_true, and_self, eq_self, fr]), by rw [hsucc]; exact hM, hpf, hAg, ho, hro, hmp, sn, hrl, k8, k1, bb, by omega⟩ (by simp only [push_cast, ↓reduceIte, Nat.reduceEqDiff, intOf, fr]; omega)
    · have hge : (ps0.length : Int) ≤ (q : Int) := by omega
      have hnq : (lPart (backP p) p.seen (layP p n).1 (layP p n).2 i j)[q - ps0.length]? = some (s, y.w) := by
        rw [hM, List.getElem?_append_right (by omega), hL0] at hyq
        exact hyq
      have hnold : backP p x.abs.1 e ∉ (layP p n).1.map (·.1) := by
        rw [hs1]
        exact hlg.apart _ (List.mem_of_getElem? hnq)
      have hyw := (hlg.run _ (List.mem_of_getElem? hnq)).2.2
      have hyw : y.w.length = n + 1 := hyw
      have hR := Recs.lt pcEnc (by decide) (OwnR.recs ho pcEnc (by decide))
      have hA := ho.isSome (by omega)
      have hldy := fun {K : Fr → World → Prop} {f : Fr} {d : Option Nat} {w' : World} => hR.ld (P := Tryd.prog) (K := K) (f := f) (d := d) (w := w') ty_ag_22 hy (j := 4) y.cell4
      simp (disch := first | with_reducible assumption | omega) only [push_cast, x_blk, x_cd, ↓reduceIte, Nat.reduceEqDiff, List.map_cons, List.map_nil, Int.reduceEq, Int.lt_irrefl, fr, hge, hql, hldy]
      refine call_of (initial_lesser r15.lt (hro y hym).lt c15 y.cw (by omega)) ?_
      rintro v w16 ⟨rfl, s16⟩
      replace ho := ho.same s16
      replace hro : ∀ x ∈ ps, RowF w.heap.size 3 w16 x.W x.w := fun x hx => (hro x hx).same s16
      replace hrl : ∀ x ∈ lps, RowF w.heap.size 3 w16 x.W x.w := fun x hx => (hrl x hx).same s16
      replace hmp := hmp.same s16
      replace sn := sn.below (s16.below _)
      replace k8 := k8.same s16
      replace k1 := k1.same s16
      replace bb := bb.trans (s16.below _)
      replace r15 := r15.same s16
      have z16 : w16.heap.size = w15.heap.size := by rw [s16.heap]
      by_cases hsh : Shl (e :: x.w) y.w
      · rw [lAdd_set hnold hlg.nodup (by rw [hs1]; exact hnq) hsh, hs1] at hsucc
        have hy' : ps.set q ⟨y.s, W15, c15, e :: x.w⟩ = ps.set q ⟨s, W15, c15, e :: x.w⟩ := by rw [hys]
        simp (disch := first | with_reducible assumption | omega) only [push_cast, x_blk, x_cd, ↓reduceIte, Nat.reduceEqDiff, List.map_cons, List.map_nil, Int.reduceEq, Int.lt_irrefl, decide_eq_true hsh, fr, hql]
        refine sto_own_sl (by decide) ho (q * 5 + 4) (by rw [flatMap_len pcEnc]; omega) (by kernel_rfl) _ _ _ ?_
        intro w17 o17 g17 z17
        rw [pc_set ps q y hy, hy'] at o17
        have o17' : OwnR Pc.cells w.heap.size 72 5 w17 A c (ps.set q ⟨s, W15, c15, e :: x.w⟩) := by unfold OwnR; rw [List.length_set]; exact o17
        have hpf' := prefix_set hpf (k := q) (by omega) ⟨s, W15, c15, e :: x.w⟩
        have hss : (ps.set q ⟨s, W15, c15, e :: x.w⟩).map (·.s) = ps.map (·.s) := by
          apply List.ext_getElem?
          intro k
          rw [List.getElem?_map, List.getElem?_map, List.getElem?_set]
          by_cases ek : q = k
          · subst ek; rw [if_pos rfl, if_pos hql, hy]; exact congrArg some hys.symm
          · rw [if_neg ek]
        have hM' : (ps.set q ⟨s, W15, c15, e :: x.w⟩).map Pc.abs = (layP p n).1 ++ lPart (backP p) p.seen (layP p n).1 (layP p n).2 i (j + 1) := by
          rw [hsucc, List.map_set, hM, List.set_append_right _ _ (by omega), hL0]; rfl
        simp (disch := first | with_reducible assumption | omega) only [push_cast, x_blk, x_cd, ↓reduceIte, Nat.reduceEqDiff, List.map_cons, List.map_nil, Int.reduceEq, Int.lt_irrefl, fr]
        refine hJ3 _ _ ⟨j + 1, ps.set q ⟨s, W15, c15, e :: x.w⟩, A, c, hjt, (by simp only [push_cast, ↓reduceIte, Nat.reduceEqDiff, true_and, and_true, and_self, eq_self, fr, List.length_set]), hM', hpf', hAg, o17', fun r hr => ?_, by rw [hss]; exact hmp.grown g17.by_ (hmp.ne_own ho), sn.sto g17 o17' (fun i x hi => prefix_at hpf' (hat i x hi)), fun r hr => (hrl r hr).grew ho (by decide) g17, k8.grown g17.by_ (fun e => hAg e.symm), k1.grown g17.by_ (ho.ne_blk k1 (by decide)).symm, g17.below bb bb.size ho.geB, by have := g17.by_.size; omega⟩ (by simp only [push_cast, ↓reduceIte, Nat.reduceEqDiff, intOf, fr]; omega)
        rcases List.mem_or_eq_of_mem_set hr with hr | rfl
        · exact (hro r hr).grew ho (by decide) g17
        · exact r15.grew ho (by decide) g17
      · rw [lAdd_keep hnold hlg.nodup (by rw [hs1]; exact hnq) hsh] at hsucc
        simp (disch := first | with_reducible assumption | omega) only [push_cast, x_blk, x_cd, ↓reduceIte, Nat.reduceEqDiff, List.map_cons, List.map_nil, Int.reduceEq, Int.lt_irrefl, decide_eq_false hsh, fr]
        exact hJ3 _ _ ⟨j + 1, ps, A, c, hjt, (by simp only [push_cast, ↓reduceIte, Nat.reduceEqDiff, true_and, and_true, and_self, eq_self, fr]), by rw [hsucc]; exact hM, hpf, hAg, ho, hro, hmp, sn, hrl, k8, k1, bb, by omega⟩ (by simp only [push_cast, ↓reduceIte, Nat.reduceEqDiff, intOf, fr]; omega)
  · have hnin : ∀ z ∈ ps, z.s ≠ s := fun z hz e => by
      obtain ⟨k, hk⟩ := List.mem_iff_getElem?.1 hz
      exact hno _ (kvOf_has (L := ps.map (·.s)) (i := k) (t := z.s) (by rw [List.getElem?_map, hk]; rfl)) (by rw [e])
    have hnab : s ∉ (ps.map Pc.abs).map (·.1) := fun h => by
      obtain ⟨r, hr, hre⟩ := List.mem_map.1 h
      obtain ⟨z, hz, rfl⟩ := List.mem_map.1 hr
      exact hnin z hz hre
    rw [hM, List.map_append] at hnab
    have hnold : backP p x.abs.1 e ∉ (layP p n).1.map (·.1) := by rw [hs1]; exact fun h => hnab (List.mem_append_left _ h)
    have hnnew : backP p x.abs.1 e ∉ (lPart (backP p) p.seen (layP p n).1 (layP p n).2 i j).map (·.1) := by rw [hs1]; exact fun h => hnab (List.mem_append_right _ h)
    rw [lAdd_new hnold hnnew, hs1] at hsucc
    have hM' : ∀ (W : Option Addr) (cw : Nat), (ps ++ [(⟨s, W, cw, e :: x.w⟩ : Pc)]).map Pc.abs = (layP p n).1 ++ lPart (backP p) p.seen (layP p n).1 (layP p n).2 i (j + 1) := fun W cw => by
      rw [hsucc, List.map_append, hM, List.append_assoc]; rfl
    simp (disch := first | with_reducible assumption | omega) only [push_cast, x_blk, x_cd, ↓reduceIte, Nat.reduceEqDiff, List.map_cons, List.map_nil, Int.reduceEq, Int.lt_irrefl, fr, hl15, e_mapUpdate]
    refine map_new keyed_set hmt hmp (key_set _) hno _ ?_
    intro w16 m16 g16 z16
    replace ho := ho.grew g16 (.inr fun e => hmp.ne_own ho e.symm)
    replace k15 := k15.grown g16.by_ (by have := hmp.lt; simp; omega)
    replace hro : ∀ x ∈ ps, RowF w.heap.size 3 w16 x.W x.w := fun x hx => (hro x hx).grewM hmp g16
    replace hrl : ∀ x ∈ lps, RowF w.heap.size 3 w16 x.W x.w := fun x hx => (hrl x hx).grewM hmp g16
    replace r15 := r15.grewM hmp g16
    replace sn := sn.grewB g16 h0m
    replace k8 := k8.grown g16.by_ (by simp; omega)
    replace k1 := k1.grown g16.by_ (by simp; omega)
    replace bb := g16.below bb bb.size (by intro a ha; injection ha with ha; subst ha; show w.heap.size ≤ w3.heap.size; omega)
    have hl16 := fun {K : Fr → World → Prop} {f : Fr} {d : Option Nat} {w' : World} => k15.setA (K := K) (f := f) (d := d) (w := w') (wordsOf_words _) ty_ag_64 ty_sz_64
    simp (disch := first | with_reducible assumption | omega) only [push_cast, x_blk, x_cd, ↓reduceIte, Nat.reduceEqDiff, List.map_cons, List.map_nil, Int.reduceEq, Int.lt_irrefl, fr, hl16, bl_pcx ⟨s, W15, c15, e :: x.w⟩, bs_rec pcEnc slT_68 _ (by decide)]
    refine app_rec2 pcEnc slT_68 ho ⟨s, W15, c15, e :: x.w⟩ (by omega) (by omega) bb.size ?_
    intro A' c' w17 oR g17 hA17 hs17 hz17
    have hpf' : ps0 <+: ps ++ [⟨s, W15, c15, e :: x.w⟩] := hpf.trans (List.prefix_append _ _)
    have hAg' : A'.map (·.block) ≠ some w7.heap.size := by
      rcases hA17 with rfl | ⟨⟨g, rfl, hg⟩, _⟩
      · exact hAg
      · have := k8.lt; simp; omega
    have sn' := sn.app g17 oR (fun i x hi => prefix_at hpf' (hat i x hi)) hA17
    simp (disch := first | with_reducible assumption | omega) only [push_cast, x_blk, x_cd, ↓reduceIte, Nat.reduceEqDiff, List.map_cons, List.map_nil, Int.reduceEq, Int.lt_irrefl, fr]
    refine hJ3 _ _ ⟨j + 1, ps ++ [⟨s, W15, c15, e :: x.w⟩], A', c', hjt, (by simp only [push_cast, ↓reduceIte, Nat.reduceEqDiff, true_and, and_true, and_self, eq_self, fr, List.length_append, List.length_cons, List.length_nil]), hM' _ _, hpf', hAg', oR, fun r hr => ?_, ?_, sn', fun r hr => (hrl r hr).grew ho (by decide) g17, k8.grown g17.by_ (fun e => hAg e.symm), k1.grown g17.by_ (ho.ne_blk k1 (by decide)).symm, g17.below bb bb.size ho.geB, by omega⟩ (by simp only [push_cast, ↓reduceIte, Nat.reduceEqDiff, intOf, fr]; omega)
    · rcases List.mem_append.1 hr with hr | hr
      · exact (hro r hr).grew ho (by decide) g17
      · rw [List.mem_singleton.1 hr]; exact r15.grew ho (by decide) g17
    · rw [kvS_snoc]
      exact m16.grown g17.by_ (m16.ne_own ho)
end Go.Proofs.YtcjinmgieiebbaaDoor
