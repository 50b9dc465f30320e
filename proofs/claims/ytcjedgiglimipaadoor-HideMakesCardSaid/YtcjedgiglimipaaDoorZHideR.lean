/-
  Chapter 5's reference: the machine of what is seen: by its contract.
-/
import Derived.Test.YtcjedgiglimipaaDoorZRef5
import Derived.Test.YtcjedgiglimipaaDoorZSame
namespace Go.Proofs.YtcjedgiglimipaaDoor
set_option linter.unusedSimpArgs false
set_option linter.unusedVariables false
set_option linter.unusedSectionVars false
open Go.RowKit

def HideRes (m : Mach) (seen : List Int) (w : World) (v : Value) (w' : World) : Prop :=
  ∃ (d : MV) (dm : Mach) (e : Int), v = .tuple #[d.val dm, .int .i64 e] ∧ IsM (· < w'.heap.size) w' d dm ∧ Below w.heap.size w w' ∧
    ((¬ (m.May ∧ IsRow seen m.events) ∧ dm = mach0 ∧ d = mv0 ∧ e = 2) ∨ ((m.May ∧ IsRow seen m.events) ∧ (hideA m seen m.states.toNat).length ≤ 4096 ∧ dm = hideM m seen ∧ e = 0) ∨
      ((m.May ∧ IsRow seen m.events) ∧ 4096 < (hideA m seen m.states.toNat).length ∧ dm = mach0 ∧ d = mv0 ∧ e = 1))
theorem bl_mach014 {K : Fr → World → Prop} {u : World} {f : Fr} {d : Option Nat} {w : World} (x y : Int) (A : Option Addr) (n c : Nat) :
    Val1 Tryd.prog K (Instr.build 25 #[(0, .int .i64 x), (1, .int .i64 y), (4, .slice A n c)]) u f d w = K (updO f d (.agg [.int .i64 x, .int .i64 y, .slice none 0 0, .slice none 0 0, .slice A n c].toArray)) w := by
  refine bld_of ?_
  rw [built_of blt_mach]
  rw [fill_cons (off := 0) (size := 1) rfl rfl (by decide), fill_cons (off := 1) (size := 1) rfl rfl (by simp [putL, Value.cells]), fill_cons (off := 4) (size := 1) rfl rfl (by simp [putL, Value.cells]), fill_nil]
  simp [putL, Value.cells]
theorem row_oneH {m : Mach} (hm : m.May) (n : Nat) (hn : (n : Int) < m.states) : IsRow [(n : Int)] m.states := IsRow.of_strict (List.pairwise_singleton _ _) fun x hx => by
  have := hm.2.1
  rw [List.mem_singleton.1 hx]; omega
theorem row_lenH {l : List Int} {b : Int} (h : IsRow l b) : l.length ≤ b.toNat := by
  have := nodup_nat_len b.toNat (l.map Int.toNat) (by
    rw [List.nodup_iff_pairwise_ne, List.pairwise_map]
    exact (List.Pairwise.imp (R := (· < ·)) (S := (· ≠ ·)) (fun h => by omega) h.strict).imp_of_mem fun {x y} hx hy hxy e => hxy (by have := h.mem hx; have := h.mem hy; omega)) fun x hx => by
    obtain ⟨y, hy, rfl⟩ := List.mem_map.1 hx
    have := h.mem hy; omega
  simpa using this
theorem ref5_Hide {w : World} {a : MV} {m : Mach} (h : IsM (· < w.heap.size) w a m) (hf : m.Fits) {A : Option Addr} {c : Nat} {seen : List Int} (hs : Ints (· < w.heap.size) w A seen) (ns : seen.length ≤ 17592186043904) :
    Cal Tryd.prog 20 [a.val m, .slice A seen.length c] w (HideRes m seen w) := by
  have e5 : ∀ (a : MV) (m : Mach), tySize Tryd.prog 25 = some (a.cells m).length := fun a m => ty_sz_25
  refine cal_ref5_Hide (by simp) 100000 fun Q hQ => ?_
  simp (disch := first | with_reducible assumption | omega) only [push_cast, x_blk, x_cd, ↓reduceIte, Nat.reduceEqDiff, List.map_cons, List.map_nil, Int.reduceEq, Int.lt_irrefl, F_ref5_Hide]
  refine blk_of (box_agg _ (a.cells m)) ?_
  intro w1 k1 b1 z1
  simp (disch := first | with_reducible assumption | omega) only [push_cast, x_blk, x_cd, ↓reduceIte, Nat.reduceEqDiff, List.map_cons, List.map_nil, Int.reduceEq, Int.lt_irrefl]
  refine blk_of (cs := mv0.cells mach0) al_25 ?_
  intro w2 k2 b2 z2
  replace k1 := k1.below b2 k1.lt
  have bb := b1.trans (b2.mono b1.size)
  simp (disch := first | with_reducible assumption | omega) only [push_cast, x_blk, x_cd, ↓reduceIte, Nat.reduceEqDiff, List.map_cons, List.map_nil, Int.reduceEq, Int.lt_irrefl, k1.mA ty_ag_25 ty_sz_25]
  refine call_of (ref2_May (h.up bb) hf) ?_
  rintro v w3 ⟨rfl, b3⟩
  replace k1 := k1.below b3 k1.lt
  replace k2 := k2.below b3 k2.lt
  replace bb := bb.trans (b3.mono bb.size)
  have z2' : w.heap.size ≤ w1.heap.size := by omega
  by_cases p1 : m.May
  case neg =>
    simp (disch := first | with_reducible assumption | omega) only [push_cast, x_blk, x_cd, ↓reduceIte, Nat.reduceEqDiff, List.map_cons, List.map_nil, Int.reduceEq, Int.lt_irrefl, p1, mach0_built]
    refine sto_blk k2 (cs := mv0.cells mach0) (e5 _ _) rfl (by rfl) ?_
    intro w4 k4 g4 z4
    simp (disch := first | with_reducible assumption | omega) only [push_cast, x_blk, x_cd, ↓reduceIte, Nat.reduceEqDiff, List.map_cons, List.map_nil, Int.reduceEq, Int.lt_irrefl]
    exact fin_c2 k4 ty_ag_25 (e5 _ _) (by simp only [push_cast, ↓reduceIte, Nat.reduceEqDiff, Int.reduceEq]) (hQ _ _ ⟨mv0, mach0, 2, (by simp only [push_cast, ↓reduceIte, Nat.reduceEqDiff, Int.reduceEq]), mach0_is _ _,
      g4.below bb bb.size (by intro a ha; injection ha with ha; subst ha; exact z2'), .inl ⟨fun hh => p1 hh.1, rfl, rfl, rfl⟩⟩)
  simp (disch := first | with_reducible assumption | omega) only [push_cast, x_blk, x_cd, ↓reduceIte, Nat.reduceEqDiff, List.map_cons, List.map_nil, Int.reduceEq, Int.lt_irrefl, p1, k1.m1 ty_ag_3]
  refine call_of (ref1_Is (hs.up bb) c m.events (by omega)) ?_
  rintro v w4 ⟨rfl, s4⟩
  replace k1 := k1.same s4
  replace k2 := k2.same s4
  replace bb := bb.trans (s4.below _)
  by_cases p2 : IsRow seen m.events
  case neg =>
    simp (disch := first | with_reducible assumption | omega) only [push_cast, x_blk, x_cd, ↓reduceIte, Nat.reduceEqDiff, List.map_cons, List.map_nil, Int.reduceEq, Int.lt_irrefl, p2, mach0_built]
    refine sto_blk k2 (cs := mv0.cells mach0) (e5 _ _) rfl (by rfl) ?_
    intro w4 k4 g4 z4
    simp (disch := first | with_reducible assumption | omega) only [push_cast, x_blk, x_cd, ↓reduceIte, Nat.reduceEqDiff, List.map_cons, List.map_nil, Int.reduceEq, Int.lt_irrefl]
    exact fin_c2 k4 ty_ag_25 (e5 _ _) (by simp only [push_cast, ↓reduceIte, Nat.reduceEqDiff, Int.reduceEq]) (hQ _ _ ⟨mv0, mach0, 2, (by simp only [push_cast, ↓reduceIte, Nat.reduceEqDiff, Int.reduceEq]), mach0_is _ _,
      g4.below bb bb.size (by intro a ha; injection ha with ha; subst ha; exact z2'), .inl ⟨fun hh => p2 hh.2, rfl, rfl, rfl⟩⟩)
  have k1s := k1
  have k2s := k2
  have bbs := bb
  simp (disch := first | with_reducible assumption | omega) only [push_cast, x_blk, x_cd, ↓reduceIte, Nat.reduceEqDiff, List.map_cons, List.map_nil, Int.reduceEq, Int.lt_irrefl, p2, k1.m0 ty_ag_3, k1.m4 ty_ag_22, bl_mach014]
  refine blk_of (cs := mv0.cells mach0) al_25 ?_
  intro w7 k7 b7 z7
  simp (disch := first | with_reducible assumption | omega) only [push_cast, x_blk, x_cd, ↓reduceIte, Nat.reduceEqDiff, List.map_cons, List.map_nil, Int.reduceEq, Int.lt_irrefl]
  refine sto_blk k7 (cs := MV.cells ⟨none, 0, none, 0, a.Ae, a.ce⟩ ⟨m.states, seen.length, [], [], m.ends⟩) (e5 _ _) rfl (by rfl) ?_
  intro w8 k8 g8 z8
  have b8 := g8.below b7 b7.size (by intro a ha; injection ha with ha; subst ha; exact Nat.le_refl _)
  replace k1 := k1.below b8 k1.lt
  replace k2 := k2.below b8 k2.lt
  replace bb := bb.trans (b8.mono bb.size)
  have rs : IsRow m.starts m.states := p1.2.2.2.2.2.1
  have hst : 0 < m.states := p1.1
  have hst2 : m.states ≤ 256 := p1.2.1
  have hns : seen.length ≤ 8 := by have := row_lenH p2; have := p1.2.2.2.1; omega
  have g1w := k1.lt
  have g2w := k2.lt
  simp (disch := first | with_reducible assumption | omega) only [push_cast, x_blk, x_cd, ↓reduceIte, Nat.reduceEqDiff, List.map_cons, List.map_nil, Int.reduceEq, Int.lt_irrefl, k1.mA ty_ag_25 ty_sz_25, k1.m2 ty_ag_22]
  refine call_of (ref5_Wide (h.up bb) p1 (h.up bb).starts rs (hs.up bb) ns) ?_
  rintro v w9 ⟨S, cs, rfl, hoS, b9⟩
  replace k1 := k1.below b9 k1.lt
  replace k2 := k2.below b9 k2.lt
  replace k8 := k8.below b9 k8.lt
  replace bb := bb.trans (b9.mono bb.size)
  have zz : w4.heap.size ≤ w8.heap.size := b8.size
  have zz9 := b9.size
  replace b8 := b8.trans (b9.mono b8.size)
  replace hoS := hoS.base (B' := w4.heap.size + 1) (by have := k7.lt; omega)
  simp (disch := first | with_reducible assumption | omega) only [push_cast, x_blk, x_cd, ↓reduceIte, Nat.reduceEqDiff, List.map_cons, List.map_nil, Int.reduceEq, Int.lt_irrefl]
  refine sto_slice k8 (by kernel_rfl) 2 (by simp) _ _ _ ?_
  intro w10 k10 g10 z10
  have ho10 := hoS.grew g10 (.inr (hoS.ne_blk k8 (by decide)))
  replace b8 := g10.below b8 b8.size (by intro a ha; injection ha with ha; subst ha; exact Nat.le_refl _)
  clear hoS
  have k11 : Blk w10 w4.heap.size 25 (MV.cells ⟨S, cs, none, 0, a.Ae, a.ce⟩ ⟨m.states, seen.length, wideL m seen m.starts, hideA m seen 0, m.ends⟩) := k10
  have hoA : OwnR arrCells (w4.heap.size + 1) 85 3 w10 none 0 (hideA m seen 0) := Own.nil _ _ _ _
  have hmax : ∀ n : Nat, n ≤ m.states.toNat → (hideA m seen n).length ≤ 524288 := fun n hn => by
    have := hideA_len (m := m) seen n
    have h1 : 256 * seen.length * n ≤ 256 * 8 * 256 := Nat.mul_le_mul (Nat.mul_le_mul_left _ hns) (by omega)
    omega
  clear bb k1 k2 k8 k10 k7
  simp (disch := first | with_reducible assumption | omega) only [push_cast, x_blk, x_cd, ↓reduceIte, Nat.reduceEqDiff, List.map_cons, List.map_nil, Int.reduceEq, Int.lt_irrefl]
  refine loop_rule (fun f w' => ∃ (n : Nat) (Aa : Option Addr) (ca : Nat), (n : Int) ≤ m.states ∧
      (f 1 = .slice A seen.length c ∧ f 2 = .pointer (some ⟨w.heap.size, 0, none⟩) ∧ f 4 = .pointer (some ⟨w1.heap.size, 0, none⟩) ∧ f 6 = .pointer (some ⟨w4.heap.size, 0, none⟩) ∧ f 7 = .int .i64 n) ∧
      Blk w' w4.heap.size 25 (MV.cells ⟨S, cs, Aa, ca, a.Ae, a.ce⟩ ⟨m.states, seen.length, wideL m seen m.starts, hideA m seen n, m.ends⟩) ∧ OwnI (w4.heap.size + 1) 3 w' S cs (wideL m seen m.starts) ∧
      OwnR arrCells (w4.heap.size + 1) 85 3 w' Aa ca (hideA m seen n) ∧ Below w4.heap.size w4 w')
    (fun f _ => (m.states - intOf (f 7)).toNat) ⟨0, none, 0, by omega, ⟨rfl, rfl, rfl, rfl, rfl⟩, k11, ho10, hoA, b8⟩ ?_
  clear k11 ho10 hoA b8
  rintro f w11 ⟨n, Aa, ca, hn, fr, k8, hoS, hoA, b8⟩ J hJ
  have k1 := k1s.below b8 k1s.lt
  have k2 := k2s.below b8 k2s.lt
  have bb := bbs.trans (b8.mono bbs.size)
  have z8' := b8.size
  have hA1 := hmax n (by omega)
  by_cases hlt : (n : Int) < m.states
  case neg =>
    have hne : n = m.states.toNat := by omega
    subst hne
    have hle : ((4096 : Int) < ((hideA m seen m.states.toNat).length : Int)) ↔ 4096 < (hideA m seen m.states.toNat).length := by omega
    by_cases hbig : 4096 < (hideA m seen m.states.toNat).length
    · simp (disch := first | with_reducible assumption | omega) only [push_cast, x_blk, x_cd, ↓reduceIte, Nat.reduceEqDiff, List.map_cons, List.map_nil, Int.reduceEq, Int.lt_irrefl, L_ref5_Hide_2, fr, hlt, k1.m0 ty_ag_3, k8.m3 ty_ag_23, eq_true (hle.2 hbig), mach0_built]
      refine sto_blk k2 (cs := mv0.cells mach0) (e5 _ _) rfl (by rfl) ?_
      intro w12 k12 g12 z12
      simp (disch := first | with_reducible assumption | omega) only [push_cast, x_blk, x_cd, ↓reduceIte, Nat.reduceEqDiff, List.map_cons, List.map_nil, Int.reduceEq, Int.lt_irrefl, fr]
      exact fin_c2 k12 ty_ag_25 (e5 _ _) (by simp only [push_cast, ↓reduceIte, Nat.reduceEqDiff, Int.reduceEq, fr]) (hQ _ _ ⟨mv0, mach0, 1, (by simp only [push_cast, ↓reduceIte, Nat.reduceEqDiff, Int.reduceEq]), mach0_is _ _,
        g12.below bb bb.size (by intro a ha; injection ha with ha; subst ha; exact z2'), .inr (.inr ⟨⟨p1, p2⟩, hbig, rfl, rfl, rfl⟩)⟩)
    · simp (disch := first | with_reducible assumption | omega) only [push_cast, x_blk, x_cd, ↓reduceIte, Nat.reduceEqDiff, List.map_cons, List.map_nil, Int.reduceEq, Int.lt_irrefl, L_ref5_Hide_2, fr, hlt, k1.m0 ty_ag_3, k8.m3 ty_ag_23, eq_false (fun hh => hbig (hle.1 hh)), k8.mA ty_ag_25 ty_sz_25]
      refine sto_mach k2 rfl _ _ ?_
      intro w12 k12 g12 z12
      simp (disch := first | with_reducible assumption | omega) only [push_cast, x_blk, x_cd, ↓reduceIte, Nat.reduceEqDiff, List.map_cons, List.map_nil, Int.reduceEq, Int.lt_irrefl, fr]
      have kp : ∀ b, w1.heap.size < b ∧ b < w11.heap.size → w12.heap[b]? = w11.heap[b]? ∧ b < w12.heap.size := fun b hb => ⟨g12.by_.block b hb.2 (by simp; omega), by omega⟩
      have hb12 := g12.below bb bb.size (by intro a ha; injection ha with ha; subst ha; exact z2')
      exact fin_c2 k12 ty_ag_25 (e5 _ _) (by simp only [push_cast, ↓reduceIte, Nat.reduceEqDiff, Int.reduceEq, fr]) (hQ _ _ ⟨⟨S, cs, Aa, ca, a.Ae, a.ce⟩, ⟨m.states, seen.length, wideL m seen m.starts, hideA m seen m.states.toNat, m.ends⟩, 0, (by simp only [push_cast, ↓reduceIte, Nat.reduceEqDiff, Int.reduceEq, fr]),
        ⟨(((OwnI.ints hoS).both (OwnI.ints hoS).lt).mono fun b hb => (⟨by have := hb.1.1; omega, hb.2⟩ : w1.heap.size < b ∧ b < w11.heap.size)).keep' kp, (Arrs.of_recs (((OwnR.recs hoA arrEnc (by decide)).both (Recs.lt arrEnc (by decide) (OwnR.recs hoA arrEnc (by decide)))).mono fun b hb => (⟨by have := hb.1.1; omega, hb.2⟩ : w1.heap.size < b ∧ b < w11.heap.size))).keep' kp, h.ends.up hb12⟩,
        hb12, .inr (.inl ⟨⟨p1, p2⟩, by omega, rfl, rfl⟩)⟩)
  have oS := own_int1 w11 (n : Int) 3
  have bS : Below w11.heap.size w11 (w11.alloc (.cells [.int .i64 (n : Int)].toArray 3)) := (Below.refl _ _).alloc (Nat.le_refl _) _
  simp (disch := first | with_reducible assumption | omega) only [push_cast, x_blk, x_cd, ↓reduceIte, Nat.reduceEqDiff, List.map_cons, List.map_nil, Int.reduceEq, Int.lt_irrefl, L_ref5_Hide_2, fr, hlt, k1.m0 ty_ag_3, k1.mA ty_ag_25 ty_sz_25, bs_22]
  generalize w11.alloc (.cells [.int .i64 (n : Int)].toArray 3) = w12 at *
  replace bb := bb.trans (bS.mono bb.size)
  have hr1 := row_oneH p1 n hlt
  refine call_of (ref5_Wide (h.up bb) p1 (c1 := 1) (OwnI.ints oS).lt hr1 (hs.up bb) ns) ?_
  rintro v w13 ⟨S2, c2, rfl, hoS2, b13⟩
  replace b13 := bS.trans (b13.mono bS.size)
  have z13 := b13.size
  replace hoS2 := hoS2.base (B' := w4.heap.size + 1) (by have := bS.size; have := k8.lt; omega)
  replace hoS := hoS.below b13 (Nat.le_refl _)
  replace hoA := hoA.below b13 (Nat.le_refl _)
  replace k8 := k8.below b13 k8.lt
  replace b8 := b8.trans (b13.mono z8')
  clear bb k1 k2 oS bS
  simp (disch := first | with_reducible assumption | omega) only [push_cast, x_blk, x_cd, ↓reduceIte, Nat.reduceEqDiff, List.map_cons, List.map_nil, Int.reduceEq, Int.lt_irrefl, fr]
  refine loop_rule (fun f w' => ∃ (k : Nat) (Aa : Option Addr) (ca : Nat), k ≤ seen.length ∧
      (f 1 = .slice A seen.length c ∧ f 2 = .pointer (some ⟨w.heap.size, 0, none⟩) ∧ f 4 = .pointer (some ⟨w1.heap.size, 0, none⟩) ∧ f 6 = .pointer (some ⟨w4.heap.size, 0, none⟩) ∧ f 7 = .int .i64 n ∧ f 8 = .slice S2 (wideL m seen [(n : Int)]).length c2 ∧ f 9 = .int .i64 k) ∧
      Blk w' w4.heap.size 25 (MV.cells ⟨S, cs, Aa, ca, a.Ae, a.ce⟩ ⟨m.states, seen.length, wideL m seen m.starts, hideA m seen n ++ hideF m seen n k, m.ends⟩) ∧ OwnI (w4.heap.size + 1) 3 w' S cs (wideL m seen m.starts) ∧
      OwnI (w4.heap.size + 1) 3 w' S2 c2 (wideL m seen [(n : Int)]) ∧ OwnR arrCells (w4.heap.size + 1) 85 3 w' Aa ca (hideA m seen n ++ hideF m seen n k) ∧ Below w4.heap.size w4 w')
    (fun f _ => (seen.length - intOf (f 9)).toNat) ⟨0, Aa, ca, by omega, (by simp only [push_cast, ↓reduceIte, Nat.reduceEqDiff, true_and, and_true, and_self, eq_self, fr]), by rw [show hideF m seen n 0 = [] from rfl, List.append_nil]; exact k8, hoS, hoS2, by rw [show hideF m seen n 0 = [] from rfl, List.append_nil]; exact hoA, b8⟩ ?_
  have hmu : (m.states - intOf (f 7)).toNat = (m.states - n).toNat := by rw [fr.2.2.2.2]; rfl
  rw [hmu] at hJ
  clear k8 hoS hoS2 hoA b8 fr z13 z8' b13 Aa ca hmu f w11 w12 w13
  rintro f w11 ⟨k, Aa, ca, hk, fr, k8, hoS, hoS2, hoA, b8⟩ J2 hJ2
  have k1 := k1s.below b8 k1s.lt
  have bb := bbs.trans (b8.mono bbs.size)
  have z8' := b8.size
  by_cases hltk : (k : Int) < (seen.length : Int)
  case neg =>
    have hke : k = seen.length := by omega
    subst hke
    rw [← hideA_succ] at k8 hoA
    simp (disch := first | with_reducible assumption | omega) only [push_cast, x_blk, x_cd, ↓reduceIte, Nat.reduceEqDiff, List.map_cons, List.map_nil, Int.reduceEq, Int.lt_irrefl, L_ref5_Hide_1, fr, hltk, Int.lt_irrefl]
    exact hJ _ _ ⟨n + 1, Aa, ca, by omega, (by simp only [push_cast, ↓reduceIte, Nat.reduceEqDiff, true_and, and_true, and_self, eq_self, fr]), k8, hoS, hoA, b8⟩ (by simp only [push_cast, ↓reduceIte, Nat.reduceEqDiff, intOf, fr]; omega)
  have hkl : k < seen.length := by omega
  have hrd : (OwnI (w4.heap.size + 1) 3 w11 S2 c2 (wideL m seen [(n : Int)])) := hoS2
  have hsx := (hs.up bb)
  have hbk := row_oneH p1 n hlt
  have hn2 : (wideL m seen [(n : Int)]).length ≤ 256 := small_len (wideL_strict _ _ _) (wideL_small _ _ _)
  obtain ⟨e, hse⟩ : ∃ e, seen[k]? = some e := ⟨_, List.getElem?_eq_getElem hkl⟩
  have hge : seen.getD k 0 = e := by rw [List.getD_eq_getElem?_getD, hse]; rfl
  have hsxd := hsx.drew
  have k1d := k1.drew
  have hsome := hsxd.isSome (by omega)
  have bd : Below w11.heap.size w11 w11.drew := (Same.refl w11).drew.below _
  rw [show e = seen.getD k 0 from hge.symm] at hse
  clear hge
  simp (disch := first | with_reducible assumption | omega) only [push_cast, x_blk, x_cd, ↓reduceIte, Nat.reduceEqDiff, List.map_cons, List.map_nil, Int.reduceEq, Int.lt_irrefl, L_ref5_Hide_1, fr, hltk, hkl, hsome, hsxd.ld ty_ag_3 k hkl, k1d.mA ty_ag_25 ty_sz_25]
  refine call_of (ref5_Seeing (w := w11.drew) (h.up (bb.trans (bd.mono bb.size))) p1 hf ((OwnI.ints (hoS2.below bd (Nat.le_refl _))).lt) (by omega) (hs.up (bb.trans (bd.mono bb.size))) ns (seen.getD k 0)) ?_
  rintro v w13 ⟨L, cl, rfl, hoL, b13⟩
  replace b13 := bd.trans (b13.mono bd.size)
  have z13 := b13.size
  replace hoL := hoL.base (B' := w4.heap.size + 1) (by have := k8.lt; have := bd.size; omega)
  replace hoS := hoS.below b13 (Nat.le_refl _)
  replace hoS2 := hoS2.below b13 (Nat.le_refl _)
  replace hoA := hoA.below b13 (Nat.le_refl _)
  replace k8 := k8.below b13 k8.lt
  replace b8 := b8.trans (b13.mono z8')
  have hnl : (seeL m seen (wideL m seen [(n : Int)]) (seen.getD k 0)).length ≤ 256 := small_len (wideL_strict _ _ _) (wideL_small _ _ _)
  have hFK : hideF m seen n (k + 1) = hideF m seen n k ++ (seeL m seen (wideL m seen [(n : Int)]) (seen.getD k 0)).map (fun t => (⟨n, k, t⟩ : Arr)) := hideF_succ m seen n k
  have hA2 := hideF_len seen n k (m := m)
  have hA3 : 256 * k ≤ 2048 := by omega
  generalize seeL m seen (wideL m seen [(n : Int)]) (seen.getD k 0) = l at *
  have hmu : (seen.length - intOf (f 9)).toNat = (seen.length - (k : Int)).toNat := by rw [fr.2.2.2.2.2.2]; rfl
  rw [hmu] at hJ2
  simp (disch := first | with_reducible assumption | omega) only [push_cast, x_blk, x_cd, ↓reduceIte, Nat.reduceEqDiff, List.map_cons, List.map_nil, Int.reduceEq, Int.lt_irrefl, fr]
  refine loop_rule (fun f w' => ∃ (i : Nat) (Aa : Option Addr) (ca : Nat), i ≤ l.length ∧
      (f 1 = .slice A seen.length c ∧ f 2 = .pointer (some ⟨w.heap.size, 0, none⟩) ∧ f 4 = .pointer (some ⟨w1.heap.size, 0, none⟩) ∧ f 6 = .pointer (some ⟨w4.heap.size, 0, none⟩) ∧ f 7 = .int .i64 n ∧ f 8 = .slice S2 (wideL m seen [(n : Int)]).length c2 ∧ f 9 = .int .i64 k ∧ f 10 = .slice L l.length cl ∧ f 11 = .int .i64 i) ∧
      Blk w' w4.heap.size 25 (MV.cells ⟨S, cs, Aa, ca, a.Ae, a.ce⟩ ⟨m.states, seen.length, wideL m seen m.starts, hideA m seen n ++ (hideF m seen n k ++ (l.take i).map (fun t => (⟨n, k, t⟩ : Arr))), m.ends⟩) ∧ OwnI (w4.heap.size + 1) 3 w' S cs (wideL m seen m.starts) ∧
      OwnI (w4.heap.size + 1) 3 w' S2 c2 (wideL m seen [(n : Int)]) ∧ OwnI (w4.heap.size + 1) 3 w' L cl l ∧ OwnR arrCells (w4.heap.size + 1) 85 3 w' Aa ca (hideA m seen n ++ (hideF m seen n k ++ (l.take i).map (fun t => (⟨n, k, t⟩ : Arr)))) ∧ Below w4.heap.size w4 w')
    (fun f _ => (l.length - intOf (f 11)).toNat) ⟨0, Aa, ca, by omega, (by simp only [push_cast, ↓reduceIte, Nat.reduceEqDiff, true_and, and_true, and_self, eq_self, fr]), by rw [List.take_zero, List.map_nil, List.append_nil]; exact k8, hoS, hoS2, hoL, by rw [List.take_zero, List.map_nil, List.append_nil]; exact hoA, b8⟩ ?_
  clear k8 hoS hoS2 hoA hoL b8 fr hmu k1 k1d bb hsx hsxd hrd bd hsome b13 z13 z8' Aa ca f w11 w13
  rintro f w11 ⟨i, Aa, ca, hi, fr, k8, hoS, hoS2, hoL, hoA, b8⟩ J3 hJ3
  have z8' := b8.size
  by_cases hlti : (i : Int) < (l.length : Int)
  case neg =>
    have hie : i = l.length := by omega
    subst hie
    rw [List.take_length, ← hFK] at k8 hoA
    simp (disch := first | with_reducible assumption | omega) only [push_cast, x_blk, x_cd, ↓reduceIte, Nat.reduceEqDiff, List.map_cons, List.map_nil, Int.reduceEq, Int.lt_irrefl, L_ref5_Hide_0, fr, hlti, Int.lt_irrefl]
    exact hJ2 _ _ ⟨k + 1, Aa, ca, by omega, (by simp only [push_cast, ↓reduceIte, Nat.reduceEqDiff, true_and, and_true, and_self, eq_self, fr]), k8, hoS, hoS2, hoA, b8⟩ (by simp only [push_cast, ↓reduceIte, Nat.reduceEqDiff, intOf, fr]; omega)
  have hil : i < l.length := by omega
  have hld := (OwnI.ints (hoL.below ((Same.refl w11).drew.below _) (Nat.le_refl _)))
  have hLs := hld.isSome (by omega)
  have sn : (l.take (i + 1)).map (fun t => (⟨n, k, t⟩ : Arr)) = (l.take i).map (fun t => (⟨n, k, t⟩ : Arr)) ++ [⟨n, k, l.getD i 0⟩] := by
    rw [List.take_add_one, List.map_append, List.getD_eq_getElem?_getD, List.getElem?_eq_getElem hil]; rfl
  generalize hP : (l.take i).map (fun t => (⟨n, k, t⟩ : Arr)) = P at *
  have hPl : P.length ≤ 256 := by rw [← hP, List.length_map, List.length_take]; omega
  have hA1 := hmax n (by omega)
  generalize hX : hideA m seen n = X at *
  generalize hY : hideF m seen n k = Y at *
  have hlen : (X ++ (Y ++ P)).length ≤ 600000 := by rw [List.length_append, List.length_append]; omega
  have ee : X ++ (Y ++ (P ++ [(⟨n, k, l.getD i 0⟩ : Arr)])) = (X ++ (Y ++ P)) ++ [⟨n, k, l.getD i 0⟩] := by simp
  generalize hZ : X ++ (Y ++ P) = Z at *
  have bd : Below w11.heap.size w11 w11.drew := (Same.refl w11).drew.below _
  replace hoS := hoS.below bd (Nat.le_refl _)
  replace hoS2 := hoS2.below bd (Nat.le_refl _)
  replace hoL := hoL.below bd (Nat.le_refl _)
  replace hoA := hoA.below bd (Nat.le_refl _)
  replace k8 := k8.below bd k8.lt
  replace b8 := b8.trans (bd.mono z8')
  clear bd z8'
  simp (disch := first | with_reducible assumption | omega) only [push_cast, x_blk, x_cd, ↓reduceIte, Nat.reduceEqDiff, List.map_cons, List.map_nil, Int.reduceEq, Int.lt_irrefl, L_ref5_Hide_0, fr, hlti, hil, hLs, hld.ld ty_ag_3 i hil, k8.m3 ty_ag_23, bl_arrow, bs_rec arrEnc slT_23 _ (by decide)]
  refine ⟨(Below.refl _ _).alloc (Nat.le_refl _) _, ?_⟩
  refine app_rec arrEnc slT_23 hoA (⟨(n : Int), (k : Int), l.getD i 0⟩ : Arr) (by omega) (by omega) (by have := k8.lt; omega) ?_
  intro Aa' ca' w18 hoA' g18 hA18 hs18 hz18
  have kn := hoA.ne_blk k8 (by decide)
  replace hoS := hoS.grew g18 (Own.apart hoS hoA (by decide))
  replace hoS2 := hoS2.grew g18 (Own.apart hoS2 hoA (by decide))
  replace hoL := hoL.grew g18 (Own.apart hoL hoA (by decide))
  replace b8 := g18.below b8 b8.size (fun a ha => by have := hoA.geB a ha; omega)
  replace k8 := k8.grown g18.by_ (fun e => kn e.symm)
  simp (disch := first | with_reducible assumption | omega) only [push_cast, x_blk, x_cd, ↓reduceIte, Nat.reduceEqDiff, List.map_cons, List.map_nil, Int.reduceEq, Int.lt_irrefl, fr]
  refine sto_slice k8 (by kernel_rfl) 3 (by simp) _ _ _ ?_
  intro w19 k19 g19 z19
  have k20 : Blk w19 w4.heap.size 25 (MV.cells ⟨S, cs, Aa', ca', a.Ae, a.ce⟩ ⟨m.states, seen.length, wideL m seen m.starts, Z ++ [⟨n, k, l.getD i 0⟩], m.ends⟩) := by
    simp only [MV.cells, List.length_append, List.length_cons, List.length_nil, Nat.zero_add]
    exact k19
  replace hoS := hoS.grew g19 (.inr (hoS.ne_blk k8 (by decide)))
  replace hoS2 := hoS2.grew g19 (.inr (hoS2.ne_blk k8 (by decide)))
  replace hoL := hoL.grew g19 (.inr (hoL.ne_blk k8 (by decide)))
  have hoA2 := hoA'.grew g19 (.inr (hoA'.ne_blk k8 (by decide)))
  replace b8 := g19.below b8 b8.size (by intro a ha; injection ha with ha; subst ha; exact Nat.le_refl _)
  rw [← ee, ← sn] at k20 hoA2
  simp (disch := first | with_reducible assumption | omega) only [push_cast, x_blk, x_cd, ↓reduceIte, Nat.reduceEqDiff, List.map_cons, List.map_nil, Int.reduceEq, Int.lt_irrefl, fr]
  exact hJ3 _ _ ⟨i + 1, Aa', ca', by omega, (by simp only [push_cast, ↓reduceIte, Nat.reduceEqDiff, true_and, and_true, and_self, eq_self, fr]), k20, hoS, hoS2, hoL, hoA2, b8⟩ (by simp only [push_cast, ↓reduceIte, Nat.reduceEqDiff, intOf, fr]; omega)
end Go.Proofs.YtcjedgiglimipaaDoor
