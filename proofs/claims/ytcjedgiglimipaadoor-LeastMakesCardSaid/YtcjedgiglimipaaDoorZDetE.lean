/-
  Chapter 6: the reference's Is, Find: by their contracts.
  Chapter 6: the reference's Make, by its contract; the law DetermineMakes.
-/
import Derived.Test.YtcjedgiglimipaaDoorZDetP
import Derived.Test.YtcjedgiglimipaaDoorZSame
import Derived.Test.YtcjedgiglimipaaDoorZCtlA
import Derived.Test.YtcjedgiglimipaaDoorZRef7
namespace Go.Proofs.YtcjedgiglimipaaDoor
set_option linter.unusedSimpArgs false
set_option linter.unusedVariables false
set_option linter.unusedSectionVars false
section
open Go.RowKit

theorem ref6_Find {w : World} {R : Option Addr} {hs : List Hd} (hR : Recs Hd.cells 1 (· < w.heap.size) w R hs) (hr : RowsAt (· < w.heap.size) w hs) (c : Nat) (hl : hs.length ≤ 100000) (hn : ∀ h ∈ hs, h.l.length ≤ 9223372036854775807)
    {A : Option Addr} {l : List Int} (h : Ints (· < w.heap.size) w A l) (cl : Nat) :
    Cal Tryd.prog 102 [.slice R hs.length c, .slice A l.length cl] w fun v w' => ∃ i : Nat, v = .int .i64 i ∧ ((i = hs.length ∧ l ∉ hs.map (·.l)) ∨ (i < hs.length ∧ (hs.map (·.l))[i]? = some l)) ∧ Same w w' := by
  refine cal_ref6_Find (by simp) 100000 fun Q hQ => ?_
  simp (disch := first | with_reducible assumption | omega) only [push_cast, x_blk, x_cd, ↓reduceIte, Nat.reduceEqDiff, List.map_cons, List.map_nil, Int.reduceEq, Int.lt_irrefl, F_ref6_Find]
  refine loop_rule (fun f w' => ∃ k : Nat, k ≤ hs.length ∧ (f 0 = .slice R hs.length c ∧ f 1 = .slice A l.length cl ∧ f 5 = .int .i64 k) ∧ (∀ i, i < k → (hs.map (·.l))[i]? ≠ some l) ∧ Same w w')
    (fun f _ => hs.length - (intOf (f 5)).toNat) ⟨0, Nat.zero_le _, ⟨rfl, rfl, rfl⟩, fun i hi => absurd hi (by omega), Same.refl w⟩ ?_
  rintro f w1 ⟨k, hk, fr, hp, s1⟩ J hJ
  by_cases hlt : k < hs.length
  case neg =>
    simp (disch := first | with_reducible assumption | omega) only [push_cast, x_blk, x_cd, ↓reduceIte, Nat.reduceEqDiff, List.map_cons, List.map_nil, Int.reduceEq, Int.lt_irrefl, L_ref6_Find_0, fr, hlt]
    exact fin_1 (hQ _ _ ⟨hs.length, (by simp only [push_cast, ↓reduceIte, Nat.reduceEqDiff, Int.reduceEq]), .inl ⟨rfl, fun hin => by
      obtain ⟨i, hi⟩ := List.mem_iff_getElem?.1 hin
      have := getElem?_lt hi
      rw [List.length_map] at this
      exact hp i (by omega) hi⟩, s1⟩)
  have hx : hs[k]? = some (hs[k]'hlt) := List.getElem?_eq_getElem hlt
  generalize hs[k]'hlt = x at hx
  have hRd := hR.same s1
  have hS := hRd.isSome (by omega)
  have lx := fun {K : Fr → World → Prop} {f : Fr} {d : Option Nat} {w : World} => hRd.ld0 (P := Tryd.prog) (K := K) (f := f) (d := d) (w := w) ty_ag_22 hx (v := .slice x.A x.l.length x.c) rfl
  simp only [Nat.mul_one] at lx
  have hxk : (hs.map (·.l))[k]? = some x.l := by rw [List.getElem?_map, hx]; rfl
  simp (disch := first | with_reducible assumption | omega) only [push_cast, x_blk, x_cd, ↓reduceIte, Nat.reduceEqDiff, List.map_cons, List.map_nil, Int.reduceEq, Int.lt_irrefl, L_ref6_Find_0, fr, hlt, lx]
  refine call_of (ref1_Same ((hr x (List.mem_of_getElem? hx)).same s1) (h.same s1) x.c cl (by have := hn x (List.mem_of_getElem? hx); omega)) ?_
  rintro v w2 ⟨rfl, s2⟩
  have s2' := s1.trans s2
  by_cases d1 : x.l = l
  · simp (disch := first | with_reducible assumption | omega) only [push_cast, x_blk, x_cd, ↓reduceIte, Nat.reduceEqDiff, List.map_cons, List.map_nil, Int.reduceEq, Int.lt_irrefl, decide_eq_true d1, fr]
    exact fin_1 (hQ _ _ ⟨k, (by simp only [push_cast, ↓reduceIte, Nat.reduceEqDiff, Int.reduceEq, fr]), .inr ⟨hlt, by rw [hxk, d1]⟩, s2'⟩)
  · simp (disch := first | with_reducible assumption | omega) only [push_cast, x_blk, x_cd, ↓reduceIte, Nat.reduceEqDiff, List.map_cons, List.map_nil, Int.reduceEq, Int.lt_irrefl, decide_eq_false d1, fr]
    exact hJ _ _ ⟨k + 1, hlt, (by simp only [push_cast, ↓reduceIte, Nat.reduceEqDiff, true_and, and_true, and_self, eq_self, fr]), fun i hi => if e : i = k then by rw [e, hxk]; exact fun hh => d1 (Option.some.inj hh) else hp i (by omega), s2'⟩ (by simp only [push_cast, ↓reduceIte, Nat.reduceEqDiff, intOf, fr]; omega)
end

section
open Go.RowKit

structure Apu (lo : Nat) (w : World) (g : Nat) (X Y : Option Nat) (b : Nat) : Prop where
  lo : b ≠ lo
  lt : b < w.heap.size
  g : b ≠ g
  x : some b ≠ X
  y : some b ≠ Y
theorem RowsAt.belowU {lo : Nat} {w w' : World} {g : Nat} {X Y : Option Nat} {hs : List Hd} (h : RowsAt (Apu lo w g X Y) w hs) (hb : Below w.heap.size w w') : RowsAt (Apu lo w' g X Y) w' hs :=
  h.keep fun b hb' => ⟨hb.block b hb'.lt, hb'.lo, Nat.lt_of_lt_of_le hb'.lt hb.size, hb'.g, hb'.x, hb'.y⟩
theorem RowsAt.grewGU {lo : Nat} {w w' : World} {g : Nat} {X Y : Option Nat} {hs : List Hd} (h : RowsAt (Apu lo w g X Y) w hs) {i : Nat} (hg : Grew w w' (some ⟨g, i, none⟩)) : RowsAt (Apu lo w' g X Y) w' hs :=
  h.keep fun b hb' => ⟨hg.by_.block b hb'.lt (by simpa using hb'.g), hb'.lo, Nat.lt_of_lt_of_le hb'.lt hg.by_.size, hb'.g, hb'.x, hb'.y⟩
theorem RowsAt.grewXU {lo : Nat} {w w' : World} {g : Nat} {A A' : Option Addr} {Y : Option Nat} {hs : List Hd} (h : RowsAt (Apu lo w g (A.map (·.block)) Y) w hs) (hg : Grew w w' A) (hA : A'.map (·.block) = A.map (·.block) ∨ ∃ g', A'.map (·.block) = some g' ∧ w.heap.size ≤ g') :
    RowsAt (Apu lo w' g (A'.map (·.block)) Y) w' hs :=
  h.keep fun b hb' => ⟨hg.by_.block b hb'.lt hb'.x, hb'.lo, Nat.lt_of_lt_of_le hb'.lt hg.by_.size, hb'.g, by
    rcases hA with e | ⟨g', e, he⟩
    · rw [e]; exact hb'.x
    · rw [e]; intro hh; injection hh with hh; have := hb'.lt; omega, hb'.y⟩
theorem RowsAt.grewYU {lo : Nat} {w w' : World} {g : Nat} {A A' : Option Addr} {X : Option Nat} {hs : List Hd} (h : RowsAt (Apu lo w g X (A.map (·.block))) w hs) (hg : Grew w w' A) (hA : A'.map (·.block) = A.map (·.block) ∨ ∃ g', A'.map (·.block) = some g' ∧ w.heap.size ≤ g') :
    RowsAt (Apu lo w' g X (A'.map (·.block))) w' hs :=
  h.keep fun b hb' => ⟨hg.by_.block b hb'.lt hb'.y, hb'.lo, Nat.lt_of_lt_of_le hb'.lt hg.by_.size, hb'.g, hb'.x, by
    rcases hA with e | ⟨g', e, he⟩
    · rw [e]; exact hb'.y
    · rw [e]; intro hh; injection hh with hh; have := hb'.lt; omega⟩
theorem RowsAt.ltU {lo : Nat} {w : World} {g : Nat} {X Y : Option Nat} {hs : List Hd} (h : RowsAt (Apu lo w g X Y) w hs) : RowsAt (· < w.heap.size) w hs := fun x hx => (h x hx).mono fun _ hb => hb.lt

theorem bl_mach12 {K : Fr → World → Prop} {u : World} {f : Fr} {d : Option Nat} {w : World} (y : Int) (A : Option Addr) (n c : Nat) :
    Val1 Tryd.prog K (Instr.build 25 #[(1, .int .i64 y), (2, .slice A n c)]) u f d w = K (updO f d (.agg [.int .i64 0, .int .i64 y, .slice A n c, .slice none 0 0, .slice none 0 0].toArray)) w := by
  refine bld_of ?_
  rw [built_of blt_mach]
  rw [fill_cons (off := 1) (size := 1) rfl rfl (by decide), fill_cons (off := 2) (size := 1) rfl rfl (by simp [putL, Value.cells]), fill_nil]
  simp [putL, Value.cells]
set_option maxHeartbeats 1000000 in
theorem ref6_Make {w : World} {a : MV} {m : Mach} (ha : IsM (· < w.heap.size) w a m) (hf : m.Fits) :
    Cal Tryd.prog 64 [a.val m] w (MakeRes m w) := by
  have e5 : ∀ (a : MV) (m : Mach), tySize Tryd.prog 25 = some (a.cells m).length := fun a m => ty_sz_25
  refine cal_ref6_Make (by simp) 100000 fun Q hQ => ?_
  simp (disch := first | with_reducible assumption | omega) only [push_cast, x_blk, x_cd, ↓reduceIte, Nat.reduceEqDiff, List.map_cons, List.map_nil, Int.reduceEq, Int.lt_irrefl, F_ref6_Make]
  refine blk_of (box_agg _ (a.cells m)) ?_
  intro w1 k1 b1 z1
  simp (disch := first | with_reducible assumption | omega) only [push_cast, x_blk, x_cd, ↓reduceIte, Nat.reduceEqDiff, List.map_cons, List.map_nil, Int.reduceEq, Int.lt_irrefl]
  refine blk_of (cs := mv0.cells mach0) al_25 ?_
  intro w2 k2 b2 z2
  have k1 := k1.below b2 k1.lt
  have bb := b1.trans (b2.mono b1.size)
  have up : ∀ {w' : World} {c : MV} {mc : Mach}, IsM (· < w.heap.size) w c mc → Below w.heap.size w w' → IsM (· < w'.heap.size) w' c mc := fun {w' c mc} h hb => (h.below hb).mono fun b hl => Nat.lt_of_lt_of_le hl hb.size
  simp (disch := first | with_reducible assumption | omega) only [push_cast, x_blk, x_cd, ↓reduceIte, Nat.reduceEqDiff, List.map_cons, List.map_nil, Int.reduceEq, Int.lt_irrefl, k1.mA ty_ag_25 ty_sz_25]
  refine call_of (ref2_May (up ha bb) hf) ?_
  rintro v w3 ⟨rfl, b3⟩
  replace k1 := k1.below b3 k1.lt
  replace k2 := k2.below b3 k2.lt
  replace bb := bb.trans (b3.mono bb.size)
  have z2' : w.heap.size ≤ w1.heap.size := by omega
  by_cases p1 : m.May
  case neg =>
    simp (disch := first | with_reducible assumption | omega) only [push_cast, x_blk, x_cd, ↓reduceIte, Nat.reduceEqDiff, List.map_cons, List.map_nil, Int.reduceEq, Int.lt_irrefl, p1, mach0_built]
    refine sto_blk k2 (cs := mv0.cells mach0) (e5 _ _) rfl (by rfl) ?_
    intro w4 k4 g4 z4
    simp (disch := first | with_reducible assumption | omega) only [push_cast, x_blk, x_cd, ↓reduceIte, Nat.reduceEqDiff, List.map_cons, List.map_nil, Int.reduceEq, Int.lt_irrefl]
    exact fin_c3 k4 ty_ag_25 (e5 _ _) (by simp only [push_cast, ↓reduceIte, Nat.reduceEqDiff, Int.reduceEq]) (hQ _ _ ⟨mv0, mach0, none, 0, [], 2, (by simp only [push_cast, ↓reduceIte, Nat.reduceEqDiff, Int.reduceEq, List.length_nil]), mach0_is _ _, Recs.nil _ _ _, fun x hx => absurd hx (by simp),
      g4.below bb bb.size (by intro a ha; injection ha with ha; subst ha; exact z2'), .inl ⟨p1, rfl, rfl, rfl⟩⟩)
  have ea : ((m.events.toNat : Nat) : Int) = m.events := by have := p1.2.2.1; omega
  have ne : m.events.toNat ≤ 8 := by have := p1.2.2.2.1; omega
  have rs : IsRow m.starts m.states := p1.2.2.2.2.2.1
  have ls := hf.lenS
  have le := hf.lenE
  have g1w : w.heap.size < w3.heap.size := k1.lt
  have g2w : w1.heap.size < w3.heap.size := k2.lt
  have oS := own_int1 w3 0 3
  have bS : Below w3.heap.size w3 (w3.alloc (.cells [.int .i64 0].toArray 3)) := (Below.refl _ _).alloc (Nat.le_refl _) _
  have zS : (w3.alloc (.cells [.int .i64 0].toArray 3)).heap.size = w3.heap.size + 1 := by simp
  simp (disch := first | with_reducible assumption | omega) only [push_cast, x_blk, x_cd, ↓reduceIte, Nat.reduceEqDiff, List.map_cons, List.map_nil, Int.reduceEq, Int.lt_irrefl, p1, k1.m1 ty_ag_3, bs_22]
  generalize w3.alloc (.cells [.int .i64 0].toArray 3) = w6 at *
  replace k1 := k1.below bS k1.lt
  replace k2 := k2.below bS k2.lt
  replace bb := bb.trans (bS.mono bb.size)
  have kS : ∀ b, (w3.heap.size ≤ b ∧ (some (⟨w3.heap.size, 0, none⟩ : Addr)).map (·.block) = some b) ∧ b < w6.heap.size → w1.heap.size < b ∧ b < w6.heap.size := fun b hb => ⟨by omega, hb.2⟩
  have hIS : Ints (fun b => w1.heap.size < b ∧ b < w6.heap.size) w6 (some ⟨w3.heap.size, 0, none⟩) [0] := ((OwnI.ints oS).both (OwnI.ints oS).lt).mono kS
  have k1s := k1
  have k2s := k2
  have bbs := bb
  simp (disch := first | with_reducible assumption | omega) only [push_cast, x_blk, x_cd, ↓reduceIte, Nat.reduceEqDiff, List.map_cons, List.map_nil, Int.reduceEq, Int.lt_irrefl, bl_mach12]
  refine blk_of (cs := mv0.cells mach0) al_25 ?_
  intro w7 k7 b7 z7
  simp (disch := first | with_reducible assumption | omega) only [push_cast, x_blk, x_cd, ↓reduceIte, Nat.reduceEqDiff, List.map_cons, List.map_nil, Int.reduceEq, Int.lt_irrefl]
  refine sto_blk k7 (cs := MV.cells ⟨some ⟨w3.heap.size, 0, none⟩, 1, none, 0, none, 0⟩ ⟨0, m.events, [0], [], []⟩) (e5 _ _) rfl (by rfl) ?_
  intro w8 k8 g8 z8
  have b12 := g8.below b7 b7.size (by intro a ha; injection ha with ha; subst ha; exact Nat.le_refl _)
  replace k1 := k1.below b12 k1.lt
  replace k2 := k2.below b12 k2.lt
  replace bb := bb.trans (b12.mono bb.size)
  have oR := own_rec hdEnc w8 (⟨a.As, a.cs, m.starts⟩ : Hd) 22
  have bR : Below w8.heap.size w8 (w8.alloc (.cells (Hd.cells ⟨a.As, a.cs, m.starts⟩).toArray 22)) := (Below.refl _ _).alloc (Nat.le_refl _) _
  have z68 := b12.size
  have l8 := k8.lt
  simp (disch := first | with_reducible assumption | omega) only [push_cast, x_blk, x_cd, ↓reduceIte, Nat.reduceEqDiff, List.map_cons, List.map_nil, Int.reduceEq, Int.lt_irrefl, k1.m2 ty_ag_22, bs_44]
  rw [show ([Value.slice a.As m.starts.length a.cs].toArray) = (Hd.cells ⟨a.As, a.cs, m.starts⟩).toArray from rfl]
  generalize w8.alloc (.cells (Hd.cells ⟨a.As, a.cs, m.starts⟩).toArray 22) = w9 at *
  replace k1 := k1.below bR k1.lt
  replace k2 := k2.below bR k2.lt
  replace k8 := k8.below bR k8.lt
  replace bb := bb.trans (bR.mono bb.size)
  replace b12 := b12.trans (bR.mono b12.size)
  have hoR := oR.base (B' := w6.heap.size) z68
  have hro : RowsAt (Apu w1.heap.size w9 w6.heap.size ((none : Option Addr).map (·.block)) ((some (⟨w8.heap.size, 0, none⟩ : Addr)).map (·.block))) w9 [⟨a.As, a.cs, m.starts⟩] := fun x hx => by
    rw [List.mem_singleton.1 hx]
    have hz9 := bb.size
    exact (ha.starts.below bb).mono fun b hb => ⟨by omega, by omega, by omega, by simp, by simp; omega⟩
  have hoA : OwnR arrCells w6.heap.size 85 3 w9 none 0 [] := Own.nil _ _ _ _
  have e0 : ([⟨a.As, a.cs, m.starts⟩] : List Hd).length = 1 := rfl
  generalize hes : evs m.events.toNat = es
  have hel : es.length = m.events.toNat := by rw [← hes, evs_len]
  have hem : ∀ e : Int, e ∈ es ↔ 0 ≤ e ∧ e < m.events := fun e => by rw [← hes, evs_mem, ea]
  have hea : ∀ j : Nat, j < m.events.toNat → es.getD j 0 = j := fun j hj => by rw [← hes]; exact evs_at _ _ hj
  have hgood := fun k j => bPart_good (step := stepL m) (es := es) (U := fun s => IsRow s m.states) (fun s _ e _ => stepL_row p1 s e) rs k j
  refine loop_rule (fun f w' => ∃ (k : Nat) (hs : List Hd) (R : Option Addr) (cr : Nat) (ar : List Arr) (Aa : Option Addr) (ca : Nat), k ≤ hs.length ∧
      (f 1 = .pointer (some ⟨w.heap.size, 0, none⟩) ∧ f 2 = .pointer (some ⟨w1.heap.size, 0, none⟩) ∧ f 5 = .pointer (some ⟨w6.heap.size, 0, none⟩) ∧ f 6 = .slice R hs.length cr ∧ f 7 = .int .i64 k) ∧
      hs.map (·.l) = (bIter (stepL m) es m.starts k).map (·.1) ∧ hs.length ≤ 256 ∧ Arrows (stepL m) es k 0 (hs.map (·.l)) ar ∧
      Blk w' w6.heap.size 25 (MV.cells ⟨some ⟨w3.heap.size, 0, none⟩, 1, Aa, ca, none, 0⟩ ⟨0, m.events, [0], ar, []⟩) ∧ OwnR Hd.cells w6.heap.size 22 1 w' R cr hs ∧ OwnR arrCells w6.heap.size 85 3 w' Aa ca ar ∧
      RowsAt (Apu w1.heap.size w' w6.heap.size (Aa.map (·.block)) (R.map (·.block))) w' hs ∧ Below w6.heap.size w6 w')
    (fun f _ => 257 - (intOf (f 7)).toNat) ⟨0, [⟨a.As, a.cs, m.starts⟩], _, 1, [], none, 0, by simp, ⟨rfl, rfl, rfl, rfl, rfl⟩, rfl, by simp, ⟨rfl, by simp⟩, k8, hoR, hoA, hro, b12⟩ ?_
  clear hoA hro hoR k8 b12 bb k1 k2 oR
  rintro f w10 ⟨k, hs, R, cr, ar, Aa, ca, hk, fr, hL, hL2, har, k8, hoR, hoA, hro, b12⟩ J hJ
  have hmu : (intOf (f 7)).toNat = k := by rw [fr.2.2.2.2]; simp [intOf]
  have hlb : hs.length = (bIter (stepL m) es m.starts k).length := by have := congrArg List.length hL; simpa using this
  by_cases hlt : k < hs.length
  case neg =>
    have hke : k = hs.length := by omega
    subst hke
    have hsets : SetsRes (stepL m) (evs m.events.toNat) m.starts true (hs.map (·.l)) ar := .inl ⟨rfl, hs.length, hL2, by rw [hes]; omega, by rw [hes]; exact hL, by rw [hes]; exact har⟩
    simp (disch := first | with_reducible assumption | omega) only [push_cast, x_blk, x_cd, ↓reduceIte, Nat.reduceEqDiff, List.map_cons, List.map_nil, Int.reduceEq, Int.lt_irrefl, L_ref6_Make_2, fr, hlt, Nat.lt_irrefl]
    refine sto_cell k8 (by kernel_rfl) 0 (by simp) _ _ ?_
    intro w13 k13 g13 z13
    have k9 : Blk w13 w6.heap.size 25 (MV.cells ⟨some ⟨w3.heap.size, 0, none⟩, 1, Aa, ca, none, 0⟩ ⟨(hs.length : Int), m.events, [0], ar, []⟩) := k13
    replace hoR := hoR.grew g13 (.inr (hoR.ne_blk k8 (by decide)))
    replace hoA := hoA.grew g13 (.inr (hoA.ne_blk k8 (by decide)))
    replace hro := hro.grewGU g13
    replace b12 := g13.below b12 b12.size (by intro a ha; injection ha with ha; subst ha; exact Nat.le_refl _)
    have hro0 : RowsAt (Apu w1.heap.size w13 w6.heap.size ((none : Option Addr).map (·.block)) none) w13 hs := hro.keep fun b hb => ⟨rfl, hb.lo, hb.lt, hb.g, by simp, by simp⟩
    clear k8 k13 hro
    simp (disch := first | with_reducible assumption | omega) only [push_cast, x_blk, x_cd, ↓reduceIte, Nat.reduceEqDiff, List.map_cons, List.map_nil, Int.reduceEq, Int.lt_irrefl, fr]
    refine loop_rule (fun f w' => ∃ (k : Nat) (Ae : Option Addr) (ce : Nat), k ≤ hs.length ∧
        (f 1 = .pointer (some ⟨w.heap.size, 0, none⟩) ∧ f 2 = .pointer (some ⟨w1.heap.size, 0, none⟩) ∧ f 5 = .pointer (some ⟨w6.heap.size, 0, none⟩) ∧ f 6 = .slice R hs.length cr ∧ f 11 = .int .i64 k) ∧
        Blk w' w6.heap.size 25 (MV.cells ⟨some ⟨w3.heap.size, 0, none⟩, 1, Aa, ca, Ae, ce⟩ ⟨(hs.length : Int), m.events, [0], ar, endsUpto m (hs.map (·.l)) k⟩) ∧ OwnR Hd.cells w6.heap.size 22 1 w' R cr hs ∧ OwnR arrCells w6.heap.size 85 3 w' Aa ca ar ∧
        OwnI w6.heap.size 3 w' Ae ce (endsUpto m (hs.map (·.l)) k) ∧ RowsAt (Apu w1.heap.size w' w6.heap.size (Ae.map (·.block)) none) w' hs ∧ Below w6.heap.size w6 w')
      (fun f _ => hs.length - (intOf (f 11)).toNat) ⟨0, none, 0, Nat.zero_le _, (by simp only [push_cast, ↓reduceIte, Nat.reduceEqDiff, true_and, and_true, and_self, eq_self, fr]), k9, hoR, hoA, Own.nil _ _ _ _, hro0, b12⟩ ?_
    clear k9 hoR hoA hro0 b12 fr
    rintro f w10 ⟨k, Ae, ce, hk, fr, k8, hoR, hoA, hoE, hro, b12⟩ J2 hJ2
    have bbt := bbs.trans (b12.mono bbs.size)
    have hle := endsUpto_len m (hs.map (·.l)) k
    have z10 := b12.size
    by_cases hltk : k < hs.length
    case neg =>
      obtain rfl : k = hs.length := by omega
      have k2t := k2s.below b12 k2s.lt
      simp (disch := first | with_reducible assumption | omega) only [push_cast, x_blk, x_cd, ↓reduceIte, Nat.reduceEqDiff, List.map_cons, List.map_nil, Int.reduceEq, Int.lt_irrefl, L_ref6_Make_0, fr, hltk, Nat.lt_irrefl, k8.mA ty_ag_25 ty_sz_25]
      refine sto_mach k2t rfl _ _ ?_
      intro w14 k14 g14 z14
      have kp : ∀ b, w1.heap.size < b ∧ b < w10.heap.size → w14.heap[b]? = w10.heap[b]? ∧ b < w14.heap.size := fun b hb => ⟨g14.by_.block b hb.2 (by simp; omega), by omega⟩
      have kp6 : ∀ b, w1.heap.size < b ∧ b < w6.heap.size → w10.heap[b]? = w6.heap[b]? ∧ (w1.heap.size < b ∧ b < w10.heap.size) := fun b hb => ⟨b12.block b hb.2, hb.1, by omega⟩
      have k6g : w1.heap.size < w6.heap.size := by omega
      simp (disch := first | with_reducible assumption | omega) only [push_cast, x_blk, x_cd, ↓reduceIte, Nat.reduceEqDiff, List.map_cons, List.map_nil, Int.reduceEq, Int.lt_irrefl, fr]
      exact fin_c3 k14 ty_ag_25 (e5 _ _) (by simp only [push_cast, ↓reduceIte, Nat.reduceEqDiff, Int.reduceEq, fr]) (hQ _ _ ⟨⟨some ⟨w3.heap.size, 0, none⟩, 1, Aa, ca, Ae, ce⟩, ⟨(hs.length : Int), m.events, [0], ar, endsUpto m (hs.map (·.l)) hs.length⟩, R, cr, hs, 0, (by simp only [push_cast, ↓reduceIte, Nat.reduceEqDiff, Int.reduceEq, fr]),
        ⟨(hIS.keep' kp6).keep' kp, (Arrs.of_recs (((OwnR.recs hoA arrEnc (by decide)).both (Recs.lt arrEnc (by decide) (OwnR.recs hoA arrEnc (by decide)))).mono fun b hb => (⟨by have := hb.1.1; omega, hb.2⟩ : w1.heap.size < b ∧ b < w10.heap.size))).keep' kp, (((OwnI.ints hoE).both (OwnI.ints hoE).lt).mono fun b hb => (⟨by have := hb.1.1; omega, hb.2⟩ : w1.heap.size < b ∧ b < w10.heap.size)).keep' kp⟩,
        (((OwnR.recs hoR hdEnc (by decide)).both (Recs.lt hdEnc (by decide) (OwnR.recs hoR hdEnc (by decide)))).mono fun b hb => (⟨by have := hb.1.1; omega, hb.2⟩ : w1.heap.size < b ∧ b < w10.heap.size)).keep' kp,
        hro.keep fun b hb => ⟨g14.by_.block b hb.lt (by simpa using hb.lo), by have := hb.lt; omega⟩, g14.below bbt bbt.size (by intro a ha; injection ha with ha; subst ha; exact z2'), .inr (.inl ⟨p1, ⟨ar, hsets, by unfold detOf; rw [List.length_map]⟩, rfl⟩)⟩)
    have hx : hs[k]? = some (hs[k]'hltk) := List.getElem?_eq_getElem hltk
    generalize hs[k]'hltk = x at hx
    have hgx : (hs.map (·.l)).getD k [] = x.l := by rw [List.getD_eq_getElem?_getD, List.getElem?_map, hx]; rfl
    have hlenx : x.l.length ≤ 2147483648 := by
      have h1 : x.l ∈ hs.map (·.l) := List.mem_map.2 ⟨x, List.mem_of_getElem? hx, rfl⟩
      rw [hL] at h1
      obtain ⟨r, hr, hre⟩ := List.mem_map.1 h1
      have h2 := (hgood hs.length 0).univ r (by rw [bPart_zero]; exact hr)
      rw [← hre]; exact h2.len
    have hsucc := endsUpto_succ m (hs.map (·.l)) k
    rw [hgx] at hsucc
    have hom := decide_eq_decide.1 (only_meet x.l m.ends)
    have sd : Same w10 w10.drew := (Same.refl _).drew
    have bd := sd.below w10.heap.size
    have k1o := k1s.below b12 k1s.lt
    replace k8 := k8.below bd k8.lt
    replace hoR := hoR.below bd (Nat.le_refl _)
    replace hoA := hoA.below bd (Nat.le_refl _)
    replace hro := hro.belowU bd
    replace b12 := b12.trans (Below.mono bd b12.size)
    replace hoE := hoE.below bd (Nat.le_refl _)
    have k1t := k1s.below b12 k1s.lt
    replace bbt := bbs.trans (b12.mono bbs.size)
    have hRd := Recs.lt hdEnc (by decide) (OwnR.recs hoR hdEnc (by decide))
    have hS := hRd.isSome (by omega)
    have lx := fun {K : Fr → World → Prop} {f : Fr} {d : Option Nat} {w : World} => hRd.ld0 (P := Tryd.prog) (K := K) (f := f) (d := d) (w := w) ty_ag_22 hx (v := .slice x.A x.l.length x.c) rfl
    simp only [Nat.mul_one] at lx
    generalize hu : w10.drew = u at *
    simp (disch := first | with_reducible assumption | omega) only [push_cast, x_blk, x_cd, ↓reduceIte, Nat.reduceEqDiff, List.map_cons, List.map_nil, Int.reduceEq, Int.lt_irrefl, L_ref6_Make_0, fr, hltk, hu, k1t.m4 ty_ag_22, lx]
    refine call_of (ref1_Only (hro.ltU x (List.mem_of_getElem? hx)) (up ha bbt).ends x.c a.ce true (by omega) (by omega)) ?_
    rintro v w15 ⟨AO, cO, rfl, _, b15⟩
    replace k8 := k8.below b15 k8.lt
    replace hoR := hoR.below b15 (Nat.le_refl _)
    replace hoA := hoA.below b15 (Nat.le_refl _)
    replace hro := hro.belowU b15
    replace b12 := b12.trans (Below.mono b15 b12.size)
    replace hoE := hoE.below b15 (Nat.le_refl _)
    by_cases hM : MeetL x.l m.ends
    · have hpos := hom.2 hM
      rw [if_pos hM] at hsucc
      simp (disch := first | with_reducible assumption | omega) only [push_cast, x_blk, x_cd, ↓reduceIte, Nat.reduceEqDiff, List.map_cons, List.map_nil, Int.reduceEq, Int.lt_irrefl, fr, hpos, k8.m4 ty_ag_22, bs_22]
      refine app_int slT_22 hoE (k : Int) (by omega) b12.size ?_
      intro Ae' ce' w18 hoE' g18 hE18 hs18 hz18
      replace k8 := k8.grown g18.by_ (fun e => hoE.ne_blk k8 (by decide) e.symm)
      replace hoR := hoR.grew g18 (Own.apart hoR hoE (by decide))
      replace hoA := hoA.grew g18 (Own.apart hoA hoE (by decide))
      replace hro := hro.grewXU g18 hE18
      replace b12 := g18.below b12 b12.size hoE.geB
      clear hoE
      simp (disch := first | with_reducible assumption | omega) only [push_cast, x_blk, x_cd, ↓reduceIte, Nat.reduceEqDiff, List.map_cons, List.map_nil, Int.reduceEq, Int.lt_irrefl, fr]
      refine sto_slice k8 (by kernel_rfl) 4 (by simp) _ _ _ ?_
      intro w19 k19 g19 z19
      have k19' : Blk w19 w6.heap.size 25 (MV.cells ⟨some ⟨w3.heap.size, 0, none⟩, 1, Aa, ca, Ae', ce'⟩ ⟨(hs.length : Int), m.events, [0], ar, endsUpto m (hs.map (·.l)) k ++ [(k : Int)]⟩) := by
        simp only [MV.cells, List.length_append, List.length_cons, List.length_nil, Nat.zero_add]
        exact k19
      rw [← hsucc] at k19' hoE'
      have hoR' := hoR.grew g19 (.inr (hoR.ne_blk k8 (by decide)))
      have hoA' := hoA.grew g19 (.inr (hoA.ne_blk k8 (by decide)))
      have hoE2 := hoE'.grew g19 (.inr (hoE'.ne_blk k8 (by decide)))
      have hro' := hro.grewGU g19
      have b19 := g19.below b12 b12.size (by intro a ha; injection ha with ha; subst ha; exact Nat.le_refl _)
      simp (disch := first | with_reducible assumption | omega) only [push_cast, x_blk, x_cd, ↓reduceIte, Nat.reduceEqDiff, List.map_cons, List.map_nil, Int.reduceEq, Int.lt_irrefl, fr]
      exact hJ2 _ _ ⟨k + 1, Ae', ce', hltk, (by simp only [push_cast, ↓reduceIte, Nat.reduceEqDiff, true_and, and_true, and_self, eq_self, fr]), k19', hoR', hoA', hoE2, hro', b19⟩ (by simp only [push_cast, ↓reduceIte, Nat.reduceEqDiff, intOf, fr]; omega)
    · have hneg : ¬ ((0 : Int) < ((onlyL x.l m.ends true).length : Int)) := fun h => hM (hom.1 h)
      rw [if_neg hM] at hsucc
      rw [← hsucc] at k8 hoE
      simp (disch := first | with_reducible assumption | omega) only [push_cast, x_blk, x_cd, ↓reduceIte, Nat.reduceEqDiff, List.map_cons, List.map_nil, Int.reduceEq, Int.lt_irrefl, fr, hneg]
      exact hJ2 _ _ ⟨k + 1, Ae, ce, hltk, (by simp only [push_cast, ↓reduceIte, Nat.reduceEqDiff, true_and, and_true, and_self, eq_self, fr]), k8, hoR, hoA, hoE, hro, b12⟩ (by simp only [push_cast, ↓reduceIte, Nat.reduceEqDiff, intOf, fr]; omega)
  have hpk : (bIter (stepL m) es m.starts k)[k]? = some ((bIter (stepL m) es m.starts k)[k]'(by omega)) := List.getElem?_eq_getElem _
  have hkl0 : k < (bIter (stepL m) es m.starts k).length := by omega
  have hk256 : k ≤ 256 := by omega
  generalize (bIter (stepL m) es m.starts k)[k]'(by omega) = q at hpk
  simp (disch := first | with_reducible assumption | omega) only [push_cast, x_blk, x_cd, ↓reduceIte, Nat.reduceEqDiff, List.map_cons, List.map_nil, Int.reduceEq, Int.lt_irrefl, L_ref6_Make_2, fr, hlt]
  refine loop_rule (fun f' w' => ∃ (j : Nat) (hs : List Hd) (R : Option Addr) (cr : Nat) (ar : List Arr) (Aa : Option Addr) (ca : Nat), j ≤ m.events.toNat ∧
      (f' 1 = .pointer (some ⟨w.heap.size, 0, none⟩) ∧ f' 2 = .pointer (some ⟨w1.heap.size, 0, none⟩) ∧ f' 5 = .pointer (some ⟨w6.heap.size, 0, none⟩) ∧ f' 6 = .slice R hs.length cr ∧ f' 7 = .int .i64 k ∧ f' 8 = .int .i64 j) ∧
      hs.map (·.l) = (bPart (stepL m) es m.starts k j).map (·.1) ∧ hs.length ≤ 256 + j ∧ Arrows (stepL m) es k j (hs.map (·.l)) ar ∧
      Blk w' w6.heap.size 25 (MV.cells ⟨some ⟨w3.heap.size, 0, none⟩, 1, Aa, ca, none, 0⟩ ⟨0, m.events, [0], ar, []⟩) ∧ OwnR Hd.cells w6.heap.size 22 1 w' R cr hs ∧ OwnR arrCells w6.heap.size 85 3 w' Aa ca ar ∧
      RowsAt (Apu w1.heap.size w' w6.heap.size (Aa.map (·.block)) (R.map (·.block))) w' hs ∧ Below w6.heap.size w6 w')
    (fun f' _ => m.events.toNat - (intOf (f' 8)).toNat) ⟨0, hs, R, cr, ar, Aa, ca, Nat.zero_le _, (by simp only [push_cast, ↓reduceIte, Nat.reduceEqDiff, true_and, and_true, and_self, eq_self, fr]), hL, by omega, har, k8, hoR, hoA, hro, b12⟩ ?_
  have hpre := bPart_prefix (step := stepL m) (es := es) m.starts k
  clear k8 hoR hoA hro b12 har hL2 hL hlt hk fr hlb
  rintro f w11 ⟨j, hs, R, cr, ar, Aa, ca, hj, fr, hL, hL2, har, k8, hoR, hoA, hro, b12⟩ J2 hJ2
  have hlb : hs.length = (bPart (stepL m) es m.starts k j).length := by have := congrArg List.length hL; simpa using this
  have hal := har.len (by omega)
  have hkn : k * es.length ≤ 256 * 8 := Nat.mul_le_mul hk256 (by omega)
  have hq2 : (bPart (stepL m) es m.starts k j)[k]? = some q := by rw [prefix_getElem? (hpre j) hkl0]; exact hpk
  have hlt : k < hs.length := by have := (hpre j).length_le; omega
  have k1t := k1s.below b12 k1s.lt
  have bbt := bbs.trans (b12.mono bbs.size)
  by_cases hjt : (j : Int) < m.events
  case neg =>
    obtain rfl : j = m.events.toNat := by omega
    have hall := bPart_all (step := stepL m) (es := es) m.starts k
    rw [hel] at hall
    rw [hall] at hL hlb
    have har' : Arrows (stepL m) es (k + 1) 0 (hs.map (·.l)) ar := ⟨by rw [← prs_all, hel]; exact har.1, har.2⟩
    have hirr : ¬ ((m.events.toNat : Int) < m.events) := hjt
    by_cases hbig : (256 : Int) < (hs.length : Int)
    · simp (disch := first | with_reducible assumption | omega) only [push_cast, x_blk, x_cd, ↓reduceIte, Nat.reduceEqDiff, List.map_cons, List.map_nil, Int.reduceEq, Int.lt_irrefl, L_ref6_Make_1, fr, hjt, k1t.m1 ty_ag_3, hbig, mach0_built]
      have k2t := k2s.below b12 k2s.lt
      refine sto_blk k2t (cs := mv0.cells mach0) (e5 _ _) rfl (by rfl) ?_
      intro w13 k13 g13 z13
      simp (disch := first | with_reducible assumption | omega) only [push_cast, x_blk, x_cd, ↓reduceIte, Nat.reduceEqDiff, List.map_cons, List.map_nil, Int.reduceEq, Int.lt_irrefl, fr]
      exact fin_c3 k13 ty_ag_25 (e5 _ _) (by simp only [push_cast, ↓reduceIte, Nat.reduceEqDiff, Int.reduceEq, fr]) (hQ _ _ ⟨mv0, mach0, none, 0, [], 1, (by simp only [push_cast, ↓reduceIte, Nat.reduceEqDiff, Int.reduceEq, List.length_nil]), mach0_is _ _, Recs.nil _ _ _, fun x hx => absurd hx (by simp),
        g13.below bbt bbt.size (by intro a ha; injection ha with ha; subst ha; exact z2'), .inr (.inr ⟨p1, .inr ⟨rfl, rfl, rfl, k + 1, by rw [hes]; omega⟩, rfl, rfl, rfl⟩)⟩)
    · simp (disch := first | with_reducible assumption | omega) only [push_cast, x_blk, x_cd, ↓reduceIte, Nat.reduceEqDiff, List.map_cons, List.map_nil, Int.reduceEq, Int.lt_irrefl, L_ref6_Make_1, fr, hjt, k1t.m1 ty_ag_3, hbig]
      exact hJ _ _ ⟨k + 1, hs, R, cr, ar, Aa, ca, by omega, (by simp only [push_cast, ↓reduceIte, Nat.reduceEqDiff, true_and, and_true, and_self, eq_self, fr]), hL, by omega, har', k8, hoR, hoA, hro, b12⟩ (by rw [hmu]; simp only [push_cast, ↓reduceIte, Nat.reduceEqDiff, intOf, fr]; omega)
  have hx : hs[k]? = some (hs[k]'hlt) := List.getElem?_eq_getElem hlt
  generalize hs[k]'hlt = x at hx
  have hLk : (hs.map (·.l))[k]? = some x.l := by rw [List.getElem?_map, hx]; rfl
  have hxq : x.l = q.1 := by rw [hL, List.getElem?_map, hq2] at hLk; exact (Option.some.inj hLk).symm
  have hrowx : IsRow x.l m.states := by rw [hxq]; exact (hgood k j).univ q (List.mem_of_getElem? hq2)
  have hlenx := hrowx.len
  have sd : Same w11 w11.drew := (Same.refl _).drew
  have bd := sd.below w11.heap.size
  replace k8 := k8.below bd k8.lt
  replace hoR := hoR.below bd (Nat.le_refl _)
  replace hoA := hoA.below bd (Nat.le_refl _)
  replace hro := hro.belowU bd
  replace b12 := b12.trans (Below.mono bd b12.size)
  replace k1t := k1s.below b12 k1s.lt
  replace bbt := bbs.trans (b12.mono bbs.size)
  have hRd := Recs.lt hdEnc (by decide) (OwnR.recs hoR hdEnc (by decide))
  have hS := hRd.isSome (by omega)
  have lx := fun {K : Fr → World → Prop} {f : Fr} {d : Option Nat} {w : World} => hRd.ld0 (P := Tryd.prog) (K := K) (f := f) (d := d) (w := w) ty_ag_22 hx (v := .slice x.A x.l.length x.c) rfl
  simp only [Nat.mul_one] at lx
  have k1o := k1t.keep (w' := w11) rfl
  generalize hu : w11.drew = u at *
  simp (disch := first | with_reducible assumption | omega) only [push_cast, x_blk, x_cd, ↓reduceIte, Nat.reduceEqDiff, List.map_cons, List.map_nil, Int.reduceEq, Int.lt_irrefl, L_ref6_Make_1, fr, hjt, hlt, hu, k1o.m1 ty_ag_3, k1t.mA ty_ag_25 ty_sz_25, lx]
  refine call_of (ref2_Step (up ha bbt) hf (hro.ltU x (List.mem_of_getElem? hx)) (by omega) (j : Int)) ?_
  rintro v wS ⟨A9, c9, rfl, hoS, bS9⟩
  have l8 := k8.lt
  have ltA := fun {b : Nat} (hb : some b = Aa.map (·.block)) => hoA.ltB hb
  have ltR := fun {b : Nat} (hb : some b = R.map (·.block)) => hoR.ltB hb
  have zu := b12.size
  replace k8 := k8.below bS9 k8.lt
  replace hoR := hoR.below bS9 (Nat.le_refl _)
  replace hoA := hoA.below bS9 (Nat.le_refl _)
  replace hro := hro.belowU bS9
  replace b12 := b12.trans (Below.mono bS9 b12.size)
  have hsuccr : IsRow (stepL m x.l (j : Int)) m.states := stepL_row p1 _ _
  have hsucc := bPart_succ (stepL m) es m.starts k j (by omega)
  rw [hea j (by omega)] at hsucc
  have hadd : ∀ {i : Nat} {L' : List (List Int)}, Arrows (stepL m) es k j L' ar → L'[k]? = some x.l → L'[i]? = some (stepL m x.l (j : Int)) → Arrows (stepL m) es k (j + 1) L' (ar ++ [⟨k, j, i⟩]) := fun {i L'} h1 h2 h3 => by
    have := h1.add (i := i) (by omega) h2 (by rw [hea j (by omega)]; exact h3)
    rwa [hea j (by omega)] at this
  have hlens := hsuccr.len
  generalize hse : stepL m x.l (j : Int) = s at *
  have hRd := Recs.lt hdEnc (by decide) (OwnR.recs hoR hdEnc (by decide))
  have hnlen : ∀ h ∈ hs, h.l.length ≤ 9223372036854775807 := fun h hh => by
    have h1 : h.l ∈ hs.map (·.l) := List.mem_map.2 ⟨h, hh, rfl⟩
    rw [hL] at h1
    obtain ⟨r, hr, hre⟩ := List.mem_map.1 h1
    have := ((hgood k j).univ r hr).len
    rw [← hre]; omega
  simp (disch := first | with_reducible assumption | omega) only [push_cast, x_blk, x_cd, ↓reduceIte, Nat.reduceEqDiff, List.map_cons, List.map_nil, Int.reduceEq, Int.lt_irrefl, fr]
  refine call_of (ref6_Find hRd hro.ltU cr (by omega) hnlen (OwnI.ints hoS).lt c9) ?_
  rintro v wF ⟨i, rfl, hi, sF⟩
  have bF := sF.below wS.heap.size
  replace k8 := k8.below bF k8.lt
  replace hoR := hoR.below bF (Nat.le_refl _)
  replace hoA := hoA.below bF (Nat.le_refl _)
  replace hro := hro.belowU bF
  replace b12 := b12.trans (Below.mono bF b12.size)
  rcases hi with ⟨rfl, hnin⟩ | ⟨hil, hin⟩
  · rw [bAdd_new hq2 (by rw [← hxq, hse, ← hL]; exact hnin), ← hxq, hse] at hsucc
    have hoS := hoS.same sF
    have zF : wF.heap.size = wS.heap.size := by rw [sF.heap]
    have hro2 : RowsAt (Apu w1.heap.size wF w6.heap.size (Aa.map (·.block)) (R.map (·.block))) wF (hs ++ [⟨A9, c9, s⟩]) := fun y hy => by
      rcases List.mem_append.1 hy with hy | hy
      · exact hro y hy
      · rw [List.mem_singleton.1 hy]
        refine ((OwnI.ints hoS).both (OwnI.ints hoS).lt).mono fun b hb => ⟨by have := hb.1.1; omega, hb.2, by have := hb.1.1; omega, fun e => ?_, fun e => ?_⟩
        · have := ltA e; have := hb.1.1; omega
        · have := ltR e; have := hb.1.1; omega
    clear hro
    simp (disch := first | with_reducible assumption | omega) only [push_cast, x_blk, x_cd, ↓reduceIte, Nat.reduceEqDiff, List.map_cons, List.map_nil, Int.reduceEq, Int.lt_irrefl, fr, eq_self, bs_44]
    refine app_rec hdEnc slT_44 hoR ⟨A9, c9, s⟩ (by omega) (by omega) b12.size ?_
    intro R' cr' w16 hoR2 g16 hR16 hs16 hz16
    replace k8 := k8.grown g16.by_ (fun e => hoR.ne_blk k8 (by decide) e.symm)
    replace hoA := hoA.grew g16 (Own.apart hoA hoR (by decide))
    have hro := hro2.grewYU g16 hR16
    replace b12 := g16.below b12 b12.size hoR.geB
    clear hoR hro2
    have hoR := hoR2
    clear hoR2
    simp (disch := first | with_reducible assumption | omega) only [push_cast, x_blk, x_cd, ↓reduceIte, Nat.reduceEqDiff, List.map_cons, List.map_nil, Int.reduceEq, Int.lt_irrefl, fr, k8.m3 ty_ag_23, bl_arrow, bs_rec arrEnc slT_23 _ (by decide)]
    refine app_rec arrEnc slT_23 hoA (⟨(k : Int), (j : Int), (hs.length : Int)⟩ : Arr) (by omega) (by omega) b12.size ?_
    intro Aa' ca' w18 hoA' g18 hA18 hs18 hz18
    replace k8 := k8.grown g18.by_ (fun e => hoA.ne_blk k8 (by decide) e.symm)
    replace hoR := hoR.grew g18 (Own.apart hoR hoA (by decide))
    replace hro := hro.grewXU g18 hA18
    replace b12 := g18.below b12 b12.size hoA.geB
    clear hoA
    simp (disch := first | with_reducible assumption | omega) only [push_cast, x_blk, x_cd, ↓reduceIte, Nat.reduceEqDiff, List.map_cons, List.map_nil, Int.reduceEq, Int.lt_irrefl, fr]
    refine sto_slice k8 (by kernel_rfl) 3 (by simp) _ _ _ ?_
    intro w19 k19 g19 z19
    have k19' : Blk w19 w6.heap.size 25 (MV.cells ⟨some ⟨w3.heap.size, 0, none⟩, 1, Aa', ca', none, 0⟩ ⟨0, m.events, [0], ar ++ [⟨(k : Int), (j : Int), (hs.length : Int)⟩], []⟩) := by
      simp only [MV.cells, List.length_append, List.length_cons, List.length_nil, Nat.zero_add]
      exact k19
    have hoR' := hoR.grew g19 (.inr (hoR.ne_blk k8 (by decide)))
    have hoA2 := hoA'.grew g19 (.inr (hoA'.ne_blk k8 (by decide)))
    have hro' := hro.grewGU g19
    have b19 := g19.below b12 b12.size (by intro a ha; injection ha with ha; subst ha; exact Nat.le_refl _)
    simp (disch := first | with_reducible assumption | omega) only [push_cast, x_blk, x_cd, ↓reduceIte, Nat.reduceEqDiff, List.map_cons, List.map_nil, Int.reduceEq, Int.lt_irrefl, fr]
    have hmap : (hs ++ [(⟨A9, c9, s⟩ : Hd)]).map (·.l) = hs.map (·.l) ++ [s] := by rw [List.map_append]; rfl
    have hLm : (hs.map (·.l)).length = hs.length := List.length_map ..
    exact hJ2 _ _ ⟨j + 1, hs ++ [⟨A9, c9, s⟩], R', cr', ar ++ [⟨k, j, hs.length⟩], Aa', ca', by omega, (by simp only [push_cast, ↓reduceIte, Nat.reduceEqDiff, true_and, and_true, and_self, eq_self, fr, List.length_append, List.length_cons, List.length_nil]), by rw [hmap, hsucc, List.map_append, hL]; rfl, by simp; omega,
      by rw [hmap]; exact hadd (har.more s) (by rw [List.getElem?_append_left (by omega)]; exact hLk) (by rw [← hLm]; simp), k19', hoR', hoA2, hro', b19⟩ (by simp only [push_cast, ↓reduceIte, Nat.reduceEqDiff, intOf, fr]; omega)
  · have hne : ¬ ((i : Int) = (hs.length : Int)) := by omega
    have hinL : s ∈ (bPart (stepL m) es m.starts k j).map (·.1) := by rw [← hL]; exact List.mem_of_getElem? hin
    rw [bAdd_old hq2 (by rw [← hxq, hse]; exact hinL)] at hsucc
    simp (disch := first | with_reducible assumption | omega) only [push_cast, x_blk, x_cd, ↓reduceIte, Nat.reduceEqDiff, List.map_cons, List.map_nil, Int.reduceEq, Int.lt_irrefl, fr, hne]
    simp (disch := first | with_reducible assumption | omega) only [push_cast, x_blk, x_cd, ↓reduceIte, Nat.reduceEqDiff, List.map_cons, List.map_nil, Int.reduceEq, Int.lt_irrefl, fr, k8.m3 ty_ag_23, bl_arrow, bs_rec arrEnc slT_23 _ (by decide)]
    refine app_rec arrEnc slT_23 hoA (⟨(k : Int), (j : Int), (i : Int)⟩ : Arr) (by omega) (by omega) b12.size ?_
    intro Aa' ca' w18 hoA' g18 hA18 hs18 hz18
    replace k8 := k8.grown g18.by_ (fun e => hoA.ne_blk k8 (by decide) e.symm)
    replace hoR := hoR.grew g18 (Own.apart hoR hoA (by decide))
    replace hro := hro.grewXU g18 hA18
    replace b12 := g18.below b12 b12.size hoA.geB
    clear hoA
    simp (disch := first | with_reducible assumption | omega) only [push_cast, x_blk, x_cd, ↓reduceIte, Nat.reduceEqDiff, List.map_cons, List.map_nil, Int.reduceEq, Int.lt_irrefl, fr]
    refine sto_slice k8 (by kernel_rfl) 3 (by simp) _ _ _ ?_
    intro w19 k19 g19 z19
    have k19' : Blk w19 w6.heap.size 25 (MV.cells ⟨some ⟨w3.heap.size, 0, none⟩, 1, Aa', ca', none, 0⟩ ⟨0, m.events, [0], ar ++ [⟨(k : Int), (j : Int), (i : Int)⟩], []⟩) := by
      simp only [MV.cells, List.length_append, List.length_cons, List.length_nil, Nat.zero_add]
      exact k19
    have hoR' := hoR.grew g19 (.inr (hoR.ne_blk k8 (by decide)))
    have hoA2 := hoA'.grew g19 (.inr (hoA'.ne_blk k8 (by decide)))
    have hro' := hro.grewGU g19
    have b19 := g19.below b12 b12.size (by intro a ha; injection ha with ha; subst ha; exact Nat.le_refl _)
    simp (disch := first | with_reducible assumption | omega) only [push_cast, x_blk, x_cd, ↓reduceIte, Nat.reduceEqDiff, List.map_cons, List.map_nil, Int.reduceEq, Int.lt_irrefl, fr]
    exact hJ2 _ _ ⟨j + 1, hs, R, cr, ar ++ [⟨k, j, i⟩], Aa', ca', by omega, (by simp only [push_cast, ↓reduceIte, Nat.reduceEqDiff, true_and, and_true, and_self, eq_self, fr, List.length_append, List.length_cons, List.length_nil]), by rw [hsucc]; exact hL, by omega, hadd har hLk hin, k19', hoR', hoA2, hro', b19⟩ (by simp only [push_cast, ↓reduceIte, Nat.reduceEqDiff, intOf, fr]; omega)

end
end Go.Proofs.YtcjedgiglimipaaDoor
