/-
  Chapter 12: the program's Told: by its contract.
-/
import Derived.Test.YtcjinmgieiebbaaZToldC
import Derived.Test.YtcjinmgieiebbaaZToldQ
namespace Go.Proofs.Ytcjinmgieiebbaa
set_option linter.unusedSimpArgs false
set_option linter.unusedVariables false
set_option linter.unusedSectionVars false
open Go.RowKit

/-- What is told. -/
def ToldIs (m : Mach) (high : List Int) (b : Bool) (o : List Int) (e : Int) : Prop :=
  (¬ (m.May ∧ IsRow high m.events) ∧ b = false ∧ o = [] ∧ e = 2) ∨
  ((m.May ∧ IsRow high m.events) ∧ ¬ m.states ≤ 6 ∧ b = false ∧ o = [] ∧ e = 1) ∨
  ((m.May ∧ IsRow high m.events) ∧ m.states ≤ 6 ∧ e = 0 ∧ FirstIs (stepTo m (lowE high m.events.toNat)) (foundTo m) (lowE high m.events.toNat) (firstTo m (lowE high m.events.toNat)) b o)
theorem blt_plt : builtPl Try.prog 36 = some ([(0, 5), (5, 1), (6, 1)], [.int .i64 0, .int .i64 0, .slice none 0 0, .slice none 0 0, .slice none 0 0, .slice none 0 0, .slice none 0 0]) := by kernel_rfl
theorem bl_plt2 {K : Fr → World → Prop} {u : World} {f : Fr} {d : Option Nat} {w : World} (a : MV) (m : Mach) (A : Option Addr) (l : List Int) (c : Nat) :
    Val1 Try.prog K (Instr.build 36 #[(0, a.val m), (1, .slice A l.length c)]) u f d w = K (updO f d (.agg (PV.cells ⟨a, A, c, none, 0⟩ ⟨m, l, []⟩).toArray)) w := by
  refine bld_of ?_
  rw [built_of blt_plt]
  rw [fill_cons (off := 0) (size := 5) rfl rfl (by decide), fill_cons (off := 5) (size := 1) rfl rfl (by simp [putL, Value.cells, MV.cells]), fill_nil]
  simp [putL, Value.cells, MV.cells, PV.cells]
def U6t (s : St) : Prop := IsRow s.1 6 ∧ IsRow s.2 6
def code2t (s : St) : Nat := codeR s.1 + 64 * codeR s.2
theorem code2t_lt (s : St) (h : U6t s) : code2t s < 4096 := by
  have := codeR_lt h.1
  have := codeR_lt h.2
  unfold code2t; omega
theorem code2t_inj (s t : St) (h : U6t s) (h' : U6t t) (e : code2t s = code2t t) : s = t := by
  have h1 := codeR_lt h.1
  have h2 := codeR_lt h'.1
  unfold code2t at e
  exact Prod.ext (codeR_inj h.1 h'.1 (by omega)) (codeR_inj h.2 h'.2 (by omega))
theorem pairs_fewt {step : St → Int → St} {es : List Int} {first : St} (hU : ∀ s, U6t s → ∀ e ∈ es, U6t (step s e)) (h0 : U6t first) (k j : Nat) : (bPart step es first k j).length ≤ 4096 :=
  (bPart_good (U := U6t) hU h0 k j).len code2t 4096 code2t_lt code2t_inj
theorem stepTo_U6 {m : Mach} (hm : m.May) (h6 : m.states ≤ 6) (low : List Int) (s : St) (e : Int) : U6t (stepTo m low s e) := ⟨(seeL_row hm low s.1 e).more h6, (stepL_row hm _ _).more h6⟩
theorem firstTo_U6 {m : Mach} (hm : m.May) (h6 : m.states ≤ 6) (low : List Int) : U6t (firstTo m low) := ⟨(wideL_row hm (row_range (may_starts hm))).more h6, (may_starts hm).more h6⟩

set_option maxHeartbeats 1000000 in
theorem secret_Told {w : World} {a : MV} {m : Mach} (h : IsM (· < w.heap.size) w a m) (hf : m.Fits) {A1 : Option Addr} {c1 : Nat} {high : List Int} (h1 : Ints (· < w.heap.size) w A1 high) (n1 : high.length ≤ 17592186043904) :
    Cal Try.prog 6 [a.val m, .slice A1 high.length c1] w fun v w' => ∃ (b : Bool) (O : Option Addr) (co : Nat) (o : List Int) (e : Int), v = .tuple #[.bool b, .slice O o.length co, .int .i64 e] ∧ OwnI w.heap.size 3 w' O co o ∧ Below w.heap.size w w' ∧ ToldIs m high b o e := by
  refine cal_secret_Told (by simp) 100000 fun Q hQ => ?_
  simp (disch := first | with_reducible assumption | omega) only [push_cast, x_blk, x_cd, ↓reduceIte, Nat.reduceEqDiff, List.map_cons, List.map_nil, Int.reduceEq, Int.lt_irrefl, F_secret_Told]
  refine blk_of (box_agg _ (a.cells m)) ?_
  intro w1 k1 b1 z1
  simp (disch := first | with_reducible assumption | omega) only [push_cast, x_blk, x_cd, ↓reduceIte, Nat.reduceEqDiff, List.map_cons, List.map_nil, Int.reduceEq, Int.lt_irrefl, k1.mA ty_ag_25 ty_sz_25]
  refine call_of (machine_May (h.up b1) hf) ?_
  rintro v w2 ⟨rfl, b2⟩
  replace k1 := k1.below b2 k1.lt
  have bb := b1.trans (b2.mono b1.size)
  by_cases p1 : m.May
  case neg =>
    simp (disch := first | with_reducible assumption | omega) only [push_cast, x_blk, x_cd, ↓reduceIte, Nat.reduceEqDiff, List.map_cons, List.map_nil, Int.reduceEq, Int.lt_irrefl, p1]
    exact fin_3 (hQ _ _ ⟨false, none, 0, [], 2, (by simp only [push_cast, ↓reduceIte, Nat.reduceEqDiff, Int.reduceEq, List.length_nil]), Own.nil _ _ _ _, bb, .inl ⟨fun hh => p1 hh.1, rfl, rfl, rfl⟩⟩)
  simp (disch := first | with_reducible assumption | omega) only [push_cast, x_blk, x_cd, ↓reduceIte, Nat.reduceEqDiff, List.map_cons, List.map_nil, Int.reduceEq, Int.lt_irrefl, p1, k1.m1 ty_ag_3]
  refine call_of (row_Is (h1.below bb) c1 m.events (by omega)) ?_
  rintro v w3 ⟨rfl, s3⟩
  replace k1 := k1.same s3
  replace bb := bb.trans (s3.below _)
  by_cases p2 : IsRow high m.events
  case neg =>
    simp (disch := first | with_reducible assumption | omega) only [push_cast, x_blk, x_cd, ↓reduceIte, Nat.reduceEqDiff, List.map_cons, List.map_nil, Int.reduceEq, Int.lt_irrefl, p2]
    exact fin_3 (hQ _ _ ⟨false, none, 0, [], 2, (by simp only [push_cast, ↓reduceIte, Nat.reduceEqDiff, Int.reduceEq, List.length_nil]), Own.nil _ _ _ _, bb, .inl ⟨fun hh => p2 hh.2, rfl, rfl, rfl⟩⟩)
  by_cases p3 : m.states ≤ 6
  case neg =>
    have q3 : 6 < m.states := by omega
    simp (disch := first | with_reducible assumption | omega) only [push_cast, x_blk, x_cd, ↓reduceIte, Nat.reduceEqDiff, List.map_cons, List.map_nil, Int.reduceEq, Int.lt_irrefl, p2, k1.m0 ty_ag_3, q3]
    exact fin_3 (hQ _ _ ⟨false, none, 0, [], 1, (by simp only [push_cast, ↓reduceIte, Nat.reduceEqDiff, Int.reduceEq, List.length_nil]), Own.nil _ _ _ _, bb, .inr (.inl ⟨⟨p1, p2⟩, p3, rfl, rfl, rfl⟩)⟩)
  have q3 : ¬ 6 < m.states := by omega
  have ev0 : 0 ≤ m.events := p1.2.2.1
  have ev8 : m.events ≤ 8 := p1.2.2.2.1
  have st256 : m.states ≤ 256 := p1.2.1
  simp (disch := first | with_reducible assumption | omega) only [push_cast, x_blk, x_cd, ↓reduceIte, Nat.reduceEqDiff, List.map_cons, List.map_nil, Int.reduceEq, Int.lt_irrefl, p2, k1.m0 ty_ag_3, q3]
  refine blk_of (cs := [.slice none 0 0]) al_22 ?_
  intro w4 k2 b4 z4
  have l1 := k1.lt
  replace k1 := k1.below b4 k1.lt
  replace bb := bb.trans (b4.mono bb.size)
  have hG : w.heap.size ≤ w3.heap.size := Nat.le_trans (b1.trans (b2.mono b1.size)).size (s3.below 0).size
  clear b1 b2 s3 b4 z1
  generalize hgG : w3.heap.size = G at *
  simp (disch := first | with_reducible assumption | omega) only [push_cast, x_blk, x_cd, ↓reduceIte, Nat.reduceEqDiff, List.map_cons, List.map_nil, Int.reduceEq, Int.lt_irrefl, k1.m1 ty_ag_3]
  refine loop_rule (fun f w' => ∃ (k : Nat) (L : Option Addr) (c : Nat), k ≤ m.events.toNat ∧ (f 1 = .slice A1 high.length c1 ∧ f 2 = .pointer (some ⟨w.heap.size, 0, none⟩) ∧ f 4 = .bool false ∧ f 5 = .slice none 0 0 ∧ f 6 = .int .i64 0 ∧ f 7 = .pointer (some ⟨G, 0, none⟩) ∧ f 31 = .int .i64 m.events ∧ f 32 = .int .i64 k) ∧
      Blk w' w.heap.size 25 (a.cells m) ∧ Blk w' G 22 [.slice L (lowE high k).length c] ∧ OwnI w.heap.size 3 w' L c (lowE high k) ∧ Below w.heap.size w w')
    (fun f _ => m.events.toNat - (intOf (f 32)).toNat) ⟨0, none, 0, Nat.zero_le _, ⟨rfl, rfl, rfl, rfl, rfl, rfl, rfl, rfl⟩, k1, k2, Own.nil _ _ _ _, bb⟩ ?_
  clear k1 k2 bb z4
  rintro f w5 ⟨k, L, c, hk, fr, k1, k2, ho, bb⟩ J hJ
  have ne := lowE_len high k
  by_cases hlt : (k : Int) < m.events
  case pos =>
    have hmu : (intOf (f 32)).toNat = k := by rw [fr.2.2.2.2.2.2.2]; simp [intOf]
    simp (disch := first | with_reducible assumption | omega) only [push_cast, x_blk, x_cd, ↓reduceIte, Nat.reduceEqDiff, List.map_cons, List.map_nil, Int.reduceEq, Int.lt_irrefl, L_secret_Told_1, fr, hlt]
    refine call_of (row_Has (h1.below bb) c1 _ (by omega)) ?_
    rintro v w6 ⟨rfl, s6⟩
    replace k1 := k1.same s6
    replace k2 := k2.same s6
    replace ho := ho.same s6
    replace bb := bb.trans (s6.below _)
    have hs := lowE_succ high k
    by_cases q : (k : Int) ∈ high
    · rw [if_pos q] at hs
      simp (disch := first | with_reducible assumption | omega) only [push_cast, x_blk, x_cd, ↓reduceIte, Nat.reduceEqDiff, List.map_cons, List.map_nil, Int.reduceEq, Int.lt_irrefl, decide_eq_true q, fr]
      exact hJ _ _ ⟨k + 1, L, c, by omega, (by simp only [push_cast, ↓reduceIte, Nat.reduceEqDiff, true_and, and_true, and_self, eq_self, fr]), k1, by rw [hs]; exact k2, by rw [hs]; exact ho, bb⟩ (by rw [hmu]; simp only [push_cast, ↓reduceIte, Nat.reduceEqDiff, intOf, fr]; omega)
    rw [if_neg q] at hs
    have kl := fun {K : Fr → World → Prop} {f : Fr} {d : Option Nat} {w : World} => k2.ld (P := Try.prog) (K := K) (f := f) (d := d) (w := w) ty_ag_22 0 (by simp)
    simp only [List.getD_cons_zero] at kl
    simp (disch := first | with_reducible assumption | omega) only [push_cast, x_blk, x_cd, ↓reduceIte, Nat.reduceEqDiff, List.map_cons, List.map_nil, Int.reduceEq, Int.lt_irrefl, decide_eq_false q, fr, kl, bs_22]
    refine app_int slT_22 ho (k : Int) (by omega) bb.size ?_
    intro A7 c7 w7 o7 g7 e7 _ z7
    have k17 := k1.grown g7.by_ (fun e => ho.ne_blk k1 (by decide) e.symm)
    have k27 := k2.grown g7.by_ (fun e => ho.ne_blk k2 (by decide) e.symm)
    have bb7 := g7.below bb bb.size ho.geB
    have hlen : (lowE high k).length + 1 = (lowE high k ++ [(k : Int)]).length := by simp
    rw [hlen]
    simp (disch := first | with_reducible assumption | omega) only [push_cast, x_blk, x_cd, ↓reduceIte, Nat.reduceEqDiff, List.map_cons, List.map_nil, Int.reduceEq, Int.lt_irrefl, fr]
    refine sto_slice k27 (by kernel_rfl) 0 (by simp) _ _ _ ?_
    intro w8 k8 g8 z8
    have k18 := k17.grown g8.by_ (by simp; omega)
    have o8 := o7.grew g8 (.inr (o7.ne_blk k27 (by decide)))
    have bb8 := g8.below bb7 bb7.size (by intro a ha; injection ha with ha; subst ha; exact hG)
    simp (disch := first | with_reducible assumption | omega) only [push_cast, x_blk, x_cd, ↓reduceIte, Nat.reduceEqDiff, List.map_cons, List.map_nil, Int.reduceEq, Int.lt_irrefl, fr]
    exact hJ _ _ ⟨k + 1, A7, c7, by omega, (by simp only [push_cast, ↓reduceIte, Nat.reduceEqDiff, true_and, and_true, and_self, eq_self, fr]), k18, by rw [hs]; exact k8, by rw [hs]; exact o8, bb8⟩ (by rw [hmu]; simp only [push_cast, ↓reduceIte, Nat.reduceEqDiff, intOf, fr]; omega)
  obtain rfl : k = m.events.toNat := by omega
  have l15 := k1.lt
  have l25 := k2.lt
  generalize hlow : lowE high m.events.toNat = low at *
  have kl := fun {K : Fr → World → Prop} {f : Fr} {d : Option Nat} {w : World} => k2.ld (P := Try.prog) (K := K) (f := f) (d := d) (w := w) ty_ag_22 0 (by simp)
  simp only [List.getD_cons_zero] at kl
  simp (disch := first | with_reducible assumption | omega) only [push_cast, x_blk, x_cd, ↓reduceIte, Nat.reduceEqDiff, List.map_cons, List.map_nil, Int.reduceEq, Int.lt_irrefl, L_secret_Told_1, fr, hlt, k1.mA ty_ag_25 ty_sz_25, kl, bl_plt2]
  refine blk_of (cs := PV.cells ⟨mv0, none, 0, none, 0⟩ ⟨mach0, [], []⟩) al_36 ?_
  intro w6 k3 b6 z6
  replace k1 := k1.below b6 k1.lt
  replace k2 := k2.below b6 k2.lt
  have ho6 := ho.below b6 (Nat.le_refl _)
  have bb6 := bb.trans (b6.mono bb.size)
  have hG3 : w.heap.size ≤ w5.heap.size := bb.size
  generalize hg3 : w5.heap.size = G3 at *
  simp (disch := first | with_reducible assumption | omega) only [push_cast, x_blk, x_cd, ↓reduceIte, Nat.reduceEqDiff, List.map_cons, List.map_nil, Int.reduceEq, Int.lt_irrefl]
  refine sto_blk (cs := PV.cells ⟨a, L, c, none, 0⟩ ⟨m, low, []⟩) k3 (by simpa using ty_sz_36) (by simp) rfl ?_
  intro w7 k7 g7 z7
  replace k1 := k1.grown g7.by_ (by simp; omega)
  replace k2 := k2.grown g7.by_ (by simp; omega)
  have ho7 := ho6.grew g7 (.inr (ho6.ne_blk k3 (by decide)))
  have bb7 := g7.below bb6 bb6.size (by intro a ha; injection ha with ha; subst ha; exact hG3)
  have hlE := hf.lenE
  have hlS := hf.lenS
  clear k3 ho6 bb6 g7 ho
  simp (disch := first | with_reducible assumption | omega) only [push_cast, x_blk, x_cd, ↓reduceIte, Nat.reduceEqDiff, List.map_cons, List.map_nil, Int.reduceEq, Int.lt_irrefl, fr, k1.m4 ty_ag_22]
  refine call_of (machine_Of' (h.up bb7).ends _ (by omega) ((may_ends p1).small st256)) ?_
  rintro v w8 ⟨rfl, b8⟩
  replace k1 := k1.below b8 k1.lt
  replace k2 := k2.below b8 k2.lt
  replace k7 := k7.below b8 k7.lt
  have ho8 := ho7.below b8 (Nat.le_refl _)
  have bb8 := bb7.trans (b8.mono bb7.size)
  simp (disch := first | with_reducible assumption | omega) only [push_cast, x_blk, x_cd, ↓reduceIte, Nat.reduceEqDiff, List.map_cons, List.map_nil, Int.reduceEq, Int.lt_irrefl]
  refine blk_of (cs := setCells [0, 0, 0, 0]) al_46 ?_
  intro w9 k9 b9 z9
  replace k1 := k1.below b9 k1.lt
  replace k2 := k2.below b9 k2.lt
  replace k7 := k7.below b9 k7.lt
  have ho9 := ho8.below b9 (Nat.le_refl _)
  have bb9 := bb8.trans (b9.mono bb8.size)
  have hG8 : w.heap.size ≤ w8.heap.size := bb8.size
  have l1 := k1.lt
  have l2 := k2.lt
  have l7 := k7.lt
  have s67 := b8.size
  have n1 : w.heap.size ≠ w8.heap.size := by have := b8.size; omega
  have n2 : G ≠ w8.heap.size := by have := b8.size; omega
  have n7 : G3 ≠ w8.heap.size := by have := b8.size; omega
  generalize hg8 : w8.heap.size = G8 at *
  simp (disch := first | with_reducible assumption | omega) only [push_cast, x_blk, x_cd, ↓reduceIte, Nat.reduceEqDiff, List.map_cons, List.map_nil, Int.reduceEq, Int.lt_irrefl]
  refine sto_blk (cs := setCells (wordsOf m.ends)) k9 (by rw [setCells_4]; exact ty_sz_46) (by rw [setCells_4]; rfl) (setCells_one _) ?_
  intro w10 k10 g10 z10
  replace k1 := (k1.grown g10.by_ (by simpa using n1)).drew
  replace k2 := (k2.grown g10.by_ (by simpa using n2)).drew
  replace k7 := (k7.grown g10.by_ (by simpa using n7)).drew
  replace k10 := k10.drew
  have ho10 := ho9.grew g10 (.inr (ho9.ne_blk k9 (by decide)))
  have bb10 := drawn (g10.below bb9 bb9.size (by intro a ha; injection ha with ha; subst ha; exact hG8))
  have ho10d : OwnI w.heap.size 3 w10.drew L c low := ho10.same ((Same.refl _).drew)
  clear ho7 ho8 ho9 ho10 k9 b8 b9 g10
  have hS : Small m.starts := (may_starts p1).small st256
  generalize hu : w10.drew = u at *
  have kl := fun {K : Fr → World → Prop} {f : Fr} {d : Option Nat} {w : World} => k2.ld (P := Try.prog) (K := K) (f := f) (d := d) (w := w) ty_ag_22 0 (by simp)
  simp only [List.getD_cons_zero] at kl
  have hPm : IsP (· < u.heap.size) u ⟨a, L, c, none, 0⟩ ⟨m, low, []⟩ := ⟨h.up bb10, Ints.lt (OwnI.ints ho10d), Ints.nil _ _ _⟩
  simp (disch := first | with_reducible assumption | omega) only [push_cast, x_blk, x_cd, ↓reduceIte, Nat.reduceEqDiff, List.map_cons, List.map_nil, Int.reduceEq, Int.lt_irrefl, fr, hu, k7.pA', k1.m2 ty_ag_22, kl]
  have hlen8 : low.length ≤ 8 := by omega
  have hPf : (⟨m, low, []⟩ : Plt).Fits := ⟨hf, fun x hx => by
    have := (mem_lowE.1 (hlow ▸ hx)).1
    unfold I64; omega, fun x hx => absurd hx (by simp), by show low.length ≤ _; omega, by simp⟩
  refine call_of (current_First hPm hPf p1) ?_
  rintro v w11 ⟨rfl, b11⟩
  have bb11 := bb10.trans (b11.mono bb10.size)
  simp (disch := first | with_reducible assumption | omega) only [push_cast, x_blk, x_cd, ↓reduceIte, Nat.reduceEqDiff, List.map_cons, List.map_nil, Int.reduceEq, Int.lt_irrefl, fr]
  refine ⟨b11, ?_⟩
  refine call_of (machine_Of' (h.up bb11).starts _ hlS hS) ?_
  rintro v w12 ⟨rfl, b12⟩
  have b1112 := b11.trans (b12.mono b11.size)
  have bb12 := bb10.trans (b1112.mono bb10.size)
  simp (disch := first | with_reducible assumption | omega) only [push_cast, x_blk, x_cd, ↓reduceIte, Nat.reduceEqDiff, List.map_cons, List.map_nil, Int.reduceEq, Int.lt_irrefl, fr, bl_pair]
  refine ⟨b1112, ?_⟩
  replace k1 := k1.below b1112 k1.lt
  replace k2 := k2.below b1112 k2.lt
  replace k7 := k7.below b1112 k7.lt
  replace k10 := k10.below b1112 k10.lt
  have ho12 := ho10d.below b1112 (Nat.le_refl _)
  have hF : firstP ⟨m, low, []⟩ = wideL m low m.starts := rfl
  rw [hF]
  have hM12 := h.up bb12
  have hP12 : IsP (· < w12.heap.size) w12 ⟨a, L, c, none, 0⟩ ⟨m, low, []⟩ := hPm.up b1112
  have hI12 : Ints (· < w12.heap.size) w12 L low := Ints.lt (OwnI.ints ho12)
  have hSt : ∀ (s : St) (e : Nat), U6t (((nextP ⟨m, low, []⟩ s.1 (low.getD e 0), stepL m s.2 (low.getD e 0))) : St) := fun s e => stepTo_U6 p1 p3 low s _
  have hUP : ∀ s : St, U6t s → UP s := fun s hs => ⟨⟨hs.1.strict, hs.1.small (by decide)⟩, hs.2.strict, hs.2.small (by decide)⟩
  refine call_of (within_Words (N := 4096) (n := low.length) (first := (wideL m low m.starts, m.starts)) (step := fun (s : St) (e : Int) => ((nextP ⟨m, low, []⟩ s.1 (low.getD e.toNat 0), stepL m s.2 (low.getD e.toNat 0)) : St)) (found := foundTo m)
    (hUP _ (firstTo_U6 p1 p3 low)) (by omega) (fun s _ e _ => hUP _ (hSt s e.toNat)) (fun k j => pairs_fewt (fun s _ e _ => hSt s e.toNat) (firstTo_U6 p1 p3 low) k j) (by decide)
    (fun w' hw s hs e h0 h1 => by
      have h2 : ((e.toNat : Nat) : Int) = e := by omega
      have := secret_Told_1 (w := w') (hP12.up hw) hPf p1 (hM12.up hw) p1 (k7.below hw k7.lt) (k1.below hw k1.lt) (k2.below hw k2.lt) ((hI12.below hw).mono fun b hb => Nat.lt_of_lt_of_le hb hw.size) s (k := e.toNat) (by omega) (by omega)
      rw [h2] at this
      exact this)
    (fun w' hw s hs => secret_Told_2 (k10.below hw k10.lt) hs)) ?_
  rintro v w13 ⟨O, co, o, bo, rfl, oo, b13, hfi⟩
  have b1113 := b1112.trans (b13.mono b1112.size)
  have bb13 := bb10.trans (b1113.mono bb10.size)
  have lG := k2.lt
  have ho13 := ho12.below b13 (Nat.le_refl _)
  simp (disch := first | with_reducible assumption | omega) only [push_cast, x_blk, x_cd, ↓reduceIte, Nat.reduceEqDiff, List.map_cons, List.map_nil, Int.reduceEq, Int.lt_irrefl, fr]
  refine ⟨b1113, ?_⟩
  obtain ⟨hso0, ho1000⟩ := hfi.bounds (evs_pair _) (N := 4096) fun k => pairs_fewt (fun s _ e _ => hSt s e.toNat) (firstTo_U6 p1 p3 low) k 0
  have hso : ∀ i, i < o.length → ∃ q : Nat, o.getD i 0 = (q : Int) ∧ q < low.length := fun i hi => by
    have := evs_mem.1 (hso0 _ (getD_mem o 0 i hi))
    exact ⟨(o.getD i 0).toNat, by omega, by omega⟩
  have hoO := oo.base (B' := w.heap.size) bb12.size
  clear kl
  refine loop_rule (fun f w' => ∃ k : Nat, k ≤ o.length ∧ (f 7 = .pointer (some ⟨G, 0, none⟩) ∧ f 11 = .slice O o.length co ∧ f 12 = .bool bo ∧ f 64 = .slice O o.length co ∧ f 65 = .int .i64 o.length ∧ f 66 = .int .i64 k) ∧
      OwnI w12.heap.size 3 w' O co ((o.take k).map (fun i => low.getD i.toNat 0) ++ o.drop k) ∧ Below w12.heap.size w12 w')
    (fun f _ => o.length - (intOf (f 66)).toNat) ⟨0, Nat.zero_le _, (by simp only [push_cast, ↓reduceIte, Nat.reduceEqDiff, true_and, and_true, and_self, eq_self, fr, fr]), by simpa using oo, b13⟩ ?_
  have hres : ToldIs m high bo (o.map fun i => low.getD i.toNat 0) 0 := .inr (.inr ⟨⟨p1, p2⟩, p3, rfl, by
    have := hfi.map (step := stepTo m low) (φ := fun i => low.getD i.toNat 0) fun s e _ => rfl
    rw [evs_map] at this
    rw [hlow]
    exact this⟩)
  clear oo b13 fr hfi
  rintro f w14 ⟨k, hk, fr, ok, b14⟩ J2 hJ2
  by_cases hlt : k < o.length
  case neg =>
    obtain rfl : k = o.length := by omega
    rw [List.take_length, List.drop_length, List.append_nil] at ok
    simp (disch := first | with_reducible assumption | omega) only [push_cast, x_blk, x_cd, ↓reduceIte, Nat.reduceEqDiff, List.map_cons, List.map_nil, Int.reduceEq, Int.lt_irrefl, L_secret_Told_0, fr, hlt]
    exact fin_3 (hQ _ _ ⟨bo, O, co, o.map fun i => low.getD i.toNat 0, 0, (by simp only [push_cast, ↓reduceIte, Nat.reduceEqDiff, Int.reduceEq, fr, List.length_map]), ok.base bb12.size, bb12.trans (b14.mono bb12.size), hres⟩)
  have hmu : (intOf (f 66)).toNat = k := by rw [fr.2.2.2.2.2]; simp [intOf]
  obtain ⟨q, hq, hql⟩ := hso k hlt
  have hlenk : ((o.take k).map (fun i => low.getD i.toNat 0) ++ o.drop k).length = o.length := by simp; omega
  have hat : ((o.take k).map (fun i => low.getD i.toNat 0) ++ o.drop k).getD k 0 = (q : Int) := by
    rw [List.getD_eq_getElem?_getD, List.getElem?_append_right (by simp; omega)]
    simp only [List.length_map, List.length_take, Nat.min_eq_left hk, Nat.sub_self]
    rw [List.getElem?_drop, Nat.add_zero, ← List.getD_eq_getElem?_getD, hq]
  have hset : ((o.take k).map (fun i => low.getD i.toNat 0) ++ o.drop k).set k (low.getD q 0) = (o.take (k + 1)).map (fun i => low.getD i.toNat 0) ++ o.drop (k + 1) := by
    rw [take_snoc o 0 k hlt, List.map_append, hq, List.set_append_right _ _ (by simp; omega)]
    simp only [List.length_map, List.length_take, Nat.min_eq_left hk, Nat.sub_self]
    rw [List.drop_eq_getElem_cons hlt]
    simp only [List.set_cons_zero, List.append_assoc, List.map_cons, List.map_nil, Int.toNat_natCast, List.cons_append, List.nil_append]
  have hOs := ok.isSome (by omega)
  have hIo := OwnI.ints ok
  generalize (o.take k).map (fun i => low.getD i.toNat 0) ++ o.drop k = cur at *
  have hldo := fun {K : Fr → World → Prop} {f : Fr} {d : Option Nat} {w : World} => hIo.ld (P := Try.prog) (K := K) (f := f) (d := d) (w := w) ty_ag_3 k (by omega)
  rw [hat] at hldo
  have kl4 := k2.below b14 lG
  have kl := fun {K : Fr → World → Prop} {f : Fr} {d : Option Nat} {w : World} => kl4.ld (P := Try.prog) (K := K) (f := f) (d := d) (w := w) ty_ag_22 0 (by simp)
  simp only [List.getD_cons_zero] at kl
  have hI14 := (hI12.below b14)
  have hLs := hI14.isSome (by omega)
  have hldl := fun {K : Fr → World → Prop} {f : Fr} {d : Option Nat} {w : World} => hI14.ld (P := Try.prog) (K := K) (f := f) (d := d) (w := w) ty_ag_3 q hql
  simp (disch := first | with_reducible assumption | omega) only [push_cast, x_blk, x_cd, ↓reduceIte, Nat.reduceEqDiff, List.map_cons, List.map_nil, Int.reduceEq, Int.lt_irrefl, L_secret_Told_0, fr, hlt, hldo, kl, hql, hldl]
  refine sto_int ty_ag_3 (by kernel_rfl) ok k (by rw [hlenk]; exact hlt) _ ?_
  intro w15 o15 g15 z15
  have b15 := g15.below b14 b14.size ok.geB
  simp (disch := first | with_reducible assumption | omega) only [push_cast, x_blk, x_cd, ↓reduceIte, Nat.reduceEqDiff, List.map_cons, List.map_nil, Int.reduceEq, Int.lt_irrefl, fr]
  exact hJ2 _ _ ⟨k + 1, hlt, (by simp only [push_cast, ↓reduceIte, Nat.reduceEqDiff, true_and, and_true, and_self, eq_self, fr]), by rw [← hset]; exact o15, b15⟩ (by simp only [push_cast, ↓reduceIte, Nat.reduceEqDiff, intOf, fr]; omega)
end Go.Proofs.Ytcjinmgieiebbaa
