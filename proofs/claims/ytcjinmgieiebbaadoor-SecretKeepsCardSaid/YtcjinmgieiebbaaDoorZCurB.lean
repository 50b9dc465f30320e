/-
  Chapter 9: the program's Within of sets, Tells, Clone, Places, Leak: by their contracts.
-/
import Derived.Test.YtcjinmgieiebbaaDoorZCur
import Derived.Test.YtcjinmgieiebbaaDoorZLay
import Derived.Lib.SliceRun
namespace Go.Proofs.YtcjinmgieiebbaaDoor
set_option linter.unusedSimpArgs false
set_option linter.unusedVariables false
set_option linter.unusedSectionVars false
open Go.RowKit

def TellsL (s l : List Int) : Prop := s ≠ [] ∧ AllIn s l
instance (s l : List Int) : Decidable (TellsL s l) := inferInstanceAs (Decidable (_ ∧ _))
theorem bin_eqnil {P : Program} {K : Fr → World → Prop} {u w : World} {f : Fr} {d : Option Nat} {t e : TypeId} {xo yo : Operand} (ht : P.underlying t = some (.slice e)) (A : Option Addr) (n c n' c' : Nat) : Val1 P K (binS .eql t xo yo (.slice A n c) (.slice none n' c')) u f d w = K (updO f d (.bool A.isNone)) w :=
  val1_of u f d w fun w' _ => by
    simp only [binS, eqGuard]
    exact Lib.run_eql_slice_nil w' t e A n c n' c' ht
theorem slices_Clone {w : World} {A : Option Addr} {c : Nat} {l : List Int} (h : Ints (· < w.heap.size) w A l) (hl : l.length ≤ 17592186043904) :
    Cal Tryd.prog 91 [.slice A l.length c] w fun v w' => ∃ A' c', v = .slice A' l.length c' ∧ OwnI w.heap.size 3 w' A' c' l ∧ Below w.heap.size w w' := by
  have ht : Tryd.prog.underlying 22 = some (.slice 3) := Tryd.underlying22
  refine cal_slices_Clone (by simp) 100000 fun Q hQ => ?_
  by_cases hA : A.isNone = true
  · have hln : l = [] := by
      cases l with
      | nil => rfl
      | cons x l =>
        have := h.isSome (by simp)
        cases A <;> simp_all
    subst hln
    simp (disch := first | with_reducible assumption | omega) only [push_cast, x_blk, x_cd, ↓reduceIte, Nat.reduceEqDiff, List.map_cons, List.map_nil, Int.reduceEq, Int.lt_irrefl, F_slices_Clone, bin_eqnil ht, hA]
    exact fin_1 (hQ _ _ ⟨none, 0, (by simp only [push_cast, ↓reduceIte, Nat.reduceEqDiff, Int.reduceEq, List.length_nil]), Own.nil _ _ _ _, Below.refl _ _⟩)
  · have hA' : A.isNone = false := Bool.not_eq_true _ ▸ hA
    simp (disch := first | with_reducible assumption | omega) only [push_cast, x_blk, x_cd, ↓reduceIte, Nat.reduceEqDiff, List.map_cons, List.map_nil, Int.reduceEq, Int.lt_irrefl, F_slices_Clone, bin_eqnil ht, hA']
    have b8 : Below w.heap.size w (w.alloc (.cells [].toArray 3)) := (Below.refl _ _).alloc (Nat.le_refl _) _
    have o8 : OwnI w.heap.size 3 (w.alloc (.cells [].toArray 3)) (some ⟨w.heap.size, 0, none⟩) 0 [] := ⟨World.ownsRow_made w #[] 0 (Nat.le_refl _) (by decide) (by simp)⟩
    generalize w.alloc (Obj.cells [].toArray 3) = w8 at *
    refine app_ints (l := []) slT_22 o8 (h.up b8) (by simp; omega) b8.size ?_
    intro A9 c9 w9 o9 hg9 _ z9
    rw [List.nil_append] at o9
    simp (disch := first | with_reducible assumption | omega) only [push_cast, x_blk, x_cd, ↓reduceIte, Nat.reduceEqDiff, List.map_cons, List.map_nil, Int.reduceEq, Int.lt_irrefl, List.length_nil, Nat.zero_add]
    exact fin_1 (hQ _ _ ⟨A9, c9, (by simp only [push_cast, ↓reduceIte, Nat.reduceEqDiff, Int.reduceEq, List.length_nil, Nat.zero_add]), o9, hg9.below b8 b8.size o8.geB⟩)

/-- A row in a block of one's own that holds elements of the type e. -/
structure RowF (B e : Nat) (w : World) (A : Option Addr) (l : List Int) : Prop where
  ints : Ints (fun b => B ≤ b ∧ b < w.heap.size ∧ ∃ cs r, w.heap[b]? = some (.cells cs e r)) w A l
section
variable {B e : Nat} {w w' : World} {A : Option Addr} {l : List Int}
theorem RowF.nil (B e : Nat) (w : World) (A : Option Addr) : RowF B e w A [] := ⟨Ints.nil _ _ _⟩
theorem RowF.lt (h : RowF B e w A l) : Ints (· < w.heap.size) w A l := h.ints.mono fun _ hb => hb.2.1
theorem RowF.mid (h : RowF B e w A l) : Ints (fun b => B ≤ b ∧ b < w.heap.size) w A l := h.ints.mono fun _ hb => ⟨hb.1, hb.2.1⟩
theorem RowF.keep (h : RowF B e w A l) (hz : w.heap.size ≤ w'.heap.size) (hk : ∀ b, B ≤ b → b < w.heap.size → (∃ cs r, w.heap[b]? = some (.cells cs e r)) → w'.heap[b]? = w.heap[b]?) : RowF B e w' A l := by
  refine ⟨⟨h.ints.isSome, fun hl => ?_, fun i hi => ?_⟩⟩
  · obtain ⟨h0, h1, cs, r, h3⟩ := h.ints.block hl
    exact ⟨h0, by omega, cs, r, by rw [hk _ h0 h1 ⟨cs, r, h3⟩]; exact h3⟩
  · obtain ⟨h0, h1, h2⟩ := h.ints.block (by omega)
    rw [← h.ints.cell i hi]
    exact World.cell?_of_block (by rw [eA_block]; exact hk _ h0 h1 h2)
theorem RowF.below (h : RowF B e w A l) (hb : Below w.heap.size w w') : RowF B e w' A l := h.keep hb.size fun b _ hlt _ => hb.block b hlt
theorem RowF.same (h : RowF B e w A l) (hs : Same w w') : RowF B e w' A l := h.below (hs.below _)
theorem RowF.grew {e' sz c n B' : Nat} {A2 : Option Addr} {xs : List Value} (h : RowF B e w A l) (ho : Own B' e' sz w A2 c n xs) (hne : e' ≠ e) (hg : Grew w w' A2) : RowF B e w' A l :=
  h.keep hg.by_.size fun b _ hlt hor => hg.by_.block b hlt (by
    rcases ho.own.2 with ⟨h0, _⟩ | ⟨g, cap, cur, hv, hB, hh, _⟩
    · injection h0 with h0; subst h0; simp
    · injection hv with hv
      subst hv
      simp only [Option.map_some, ne_eq, Option.some.injEq]
      rintro rfl
      obtain ⟨cs, r, h1⟩ := hor
      rw [h1] at hh
      injection hh with hh
      injection hh with _ ht
      exact hne ht.symm)
theorem RowF.grewB {g t : Nat} {cs : List Value} (h : RowF B e w A l) (hb : Blk w g t cs) (hne : t ≠ e) {i : Nat} (hg : Grew w w' (some ⟨g, i, none⟩)) : RowF B e w' A l :=
  h.keep hg.by_.size fun b _ hlt hor => hg.by_.block b hlt (by
    simp only [Option.map_some, ne_eq, Option.some.injEq]
    rintro rfl
    obtain ⟨cs', r, h1⟩ := hor
    unfold Blk at hb
    rw [hb] at h1
    injection h1 with h1
    injection h1 with _ ht
    exact hne ht)
theorem RowF.grewM {P : Program} {k b0 : Nat} {kv : List (Value × Value)} (h : RowF B e w A l) (hm : MapIs P k w b0 kv) {i : Nat} (hg : Grew w w' (some ⟨b0, i, none⟩)) : RowF B e w' A l :=
  h.keep hg.by_.size fun b _ hlt hor => hg.by_.block b hlt (by
    simp only [Option.map_some, ne_eq, Option.some.injEq]
    rintro rfl
    obtain ⟨cs', r, h1⟩ := hor
    obtain ⟨es, _, hm', _⟩ := hm
    rw [hm'] at h1
    injection h1 with h1
    cases h1)
theorem RowF.of_own {B' c : Nat} (h : OwnI B' e w A c l) (hB : B ≤ B') : RowF B e w A l := by
  refine ⟨?_⟩
  have hi := OwnI.ints h
  refine ⟨hi.isSome, fun hl => ?_, hi.cell⟩
  have hA := h.isSome hl
  have hb := h.block hA
  refine ⟨by omega, hb.2, ?_⟩
  rcases h.own.2 with ⟨h0, _⟩ | ⟨g, cap, cur, hv, _, hh, _⟩
  · injection h0 with h0; subst h0; cases hA
  · injection hv with hv
    subst hv
    exact ⟨cur, _, hh⟩
end

structure Pc where
  s : List Int
  W : Option Addr
  cw : Nat
  w : List Int
def Pc.cells (p : Pc) : List Value := setCells (wordsOf p.s) ++ [.slice p.W p.w.length p.cw]
def Pc.abs (p : Pc) : List Int × List Int := (p.s, p.w)
theorem pcEnc : Enc Pc.cells 5 := ⟨fun p => by simp [Pc.cells, setCells_4], fun p u hu => by
  unfold Pc.cells at hu
  rcases List.mem_append.1 hu with hu | hu
  · exact List.all_eq_true.1 (setCells_one _) u hu
  · rw [List.mem_singleton.1 hu]; rfl⟩
theorem Pc.cell4 (p : Pc) : (Pc.cells p)[4]? = some (.slice p.W p.w.length p.cw) := by
  unfold Pc.cells
  rw [List.getElem?_append_right (by rw [setCells_4]; omega), setCells_4]; rfl
theorem Pc.cell0 (p : Pc) : ∀ k v, (setCells (wordsOf p.s))[k]? = some v → (Pc.cells p)[0 + k]? = some v := fun k v h => by
  unfold Pc.cells
  rw [Nat.zero_add, List.getElem?_append_left (by
    rcases Nat.lt_or_ge k (setCells (wordsOf p.s)).length with h1 | h1
    · exact h1
    · rw [List.getElem?_eq_none h1] at h; cases h)]
  exact h
theorem blt_pc : builtPl Tryd.prog 72 = some ([(0, 4), (4, 1)], [.int .u64 0, .int .u64 0, .int .u64 0, .int .u64 0, .slice none 0 0]) := by kernel_rfl
theorem bl_pc {K : Fr → World → Prop} {u : World} {f : Fr} {d : Option Nat} {w : World} (s : List Int) (W : Option Addr) (n c : Nat) :
    Val1 Tryd.prog K (Instr.build 72 #[(0, setV s), (1, .slice W n c)]) u f d w = K (updO f d (.agg (setCells (wordsOf s) ++ [Value.slice W n c]).toArray)) w := by
  have := bld_2 (P := Tryd.prog) (K := K) (u := u) (f := f) (d := d) (w := w) blt_pc rfl rfl rfl (v0 := setV s) (v1 := .slice W n c) (by simp [Value.cells, setCells_4]) rfl
  rw [this]; rfl
theorem bl_pcx {K : Fr → World → Prop} {u : World} {f : Fr} {d : Option Nat} {w : World} (x : Pc) :
    Val1 Tryd.prog K (Instr.build 72 #[(0, setV x.s), (1, .slice x.W x.w.length x.cw)]) u f d w = K (updO f d (.agg x.cells.toArray)) w := bl_pc x.s x.W x.w.length x.cw
theorem bl_pc0 {K : Fr → World → Prop} {u : World} {f : Fr} {d : Option Nat} {w : World} (s : List Int) :
    Val1 Tryd.prog K (Instr.build 72 #[(0, setV s)]) u f d w = K (updO f d (.agg (Pc.cells ⟨s, none, 0, []⟩).toArray)) w := by
  refine bld_of ?_
  rw [built_of blt_pc]
  rw [fill_cons (off := 0) (size := 4) rfl (by simp [Value.cells, setCells_4]) (by decide), fill_nil]
  congr 2
  unfold putL Pc.cells
  simp [Value.cells, setCells_4]
theorem kvS_snoc (ps : List Pc) (p : Pc) : kvOf ((ps ++ [p]).map (·.s)) = kvOf (ps.map (·.s)) ++ [(setV p.s, .int .i64 (ps.length : Int))] := by
  rw [List.map_append, List.map_singleton, kvOf_snoc, List.length_map]

theorem current_Places {w : World} {first : List Int} {A0 : Option Addr} {c0 : Nat} {es : List Int} {g : FuncId} {cap : Array Value} {step : List Int → Int → List Int} {U : List Int → Prop} (hU1 : ∀ s, U s → U1 s) (h0 : U first) (hes : Ints (· < w.heap.size) w A0 es) (hn : es.length ≤ 8)
    (hU : ∀ s, U s → ∀ e ∈ es, U (step s e))
    (hstep : ∀ w', Below w.heap.size w w' → ∀ s, U s → ∀ e ∈ es, Cal Tryd.prog g ([setV s, .int .i64 e] ++ cap.toList) w' fun v w2 => v = setV (step s e) ∧ Below w'.heap.size w' w2) :
    Cal Tryd.prog 48 [setV first, .slice A0 es.length c0, .func (.func g) #[] cap] w fun v w' =>
      ∃ (A : Option Addr) (c : Nat) (ps : List Pc) (k : Nat), v = .slice A ps.length c ∧ Recs Pc.cells 5 (fun b => w.heap.size ≤ b ∧ b < w'.heap.size) w' A ps ∧ (∀ p ∈ ps, Ints (fun b => w.heap.size ≤ b ∧ b < w'.heap.size) w' p.W p.w) ∧ Below w.heap.size w w' ∧
        ps.map Pc.abs = bIter step es first k ∧ k ≤ ps.length ∧ ps.length ≤ 264 ∧ (ps.length = k ∨ 256 < ps.length) := by
  have hmt : Tryd.prog.underlying 122 = some (.map 64 3) := Tryd.underlying122
  have hzi : (Tryd.prog.info? 3).map (·.zero) = some (some (.int .i64 0)) := by kernel_rfl
  have hs1 : first = (⟨first, none, 0, []⟩ : Pc).s := rfl
  refine cal_current_Places (by simp) 100000 fun Q hQ => ?_
  simp (disch := first | with_reducible assumption | omega) only [push_cast, x_blk, x_cd, ↓reduceIte, Nat.reduceEqDiff, List.map_cons, List.map_nil, Int.reduceEq, Int.lt_irrefl, F_current_Places]
  refine blk_of (box_agg _ (setCells (wordsOf first))) ?_
  intro w1 k1 b1 z1
  simp (disch := first | with_reducible assumption | omega) only [push_cast, x_blk, x_cd, ↓reduceIte, Nat.reduceEqDiff, List.map_cons, List.map_nil, Int.reduceEq, Int.lt_irrefl, k1.setA (wordsOf_words _) ty_ag_64 ty_sz_64, bl_pc0, bs_rec pcEnc slT_68 _ (by decide)]
  have o2 := own_rec pcEnc w1 ⟨first, none, 0, []⟩ 72
  have b2 : Below w1.heap.size w1 (w1.alloc (.cells (Pc.cells ⟨first, none, 0, []⟩).toArray 72)) := (Below.refl _ _).alloc (Nat.le_refl _) _
  generalize w1.alloc (.cells (Pc.cells ⟨first, none, 0, []⟩).toArray 72) = w2 at *
  have k2 := k1.below b2 k1.lt
  replace b2 := b1.trans (b2.mono b1.size)
  replace o2 := o2.base (B' := w.heap.size) b1.size
  simp (disch := first | with_reducible assumption | omega) only [push_cast, x_blk, x_cd, ↓reduceIte, Nat.reduceEqDiff, List.map_cons, List.map_nil, Int.reduceEq, Int.lt_irrefl, e_makeMap]
  refine map_made (k := 64) _ ?_
  intro w3 m3 b3 z3
  have k3 := k2.below b3 k2.lt
  have o3 := o2.below b3 (Nat.le_refl _)
  replace b3 := b2.trans (b3.mono b2.size)
  have zb2 := b2.size
  simp (disch := first | with_reducible assumption | omega) only [push_cast, x_blk, x_cd, ↓reduceIte, Nat.reduceEqDiff, List.map_cons, List.map_nil, Int.reduceEq, Int.lt_irrefl, e_insert, k3.setA (wordsOf_words _) ty_ag_64 ty_sz_64]
  refine map_new keyed_set hmt m3 (key_set _) (by simp) _ ?_
  intro w4 m4 g4 z4
  have o4 := o3.grew g4 (.inr fun e => m3.ne_own o3 e.symm)
  have b4 := g4.below b3 b3.size (by intro a ha; injection ha with ha; subst ha; exact zb2)
  simp (disch := first | with_reducible assumption | omega) only [push_cast, x_blk, x_cd, ↓reduceIte, Nat.reduceEqDiff, List.map_cons, List.map_nil, Int.reduceEq, Int.lt_irrefl]
  refine loop_rule (fun f w' => ∃ (k : Nat) (ps : List Pc) (A : Option Addr) (c : Nat), k ≤ ps.length ∧
      (f 1 = .slice A0 es.length c0 ∧ f 2 = .func (.func g) #[] cap ∧ f 7 = .slice A ps.length c ∧ f 8 = .map (some w2.heap.size) ∧ f 9 = .int .i64 k) ∧
      ps.map Pc.abs = bIter step es first k ∧ ps.length ≤ 264 ∧
      OwnR Pc.cells w.heap.size 72 5 w' A c ps ∧ (∀ p ∈ ps, RowF w.heap.size 3 w' p.W p.w) ∧ MapIs Tryd.prog 64 w' w2.heap.size (kvOf (ps.map (·.s))) ∧ Below w.heap.size w w')
    (fun f _ => 300 - (intOf (f 9)).toNat) ⟨0, [⟨first, none, 0, []⟩], _, 1, by simp, ⟨rfl, rfl, rfl, rfl, rfl⟩, rfl, by simp, o4, fun p hp => by rw [List.mem_singleton.1 hp]; exact RowF.nil _ _ _ _, m4, b4⟩ ?_
  clear o4 m4 b4 g4 k3 m3 b3 o3 k2 o2 b2 k1 b1
  rintro f w5 ⟨k, ps, A, c, hk, fr, hL, hL2, ho, hro, hm, b5⟩ J hJ
  have hmu : (intOf (f 9)).toNat = k := by rw [fr.2.2.2.2]; simp [intOf]
  have hlb : ps.length = (bIter step es first k).length := by rw [← hL, List.length_map]
  have hfin : ∀ (h : ps.length = k ∨ 256 < ps.length), ∃ A' c' ps' k', Value.slice A ps.length c = Value.slice A' ps'.length c' ∧ Recs Pc.cells 5 (fun b => w.heap.size ≤ b ∧ b < w5.heap.size) w5 A' ps' ∧ (∀ p ∈ ps', Ints (fun b => w.heap.size ≤ b ∧ b < w5.heap.size) w5 p.W p.w) ∧ Below w.heap.size w w5 ∧
        ps'.map Pc.abs = bIter step es first k' ∧ k' ≤ ps'.length ∧ ps'.length ≤ 264 ∧ (ps'.length = k' ∨ 256 < ps'.length) := fun h =>
    ⟨A, c, ps, k, rfl, ((OwnR.recs ho pcEnc (by decide)).both (Recs.lt pcEnc (by decide) (OwnR.recs ho pcEnc (by decide)))).mono fun b hb => ⟨hb.1.1, hb.2⟩, fun p hp => (hro p hp).mid, b5, hL, hk, hL2, h⟩
  by_cases hlt : k < ps.length
  case neg =>
    simp (disch := first | with_reducible assumption | omega) only [push_cast, x_blk, x_cd, ↓reduceIte, Nat.reduceEqDiff, List.map_cons, List.map_nil, Int.reduceEq, Int.lt_irrefl, L_current_Places_1, fr, hlt]
    exact fin_1 (hQ _ _ (hfin (.inl (by omega))))
  by_cases hle : (ps.length : Int) ≤ 256
  case neg =>
    simp (disch := first | with_reducible assumption | omega) only [push_cast, x_blk, x_cd, ↓reduceIte, Nat.reduceEqDiff, List.map_cons, List.map_nil, Int.reduceEq, Int.lt_irrefl, L_current_Places_1, fr, hlt, hle]
    exact fin_1 (hQ _ _ (hfin (.inr (by omega))))
  clear hfin
  have hpk : (bIter step es first k)[k]? = some ((bIter step es first k)[k]'(by omega)) := List.getElem?_eq_getElem _
  generalize (bIter step es first k)[k]'(by omega) = q at hpk
  have hUq : U q.1 := (bIter_good (step := step) (es := es) hU h0 k).univ q (List.mem_of_getElem? hpk)
  simp (disch := first | with_reducible assumption | omega) only [push_cast, x_blk, x_cd, ↓reduceIte, Nat.reduceEqDiff, List.map_cons, List.map_nil, Int.reduceEq, Int.lt_irrefl, L_current_Places_1, fr, hlt, hle]
  refine loop_rule (fun f' w' => ∃ (j : Nat) (ps : List Pc) (A : Option Addr) (c : Nat), j ≤ es.length ∧
      (f' 1 = .slice A0 es.length c0 ∧ f' 2 = .func (.func g) #[] cap ∧ f' 7 = .slice A ps.length c ∧ f' 8 = .map (some w2.heap.size) ∧ f' 9 = .int .i64 k ∧ f' 32 = .slice A0 es.length c0 ∧ f' 33 = .int .i64 es.length ∧ f' 34 = .int .i64 j) ∧
      ps.map Pc.abs = bPart step es first k j ∧ ps.length ≤ 256 + j ∧
      OwnR Pc.cells w.heap.size 72 5 w' A c ps ∧ (∀ p ∈ ps, RowF w.heap.size 3 w' p.W p.w) ∧ MapIs Tryd.prog 64 w' w2.heap.size (kvOf (ps.map (·.s))) ∧ Below w.heap.size w w')
    (fun f' _ => es.length - (intOf (f' 34)).toNat) ⟨0, ps, A, c, Nat.zero_le _, (by simp only [push_cast, ↓reduceIte, Nat.reduceEqDiff, true_and, and_true, and_self, eq_self, fr]), hL, by omega, ho, hro, hm, b5⟩ ?_
  have hpre := bPart_prefix (step := step) (es := es) first k
  have hk256 : k ≤ 256 := by omega
  have hkl0 := getElem?_lt hpk
  clear hm ho hro hlt hk b5 hL hL2 hlb fr hle
  rintro f w5 ⟨j, ps, A, c, hj, fr, hL, hL2, ho, hro, hm, b5⟩ J2 hJ2
  have hq2 : (bPart step es first k j)[k]? = some q := by rw [prefix_getElem? (hpre j) hkl0]; exact hpk
  have hlb : ps.length = (bPart step es first k j).length := by rw [← hL, List.length_map]
  have hlt : k < ps.length := by have := (hpre j).length_le; omega
  by_cases hjt : j < es.length
  case neg =>
    obtain rfl : j = es.length := by omega
    rw [bPart_all] at hL
    simp (disch := first | with_reducible assumption | omega) only [push_cast, x_blk, x_cd, ↓reduceIte, Nat.reduceEqDiff, List.map_cons, List.map_nil, Int.reduceEq, Int.lt_irrefl, L_current_Places_0, fr, Nat.lt_irrefl]
    exact hJ _ _ ⟨k + 1, ps, A, c, by omega, (by simp only [push_cast, ↓reduceIte, Nat.reduceEqDiff, true_and, and_true, and_self, eq_self, fr]), hL, by omega, ho, hro, hm, b5⟩ (by rw [hmu]; simp only [push_cast, ↓reduceIte, Nat.reduceEqDiff, intOf, fr]; omega)
  obtain ⟨p, hpk2, hpa⟩ : ∃ p, ps[k]? = some p ∧ Pc.abs p = q := by
    refine ⟨ps[k]'hlt, List.getElem?_eq_getElem hlt, ?_⟩
    have : (ps.map Pc.abs)[k]? = some (Pc.abs (ps[k]'hlt)) := by rw [List.getElem?_map, List.getElem?_eq_getElem hlt]; rfl
    rw [hL, hq2] at this
    exact (Option.some.inj this).symm
  have hps : p.s = q.1 := congrArg Prod.fst hpa
  have hpw : p.w = q.2 := congrArg Prod.snd hpa
  have hwl := bPart_word _ _ _ _ _ hq2
  have hA := ho.isSome (by omega)
  have hR := Recs.lt pcEnc (by decide) (OwnR.recs ho pcEnc (by decide))
  have hldp := fun {K : Fr → World → Prop} {f : Fr} {d : Option Nat} {w' : World} => Recs.ldA (P := Tryd.prog) (K := K) (f := f) (d := d) (w := w') hR ty_ag_64 hpk2 0 (vs := setCells (wordsOf p.s)) (e4_set _) p.cell0
  have hIe := hes.below b5
  have hAe := hIe.isSome (by omega)
  have hein := getD_mem es 0 j hjt
  have hsucc := bPart_succ step es first k j hjt
  have hlde := fun {K : Fr → World → Prop} {f : Fr} {d : Option Nat} {w : World} => hIe.ld (P := Tryd.prog) (K := K) (f := f) (d := d) (w := w) ty_ag_3 j hjt
  generalize es.getD j 0 = e at *
  rw [hps] at hldp
  simp (disch := first | with_reducible assumption | omega) only [push_cast, x_blk, x_cd, ↓reduceIte, Nat.reduceEqDiff, List.map_cons, List.map_nil, Int.reduceEq, Int.lt_irrefl, L_current_Places_0, fr, hjt, hlt, hlde, hldp]
  refine call_of (hstep w5 b5 q.1 hUq e hein) ?_
  rintro v w6 ⟨rfl, b56⟩
  have ho6 := ho.below b56 (Nat.le_refl _)
  have hm6 := hm.below b56 hm.lt
  have hro6 : ∀ p ∈ ps, RowF w.heap.size 3 w6 p.W p.w := fun p hp => (hro p hp).below b56
  have b6 := b5.trans (b56.mono b5.size)
  have hUs : U (step q.1 e) := hU _ hUq _ hein
  generalize hs : step q.1 e = s at *
  simp (disch := first | with_reducible assumption | omega) only [push_cast, x_blk, x_cd, ↓reduceIte, Nat.reduceEqDiff, List.map_cons, List.map_nil, Int.reduceEq, Int.lt_irrefl, fr]
  refine blk_of (cs := setCells (wordsOf [])) al_64 ?_
  intro w7 k7 b7 z7
  have ho7 := ho6.below b7 (Nat.le_refl _)
  have hm7 := hm6.below b7 hm6.lt
  have hro7 : ∀ p ∈ ps, RowF w.heap.size 3 w7 p.W p.w := fun p hp => (hro6 p hp).below b7
  have z6 := b6.size
  have b7 := b6.trans (b7.mono b6.size)
  simp (disch := first | with_reducible assumption | omega) only [push_cast, x_blk, x_cd, ↓reduceIte, Nat.reduceEqDiff, List.map_cons, List.map_nil, Int.reduceEq, Int.lt_irrefl]
  refine sto_blk k7 (cs := setCells (wordsOf s)) (e4_set _) (by rw [setCells_4, setCells_4]) (setCells_one _) ?_
  intro w8 k8 g8 z8
  have ho8 := ho7.grew g8 (.inr (ho7.ne_blk k7 (by decide)))
  have hm8 := hm7.grown g8.by_ (by have := hm6.lt; simp; omega)
  have hro8 : ∀ p ∈ ps, RowF w.heap.size 3 w8 p.W p.w := fun p hp => (hro7 p hp).grewB k7 (by decide) g8
  have b8 := g8.below b7 b7.size (by intro a ha; injection ha with ha; subst ha; exact z6)
  have hl8 := fun {K : Fr → World → Prop} {f : Fr} {d : Option Nat} {w' : World} => k8.setA (K := K) (f := f) (d := d) (w := w') (wordsOf_words _) ty_ag_64 ty_sz_64
  simp (disch := first | with_reducible assumption | omega) only [push_cast, x_blk, x_cd, ↓reduceIte, Nat.reduceEqDiff, List.map_cons, List.map_nil, Int.reduceEq, Int.lt_irrefl, fr, hl8, v_lookup]
  have hgoodj := bPart_good (step := step) (es := es) hU h0 k j
  have hmap : ps.map (·.s) = (bPart step es first k j).map (·.1) := by rw [← hL, List.map_map]; rfl
  refine map_look keyed_set hmt hzi true hm8 (key_set _) (fun v hv => ?_) fun hno => ?_
  · obtain ⟨i, t, hit, hte⟩ := kvOf_mem hv
    injection hte with hte hvi
    subst hvi
    have hti : t ∈ (bPart step es first k j).map (·.1) := by rw [← hmap]; exact List.mem_of_getElem? hit
    have htU : U t := by
      obtain ⟨r, hr, rfl⟩ := List.mem_map.1 hti
      exact hgoodj.univ r hr
    obtain rfl := setV_inj (hU1 _ htU) (hU1 _ hUs) hte.symm
    rw [bAdd_old hq2 (by rw [hs]; exact hti)] at hsucc
    simp (disch := first | with_reducible assumption | omega) only [push_cast, x_blk, x_cd, ↓reduceIte, Nat.reduceEqDiff, List.map_cons, List.map_nil, Int.reduceEq, Int.lt_irrefl, fr]
    exact hJ2 _ _ ⟨j + 1, ps, A, c, hjt, (by simp only [push_cast, ↓reduceIte, Nat.reduceEqDiff, true_and, and_true, and_self, eq_self, fr]), by rw [hsucc]; exact hL, by omega, ho8, hro8, hm8, b8⟩ (by simp only [push_cast, ↓reduceIte, Nat.reduceEqDiff, intOf, fr]; omega)
  · have hnin : s ∉ (bPart step es first k j).map (·.1) := fun hin => by
      rw [← hmap] at hin
      obtain ⟨i, hi⟩ := List.mem_iff_getElem?.1 hin
      exact hno _ (kvOf_has hi) rfl
    rw [bAdd_new hq2 (by rw [hs]; exact hnin), hs] at hsucc
    simp (disch := first | with_reducible assumption | omega) only [push_cast, x_blk, x_cd, ↓reduceIte, Nat.reduceEqDiff, List.map_cons, List.map_nil, Int.reduceEq, Int.lt_irrefl, fr, hl8, e_mapUpdate]
    refine map_new keyed_set hmt hm8 (key_set _) hno _ ?_
    intro w9 m9 g9 z9
    have ho9 := ho8.grew g9 (.inr fun e => hm8.ne_own ho8 e.symm)
    have k9 := k8.grown g9.by_ (by have := hm6.lt; simp; omega)
    have hro9 : ∀ p ∈ ps, RowF w.heap.size 3 w9 p.W p.w := fun p hp => (hro8 p hp).grewM hm8 g9
    have b9 := g9.below b8 b8.size (by intro a ha; injection ha with ha; subst ha; exact zb2)
    have sd : Same w9 w9.drew := (Same.refl w9).drew
    replace ho9 := ho9.same sd
    replace k9 := k9.same sd
    replace m9 := m9.same sd
    replace hro9 : ∀ p ∈ ps, RowF w.heap.size 3 w9.drew p.W p.w := fun p hp => (hro9 p hp).same sd
    replace b9 := b9.trans (sd.below _)
    have zd : w9.drew.heap.size = w9.heap.size := by rw [← sd.heap]
    generalize hu : w9.drew = u at *
    have hl9 := fun {K : Fr → World → Prop} {f : Fr} {d : Option Nat} {w' : World} => k9.setA (K := K) (f := f) (d := d) (w := w') (wordsOf_words _) ty_ag_64 ty_sz_64
    have hR9 := Recs.lt pcEnc (by decide) (OwnR.recs ho9 pcEnc (by decide))
    have hlw := fun {K : Fr → World → Prop} {f : Fr} {d : Option Nat} {w' : World} => Recs.ld (P := Tryd.prog) (K := K) (f := f) (d := d) (w := w') hR9 ty_ag_22 hpk2 (j := 4) p.cell4
    have hmem := List.mem_of_getElem? hpk2
    have hend : ∀ (w13 : World) (A12 : Option Addr) (c12 : Nat) (o12 : OwnI u.heap.size 3 w13 A12 c12 (p.w ++ [e])) (b13 : Below u.heap.size u w13) (A' : Option Addr) (c' : Nat) (w14 : World) (oR : OwnR Pc.cells w.heap.size 72 5 w14 A' c' (ps ++ [⟨s, A12, c12, p.w ++ [e]⟩])) (g14 : Grew w13 w14 A),
        ∃ (j' : Nat) (ps' : List Pc), j' = j + 1 ∧ ps' = ps ++ [⟨s, A12, c12, p.w ++ [e]⟩] ∧ ps'.map Pc.abs = bPart step es first k (j + 1) ∧ ps'.length ≤ 256 + (j + 1) ∧ OwnR Pc.cells w.heap.size 72 5 w14 A' c' ps' ∧ (∀ p ∈ ps', RowF w.heap.size 3 w14 p.W p.w) ∧ MapIs Tryd.prog 64 w14 w2.heap.size (kvOf (ps'.map (·.s))) ∧ Below w.heap.size w w14 := by
      intro w13 A12 c12 o12 b13 A' c' w14 oR g14
      have ho13 := ho9.below b13 (Nat.le_refl _)
      have m13 := m9.below b13 m9.lt
      refine ⟨j + 1, _, rfl, rfl, ?_, by simp; omega, oR, fun r hr => ?_, ?_, g14.below (b9.trans (b13.mono b9.size)) (by have := b9.size; have := b13.size; omega) ho13.geB⟩
      · rw [hsucc, List.map_append, hL]
        show _ ++ [(s, p.w ++ [e])] = _
        rw [hpw]
      · rcases List.mem_append.1 hr with hr | hr
        · exact ((hro9 r hr).below b13).grew ho13 (by decide) g14
        · rw [List.mem_singleton.1 hr]
          exact (RowF.of_own o12 b9.size).grew ho13 (by decide) g14
      · rw [kvS_snoc]
        exact m13.grown g14.by_ (m13.ne_own ho13)
    simp (disch := first | with_reducible assumption | omega) only [push_cast, x_blk, x_cd, ↓reduceIte, Nat.reduceEqDiff, List.map_cons, List.map_nil, Int.reduceEq, Int.lt_irrefl, fr, hu, hl9, hlw]
    have hwk : p.w.length ≤ k := by rw [hpw]; exact hwl
    rw [x_t_two]
    refine ⟨?_, ?_⟩
    · simp (disch := first | with_reducible assumption | omega) only [push_cast, x_blk, x_cd, ↓reduceIte, Nat.reduceEqDiff, List.map_cons, List.map_nil, Int.reduceEq, Int.lt_irrefl]
      refine call_of (slices_Clone (hro9 p hmem).lt (by omega)) ?_
      rintro v w10 ⟨A10, c10, rfl, o10, b10⟩
      simp (disch := first | with_reducible assumption | omega) only [push_cast, x_blk, x_cd, ↓reduceIte, Nat.reduceEqDiff, List.map_cons, List.map_nil, Int.reduceEq, Int.lt_irrefl, bs_22]
      refine ⟨b10, b10.alloc b10.size _, ?_⟩
      refine app_int slT_22 o10 e (by omega) b10.size ?_
      intro A12 c12 w12 o12 hg12 _ _ z12
      have b12 := hg12.below b10 b10.size o10.geB
      have ho12 := ho9.below b12 (Nat.le_refl _)
      rw [show p.w.length + 1 = (p.w ++ [e]).length by simp]
      simp (disch := first | with_reducible assumption | omega) only [push_cast, x_blk, x_cd, ↓reduceIte, Nat.reduceEqDiff, List.map_cons, List.map_nil, Int.reduceEq, Int.lt_irrefl, bl_pcx ⟨s, A12, c12, p.w ++ [e]⟩, bs_rec pcEnc slT_68 _ (by decide)]
      refine ⟨b12, b12.alloc b12.size _, ?_⟩
      refine app_rec pcEnc slT_68 ho12 ⟨s, A12, c12, p.w ++ [e]⟩ (by omega) (by omega) (Nat.le_trans b9.size b12.size) ?_
      intro A' c' w14 oR g14 hA14 hs14 z14
      obtain ⟨j', ps', rfl, rfl, q1, q2, q3, q4, q5, q6⟩ := hend w12 A12 c12 o12 b12 A' c' w14 oR g14
      simp (disch := first | with_reducible assumption | omega) only [push_cast, x_blk, x_cd, ↓reduceIte, Nat.reduceEqDiff, List.map_cons, List.map_nil, Int.reduceEq, Int.lt_irrefl, fr]
      exact hJ2 _ _ ⟨j + 1, _, A', c', hjt, (by simp only [push_cast, ↓reduceIte, Nat.reduceEqDiff, true_and, and_true, and_self, eq_self, fr, List.length_append, List.length_cons, List.length_nil]), q1, q2, q3, q4, q5, q6⟩ (by simp only [push_cast, ↓reduceIte, Nat.reduceEqDiff, intOf, fr]; omega)
    · have bE : Below u.heap.size u (u.alloc (.cells [.int .i64 e].toArray 3)) := (Below.refl _ _).alloc (Nat.le_refl _) _
      have oE := own_int1 u e 3
      simp (disch := first | with_reducible assumption | omega) only [push_cast, x_blk, x_cd, ↓reduceIte, Nat.reduceEqDiff, List.map_cons, List.map_nil, Int.reduceEq, Int.lt_irrefl, bs_22]
      refine ⟨bE, ?_⟩
      generalize u.alloc (.cells [.int .i64 e].toArray 3) = w10 at *
      refine call_of (slices_Clone ((hro9 p hmem).below bE).lt (by omega)) ?_
      rintro v w11 ⟨A10, c10, rfl, o10, b11⟩
      have b10 := bE.trans (b11.mono bE.size)
      replace oE := oE.below b11 (Nat.le_refl _)
      replace o10 := o10.base bE.size
      simp (disch := first | with_reducible assumption | omega) only [push_cast, x_blk, x_cd, ↓reduceIte, Nat.reduceEqDiff, List.map_cons, List.map_nil, Int.reduceEq, Int.lt_irrefl]
      refine ⟨b10, ?_⟩
      refine app_ints (m := [e]) slT_22 o10 (OwnI.ints oE) (by simp; omega) b10.size ?_
      intro A12 c12 w12 o12 hg12 _ z12
      have b12 := hg12.below b10 b10.size o10.geB
      have ho12 := ho9.below b12 (Nat.le_refl _)
      rw [show p.w.length + [e].length = (p.w ++ [e]).length by simp]
      simp (disch := first | with_reducible assumption | omega) only [push_cast, x_blk, x_cd, ↓reduceIte, Nat.reduceEqDiff, List.map_cons, List.map_nil, Int.reduceEq, Int.lt_irrefl, bl_pcx ⟨s, A12, c12, p.w ++ [e]⟩, bs_rec pcEnc slT_68 _ (by decide)]
      refine ⟨b12, b12.alloc b12.size _, ?_⟩
      refine app_rec pcEnc slT_68 ho12 ⟨s, A12, c12, p.w ++ [e]⟩ (by omega) (by omega) (Nat.le_trans b9.size b12.size) ?_
      intro A' c' w14 oR g14 hA14 hs14 z14
      obtain ⟨j', ps', rfl, rfl, q1, q2, q3, q4, q5, q6⟩ := hend w12 A12 c12 o12 b12 A' c' w14 oR g14
      simp (disch := first | with_reducible assumption | omega) only [push_cast, x_blk, x_cd, ↓reduceIte, Nat.reduceEqDiff, List.map_cons, List.map_nil, Int.reduceEq, Int.lt_irrefl, fr]
      exact hJ2 _ _ ⟨j + 1, _, A', c', hjt, (by simp only [push_cast, ↓reduceIte, Nat.reduceEqDiff, true_and, and_true, and_self, eq_self, fr, List.length_append, List.length_cons, List.length_nil]), q1, q2, q3, q4, q5, q6⟩ (by simp only [push_cast, ↓reduceIte, Nat.reduceEqDiff, intOf, fr]; omega)
end Go.Proofs.YtcjinmgieiebbaaDoor
