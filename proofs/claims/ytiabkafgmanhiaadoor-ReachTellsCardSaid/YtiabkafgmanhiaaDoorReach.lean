/-
  Chapter 3: what can be come to: the program's spread, back, Reach, Live: by their contracts.
  Chapter 3: the program's Only, Reach, Live, Trim: by their contracts.
  Chapter 3: the reference's place, places, Reach, Live; chapter 2: its Sort: by their contracts.
-/
import Derived.Test.YtiabkafgmanhiaaDoorTrim
import Derived.Test.YtiabkafgmanhiaaDoorDet
import Derived.Test.YtiabkafgmanhiaaDoorSame
namespace Go.Proofs.YtiabkafgmanhiaaDoor
set_option linter.unusedSimpArgs false
set_option linter.unusedVariables false
set_option linter.unusedSectionVars false
/-! # Reach -/
section
open Go.RowKit

theorem e4_set (l : List Int) : tySize Tryd.prog 69 = some (setCells (wordsOf l)).length := by rw [setCells_4]; exact ty_sz_69
theorem bl_set0 {K : Fr → World → Prop} {u : World} {f : Fr} {d : Option Nat} {w : World} : Val1 Tryd.prog K (Instr.build 69 #[]) u f d w = K (updO f d (setV [])) w := bld_of (by kernel_rfl)
/-- Arrows between states. -/
def ArSmall (ar : List Arr) : Prop := ∀ a ∈ ar, (0 ≤ a.frm ∧ a.frm < 256) ∧ (0 ≤ a.to_ ∧ a.to_ < 256)
theorem ArSmall.eds {ar : List Arr} (h : ArSmall ar) (p : Arr → Bool) (rev : Bool) : ∀ e ∈ eds p rev ar, 0 ≤ e.2 ∧ e.2 < 256 := fun e he => by
  obtain ⟨a, ha, _, rfl⟩ := mem_eds.1 he
  cases rev
  · exact (h a ha).2
  · exact (h a ha).1
theorem May.arSmall {m : Mach} (hm : m.May) : ArSmall m.arrows := fun a ha => by
  have h := May.arr hm ha
  have : m.states ≤ 256 := hm.2.1
  have h1 := h.1
  have h2 := h.2.1
  exact ⟨⟨h1.1, by omega⟩, h2.1, by omega⟩
theorem reach_spread {w : World} {A : Option Addr} {c : Nat} {ar : List Arr} (h : Arrs (· < w.heap.size) w A ar) (hr : ArSmall ar) (hl : ar.length ≤ 4096) {l : List Int} (hs : Small l) :
    Cal Tryd.prog 77 [.slice A ar.length c, setV l] w fun v w' => v = setV (pick (Clos (eds allA false ar) l)) ∧ Below w.heap.size w w' := by
  have hE := hr.eds allA false
  generalize hEE : eds allA false ar = E at *
  refine cal_reach_spread (by simp) 100000 fun Q hQ => ?_
  simp (disch := first | with_reducible assumption | omega) only [push_cast, x_blk, x_cd, ↓reduceIte, Nat.reduceEqDiff, List.map_cons, List.map_nil, Int.reduceEq, Int.lt_irrefl, F_reach_spread]
  refine blk_of (box_agg _ (setCells (wordsOf l))) ?_
  intro w1 k1 b1 z1
  simp (disch := first | with_reducible assumption | omega) only [push_cast, x_blk, x_cd, ↓reduceIte, Nat.reduceEqDiff, List.map_cons, List.map_nil, Int.reduceEq, Int.lt_irrefl]
  refine blk_of (cs := setCells (wordsOf [])) al_69 ?_
  intro w2 k2 b2 z2
  replace k1 := k1.below b2 k1.lt
  have bb := b1.trans (b2.mono b1.size)
  simp (disch := first | with_reducible assumption | omega) only [push_cast, x_blk, x_cd, ↓reduceIte, Nat.reduceEqDiff, List.map_cons, List.map_nil, Int.reduceEq, Int.lt_irrefl, bl_set0]
  refine blk_of (cs := setCells (wordsOf [])) al_69 ?_
  intro w3 k3 b3 z3
  replace k1 := k1.below b3 k1.lt
  replace k2 := k2.below b3 k2.lt
  replace bb := bb.trans (b3.mono bb.size)
  simp (disch := first | with_reducible assumption | omega) only [push_cast, x_blk, x_cd, ↓reduceIte, Nat.reduceEqDiff, List.map_cons, List.map_nil, Int.reduceEq, Int.lt_irrefl]
  refine sto_blk k3 (cs := setCells (wordsOf [])) (e4_set []) (by rw [setCells_4]) (setCells_one _) ?_
  intro w4 k4 g4 z4
  replace k1 := k1.grown g4.by_ (by simp; omega)
  replace k2 := k2.grown g4.by_ (by simp; omega)
  replace bb := g4.below bb bb.size (by intro a ha; injection ha with ha; subst ha; show w.heap.size ≤ w2.heap.size; omega)
  simp (disch := first | with_reducible assumption | omega) only [push_cast, x_blk, x_cd, ↓reduceIte, Nat.reduceEqDiff, List.map_cons, List.map_nil, Int.reduceEq, Int.lt_irrefl]
  refine loop_ix (fun n f' w' => ∃ (g : Nat) (was l' : List Int), n = left was l' ∧ (f' 0 = .slice A ar.length c ∧ f' 3 = .pointer (some ⟨w.heap.size, 0, none⟩) ∧ f' 4 = .pointer (some ⟨w1.heap.size, 0, none⟩) ∧ f' 5 = .pointer (some ⟨g, 0, none⟩)) ∧
      Spread E l was l' ∧ w1.heap.size < g ∧ Blk w' w.heap.size 69 (setCells (wordsOf l')) ∧ Blk w' w1.heap.size 69 (setCells (wordsOf [])) ∧ Blk w' g 69 (setCells (wordsOf was)) ∧ Below w.heap.size w w')
    (n0 := left [] l) ⟨w2.heap.size, [], l, rfl, ⟨rfl, rfl, rfl, rfl⟩, Spread.start E hs, by omega, k1, k2, k4, bb⟩ ?_
  clear k1 k2 k4 bb g4
  rintro _ f w5 ⟨g, was, l', rfl, fr, hS, hg, k1, k2, k3, bb⟩ J hJ
  have zb := bb.size
  by_cases hw : wordsOf was = wordsOf l'
  · simp (disch := first | with_reducible assumption | omega) only [push_cast, x_blk, x_cd, ↓reduceIte, Nat.reduceEqDiff, List.map_cons, List.map_nil, Int.reduceEq, Int.lt_irrefl, L_reach_spread_1, fr, neq_set, decide_eq_true hw, k1.setA (wordsOf_words _) ty_ag_69 ty_sz_69, k3.setA (wordsOf_words _) ty_ag_69 ty_sz_69]
    refine sto_blk k2 (cs := setCells (wordsOf l')) (e4_set l') (by rw [setCells_4, setCells_4]) (setCells_one _) ?_
    intro w6 k6 g6 z6
    simp (disch := first | with_reducible assumption | omega) only [push_cast, x_blk, x_cd, ↓reduceIte, Nat.reduceEqDiff, List.map_cons, List.map_nil, Int.reduceEq, Int.lt_irrefl]
    exact fin_cell k6 ty_ag_69 (e4_set l') (by simp only [push_cast, ↓reduceIte, Nat.reduceEqDiff, true_and, and_true, and_self, eq_self, fr]) (hQ _ _ ⟨hS.done hw, g6.below bb bb.size (by intro a ha; injection ha with ha; subst ha; show w.heap.size ≤ w1.heap.size; omega)⟩)
  have hlt := left_lt hS.small hE hw
  have hnx := hS.next hE
  simp (disch := first | with_reducible assumption | omega) only [push_cast, x_blk, x_cd, ↓reduceIte, Nat.reduceEqDiff, List.map_cons, List.map_nil, Int.reduceEq, Int.lt_irrefl, L_reach_spread_1, fr, neq_set, decide_eq_false hw, k1.setA (wordsOf_words _) ty_ag_69 ty_sz_69, k3.setA (wordsOf_words _) ty_ag_69 ty_sz_69]
  refine sto_blk k3 (cs := setCells (wordsOf l')) (e4_set l') (by rw [setCells_4, setCells_4]) (setCells_one _) ?_
  intro w6 k6 g6 z6
  replace k1 := k1.grown g6.by_ (by simp; omega)
  replace k2 := k2.grown g6.by_ (by simp; omega)
  replace bb := g6.below bb bb.size (by intro a ha; injection ha with ha; subst ha; show w.heap.size ≤ g; omega)
  simp (disch := first | with_reducible assumption | omega) only [push_cast, x_blk, x_cd, ↓reduceIte, Nat.reduceEqDiff, List.map_cons, List.map_nil, Int.reduceEq, Int.lt_irrefl, fr]
  refine loop_rule (fun f' w' => ∃ k : Nat, k ≤ ar.length ∧ (f' 0 = .slice A ar.length c ∧ f' 3 = .pointer (some ⟨w.heap.size, 0, none⟩) ∧ f' 4 = .pointer (some ⟨w1.heap.size, 0, none⟩) ∧ f' 5 = .pointer (some ⟨g, 0, none⟩) ∧ f' 13 = .slice A ar.length c ∧ f' 14 = .int .i64 ar.length ∧ f' 15 = .int .i64 k) ∧
      Blk w' w.heap.size 69 (setCells (wordsOf (passK allA false ar l' k))) ∧ Blk w' w1.heap.size 69 (setCells (wordsOf [])) ∧ Blk w' g 69 (setCells (wordsOf l')) ∧ Below w.heap.size w w')
    (fun f' _ => ar.length - (intOf (f' 15)).toNat) ⟨0, Nat.zero_le _, (by simp only [push_cast, ↓reduceIte, Nat.reduceEqDiff, true_and, and_true, and_self, eq_self, fr]), k1, k2, k6, bb⟩ ?_
  clear k1 k2 k6 bb fr
  rintro f w7 ⟨k, hk, fr, k1, k2, k3, bb⟩ J2 hJ2
  have zb := bb.size
  by_cases hlt2 : k < ar.length
  case neg =>
    obtain rfl : k = ar.length := by omega
    rw [passK_all, hEE] at k1
    simp (disch := first | with_reducible assumption | omega) only [push_cast, x_blk, x_cd, ↓reduceIte, Nat.reduceEqDiff, List.map_cons, List.map_nil, Int.reduceEq, Int.lt_irrefl, L_reach_spread_0, fr, Nat.lt_irrefl, k3.setA (wordsOf_words _) ty_ag_69 ty_sz_69]
    refine blk_of (cs := setCells (wordsOf [])) al_69 ?_
    intro w8 k8 b8 z8
    have l1 := k1.lt
    have l2 := k2.lt
    replace k1 := k1.below b8 k1.lt
    replace k2 := k2.below b8 k2.lt
    replace bb := bb.trans (b8.mono bb.size)
    simp (disch := first | with_reducible assumption | omega) only [push_cast, x_blk, x_cd, ↓reduceIte, Nat.reduceEqDiff, List.map_cons, List.map_nil, Int.reduceEq, Int.lt_irrefl, fr]
    refine sto_blk k8 (cs := setCells (wordsOf l')) (e4_set l') (by rw [setCells_4, setCells_4]) (setCells_one _) ?_
    intro w9 k9 g9 z9
    replace k1 := k1.grown g9.by_ (by simp; omega)
    replace k2 := k2.grown g9.by_ (by simp; omega)
    replace bb := g9.below bb bb.size (by intro a ha; injection ha with ha; subst ha; exact zb)
    simp (disch := first | with_reducible assumption | omega) only [push_cast, x_blk, x_cd, ↓reduceIte, Nat.reduceEqDiff, List.map_cons, List.map_nil, Int.reduceEq, Int.lt_irrefl, fr]
    exact hJ _ _ _ ⟨w7.heap.size, l', passL E l', rfl, (by simp only [push_cast, ↓reduceIte, Nat.reduceEqDiff, true_and, and_true, and_self, eq_self, fr]), hnx, by omega, k1, k2, k9, bb⟩ hlt
  have hA := (h.below bb).isSome (by omega)
  have hI := h.below bb
  have hsn := passK_succ allA false ar l' k hlt2
  have hym := getD_mem ar default k hlt2
  simp (disch := first | with_reducible assumption | omega) only [push_cast, x_blk, x_cd, ↓reduceIte, Nat.reduceEqDiff, List.map_cons, List.map_nil, Int.reduceEq, Int.lt_irrefl, L_reach_spread_0, fr, hlt2, hI.ldA ty_ag_75 ty_sz_75]
  refine blk_of al_75 ?_
  intro w8 k8 b8 z8
  simp (disch := first | with_reducible assumption | omega) only [push_cast, x_blk, x_cd, ↓reduceIte, Nat.reduceEqDiff, List.map_cons, List.map_nil, Int.reduceEq, Int.lt_irrefl]
  refine sto_blk k8 (cs := arrCells (ar.getD k default)) ty_sz_75 rfl (by simp [arrCells, Value.oneCell']) ?_
  intro w9 k9 g9 z9
  generalize hy : ar.getD k default = y at *
  obtain ⟨hyf, hyt⟩ := hr y hym
  have b9 : Below w7.heap.size w7 w9 := g9.below b8 (by omega) (by intro a ha; injection ha with ha; subst ha; exact Nat.le_refl _)
  have l1 := k1.lt
  replace k1 := k1.below b9 k1.lt
  replace k2 := k2.below b9 k2.lt
  replace k3 := k3.below b9 k3.lt
  replace bb := bb.trans (b9.mono bb.size)
  simp (disch := first | with_reducible assumption | omega) only [push_cast, x_blk, x_cd, ↓reduceIte, Nat.reduceEqDiff, List.map_cons, List.map_nil, Int.reduceEq, Int.lt_irrefl, fr, k9.a0 ty_ag_3, k1.setA (wordsOf_words _) ty_ag_69 ty_sz_69]
  refine call_of (set_Has' _ y.frm hyf.1 hyf.2 _) ?_
  rintro v w10 ⟨rfl, b10⟩
  replace k1 := k1.below b10 k1.lt
  replace k2 := k2.below b10 k2.lt
  replace k3 := k3.below b10 k3.lt
  replace k9 := k9.below b10 k9.lt
  replace bb := bb.trans (b10.mono bb.size)
  by_cases c2 : y.frm ∈ passK allA false ar l' k
  case neg =>
    rw [if_neg (fun hh => c2 hh.2)] at hsn
    simp (disch := first | with_reducible assumption | omega) only [push_cast, x_blk, x_cd, ↓reduceIte, Nat.reduceEqDiff, List.map_cons, List.map_nil, Int.reduceEq, Int.lt_irrefl, fr, decide_eq_false c2]
    exact hJ2 _ _ ⟨k + 1, hlt2, (by simp only [push_cast, ↓reduceIte, Nat.reduceEqDiff, true_and, and_true, and_self, eq_self, fr]), by rw [hsn]; exact k1, k2, k3, bb⟩ (by simp only [push_cast, ↓reduceIte, Nat.reduceEqDiff, intOf, fr]; omega)
  rw [if_pos ⟨rfl, c2⟩] at hsn
  simp (disch := first | with_reducible assumption | omega) only [push_cast, x_blk, x_cd, ↓reduceIte, Nat.reduceEqDiff, List.map_cons, List.map_nil, Int.reduceEq, Int.lt_irrefl, fr, decide_eq_true c2, k9.a2 ty_ag_3]
  refine call_of (set_Add' y.to_ hyt.1 hyt.2 k1) ?_
  rintro v w11 ⟨rfl, k11, g11, z11⟩
  simp (disch := first | with_reducible assumption | omega) only [push_cast, x_blk, x_cd, ↓reduceIte, Nat.reduceEqDiff, List.map_cons, List.map_nil, Int.reduceEq, Int.lt_irrefl, fr]
  exact hJ2 _ _ ⟨k + 1, hlt2, (by simp only [push_cast, ↓reduceIte, Nat.reduceEqDiff, true_and, and_true, and_self, eq_self, fr]), by rw [hsn]; exact k11, k2.grown g11.by_ (by simp; omega), k3.grown g11.by_ (by simp; omega), g11.below bb bb.size (by intro a ha; injection ha with ha; subst ha; exact Nat.le_refl _)⟩ (by simp only [push_cast, ↓reduceIte, Nat.reduceEqDiff, intOf, fr]; omega)

/-- An arrow the other way round. -/
def Arr.back (a : Arr) : Arr := ⟨a.to_, a.evt, a.frm⟩
theorem eds_back (ar : List Arr) : eds allA false (ar.map Arr.back) = eds allA true ar := by
  unfold eds
  simp [List.filter_eq_self.2, Arr.back]
theorem reach_back {w : World} {A : Option Addr} {c : Nat} {ar : List Arr} (h : Arrs (· < w.heap.size) w A ar) (hl : ar.length ≤ 4096) :
    Cal Tryd.prog 78 [.slice A ar.length c] w fun v w' => ∃ O co, v = .slice O (ar.map Arr.back).length co ∧ OwnR arrCells w.heap.size 75 3 w' O co (ar.map Arr.back) ∧ Below w.heap.size w w' := by
  refine cal_reach_back (by simp) 100000 fun Q hQ => ?_
  simp (disch := first | with_reducible assumption | omega) only [push_cast, x_blk, x_cd, ↓reduceIte, Nat.reduceEqDiff, List.map_cons, List.map_nil, Int.reduceEq, Int.lt_irrefl, F_reach_back]
  refine loop_rule (fun f' w' => ∃ (k : Nat) (O : Option Addr) (co : Nat), k ≤ ar.length ∧ (f' 3 = .slice O ((ar.take k).map Arr.back).length co ∧ f' 6 = .slice A ar.length c ∧ f' 7 = .int .i64 ar.length ∧ f' 8 = .int .i64 k) ∧
      OwnR arrCells w.heap.size 75 3 w' O co ((ar.take k).map Arr.back) ∧ Below w.heap.size w w')
    (fun f' _ => ar.length - (intOf (f' 8)).toNat) ⟨0, none, 0, Nat.zero_le _, ⟨rfl, rfl, rfl, rfl⟩, Own.nil _ _ _ _, Below.refl _ _⟩ ?_
  rintro f w1 ⟨k, O, co, hk, fr, ho, bb⟩ J hJ
  by_cases hlt : k < ar.length
  case neg =>
    obtain rfl : k = ar.length := by omega
    rw [List.take_length] at fr ho
    simp (disch := first | with_reducible assumption | omega) only [push_cast, x_blk, x_cd, ↓reduceIte, Nat.reduceEqDiff, List.map_cons, List.map_nil, Int.reduceEq, Int.lt_irrefl, L_reach_back_0, fr, Nat.lt_irrefl]
    exact fin_1 (hQ _ _ ⟨O, co, (by simp only [push_cast, ↓reduceIte, Nat.reduceEqDiff, Int.reduceEq, fr]), ho, bb⟩)
  have hI := h.below bb
  have hA := hI.isSome (by omega)
  have hln : ((ar.take k).map Arr.back).length = k := by simp; omega
  have hsn : (ar.take (k + 1)).map Arr.back = (ar.take k).map Arr.back ++ [(ar.getD k default).back] := by rw [take_snoc _ default k hlt, List.map_append]; rfl
  simp (disch := first | with_reducible assumption | omega) only [push_cast, x_blk, x_cd, ↓reduceIte, Nat.reduceEqDiff, List.map_cons, List.map_nil, Int.reduceEq, Int.lt_irrefl, L_reach_back_0, fr, hlt, hI.ldA ty_ag_75 ty_sz_75]
  refine blk_of al_75 ?_
  intro w2 k2 b2 z2
  simp (disch := first | with_reducible assumption | omega) only [push_cast, x_blk, x_cd, ↓reduceIte, Nat.reduceEqDiff, List.map_cons, List.map_nil, Int.reduceEq, Int.lt_irrefl]
  refine sto_blk k2 (cs := arrCells (ar.getD k default)) ty_sz_75 rfl (by simp [arrCells, Value.oneCell']) ?_
  intro w3 k3 g3 z3
  generalize hy : ar.getD k default = y at *
  have b3 : Below w1.heap.size w1 w3 := g3.below b2 (by omega) (by intro a ha; injection ha with ha; subst ha; exact Nat.le_refl _)
  replace ho := ho.below b3 (Nat.le_refl _)
  replace bb := bb.trans (b3.mono bb.size)
  simp (disch := first | with_reducible assumption | omega) only [push_cast, x_blk, x_cd, ↓reduceIte, Nat.reduceEqDiff, List.map_cons, List.map_nil, Int.reduceEq, Int.lt_irrefl, fr, k3.a0 ty_ag_3, k3.a1 ty_ag_3, k3.a2 ty_ag_3, bl_arrow, bs_rec arrEnc slT_23 _ (by decide)]
  refine app_rec arrEnc slT_23 ho (⟨y.to_, y.evt, y.frm⟩ : Arr) (by omega) (by omega) bb.size ?_
  intro O' co' w4 ho' g4 hA4 hs4 hz4
  rw [hln]
  simp (disch := first | with_reducible assumption | omega) only [push_cast, x_blk, x_cd, ↓reduceIte, Nat.reduceEqDiff, List.map_cons, List.map_nil, Int.reduceEq, Int.lt_irrefl, fr]
  exact hJ _ _ ⟨k + 1, O', co', hlt, (by simp only [push_cast, ↓reduceIte, Nat.reduceEqDiff, true_and, and_true, and_self, eq_self, fr, hsn, List.length_append, List.length_cons, List.length_nil, hln]), by rw [hsn]; exact ho', g4.below bb bb.size ho.geB⟩ (by simp only [push_cast, ↓reduceIte, Nat.reduceEqDiff, intOf, fr]; omega)
end

/-! # ReachB -/
section
open Go.RowKit

/-! ## What lies between two marks stays -/
structure Mid (lo hi : Nat) (w w' : World) : Prop where
  size : hi ≤ w'.heap.size
  block : ∀ b, lo < b → b < hi → w'.heap[b]? = w.heap[b]?
theorem Mid.start {lo : Nat} {w : World} : Mid lo w.heap.size w w := ⟨Nat.le_refl _, fun _ _ _ => rfl⟩
theorem Mid.below {lo hi : Nat} {w w' w'' : World} (h : Mid lo hi w w') (hb : Below w'.heap.size w' w'') : Mid lo hi w w'' :=
  ⟨Nat.le_trans h.size hb.size, fun b h1 h2 => (hb.block b (Nat.lt_of_lt_of_le h2 h.size)).trans (h.block b h1 h2)⟩
theorem Mid.same {lo hi : Nat} {w w' w'' : World} (h : Mid lo hi w w') (hs : Same w' w'') : Mid lo hi w w'' := h.below (hs.below _)
theorem Mid.grew {lo hi : Nat} {w w' w'' : World} {A : Option Addr} (h : Mid lo hi w w') (hg : Grew w' w'' A) (hA : ∀ a, A = some a → a.block ≤ lo ∨ hi ≤ a.block) : Mid lo hi w w'' :=
  ⟨Nat.le_trans h.size hg.by_.size, fun b h1 h2 => (hg.by_.block b (Nat.lt_of_lt_of_le h2 h.size) (fun e => by
    cases A with
    | none => cases e
    | some a => have e : b = a.block := by simpa using e
                rcases hA a rfl with h3 | h3 <;> omega)).trans (h.block b h1 h2)⟩
theorem Ints.mid {lo hi : Nat} {w w' : World} {A : Option Addr} {l : List Int} (h : Ints (fun b => lo < b ∧ b < hi) w A l) (hm : Mid lo hi w w') : Ints (fun b => lo < b ∧ b < hi) w' A l := h.keep fun b hb => hm.block b hb.1 hb.2
/-- What one owns, newer than a mark. -/
theorem OwnI.between {B e c : Nat} {w : World} {A : Option Addr} {l : List Int} (h : OwnI B e w A c l) {lo : Nat} (hlo : lo < B) : Ints (fun b => lo < b ∧ b < w.heap.size) w A l :=
  ((OwnI.ints h).both (OwnI.ints h).lt).mono fun b hb => ⟨Nat.lt_of_lt_of_le hlo hb.1.1, hb.2⟩

theorem slices_IndexX {ok : Nat → Prop} {w : World} {A : Option Addr} {l : List Int} (h : Ints ok w A l) (c : Nat) (b : Int) (hl : l.length ≤ 9223372036854775807) :
    Cal Tryd.prog 112 [.slice A l.length c, .int .i64 b] w fun v w' => v = .int .i64 (if b ∈ l then (ix b l : Int) else -1) ∧ Same w w' := by
  refine cal_slices_Index (by simp) 100000 fun Q hQ => ?_
  simp (disch := first | with_reducible assumption | omega) only [push_cast, x_blk, x_cd, ↓reduceIte, Nat.reduceEqDiff, List.map_cons, List.map_nil, Int.reduceEq, Int.lt_irrefl, F_slices_Index]
  refine loop_rule (fun f w' => ∃ k : Nat, k ≤ l.length ∧ f 0 = .slice A l.length c ∧ f 1 = .int .i64 b ∧ f 7 = .int .i64 l.length ∧ f 8 = .int .i64 k ∧ (∀ i, i < k → l.getD i 0 ≠ b) ∧ Same w w')
    (fun f _ => l.length - (intOf (f 8)).toNat) ⟨0, Nat.zero_le _, rfl, rfl, rfl, rfl, fun i hi => absurd hi (by omega), Same.refl w⟩ ?_
  rintro f w1 ⟨k, hk, h0, h1, h7, h8, hpre, hs⟩ J hJ
  have hI := h.same hs
  by_cases hlt : k < l.length
  · have hA := hI.isSome (by omega)
    by_cases c1 : b = l.getD k 0
    · have hin : b ∈ l := c1 ▸ getD_mem l 0 k hlt
      have hix := ix_first hlt c1.symm hpre
      simp (disch := first | with_reducible assumption | omega) only [push_cast, x_blk, x_cd, ↓reduceIte, Nat.reduceEqDiff, List.map_cons, List.map_nil, Int.reduceEq, Int.lt_irrefl, L_slices_Index_0, h0, h1, h7, h8, hlt, c1, hI.ld ty_ag_3]
      exact fin_1 (hQ _ _ ⟨by rw [if_pos hin, hix]; rfl, hs⟩)
    · simp (disch := first | with_reducible assumption | omega) only [push_cast, x_blk, x_cd, ↓reduceIte, Nat.reduceEqDiff, List.map_cons, List.map_nil, Int.reduceEq, Int.lt_irrefl, L_slices_Index_0, h0, h1, h7, h8, hlt, c1, hI.ld ty_ag_3]
      exact hJ _ _ ⟨k + 1, hlt, (by simp only [push_cast, ↓reduceIte, Nat.reduceEqDiff, Int.reduceEq, h0]), (by simp only [push_cast, ↓reduceIte, Nat.reduceEqDiff, Int.reduceEq, h1]), (by simp only [push_cast, ↓reduceIte, Nat.reduceEqDiff, Int.reduceEq, h7]), (by simp only [push_cast, ↓reduceIte, Nat.reduceEqDiff, Int.reduceEq]), fun i hi => if e : i = k then e ▸ fun h => c1 h.symm else hpre i (by omega), hs⟩ (by simp only [push_cast, ↓reduceIte, Nat.reduceEqDiff, h8, intOf]; omega)
  · simp (disch := first | with_reducible assumption | omega) only [push_cast, x_blk, x_cd, ↓reduceIte, Nat.reduceEqDiff, List.map_cons, List.map_nil, Int.reduceEq, Int.lt_irrefl, L_slices_Index_0, h0, h1, h7, h8, hlt]
    refine fin_1 (hQ _ _ ⟨?_, hs⟩)
    rw [if_neg fun h => by
      obtain ⟨i, hi, he⟩ := (mem_iff_getD l 0 b).1 h
      exact absurd he (hpre i (by omega))]
    rfl

theorem reach_Only_1 {w : World} {A A1 : Option Addr} {c c1 g : Nat} {l B : List Int} (h : Ints (· < w.heap.size) w A l) (hB : Ints (· < w.heap.size) w A1 B) (hg : Blk w g 22 [.slice A1 B.length c1]) (hl : l.length ≤ 17592186043904) (hb : B.length ≤ 17592186043904) :
    Cal Tryd.prog 111 [.slice A l.length c, .pointer (some ⟨g, 0, none⟩)] w fun v w' => ∃ O co, v = .slice O (numL B l).length co ∧ OwnI w.heap.size 3 w' O co (numL B l) ∧ Below w.heap.size w w' := by
  refine cal_reach_Only_1 (by simp) 100000 fun Q hQ => ?_
  simp (disch := first | with_reducible assumption | omega) only [push_cast, x_blk, x_cd, ↓reduceIte, Nat.reduceEqDiff, List.map_cons, List.map_nil, Int.reduceEq, Int.lt_irrefl, F_reach_Only_1]
  refine loop_rule (fun f w' => ∃ (k : Nat) (O : Option Addr) (co : Nat), k ≤ l.length ∧ (f 1 = .pointer (some ⟨g, 0, none⟩) ∧ f 3 = .slice O (numL B (l.take k)).length co ∧ f 7 = .slice A l.length c ∧ f 8 = .int .i64 l.length ∧ f 9 = .int .i64 k) ∧
      OwnI w.heap.size 3 w' O co (numL B (l.take k)) ∧ Below w.heap.size w w')
    (fun f _ => l.length - (intOf (f 9)).toNat) ⟨0, none, 0, Nat.zero_le _, ⟨rfl, rfl, rfl, rfl, rfl⟩, Own.nil _ _ _ _, Below.refl _ _⟩ ?_
  rintro f w1 ⟨k, O, co, hk, fr, ho, bb⟩ J hJ
  by_cases hlt : k < l.length
  case neg =>
    obtain rfl : k = l.length := by omega
    rw [List.take_length] at fr ho
    simp (disch := first | with_reducible assumption | omega) only [push_cast, x_blk, x_cd, ↓reduceIte, Nat.reduceEqDiff, List.map_cons, List.map_nil, Int.reduceEq, Int.lt_irrefl, L_reach_Only_1_0, fr, Nat.lt_irrefl]
    exact fin_1 (hQ _ _ ⟨O, co, (by simp only [push_cast, ↓reduceIte, Nat.reduceEqDiff, Int.reduceEq, fr]), ho, bb⟩)
  have hI := h.below bb
  have hA := hI.isSome (by omega)
  have hg1 := hg.below bb hg.lt
  have hlen := numL_len B (l.take k)
  have hlen2 := List.length_take_le k l
  have hsn := numL_snoc B l k hlt
  generalize hx : l.getD k 0 = x at *
  have ldx := fun {K : Fr → World → Prop} {f : Fr} {d : Option Nat} {w : World} => hI.ld (P := Tryd.prog) (K := K) (f := f) (d := d) (w := w) ty_ag_3 k hlt
  have ldg := fun {K : Fr → World → Prop} {f : Fr} {d : Option Nat} {w : World} => hg1.ld (P := Tryd.prog) (K := K) (f := f) (d := d) (w := w) ty_ag_22 0 (by simp)
  rw [hx] at ldx
  simp (disch := first | with_reducible assumption | omega) only [push_cast, x_blk, x_cd, ↓reduceIte, Nat.reduceEqDiff, List.map_cons, List.map_nil, Int.reduceEq, Int.lt_irrefl, L_reach_Only_1_0, fr, hlt, ldx, ldg]
  refine call_of (slices_IndexX (hB.below bb) c1 x (by omega)) ?_
  rintro v w2 ⟨rfl, s2⟩
  replace ho := ho.same s2
  replace bb := bb.trans (s2.below _)
  by_cases hin : x ∈ B
  · rw [if_pos hin] at hsn ⊢
    have h0 : (0 : Int) ≤ (ix x B : Int) := Int.natCast_nonneg _
    simp (disch := first | with_reducible assumption | omega) only [push_cast, x_blk, x_cd, ↓reduceIte, Nat.reduceEqDiff, List.map_cons, List.map_nil, Int.reduceEq, Int.lt_irrefl, fr, h0, bs_22]
    refine app_int slT_22 ho _ (by omega) bb.size ?_
    intro O' co' w3 ho' hg3 hA3 hs3 hz3
    simp (disch := first | with_reducible assumption | omega) only [push_cast, x_blk, x_cd, ↓reduceIte, Nat.reduceEqDiff, List.map_cons, List.map_nil, Int.reduceEq, Int.lt_irrefl, fr]
    exact hJ _ _ ⟨k + 1, O', co', hlt, (by simp only [push_cast, ↓reduceIte, Nat.reduceEqDiff, true_and, and_true, and_self, eq_self, fr, hsn, List.length_append, List.length_cons, List.length_nil]), by rw [hsn]; exact ho', hg3.below bb bb.size ho.geB⟩ (by simp only [push_cast, ↓reduceIte, Nat.reduceEqDiff, intOf, fr]; omega)
  · rw [if_neg hin] at hsn ⊢
    have h0 : ¬ ((0 : Int) ≤ -1) := by decide
    simp (disch := first | with_reducible assumption | omega) only [push_cast, x_blk, x_cd, ↓reduceIte, Nat.reduceEqDiff, List.map_cons, List.map_nil, Int.reduceEq, Int.lt_irrefl, fr, h0]
    exact hJ _ _ ⟨k + 1, O, co, hlt, (by simp only [push_cast, ↓reduceIte, Nat.reduceEqDiff, true_and, and_true, and_self, eq_self, fr, hsn]), by rw [hsn]; exact ho, bb⟩ (by simp only [push_cast, ↓reduceIte, Nat.reduceEqDiff, intOf, fr]; omega)

section
variable {P : Program} {K : Fr → World → Prop} {f : Fr} {d : Option Nat} {w : World} {t e bytes : Nat}
theorem fill_2i (x y : Value) (a b : Int) : Instr.fill (fun i => some (i * 1, 1)) #[x, y] [(0, .int .i64 a), (1, .int .i64 b)] = some #[.int .i64 a, .int .i64 b] := by
  simp [Instr.fill, Value.cells]
theorem bsl2_eq (hT : SlT P t e 1 bytes) (a b : Int) :
    Eff1 P K (Instr.buildSlice t 2 #[(0, .int .i64 a), (1, .int .i64 b)]) f d w = K (updO f d (.slice (some ⟨w.heap.size, 0, none⟩) 2 2)) (w.alloc (.cells [.int .i64 a, .int .i64 b].toArray e)) := by
  obtain ⟨i, z, hi, hz, hs, hb, hc⟩ := hT.get
  refine eff1_of ?_
  have hz3 : (Array.range 2).map (z.cells[· % z.cells.size]!) = #[z.cells[0 % z.cells.size]!, z.cells[1 % z.cells.size]!] := by
    apply Array.ext'; simp [List.range_succ]
  have hf := fill_2i (z.cells[0 % z.cells.size]!) (z.cells[1 % z.cells.size]!) a b
  rw [← hz3] at hf
  simp only [Instr.buildSlice, run_underlying hT.under, sizeOf, typeInfo, Sem.run_bind, Result.andThen_ok]
  simp only [Nat.mul_one] at hf
  simp [hi, hs, zeroValue, typeInfo, hz, newRow, hf]
theorem ints_new2 (w : World) (a b : Int) (e : Nat) : Ints (· < (w.alloc (.cells [.int .i64 a, .int .i64 b].toArray e)).heap.size) (w.alloc (.cells [.int .i64 a, .int .i64 b].toArray e)) (some ⟨w.heap.size, 0, none⟩) [a, b] :=
  (Ints.of_rd (ok := fun _ => True) (rd_new w [.int .i64 a, .int .i64 b] e) fun _ => trivial).lt
end
theorem bl_mach2 {K : Fr → World → Prop} {u : World} {f : Fr} {d : Option Nat} {w : World} (x y : Int) :
    Val1 Tryd.prog K (Instr.build 25 #[(0, .int .i64 x), (1, .int .i64 y)]) u f d w = K (updO f d (.agg [.int .i64 x, .int .i64 y, .slice none 0 0, .slice none 0 0, .slice none 0 0].toArray)) w := by
  refine bld_of ?_
  rw [built_of blt_mach]
  rw [fill_cons (off := 0) (size := 1) rfl rfl (by decide), fill_cons (off := 1) (size := 1) rfl rfl (by simp [putL, Value.cells]), fill_nil]
  simp [putL, Value.cells]
theorem max_one (n : Nat) : max (n : Int) 1 = ((max n 1 : Nat) : Int) := by omega

theorem reach_Only {w : World} {a : MV} {m : Mach} (ha : IsM (· < w.heap.size) w a m) (hm : m.May) {A1 : Option Addr} {c1 : Nat} {B : List Int} (hB : Ints (· < w.heap.size) w A1 B) (hb : B.length ≤ 256) (hls : m.starts.length ≤ 17592186043904) (hle : m.ends.length ≤ 17592186043904) :
    Cal Tryd.prog 80 [a.val m, .slice A1 B.length c1] w fun v w' => ∃ d : MV, v = d.val (trimM m B) ∧ IsM (fun b => w.heap.size ≤ b ∧ b < w'.heap.size) w' d (trimM m B) ∧ Below w.heap.size w w' := by
  have e5 : ∀ (a : MV) (m : Mach), tySize Tryd.prog 25 = some (a.cells m).length := fun a m => ty_sz_25
  have nA := hm.2.2.2.2.1
  refine cal_reach_Only (by simp) 100000 fun Q hQ => ?_
  simp (disch := first | with_reducible assumption | omega) only [push_cast, x_blk, x_cd, ↓reduceIte, Nat.reduceEqDiff, List.map_cons, List.map_nil, Int.reduceEq, Int.lt_irrefl, F_reach_Only]
  refine blk_of (box_agg _ (a.cells m)) ?_
  intro w1 k2 b1 z1
  simp (disch := first | with_reducible assumption | omega) only [push_cast, x_blk, x_cd, ↓reduceIte, Nat.reduceEqDiff, List.map_cons, List.map_nil, Int.reduceEq, Int.lt_irrefl]
  refine blk_of (cs := [.slice A1 B.length c1]) (box_eq _ _) ?_
  intro w2 k3 b2 z2
  replace k2 := k2.below b2 k2.lt
  have bb := b1.trans (b2.mono b1.size)
  simp (disch := first | with_reducible assumption | omega) only [push_cast, x_blk, x_cd, ↓reduceIte, Nat.reduceEqDiff, List.map_cons, List.map_nil, Int.reduceEq, Int.lt_irrefl]
  refine blk_of (cs := mv0.cells mach0) al_25 ?_
  intro w3 k4 b3 z3
  replace k2 := k2.below b3 k2.lt
  replace k3 := k3.below b3 k3.lt
  replace bb := bb.trans (b3.mono bb.size)
  have ldg := fun {K : Fr → World → Prop} {f : Fr} {d : Option Nat} {w : World} => k3.ld (P := Tryd.prog) (K := K) (f := f) (d := d) (w := w) ty_ag_22 0 (by simp)
  simp (disch := first | with_reducible assumption | omega) only [push_cast, x_blk, x_cd, ↓reduceIte, Nat.reduceEqDiff, List.map_cons, List.map_nil, Int.reduceEq, Int.lt_irrefl, ldg, k2.m1 ty_ag_3, bl_mach2]
  refine blk_of (cs := mv0.cells mach0) al_25 ?_
  intro w4 k5 b4 z4
  simp (disch := first | with_reducible assumption | omega) only [push_cast, x_blk, x_cd, ↓reduceIte, Nat.reduceEqDiff, List.map_cons, List.map_nil, Int.reduceEq, Int.lt_irrefl]
  refine sto_blk k5 (cs := MV.cells ⟨none, 0, none, 0, none, 0⟩ ⟨max (B.length : Int) 1, m.events, [], [], []⟩) (e5 _ _) rfl (by rfl) ?_
  intro w5 k5 g5 z5
  have c3 : Below w3.heap.size w3 w5 := g5.below b4 b4.size (by intro a ha; injection ha with ha; subst ha; exact Nat.le_refl _)
  have l2 := k2.lt
  have l3 := k3.lt
  have l4 := k4.lt
  have bc := bb.trans (c3.mono bb.size)
  have up : ∀ {w' : World}, Below w.heap.size w w' → IsM (· < w'.heap.size) w' a m := fun {w'} hb => (ha.below hb).mono fun b hl => Nat.lt_of_lt_of_le hl hb.size
  have upB : ∀ {w' : World}, Below w.heap.size w w' → Ints (· < w'.heap.size) w' A1 B := fun {w'} hb => (hB.below hb).mono fun b hl => Nat.lt_of_lt_of_le hl hb.size
  simp (disch := first | with_reducible assumption | omega) only [push_cast, x_blk, x_cd, ↓reduceIte, Nat.reduceEqDiff, List.map_cons, List.map_nil, Int.reduceEq, Int.lt_irrefl]
  have sd : Same w5 w5.drew := (Same.refl w5).drew
  replace k5 := k5.same sd
  replace c3 := c3.trans (sd.below _)
  replace bc := bc.trans (sd.below _)
  have k2' := k2.below c3 l2
  have k3' := k3.below c3 l3
  have l5 := k5.lt
  generalize hu : w5.drew = u at *
  simp (disch := first | with_reducible assumption | omega) only [push_cast, x_blk, x_cd, ↓reduceIte, Nat.reduceEqDiff, List.map_cons, List.map_nil, Int.reduceEq, Int.lt_irrefl, hu, k2'.m2 ty_ag_22, k2'.m4 ty_ag_22, callv_func, List.nil_append, List.append_nil, List.map_cons, List.map_nil, List.cons_append]
  refine call_of (reach_Only_1 (up bc).starts (upB bc) k3' hls (by omega)) ?_
  rintro v w6 ⟨S, cs, rfl, hoS, b6⟩
  simp (disch := first | with_reducible assumption | omega) only [push_cast, x_blk, x_cd, ↓reduceIte, Nat.reduceEqDiff, List.map_cons, List.map_nil, Int.reduceEq, Int.lt_irrefl, hu]
  refine ⟨b6, ?_⟩
  have k3'' := k3'.below b6 k3'.lt
  have bc6 := bc.trans (b6.mono bc.size)
  simp (disch := first | with_reducible assumption | omega) only [push_cast, x_blk, x_cd, ↓reduceIte, Nat.reduceEqDiff, List.map_cons, List.map_nil, Int.reduceEq, Int.lt_irrefl, callv_func, List.nil_append, List.append_nil, List.map_cons, List.map_nil, List.cons_append]
  refine call_of (reach_Only_1 (up bc6).ends (upB bc6) k3'' hle (by omega)) ?_
  rintro v w7 ⟨E, ce, rfl, hoE, b7⟩
  have b67 := b6.trans (b7.mono b6.size)
  simp (disch := first | with_reducible assumption | omega) only [push_cast, x_blk, x_cd, ↓reduceIte, Nat.reduceEqDiff, List.map_cons, List.map_nil, Int.reduceEq, Int.lt_irrefl]
  refine ⟨b67, ?_⟩
  have k57 := k5.below b67 k5.lt
  have c37 := c3.trans (b67.mono c3.size)
  have hoS7 := hoS.below b7 (Nat.le_refl _)
  have z6 := b6.size
  have z7 := b7.size
  have iS : Ints (fun b => w3.heap.size < b ∧ b < w7.heap.size) w7 S (numL B m.starts) := OwnI.between hoS7 l5
  have iE : Ints (fun b => w3.heap.size < b ∧ b < w7.heap.size) w7 E (numL B m.ends) := OwnI.between hoE (by omega)
  refine sto_slice k57 (by kernel_rfl) 2 (by simp) _ _ _ ?_
  intro w8 k8 g8 z8
  have m8 : Mid w3.heap.size w7.heap.size w7 w8 := Mid.start.grew g8 (by intro a ha; injection ha with ha; subst ha; exact .inl (Nat.le_refl _))
  have c38 : Below w3.heap.size w3 w8 := g8.below c37 c37.size (by intro a ha; injection ha with ha; subst ha; exact Nat.le_refl _)
  simp (disch := first | with_reducible assumption | omega) only [push_cast, x_blk, x_cd, ↓reduceIte, Nat.reduceEqDiff, List.map_cons, List.map_nil, Int.reduceEq, Int.lt_irrefl]
  refine sto_slice k8 (by kernel_rfl) 4 (by simp) _ _ _ ?_
  intro w9 k9 g9 z9
  have m9 := m8.grew g9 (by intro a ha; injection ha with ha; subst ha; exact .inl (Nat.le_refl _))
  have c39 : Below w3.heap.size w3 w9 := g9.below c38 c38.size (by intro a ha; injection ha with ha; subst ha; exact Nat.le_refl _)
  have k9' : Blk w9 w3.heap.size 25 (MV.cells ⟨S, cs, none, 0, E, ce⟩ ⟨max (B.length : Int) 1, m.events, numL B m.starts, trimA B (m.arrows.take 0), numL B m.ends⟩) := k9
  have k29 := k2.below c39 l2
  clear k9 k8 k57 k5 hoS hoE hoS7 k2' k3'' k3' g5 g8 g9 m8 c38 c37 c3
  simp (disch := first | with_reducible assumption | omega) only [push_cast, x_blk, x_cd, ↓reduceIte, Nat.reduceEqDiff, List.map_cons, List.map_nil, Int.reduceEq, Int.lt_irrefl, k29.m3 ty_ag_23]
  have z79 : w7.heap.size ≤ w9.heap.size := by omega
  refine loop_rule (fun f w' => ∃ (k : Nat) (O : Option Addr) (co : Nat), k ≤ m.arrows.length ∧ (f 4 = .pointer (some ⟨w2.heap.size, 0, none⟩) ∧ f 5 = .pointer (some ⟨w3.heap.size, 0, none⟩) ∧ f 6 = .func (.func 111) #[] #[.pointer (some ⟨w1.heap.size, 0, none⟩)] ∧
        f 28 = .slice a.Aa m.arrows.length a.ca ∧ f 29 = .int .i64 m.arrows.length ∧ f 30 = .int .i64 k) ∧
      Blk w' w3.heap.size 25 (MV.cells ⟨S, cs, O, co, E, ce⟩ ⟨max (B.length : Int) 1, m.events, numL B m.starts, trimA B (m.arrows.take k), numL B m.ends⟩) ∧
      OwnR arrCells w7.heap.size 75 3 w' O co (trimA B (m.arrows.take k)) ∧ Mid w3.heap.size w7.heap.size w7 w' ∧ Below w3.heap.size w3 w')
    (fun f _ => m.arrows.length - (intOf (f 30)).toNat) ⟨0, none, 0, Nat.zero_le _, ⟨rfl, rfl, rfl, rfl, rfl, rfl⟩, k9', Own.nil _ _ _ _, m9, c39⟩ ?_
  clear k9' m9 c39 k29
  rintro f w10 ⟨k, O, co, hk, fr, k5, ho, hM, c3⟩ J hJ
  have bc := bb.trans (c3.mono bb.size)
  have k2' := k2.below c3 l2
  have k3' := k3.below c3 l3
  have k4' := k4.below c3 l4
  by_cases hlt : k < m.arrows.length
  case neg =>
    obtain rfl : k = m.arrows.length := by omega
    rw [List.take_length] at k5 ho
    simp (disch := first | with_reducible assumption | omega) only [push_cast, x_blk, x_cd, ↓reduceIte, Nat.reduceEqDiff, List.map_cons, List.map_nil, Int.reduceEq, Int.lt_irrefl, L_reach_Only_0, fr, Nat.lt_irrefl, k5.mA ty_ag_25 ty_sz_25]
    refine sto_blk k4' (cs := MV.cells ⟨S, cs, O, co, E, ce⟩ (trimM m B)) (e5 _ _) rfl (by rfl) ?_
    intro w11 k11 g11 z11
    have m11 := hM.grew g11 (by intro a ha; injection ha with ha; subst ha; exact .inl (by show w2.heap.size ≤ w3.heap.size; omega))
    have ho11 := ho.grew g11 (.inr (ho.ne_blk k4' (by decide)))
    have z11' := m11.size
    simp (disch := first | with_reducible assumption | omega) only [push_cast, x_blk, x_cd, ↓reduceIte, Nat.reduceEqDiff, List.map_cons, List.map_nil, Int.reduceEq, Int.lt_irrefl, fr]
    exact fin_cell k11 ty_ag_25 (e5 _ _) (by simp only [push_cast, ↓reduceIte, Nat.reduceEqDiff, Int.reduceEq, fr]) (hQ _ _ ⟨⟨S, cs, O, co, E, ce⟩, rfl, ⟨(iS.mid m11).mono fun b hb => by omega, Arrs.of_recs (((OwnR.recs ho11 arrEnc (by decide)).both (Recs.lt arrEnc (by decide) (OwnR.recs ho11 arrEnc (by decide)))).mono fun b hb => ⟨by have := hb.1.1; omega, hb.2⟩), (iE.mid m11).mono fun b hb => by omega⟩,
      g11.below bc bc.size (by intro a ha; injection ha with ha; subst ha; show w.heap.size ≤ w2.heap.size; omega)⟩)
  have hI := (up bc).arrows
  have hA := hI.isSome (by omega)
  have hsn := trimA_snoc B m.arrows k hlt
  have hlen := trimA_len B (m.arrows.take k)
  have hlen2 := List.length_take_le k m.arrows
  simp (disch := first | with_reducible assumption | omega) only [push_cast, x_blk, x_cd, ↓reduceIte, Nat.reduceEqDiff, List.map_cons, List.map_nil, Int.reduceEq, Int.lt_irrefl, L_reach_Only_0, fr, hlt, hI.ldA ty_ag_75 ty_sz_75]
  refine blk_of al_75 ?_
  intro w11 k11 b11 z11
  simp (disch := first | with_reducible assumption | omega) only [push_cast, x_blk, x_cd, ↓reduceIte, Nat.reduceEqDiff, List.map_cons, List.map_nil, Int.reduceEq, Int.lt_irrefl]
  refine sto_blk k11 (cs := arrCells (m.arrows.getD k default)) ty_sz_75 rfl (by simp [arrCells, Value.oneCell']) ?_
  intro w12 k12 g12 z12
  generalize hy : m.arrows.getD k default = y at *
  have b12 : Below w10.heap.size w10 w12 := g12.below b11 b11.size (by intro a ha; injection ha with ha; subst ha; exact Nat.le_refl _)
  have z10 := hM.size
  have z37 : w3.heap.size < w7.heap.size := by omega
  replace k5 := k5.below b12 k5.lt
  replace ho := ho.below b12 (Nat.le_refl _)
  replace hM := hM.below b12
  replace c3 := c3.trans (b12.mono c3.size)
  simp (disch := first | with_reducible assumption | omega) only [push_cast, x_blk, x_cd, ↓reduceIte, Nat.reduceEqDiff, List.map_cons, List.map_nil, Int.reduceEq, Int.lt_irrefl, fr, k12.a0 ty_ag_3, k12.a2 ty_ag_3, bsl2_eq slT_22]
  have iN := ints_new2 w12 y.frm y.to_ 3
  have bN : Below w12.heap.size w12 (w12.alloc (.cells [.int .i64 y.frm, .int .i64 y.to_].toArray 3)) := (Below.refl _ _).alloc (Nat.le_refl _) _
  generalize w12.alloc (.cells [.int .i64 y.frm, .int .i64 y.to_].toArray 3) = w13 at *
  have l12 := k12.lt
  replace k12 := k12.below bN l12
  replace k5 := k5.below bN k5.lt
  replace ho := ho.below bN (Nat.le_refl _)
  replace hM := hM.below bN
  replace c3 := c3.trans (bN.mono c3.size)
  have bc13 := bb.trans (c3.mono bb.size)
  simp (disch := first | with_reducible assumption | omega) only [push_cast, x_blk, x_cd, ↓reduceIte, Nat.reduceEqDiff, List.map_cons, List.map_nil, Int.reduceEq, Int.lt_irrefl, callv_func, List.nil_append, List.append_nil, List.map_cons, List.map_nil, List.cons_append]
  refine call_of (reach_Only_1 (l := [y.frm, y.to_]) iN (upB bc13) (k3.below c3 l3) (by simp) (by omega)) ?_
  rintro v w14 ⟨T, ct, rfl, hoT, b14⟩
  replace k12 := k12.below b14 k12.lt
  replace k5 := k5.below b14 k5.lt
  replace ho := ho.below b14 (Nat.le_refl _)
  replace hM := hM.below b14
  replace c3 := c3.trans (b14.mono c3.size)
  by_cases hin : y.frm ∈ B ∧ y.to_ ∈ B
  case neg =>
    rw [if_neg hin] at hsn
    have hT2 : ¬ (((numL B [y.frm, y.to_]).length : Int) = 2) := by
      unfold numL
      by_cases q1 : y.frm ∈ B <;> by_cases q2 : y.to_ ∈ B <;> simp_all
    simp (disch := first | with_reducible assumption | omega) only [push_cast, x_blk, x_cd, ↓reduceIte, Nat.reduceEqDiff, List.map_cons, List.map_nil, Int.reduceEq, Int.lt_irrefl, fr, hT2]
    exact hJ _ _ ⟨k + 1, O, co, hlt, (by simp only [push_cast, ↓reduceIte, Nat.reduceEqDiff, true_and, and_true, and_self, eq_self, fr]), by rw [hsn]; exact k5, by rw [hsn]; exact ho, hM, c3⟩ (by simp only [push_cast, ↓reduceIte, Nat.reduceEqDiff, intOf, fr]; omega)
  rw [if_pos hin] at hsn
  have hTT : numL B [y.frm, y.to_] = [(ix y.frm B : Int), (ix y.to_ B : Int)] := by unfold numL; simp [hin.1, hin.2]
  rw [hTT] at hoT ⊢
  rw [show ([(ix y.frm B : Int), (ix y.to_ B : Int)] : List Int).length = 2 from rfl]
  have sd : Same w14 w14.drew := (Same.refl w14).drew
  replace k12 := k12.same sd
  replace k5 := k5.same sd
  replace ho := ho.same sd
  replace hM := hM.same sd
  replace hoT := hoT.same sd
  replace c3 := c3.trans (sd.below _)
  have iT := OwnI.ints hoT
  have hTS := iT.isSome (by simp)
  have ld0 := fun {K : Fr → World → Prop} {f : Fr} {d : Option Nat} {w : World} => iT.ld (P := Tryd.prog) (K := K) (f := f) (d := d) (w := w) ty_ag_3 0 (by simp)
  have ld1 := fun {K : Fr → World → Prop} {f : Fr} {d : Option Nat} {w : World} => iT.ld (P := Tryd.prog) (K := K) (f := f) (d := d) (w := w) ty_ag_3 1 (by simp)
  generalize hu2 : w14.drew = u2 at *
  simp (disch := first | with_reducible assumption | omega) only [push_cast, x_blk, x_cd, ↓reduceIte, Nat.reduceEqDiff, List.map_cons, List.map_nil, Int.reduceEq, Int.lt_irrefl, fr, eq_self, hu2, k5.m3 ty_ag_23, ld0, ld1, Int.reduceAdd, Int.toNat_zero, Int.toNat_one, k12.a1 ty_ag_3, bl_arrow, bs_rec arrEnc slT_23 _ (by decide)]
  refine ⟨(Below.refl _ _).alloc (Nat.le_refl _) _, ?_⟩
  have z7u := hM.size
  refine app_rec arrEnc slT_23 ho ⟨(ix y.frm B : Int), y.evt, (ix y.to_ B : Int)⟩ (by omega) (by omega) z7u ?_
  intro O' co' w15 ho' hg15 hA15 hs15 hz15
  replace k5 := k5.grown hg15.by_ (fun e => ho.ne_blk k5 (by decide) e.symm)
  replace hM := hM.grew hg15 (fun a ha => .inr (ho.geB a ha))
  replace c3 := hg15.below c3 c3.size (fun a ha => by have := ho.geB a ha; omega)
  simp (disch := first | with_reducible assumption | omega) only [push_cast, x_blk, x_cd, ↓reduceIte, Nat.reduceEqDiff, List.map_cons, List.map_nil, Int.reduceEq, Int.lt_irrefl, fr]
  refine sto_slice k5 (by kernel_rfl) 3 (by simp) _ _ _ ?_
  intro w16 k16 g16 z16
  have k16' : Blk w16 w3.heap.size 25 (MV.cells ⟨S, cs, O', co', E, ce⟩ ⟨max (B.length : Int) 1, m.events, numL B m.starts, trimA B (m.arrows.take (k + 1)), numL B m.ends⟩) := by
    rw [hsn]
    simp only [MV.cells, List.length_append, List.length_cons, List.length_nil, Nat.zero_add]
    exact k16
  have ho16 := ho'.grew g16 (.inr (ho'.ne_blk k5 (by decide)))
  rw [← hsn] at ho16
  simp (disch := first | with_reducible assumption | omega) only [push_cast, x_blk, x_cd, ↓reduceIte, Nat.reduceEqDiff, List.map_cons, List.map_nil, Int.reduceEq, Int.lt_irrefl, fr]
  exact hJ _ _ ⟨k + 1, O', co', hlt, (by simp only [push_cast, ↓reduceIte, Nat.reduceEqDiff, true_and, and_true, and_self, eq_self, fr]), k16', ho16, hM.grew g16 (by intro a ha; injection ha with ha; subst ha; exact .inl (Nat.le_refl _)), g16.below c3 c3.size (by intro a ha; injection ha with ha; subst ha; exact Nat.le_refl _)⟩ (by simp only [push_cast, ↓reduceIte, Nat.reduceEqDiff, intOf, fr]; omega)

/-- What Reach and Live answer with. -/
def RowRes (m : Mach) (L : List Int) (w : World) (v : Value) (w' : World) : Prop :=
  ∃ O co o e, v = .tuple #[.slice O o.length co, .int .i64 e] ∧ OwnI w.heap.size 3 w' O co o ∧ Below w.heap.size w w' ∧ (m.May → e = 0 ∧ o = L) ∧ (¬ m.May → e = 2 ∧ o = [])
theorem reach_Reach {w : World} {a : MV} {m : Mach} (h : IsM (· < w.heap.size) w a m) (hf : m.Fits) (hT : Tab w) :
    Cal Tryd.prog 37 [a.val m] w (RowRes m (reachL m) w) := by
  refine cal_reach_Reach (by simp) 100000 fun Q hQ => ?_
  simp (disch := first | with_reducible assumption | omega) only [push_cast, x_blk, x_cd, ↓reduceIte, Nat.reduceEqDiff, List.map_cons, List.map_nil, Int.reduceEq, Int.lt_irrefl, F_reach_Reach]
  refine blk_of (box_agg _ (a.cells m)) ?_
  intro w1 k1 b1 z1
  have up : ∀ {w' : World}, Below w.heap.size w w' → IsM (· < w'.heap.size) w' a m := fun {w'} hb => (h.below hb).mono fun b hl => Nat.lt_of_lt_of_le hl hb.size
  simp (disch := first | with_reducible assumption | omega) only [push_cast, x_blk, x_cd, ↓reduceIte, Nat.reduceEqDiff, List.map_cons, List.map_nil, Int.reduceEq, Int.lt_irrefl, k1.mA ty_ag_25 ty_sz_25]
  refine call_of (machine_May (up b1) hf) ?_
  rintro v w2 ⟨rfl, b2⟩
  replace k1 := k1.below b2 k1.lt
  have bb := b1.trans (b2.mono b1.size)
  by_cases p1 : m.May
  case neg =>
    simp (disch := first | with_reducible assumption | omega) only [push_cast, x_blk, x_cd, ↓reduceIte, Nat.reduceEqDiff, List.map_cons, List.map_nil, Int.reduceEq, Int.lt_irrefl, p1]
    exact fin_2 (hQ _ _ ⟨none, 0, [], 2, (by simp only [push_cast, ↓reduceIte, Nat.reduceEqDiff, Int.reduceEq, List.length_nil]), Own.nil _ _ _ _, bb, fun hh => absurd hh p1, fun _ => ⟨rfl, rfl⟩⟩)
  have hst : m.states ≤ 256 := p1.2.1
  have nA := p1.2.2.2.2.1
  have nS := hf.lenS
  have nE := hf.lenE
  have sd : Same w2 w2.drew := (Same.refl w2).drew
  replace k1 := k1.same sd
  replace bb := bb.trans (sd.below _)
  generalize hu : w2.drew = u at *
  simp (disch := first | with_reducible assumption | omega) only [push_cast, x_blk, x_cd, ↓reduceIte, Nat.reduceEqDiff, List.map_cons, List.map_nil, Int.reduceEq, Int.lt_irrefl, p1, hu, k1.m2 ty_ag_22, k1.m3 ty_ag_23]
  refine call_of (machine_Of' (up bb).starts _ nS ((may_starts p1).small hst)) ?_
  rintro v w3 ⟨rfl, b3⟩
  simp (disch := first | with_reducible assumption | omega) only [push_cast, x_blk, x_cd, ↓reduceIte, Nat.reduceEqDiff, List.map_cons, List.map_nil, Int.reduceEq, Int.lt_irrefl]
  refine ⟨b3, ?_⟩
  have bb3 := bb.trans (b3.mono bb.size)
  refine call_of (reach_spread (up bb3).arrows (May.arSmall p1) nA ((may_starts p1).small hst)) ?_
  rintro v w4 ⟨rfl, b4⟩
  replace b3 := b3.trans (b4.mono b3.size)
  simp (disch := first | with_reducible assumption | omega) only [push_cast, x_blk, x_cd, ↓reduceIte, Nat.reduceEqDiff, List.map_cons, List.map_nil, Int.reduceEq, Int.lt_irrefl]
  refine ⟨b3, ?_⟩
  have bb4 := bb.trans (b3.mono bb.size)
  refine call_of (set_Row' (S := reachL m) (pick_strict _) (pick_small _) (hT.below bb4 hT.lt)) ?_
  rintro v w5 ⟨O, co, rfl, ho, b5⟩
  replace b3 := b3.trans (b5.mono b3.size)
  simp (disch := first | with_reducible assumption | omega) only [push_cast, x_blk, x_cd, ↓reduceIte, Nat.reduceEqDiff, List.map_cons, List.map_nil, Int.reduceEq, Int.lt_irrefl]
  refine ⟨b3, ?_⟩
  exact fin_2 (hQ _ _ ⟨O, co, reachL m, 0, (by simp only [push_cast, ↓reduceIte, Nat.reduceEqDiff, Int.reduceEq]), ho.base bb4.size, bb.trans (b3.mono bb.size), fun _ => ⟨rfl, rfl⟩, fun hh => absurd p1 hh⟩)
theorem reach_Live {w : World} {a : MV} {m : Mach} (h : IsM (· < w.heap.size) w a m) (hf : m.Fits) (hT : Tab w) :
    Cal Tryd.prog 38 [a.val m] w (RowRes m (liveL m) w) := by
  refine cal_reach_Live (by simp) 100000 fun Q hQ => ?_
  simp (disch := first | with_reducible assumption | omega) only [push_cast, x_blk, x_cd, ↓reduceIte, Nat.reduceEqDiff, List.map_cons, List.map_nil, Int.reduceEq, Int.lt_irrefl, F_reach_Live]
  refine blk_of (box_agg _ (a.cells m)) ?_
  intro w1 k1 b1 z1
  have up : ∀ {w' : World}, Below w.heap.size w w' → IsM (· < w'.heap.size) w' a m := fun {w'} hb => (h.below hb).mono fun b hl => Nat.lt_of_lt_of_le hl hb.size
  simp (disch := first | with_reducible assumption | omega) only [push_cast, x_blk, x_cd, ↓reduceIte, Nat.reduceEqDiff, List.map_cons, List.map_nil, Int.reduceEq, Int.lt_irrefl, k1.mA ty_ag_25 ty_sz_25]
  refine call_of (machine_May (up b1) hf) ?_
  rintro v w2 ⟨rfl, b2⟩
  replace k1 := k1.below b2 k1.lt
  have bb := b1.trans (b2.mono b1.size)
  by_cases p1 : m.May
  case neg =>
    simp (disch := first | with_reducible assumption | omega) only [push_cast, x_blk, x_cd, ↓reduceIte, Nat.reduceEqDiff, List.map_cons, List.map_nil, Int.reduceEq, Int.lt_irrefl, p1]
    exact fin_2 (hQ _ _ ⟨none, 0, [], 2, (by simp only [push_cast, ↓reduceIte, Nat.reduceEqDiff, Int.reduceEq, List.length_nil]), Own.nil _ _ _ _, bb, fun hh => absurd hh p1, fun _ => ⟨rfl, rfl⟩⟩)
  have hst : m.states ≤ 256 := p1.2.1
  have nA := p1.2.2.2.2.1
  have nS := hf.lenS
  have nE := hf.lenE
  have sd : Same w2 w2.drew := (Same.refl w2).drew
  replace k1 := k1.same sd
  replace bb := bb.trans (sd.below _)
  generalize hu : w2.drew = u at *
  simp (disch := first | with_reducible assumption | omega) only [push_cast, x_blk, x_cd, ↓reduceIte, Nat.reduceEqDiff, List.map_cons, List.map_nil, Int.reduceEq, Int.lt_irrefl, p1, hu, k1.m4 ty_ag_22, k1.m3 ty_ag_23]
  have hlb : (m.arrows.map Arr.back).length = m.arrows.length := List.length_map _
  refine call_of (reach_back (up bb).arrows nA) ?_
  rintro v w3 ⟨R, cr, rfl, hoR, b3⟩
  simp (disch := first | with_reducible assumption | omega) only [push_cast, x_blk, x_cd, ↓reduceIte, Nat.reduceEqDiff, List.map_cons, List.map_nil, Int.reduceEq, Int.lt_irrefl]
  refine ⟨b3, ?_⟩
  have bb3 := bb.trans (b3.mono bb.size)
  refine call_of (machine_Of' (up bb3).ends _ nE ((may_ends p1).small hst)) ?_
  rintro v w4 ⟨rfl, b4⟩
  replace hoR := hoR.below b4 (Nat.le_refl _)
  replace b3 := b3.trans (b4.mono b3.size)
  simp (disch := first | with_reducible assumption | omega) only [push_cast, x_blk, x_cd, ↓reduceIte, Nat.reduceEqDiff, List.map_cons, List.map_nil, Int.reduceEq, Int.lt_irrefl]
  refine ⟨b3, ?_⟩
  have hrb : ArSmall (m.arrows.map Arr.back) := fun x hx => by
    obtain ⟨y, hy, rfl⟩ := List.mem_map.1 hx
    have := May.arSmall p1 y hy
    exact ⟨this.2, this.1⟩
  refine call_of (reach_spread (Arrs.of_recs (Recs.lt arrEnc (by decide) (OwnR.recs hoR arrEnc (by decide)))) hrb (by omega) ((may_ends p1).small hst)) ?_
  rw [eds_back]
  rintro v w5 ⟨rfl, b5⟩
  replace b3 := b3.trans (b5.mono b3.size)
  simp (disch := first | with_reducible assumption | omega) only [push_cast, x_blk, x_cd, ↓reduceIte, Nat.reduceEqDiff, List.map_cons, List.map_nil, Int.reduceEq, Int.lt_irrefl]
  refine ⟨b3, ?_⟩
  have bb4 := bb.trans (b3.mono bb.size)
  refine call_of (set_Row' (S := liveL m) (pick_strict _) (pick_small _) (hT.below bb4 hT.lt)) ?_
  rintro v w6 ⟨O, co, rfl, ho, b6⟩
  replace b3 := b3.trans (b6.mono b3.size)
  simp (disch := first | with_reducible assumption | omega) only [push_cast, x_blk, x_cd, ↓reduceIte, Nat.reduceEqDiff, List.map_cons, List.map_nil, Int.reduceEq, Int.lt_irrefl]
  refine ⟨b3, ?_⟩
  exact fin_2 (hQ _ _ ⟨O, co, liveL m, 0, (by simp only [push_cast, ↓reduceIte, Nat.reduceEqDiff, Int.reduceEq]), ho.base bb4.size, bb.trans (b3.mono bb.size), fun _ => ⟨rfl, rfl⟩, fun hh => absurd p1 hh⟩)

def TrimRes (m : Mach) (w : World) (v : Value) (w' : World) : Prop :=
  ∃ (d : MV) (dm : Mach) (O : Option Addr) (co : Nat) (o : List Int) (e : Int), v = .tuple #[d.val dm, .slice O o.length co, .int .i64 e] ∧ IsM (· < w'.heap.size) w' d dm ∧ Ints (· < w'.heap.size) w' O o ∧ Below w.heap.size w w' ∧
    (m.May → e = 0 ∧ o = bothL m ∧ dm = trimM m (bothL m)) ∧ (¬ m.May → e = 2 ∧ o = [] ∧ dm = mach0)
theorem reach_Trim {w : World} {a : MV} {m : Mach} (h : IsM (· < w.heap.size) w a m) (hf : m.Fits) (hT : Tab w) :
    Cal Tryd.prog 39 [a.val m] w (TrimRes m w) := by
  have e5 : ∀ (a : MV) (m : Mach), tySize Tryd.prog 25 = some (a.cells m).length := fun a m => ty_sz_25
  refine cal_reach_Trim (by simp) 100000 fun Q hQ => ?_
  simp (disch := first | with_reducible assumption | omega) only [push_cast, x_blk, x_cd, ↓reduceIte, Nat.reduceEqDiff, List.map_cons, List.map_nil, Int.reduceEq, Int.lt_irrefl, F_reach_Trim]
  refine blk_of (box_agg _ (a.cells m)) ?_
  intro w1 k1 b1 z1
  simp (disch := first | with_reducible assumption | omega) only [push_cast, x_blk, x_cd, ↓reduceIte, Nat.reduceEqDiff, List.map_cons, List.map_nil, Int.reduceEq, Int.lt_irrefl]
  refine blk_of (cs := mv0.cells mach0) al_25 ?_
  intro w2 k2 b2 z2
  have l1 := k1.lt
  replace k1 := k1.below b2 l1
  have bb := b1.trans (b2.mono b1.size)
  have up : ∀ {w' : World}, Below w.heap.size w w' → IsM (· < w'.heap.size) w' a m := fun {w'} hb => (h.below hb).mono fun b hl => Nat.lt_of_lt_of_le hl hb.size
  simp (disch := first | with_reducible assumption | omega) only [push_cast, x_blk, x_cd, ↓reduceIte, Nat.reduceEqDiff, List.map_cons, List.map_nil, Int.reduceEq, Int.lt_irrefl, k1.mA ty_ag_25 ty_sz_25]
  refine call_of (reach_Reach (up bb) hf (hT.below bb hT.lt)) ?_
  rintro v w3 ⟨O, co, o, e, rfl, ho, b3, hy, hn⟩
  have l2 := k2.lt
  replace k1 := k1.below b3 k1.lt
  replace k2 := k2.below b3 k2.lt
  replace bb := bb.trans (b3.mono bb.size)
  have z13 : w.heap.size ≤ w1.heap.size := b1.size
  by_cases p1 : m.May
  case neg =>
    obtain ⟨rfl, rfl⟩ := hn p1
    simp (disch := first | with_reducible assumption | omega) only [push_cast, x_blk, x_cd, ↓reduceIte, Nat.reduceEqDiff, List.map_cons, List.map_nil, Int.reduceEq, Int.lt_irrefl, mach0_built, Int.reduceEq]
    refine sto_blk k2 (cs := mv0.cells mach0) (e5 _ _) rfl (by rfl) ?_
    intro w4 k4 g4 z4
    simp (disch := first | with_reducible assumption | omega) only [push_cast, x_blk, x_cd, ↓reduceIte, Nat.reduceEqDiff, List.map_cons, List.map_nil, Int.reduceEq, Int.lt_irrefl]
    exact fin_c3 k4 ty_ag_25 (e5 _ _) (by simp only [push_cast, ↓reduceIte, Nat.reduceEqDiff, Int.reduceEq]) (hQ _ _ ⟨mv0, mach0, none, 0, [], 2, (by simp only [push_cast, ↓reduceIte, Nat.reduceEqDiff, Int.reduceEq, List.length_nil]), mach0_is _ _, Ints.nil _ _ _,
      g4.below bb bb.size (by intro a ha; injection ha with ha; subst ha; exact z13), fun hh => absurd hh p1, fun _ => ⟨rfl, rfl, rfl⟩⟩)
  obtain ⟨rfl, rfl⟩ := hy p1
  simp (disch := first | with_reducible assumption | omega) only [push_cast, x_blk, x_cd, ↓reduceIte, Nat.reduceEqDiff, List.map_cons, List.map_nil, Int.reduceEq, Int.lt_irrefl, Int.reduceEq, k1.mA ty_ag_25 ty_sz_25]
  refine call_of (reach_Live (up bb) hf (hT.below bb hT.lt)) ?_
  rintro v w4 ⟨O2, co2, o2, e2, rfl, ho2, b4, hy2, _⟩
  obtain ⟨rfl, rfl⟩ := hy2 p1
  replace ho := ho.below b4 (Nat.le_refl _)
  replace k1 := k1.below b4 k1.lt
  replace k2 := k2.below b4 k2.lt
  replace bb := bb.trans (b4.mono bb.size)
  have n1 := small_len (pick_strict (ReachP m)) (pick_small _)
  have n2 := small_len (pick_strict (LiveP m)) (pick_small _)
  have hcO := ho.cap
  have hcO2 := ho2.cap
  simp (disch := first | with_reducible assumption | omega) only [push_cast, x_blk, x_cd, ↓reduceIte, Nat.reduceEqDiff, List.map_cons, List.map_nil, Int.reduceEq, Int.lt_irrefl]
  refine call_of (row_Meet (OwnI.ints ho).lt (OwnI.ints ho2).lt hcO hcO2 (by unfold reachL; omega) (by unfold liveL; omega)) ?_
  rintro v w5 ⟨O3, co3, o3, e3, rfl, ho3, b5, hy3, _⟩
  have r1 : IsRow (reachL m) 2147483648 := pick_row fun x hx => by have := hx.lt p1; have := p1.2.1; omega
  have r2 : IsRow (liveL m) 2147483648 := pick_row fun x hx => by have := hx.lt p1; have := p1.2.1; omega
  obtain ⟨rfl, he3⟩ := hy3 ⟨r1, r2⟩
  rw [show mergeL gMeet (reachL m) (liveL m) = bothL m from meet_eq (pick_strict _) (pick_strict _)] at he3
  subst he3
  have hB := small_len (bothL_strict m) (bothL_small m)
  replace k1 := k1.below b5 k1.lt
  replace k2 := k2.below b5 k2.lt
  have z4 := bb.size
  replace bb := bb.trans (b5.mono bb.size)
  simp (disch := first | with_reducible assumption | omega) only [push_cast, x_blk, x_cd, ↓reduceIte, Nat.reduceEqDiff, List.map_cons, List.map_nil, Int.reduceEq, Int.lt_irrefl, k1.mA ty_ag_25 ty_sz_25]
  refine call_of (reach_Only (up bb) p1 (OwnI.ints ho3).lt hB hf.lenS hf.lenE) ?_
  rintro v w6 ⟨d, rfl, hd, b6⟩
  have z5 := bb.size
  have z46 := b5.size
  have z34 := b4.size
  have z23 := b3.size
  have iB := ((OwnI.ints ho3).both (OwnI.ints ho3).lt).mono (ok' := fun b => w1.heap.size < b ∧ b < w5.heap.size) fun b hb => ⟨by have := hb.1.1; omega, hb.2⟩
  replace k2 := k2.below b6 k2.lt
  have z6 := b6.size
  have g2 : w1.heap.size < w5.heap.size := by omega
  replace bb := bb.trans (b6.mono bb.size)
  simp (disch := first | with_reducible assumption | omega) only [push_cast, x_blk, x_cd, ↓reduceIte, Nat.reduceEqDiff, List.map_cons, List.map_nil, Int.reduceEq, Int.lt_irrefl]
  refine sto_mach k2 rfl _ _ ?_
  intro w7 k7 g7 z7
  have kp : ∀ b, w1.heap.size < b ∧ b < w6.heap.size → w7.heap[b]? = w6.heap[b]? ∧ b < w7.heap.size := fun b hb => ⟨g7.by_.block b hb.2 (by simp; omega), by omega⟩
  have kp6 : ∀ b, w1.heap.size < b ∧ b < w5.heap.size → w6.heap[b]? = w5.heap[b]? ∧ (w1.heap.size < b ∧ b < w6.heap.size) := fun b hb => ⟨b6.block b hb.2, hb.1, by omega⟩
  have hd' := hd.mono (ok' := fun b => w1.heap.size < b ∧ b < w6.heap.size) fun b hb => ⟨by omega, hb.2⟩
  simp (disch := first | with_reducible assumption | omega) only [push_cast, x_blk, x_cd, ↓reduceIte, Nat.reduceEqDiff, List.map_cons, List.map_nil, Int.reduceEq, Int.lt_irrefl]
  exact fin_c3 k7 ty_ag_25 (e5 _ _) (by simp only [push_cast, ↓reduceIte, Nat.reduceEqDiff, Int.reduceEq]) (hQ _ _ ⟨d, trimM m (bothL m), O3, co3, bothL m, 0, (by simp only [push_cast, ↓reduceIte, Nat.reduceEqDiff, Int.reduceEq]), (hd'.keep fun b hb => (kp b hb).1).mono fun b hb => by omega, (iB.keep' kp6).keep' kp,
    g7.below bb bb.size (by intro a ha; injection ha with ha; subst ha; exact z13), fun _ => ⟨rfl, rfl, rfl⟩, fun hh => absurd p1 hh⟩)
end

/-! # ReachC -/
section
open Go.RowKit

theorem ref3_place {ok : Nat → Prop} {w : World} {A : Option Addr} {l : List Int} (h : Ints ok w A l) (c : Nat) (b : Int) (hl : l.length ≤ 9223372036854775807) :
    Cal Tryd.prog 84 [.slice A l.length c, .int .i64 b] w fun v w' => v = .int .i64 (if b ∈ l then (ix b l : Int) else -1) ∧ Same w w' := by
  refine cal_ref3_place (by simp) 100000 fun Q hQ => ?_
  simp (disch := first | with_reducible assumption | omega) only [push_cast, x_blk, x_cd, ↓reduceIte, Nat.reduceEqDiff, List.map_cons, List.map_nil, Int.reduceEq, Int.lt_irrefl, F_ref3_place]
  refine loop_rule (fun f w' => ∃ k : Nat, k ≤ l.length ∧ (f 0 = .slice A l.length c ∧ f 1 = .int .i64 b ∧ f 5 = .int .i64 k) ∧ (∀ i, i < k → l.getD i 0 ≠ b) ∧ Same w w')
    (fun f _ => l.length - (intOf (f 5)).toNat) ⟨0, Nat.zero_le _, ⟨rfl, rfl, rfl⟩, fun i hi => absurd hi (by omega), Same.refl w⟩ ?_
  rintro f w1 ⟨k, hk, fr, hpre, hs⟩ J hJ
  have hI := h.same hs
  by_cases hlt : k < l.length
  · have hA := hI.isSome (by omega)
    by_cases c1 : l.getD k 0 = b
    · have hin : b ∈ l := c1 ▸ getD_mem l 0 k hlt
      have hix := ix_first hlt c1 hpre
      simp (disch := first | with_reducible assumption | omega) only [push_cast, x_blk, x_cd, ↓reduceIte, Nat.reduceEqDiff, List.map_cons, List.map_nil, Int.reduceEq, Int.lt_irrefl, L_ref3_place_0, fr, hlt, c1, eq_self, hI.ld ty_ag_3]
      exact fin_1 (hQ _ _ ⟨by rw [if_pos hin, hix]; rfl, hs⟩)
    · simp (disch := first | with_reducible assumption | omega) only [push_cast, x_blk, x_cd, ↓reduceIte, Nat.reduceEqDiff, List.map_cons, List.map_nil, Int.reduceEq, Int.lt_irrefl, L_ref3_place_0, fr, hlt, c1, hI.ld ty_ag_3]
      exact hJ _ _ ⟨k + 1, hlt, (by simp only [push_cast, ↓reduceIte, Nat.reduceEqDiff, true_and, and_true, and_self, eq_self, fr]), fun i hi => if e : i = k then e ▸ c1 else hpre i (by omega), hs⟩ (by simp only [push_cast, ↓reduceIte, Nat.reduceEqDiff, intOf, fr]; omega)
  · simp (disch := first | with_reducible assumption | omega) only [push_cast, x_blk, x_cd, ↓reduceIte, Nat.reduceEqDiff, List.map_cons, List.map_nil, Int.reduceEq, Int.lt_irrefl, L_ref3_place_0, fr, hlt]
    refine fin_1 (hQ _ _ ⟨?_, hs⟩)
    rw [if_neg fun h => by
      obtain ⟨i, hi, he⟩ := (mem_iff_getD l 0 b).1 h
      exact absurd he (hpre i (by omega))]
    rfl
theorem ref3_places {w : World} {A A1 : Option Addr} {c c1 : Nat} {l B : List Int} (hB : Ints (· < w.heap.size) w A1 B) (h : Ints (· < w.heap.size) w A l) (hl : l.length ≤ 17592186043904) (hb : B.length ≤ 17592186043904) :
    Cal Tryd.prog 83 [.slice A1 B.length c1, .slice A l.length c] w fun v w' => ∃ O co, v = .slice O (numL B l).length co ∧ OwnI w.heap.size 3 w' O co (numL B l) ∧ Below w.heap.size w w' := by
  refine cal_ref3_places (by simp) 100000 fun Q hQ => ?_
  simp (disch := first | with_reducible assumption | omega) only [push_cast, x_blk, x_cd, ↓reduceIte, Nat.reduceEqDiff, List.map_cons, List.map_nil, Int.reduceEq, Int.lt_irrefl, F_ref3_places]
  refine loop_rule (fun f w' => ∃ (k : Nat) (O : Option Addr) (co : Nat), k ≤ l.length ∧ (f 0 = .slice A1 B.length c1 ∧ f 1 = .slice A l.length c ∧ f 5 = .slice O (numL B (l.take k)).length co ∧ f 6 = .int .i64 k) ∧
      OwnI w.heap.size 3 w' O co (numL B (l.take k)) ∧ Below w.heap.size w w')
    (fun f _ => l.length - (intOf (f 6)).toNat) ⟨0, none, 0, Nat.zero_le _, ⟨rfl, rfl, rfl, rfl⟩, Own.nil _ _ _ _, Below.refl _ _⟩ ?_
  rintro f w1 ⟨k, O, co, hk, fr, ho, bb⟩ J hJ
  by_cases hlt : k < l.length
  case neg =>
    obtain rfl : k = l.length := by omega
    rw [List.take_length] at fr ho
    simp (disch := first | with_reducible assumption | omega) only [push_cast, x_blk, x_cd, ↓reduceIte, Nat.reduceEqDiff, List.map_cons, List.map_nil, Int.reduceEq, Int.lt_irrefl, L_ref3_places_0, fr, Nat.lt_irrefl]
    exact fin_1 (hQ _ _ ⟨O, co, (by simp only [push_cast, ↓reduceIte, Nat.reduceEqDiff, Int.reduceEq, fr]), ho, bb⟩)
  have hI := h.below bb
  have hA := hI.isSome (by omega)
  have hlen := numL_len B (l.take k)
  have hlen2 := List.length_take_le k l
  have hsn := numL_snoc B l k hlt
  generalize hx : l.getD k 0 = x at *
  have ldx := fun {K : Fr → World → Prop} {f : Fr} {d : Option Nat} {w : World} => hI.ld (P := Tryd.prog) (K := K) (f := f) (d := d) (w := w) ty_ag_3 k hlt
  rw [hx] at ldx
  simp (disch := first | with_reducible assumption | omega) only [push_cast, x_blk, x_cd, ↓reduceIte, Nat.reduceEqDiff, List.map_cons, List.map_nil, Int.reduceEq, Int.lt_irrefl, L_ref3_places_0, fr, hlt, ldx]
  refine call_of (ref3_place (hB.below bb) c1 x (by omega)) ?_
  rintro v w2 ⟨rfl, s2⟩
  replace ho := ho.same s2
  replace bb := bb.trans (s2.below _)
  by_cases hin : x ∈ B
  · rw [if_pos hin] at hsn ⊢
    have h0 : (0 : Int) ≤ (ix x B : Int) := Int.natCast_nonneg _
    simp (disch := first | with_reducible assumption | omega) only [push_cast, x_blk, x_cd, ↓reduceIte, Nat.reduceEqDiff, List.map_cons, List.map_nil, Int.reduceEq, Int.lt_irrefl, fr, h0, bs_22]
    refine app_int slT_22 ho _ (by omega) bb.size ?_
    intro O' co' w3 ho' hg3 hA3 hs3 hz3
    simp (disch := first | with_reducible assumption | omega) only [push_cast, x_blk, x_cd, ↓reduceIte, Nat.reduceEqDiff, List.map_cons, List.map_nil, Int.reduceEq, Int.lt_irrefl, fr]
    exact hJ _ _ ⟨k + 1, O', co', hlt, (by simp only [push_cast, ↓reduceIte, Nat.reduceEqDiff, true_and, and_true, and_self, eq_self, fr, hsn, List.length_append, List.length_cons, List.length_nil]), by rw [hsn]; exact ho', hg3.below bb bb.size ho.geB⟩ (by simp only [push_cast, ↓reduceIte, Nat.reduceEqDiff, intOf, fr]; omega)
  · rw [if_neg hin] at hsn ⊢
    have h0 : ¬ ((0 : Int) ≤ -1) := by decide
    simp (disch := first | with_reducible assumption | omega) only [push_cast, x_blk, x_cd, ↓reduceIte, Nat.reduceEqDiff, List.map_cons, List.map_nil, Int.reduceEq, Int.lt_irrefl, fr, h0]
    exact hJ _ _ ⟨k + 1, O, co, hlt, (by simp only [push_cast, ↓reduceIte, Nat.reduceEqDiff, true_and, and_true, and_self, eq_self, fr, hsn]), by rw [hsn]; exact ho, bb⟩ (by simp only [push_cast, ↓reduceIte, Nat.reduceEqDiff, intOf, fr]; omega)

/-! ## Sort -/
def atA (x : Arr) : List Arr → Nat
  | [] => 0
  | y :: o => if y.lt x then atA x o + 1 else 0
theorem atA_eq {x : Arr} : ∀ {o : List Arr} {n : Nat}, n ≤ o.length → (∀ j, j < n → (o.getD j default).lt x) → (n < o.length → ¬ (o.getD n default).lt x) → atA x o = n
  | [], n, hn, _, _ => by simp at hn; rw [hn]; rfl
  | y :: o, 0, _, _, h2 => by
    have := h2 (by simp)
    unfold atA
    rw [if_neg (show ¬ y.lt x from this)]
  | y :: o, n + 1, hn, h1, h2 => by
    unfold atA
    have h0 := h1 0 (by omega)
    rw [if_pos (show y.lt x from h0), atA_eq (o := o) (n := n) (by simpa using hn) (fun j hj => by have := h1 (j + 1) (by omega); simpa using this) fun hlt => by
      have := h2 (by simpa using hlt)
      simpa using this]
def insA (x : Arr) (o : List Arr) : List Arr := if atA x o < o.length ∧ o.getD (atA x o) default = x then o else o.take (atA x o) ++ x :: o.drop (atA x o)
def sortA (l : List Arr) : List Arr := l.foldl (fun o x => insA x o) []
theorem sortA_snoc (l : List Arr) (k : Nat) (h : k < l.length) : sortA (l.take (k + 1)) = insA (l.getD k default) (sortA (l.take k)) := by
  unfold sortA
  rw [take_snoc _ default k h, List.foldl_append]; rfl
theorem insA_len (x : Arr) (o : List Arr) : (insA x o).length ≤ o.length + 1 := by
  unfold insA
  split
  · omega
  · simp; omega
theorem sortA_len (l : List Arr) : ∀ k, (sortA (l.take k)).length ≤ k
  | 0 => by simp [sortA]
  | k + 1 => by
    rcases Nat.lt_or_ge k l.length with h | h
    · rw [sortA_snoc l k h]; have := insA_len (l.getD k default) (sortA (l.take k)); have := sortA_len l k; omega
    · rw [List.take_of_length_le (by omega), ← List.take_of_length_le (l := l) (i := k) h]; have := sortA_len l k; omega
theorem sortA_ord {l : List Arr} (h : OrdA l) : sortA l = l := by
  have key : ∀ k, k ≤ l.length → sortA (l.take k) = l.take k := by
    intro k
    induction k with
    | zero => intro _; rfl
    | succ k ih =>
      intro hk
      rw [sortA_snoc l k hk, ih (by omega), take_snoc l default k hk]
      have hl : (l.take k).length = k := by simp; omega
      have hat : atA (l.getD k default) (l.take k) = k := atA_eq (by omega) (fun j hj => by
        have := h.at_ hj hk
        rwa [show (l.take k).getD j default = l.getD j default by simp [List.getD_eq_getElem?_getD, List.getElem?_take, hj]]) (by omega)
      unfold insA
      rw [hat, if_neg (by omega), List.take_of_length_le (by omega), List.drop_of_length_le (by omega)]
  have := key l.length (Nat.le_refl _)
  rwa [List.take_length] at this
section
variable {P : Program} {K : Fr → World → Prop} {u w : World} {f : Fr} {d : Option Nat} {A : Option Addr} {n c B e bytes t : Nat} {xs : List Value}
theorem slice_head {sz : Nat} (hT : SlT P t e sz bytes) (k : Nat) (hk : k ≤ c) : Val1 P K (Instr.sliceAt t (.slice A n c) none (some (.int .i64 k)) none) u f d w = K (updO f d (.slice A k c)) w :=
  val1_of u f d w fun w' _ => by
    obtain ⟨i, z, hi, hz, hs, hb, hcc⟩ := hT.get
    have h1 : (0 : Int) ≤ (k : Int) ∧ (k : Int) ≤ (c : Int) := by omega
    cases A with
    | none => simp [Instr.sliceAt, run_underlying hT.under, Instr.slice, Instr.sliceBounds, Instr.sliceBound, asIntOf, hk, sizeOf, typeInfo, hi, hs]
    | some a => simp [Instr.sliceAt, run_underlying hT.under, Instr.slice, Instr.sliceBounds, Instr.sliceBound, asIntOf, hk, sizeOf, typeInfo, hi, hs, Addr.add]
theorem Own.take {sz : Nat} (h : Own B e sz w A c n xs) {k : Nat} (hk : k ≤ n) (h0 : n = 0 → k = 0) : Own B e sz w A c k (xs.take (k * sz)) := by
  obtain ⟨hl, hh⟩ := h.own
  have hkn : k * sz ≤ n * sz := Nat.mul_le_mul_right _ hk
  refine ⟨⟨by rw [List.length_take]; omega, ?_⟩⟩
  rcases hh with ⟨h1, h2⟩ | ⟨g, cap, cur, hv, hB, hg, hnc, h3, h4, h5⟩
  · injection h1 with h1 h6 h7
    subst h1 h6 h7
    obtain rfl := h0 rfl
    exact .inl ⟨rfl, rfl⟩
  · injection hv with e1 e2 e3
    subst e1 e3
    refine .inr ⟨g, c, cur, rfl, hB, hg, by omega, h3, h4, ?_⟩
    rw [← h5, List.take_take, Nat.min_eq_left hkn]
end
theorem eql_run_arr (w : World) (xo yo : Operand) (a b : Arr) : (binS .eql 75 xo yo (arrVal a) (arrVal b)).run Tryd.prog w = .ok (.bool (decide (a = b))) w := by
  unfold binS
  rw [Sem.run_bind, run_eqGuard_agg w .eql 75 xo yo _ _ (by kernel_rfl), Result.andThen_ok, run_eql_struct w, equal_arr w a b]; rfl
theorem eql_arr {K : Fr → World → Prop} {u w : World} {f : Fr} {d : Option Nat} {xo yo : Operand} (a b : Arr) : Val1 Tryd.prog K (binS .eql 75 xo yo (arrVal a) (arrVal b)) u f d w = K (updO f d (.bool (decide (a = b)))) w :=
  val1_of u f d w fun w' _ => eql_run_arr w' xo yo a b
theorem Arrs.lt {ok : Nat → Prop} {w : World} {A : Option Addr} {l : List Arr} (h : Arrs ok w A l) : Arrs (· < w.heap.size) w A l :=
  ⟨h.isSome, fun hl => by
    have := World.block_lt_of_cell? w _ (h.cell 0 hl 0 (by decide))
    rwa [eA_block] at this, h.cell⟩
theorem OwnA.arrs {B e c : Nat} {w : World} {A : Option Addr} {l : List Arr} (h : OwnR arrCells B e 3 w A c l) : Arrs (fun b => B ≤ b ∧ b < w.heap.size) w A l :=
  Arrs.of_recs (((OwnR.recs h arrEnc (by decide)).both (Recs.lt arrEnc (by decide) (OwnR.recs h arrEnc (by decide)))).mono fun b hb => ⟨hb.1.1, hb.2⟩)

theorem flatMap_drop {α : Type} {enc : α → List Value} {sz : Nat} (E : Enc enc sz) (o : List α) {n : Nat} (hn : n ≤ o.length) : (o.drop n).flatMap enc = (o.flatMap enc).drop (n * sz) := by
  have hl : ((o.take n).flatMap enc).length = n * sz := by rw [flatMap_len E, List.length_take, Nat.min_eq_left hn]
  have : o.flatMap enc = (o.take n).flatMap enc ++ (o.drop n).flatMap enc := by rw [← List.flatMap_append, List.take_append_drop]
  rw [this, List.drop_left' hl]
theorem flatMap_take {α : Type} {enc : α → List Value} {sz : Nat} (E : Enc enc sz) (o : List α) {n : Nat} (hn : n ≤ o.length) : (o.take n).flatMap enc = (o.flatMap enc).take (n * sz) := by
  have hl : ((o.take n).flatMap enc).length = n * sz := by rw [flatMap_len E, List.length_take, Nat.min_eq_left hn]
  have : o.flatMap enc = (o.take n).flatMap enc ++ (o.drop n).flatMap enc := by rw [← List.flatMap_append, List.take_append_drop]
  rw [this, List.take_left' hl]
theorem Rd.below {w w' : World} {A : Option Addr} {xs : List Value} (h : Rd w A xs) (hb : Below w.heap.size w w') : Rd w' A xs := ⟨h.isSome, fun j v hv => below_cell hb (h.cell j v hv)⟩
theorem Rd.tail {w : World} {A : Option Addr} {xs : List Value} {n c k sz : Nat} (h : Rd w A xs) (hs : xs.length = n * sz) (hk : k ≤ n) (hc : n ≤ c) : Rd w (if c = k then A else A.map (·.add (k * sz))) (xs.drop (k * sz)) := by
  have hlt : ∀ j, j < (xs.drop (k * sz)).length → c ≠ k := fun j hj e => by
    rw [List.length_drop, hs] at hj
    have : n = k := by omega
    rw [this] at hj; omega
  refine ⟨fun hl => ?_, fun j v hv => ?_⟩
  · rw [if_neg (hlt 0 hl)]
    have := h.isSome (by rw [List.length_drop] at hl; omega)
    cases A <;> simp_all
  · have hj : j < (xs.drop (k * sz)).length := (List.getElem?_eq_some_iff.1 hv).1
    rw [if_neg (hlt j hj)]
    rw [List.getElem?_drop] at hv
    have hA := h.isSome (by rw [List.length_drop] at hj; omega)
    have := h.cell _ v hv
    cases A with
    | none => cases hA
    | some a => rw [eA_some] at this; rw [Option.map_some, eA_some, add_add, this]
theorem app_rec' {α : Type} {enc : α → List Value} {sz : Nat} {P : Program} {K : Fr → World → Prop} {w : World} {f : Fr} {d : Option Nat} {A : Option Addr} {l : List α} {B e bytes t ty c n : Nat} (E : Enc enc sz) (hT : SlT P t e sz bytes) (hn : l.length = n) (hown : OwnR enc B e sz w A c l) (x : α) (hl : (n + 1) * bytes ≤ 140737488355328) (h63 : n + 1 ≤ 9223372036854775807) (hB : B ≤ w.heap.size)
    (hk : ∀ A' c' w', OwnR enc B e sz w' A' c' (l ++ [x]) → Grew w w' A → (A'.map (·.block) = A.map (·.block) ∨ ∃ g, A'.map (·.block) = some g ∧ w.heap.size ≤ g) → A'.isSome = true → w.heap.size ≤ w'.heap.size → K (updO f d (.slice A' (n + 1) c')) w') :
    Eff1 P K (Builtin.append_ #[t, t] ty #[.slice A n c, .slice (some ⟨w.heap.size, 0, none⟩) 1 1]) f d (w.alloc (.cells (enc x).toArray e)) := by
  subst hn
  exact app_rec E hT hown x hl h63 hB hk

theorem ref2_Sort {w : World} {A : Option Addr} {c : Nat} {l : List Arr} (h : Arrs (· < w.heap.size) w A l) (hl : l.length ≤ 1000000) :
    Cal Tryd.prog 85 [.slice A l.length c] w fun v w' => ∃ O co, v = .slice O (sortA l).length co ∧ OwnR arrCells w.heap.size 75 3 w' O co (sortA l) ∧ Below w.heap.size w w' := by
  refine cal_ref2_Sort (by simp) 100000 fun Q hQ => ?_
  simp (disch := first | with_reducible assumption | omega) only [push_cast, x_blk, x_cd, ↓reduceIte, Nat.reduceEqDiff, List.map_cons, List.map_nil, Int.reduceEq, Int.lt_irrefl, F_ref2_Sort]
  refine loop_rule (fun f w' => ∃ (k : Nat) (O : Option Addr) (co : Nat), k ≤ l.length ∧ (f 0 = .slice A l.length c ∧ f 3 = .slice O (sortA (l.take k)).length co ∧ f 4 = .int .i64 k) ∧
      OwnR arrCells w.heap.size 75 3 w' O co (sortA (l.take k)) ∧ Below w.heap.size w w')
    (fun f _ => l.length - (intOf (f 4)).toNat) ⟨0, none, 0, Nat.zero_le _, ⟨rfl, rfl, rfl⟩, Own.nil _ _ _ _, Below.refl _ _⟩ ?_
  rintro f w1 ⟨k, O, co, hk, fr, ho, bb⟩ J hJ
  by_cases hlt : k < l.length
  case neg =>
    obtain rfl : k = l.length := by omega
    rw [List.take_length] at fr ho
    simp (disch := first | with_reducible assumption | omega) only [push_cast, x_blk, x_cd, ↓reduceIte, Nat.reduceEqDiff, List.map_cons, List.map_nil, Int.reduceEq, Int.lt_irrefl, L_ref2_Sort_1, fr, Nat.lt_irrefl]
    exact fin_1 (hQ _ _ ⟨O, co, (by simp only [push_cast, ↓reduceIte, Nat.reduceEqDiff, Int.reduceEq, fr]), ho, bb⟩)
  have hsn := sortA_snoc l k hlt
  have hle := sortA_len l k
  have hmu : (intOf (f 4)).toNat = k := by rw [fr.2.2]; simp [intOf]
  generalize hoo : sortA (l.take k) = o at *
  generalize hx : l.getD k default = x at *
  simp (disch := first | with_reducible assumption | omega) only [push_cast, x_cd, ↓reduceIte, Nat.reduceEqDiff, L_ref2_Sort_1, fr, hlt]
  rw [x_blk]
  simp (disch := first | with_reducible assumption | omega) only [push_cast, x_cd, ↓reduceIte, Nat.reduceEqDiff]
  refine cut (fun f' w' => (f' 0 = .slice A l.length c ∧ f' 3 = .slice O o.length co ∧ f' 4 = .int .i64 k ∧ f' 5 = .int .i64 (atA x o)) ∧ atA x o ≤ o.length ∧ OwnR arrCells w.heap.size 75 3 w' O co o ∧ Below w.heap.size w w') 40000 40000 (by decide) ?_ ?_
  · intro E hE
    simp (disch := first | with_reducible assumption | omega) only [push_cast, x_blk, x_cd, ↓reduceIte, Nat.reduceEqDiff, List.map_cons, List.map_nil, Int.reduceEq, Int.lt_irrefl]
    refine loop_rule (fun f' w' => ∃ n : Nat, n ≤ o.length ∧ (f' 0 = .slice A l.length c ∧ f' 3 = .slice O o.length co ∧ f' 4 = .int .i64 k ∧ f' 5 = .int .i64 n) ∧ (∀ j, j < n → (o.getD j default).lt x) ∧
        OwnR arrCells w.heap.size 75 3 w' O co o ∧ Below w.heap.size w w')
      (fun f' _ => o.length - (intOf (f' 5)).toNat) ⟨0, Nat.zero_le _, (by simp only [push_cast, ↓reduceIte, Nat.reduceEqDiff, true_and, and_true, and_self, eq_self, fr]), fun j hj => absurd hj (by omega), ho, bb⟩ ?_
    clear ho bb fr
    rintro f w1 ⟨n, hn, fr, hp, ho, bb⟩ J2 hJ2
    have sd : Same w1 w1.drew := (Same.refl w1).drew
    have hod := ho.same sd
    have bd := bb.trans (sd.below _)
    have hId := h.below bd
    have hAl := hId.isSome (by omega)
    have hOd := OwnA.arrs hod
    have ldl := fun {K : Fr → World → Prop} {f : Fr} {d : Option Nat} {w : World} => hId.ldA (P := Tryd.prog) (K := K) (f := f) (d := d) (w := w) ty_ag_75 ty_sz_75 k hlt
    rw [hx] at ldl
    generalize hu : w1.drew = u at *
    by_cases hno : n < o.length
    case neg =>
      have hat : atA x o = n := atA_eq hn hp fun h => absurd h hno
      have hno' : ¬ ((n : Int) < (o.length : Int)) := by omega
      simp (disch := first | with_reducible assumption | omega) only [push_cast, x_blk, x_cd, ↓reduceIte, Nat.reduceEqDiff, List.map_cons, List.map_nil, Int.reduceEq, Int.lt_irrefl, L_ref2_Sort_0, fr, hno', hno, hlt, hu, ldl, Bool.false_and]
      exact hE _ _ ⟨(by simp only [push_cast, ↓reduceIte, Nat.reduceEqDiff, true_and, and_true, and_self, eq_self, fr, hat]), by omega, hod, bd⟩
    have hAo := hOd.isSome (by omega)
    have ldo := fun {K : Fr → World → Prop} {f : Fr} {d : Option Nat} {w : World} => hOd.ldA (P := Tryd.prog) (K := K) (f := f) (d := d) (w := w) ty_ag_75 ty_sz_75 n hno
    simp (disch := first | with_reducible assumption | omega) only [push_cast, x_blk, x_cd, ↓reduceIte, Nat.reduceEqDiff, List.map_cons, List.map_nil, Int.reduceEq, Int.lt_irrefl, L_ref2_Sort_0, fr, hno, hlt, hu, ldl, ldo]
    refine call_of (ref2_ahead _ _ _) ?_
    rintro v w2 ⟨rfl, b2⟩
    have ho2 := hod.below b2 (Nat.le_refl _)
    have bb2 := bd.trans (b2.mono bd.size)
    by_cases ha : (o.getD n default).lt x
    · simp (disch := first | with_reducible assumption | omega) only [push_cast, x_blk, x_cd, ↓reduceIte, Nat.reduceEqDiff, List.map_cons, List.map_nil, Int.reduceEq, Int.lt_irrefl, fr, decide_eq_true ha]
      exact hJ2 _ _ ⟨n + 1, hno, (by simp only [push_cast, ↓reduceIte, Nat.reduceEqDiff, true_and, and_true, and_self, eq_self, fr]), fun j hj => if e : j = n then e ▸ ha else hp j (by omega), ho2, bb2⟩ (by simp only [push_cast, ↓reduceIte, Nat.reduceEqDiff, intOf, fr]; omega)
    have hat : atA x o = n := atA_eq hn hp fun _ => ha
    simp (disch := first | with_reducible assumption | omega) only [push_cast, x_blk, x_cd, ↓reduceIte, Nat.reduceEqDiff, List.map_cons, List.map_nil, Int.reduceEq, Int.lt_irrefl, fr, decide_eq_false ha]
    exact hE _ _ ⟨(by simp only [push_cast, ↓reduceIte, Nat.reduceEqDiff, true_and, and_true, and_self, eq_self, fr, hat]), by omega, ho2, bb2⟩
  clear ho bb fr
  rintro f w1 ⟨fr, hat, ho, bb⟩
  unfold insA at hsn
  have hcl := ho.cap
  generalize atA x o = n at *
  have sd : Same w1 w1.drew := (Same.refl w1).drew
  have hod := ho.same sd
  have bd := bb.trans (sd.below _)
  have hId := h.below bd
  have hAl := hId.isSome (by omega)
  have hOd := OwnA.arrs hod
  have ldl := fun {K : Fr → World → Prop} {f : Fr} {d : Option Nat} {w : World} => hId.ldA (P := Tryd.prog) (K := K) (f := f) (d := d) (w := w) ty_ag_75 ty_sz_75 k hlt
  rw [hx] at ldl
  generalize hu : w1.drew = u at *
  rw [x_sq]
  refine cut (fun f' w' => (f' 0 = .slice A l.length c ∧ f' 3 = .slice O o.length co ∧ f' 4 = .int .i64 k ∧ f' 5 = .int .i64 n) ∧ w' = u ∧ ¬ (n < o.length ∧ o.getD n default = x)) 19000 20000 (by decide) ?_ ?_
  · intro E hE
    by_cases hno : n < o.length
    case neg =>
      have hno' : ¬ ((n : Int) < (o.length : Int)) := by omega
      simp (disch := first | with_reducible assumption | omega) only [push_cast, x_blk, x_cd, ↓reduceIte, Nat.reduceEqDiff, List.map_cons, List.map_nil, Int.reduceEq, Int.lt_irrefl, fr, hno', hno, hlt, hu, ldl]
      exact hE _ _ ⟨(by simp only [push_cast, ↓reduceIte, Nat.reduceEqDiff, true_and, and_true, and_self, eq_self, fr]), rfl, fun hh => hno hh.1⟩
    have hAo := hOd.isSome (by omega)
    have ldo := fun {K : Fr → World → Prop} {f : Fr} {d : Option Nat} {w : World} => hOd.ldA (P := Tryd.prog) (K := K) (f := f) (d := d) (w := w) ty_ag_75 ty_sz_75 n hno
    by_cases heq : o.getD n default = x
    · rw [if_pos ⟨hno, heq⟩] at hsn
      simp (disch := first | with_reducible assumption | omega) only [push_cast, x_blk, x_cd, ↓reduceIte, Nat.reduceEqDiff, List.map_cons, List.map_nil, Int.reduceEq, Int.lt_irrefl, fr, hno, hlt, hu, ldl, ldo, eql_arr, decide_eq_true heq]
      exact hJ _ _ ⟨k + 1, O, co, hlt, (by simp only [push_cast, ↓reduceIte, Nat.reduceEqDiff, true_and, and_true, and_self, eq_self, fr, hsn]), by rw [hsn]; exact hod, bd⟩ (by rw [hmu]; simp only [push_cast, ↓reduceIte, Nat.reduceEqDiff, intOf, fr]; omega)
    · simp (disch := first | with_reducible assumption | omega) only [push_cast, x_blk, x_cd, ↓reduceIte, Nat.reduceEqDiff, List.map_cons, List.map_nil, Int.reduceEq, Int.lt_irrefl, fr, hno, hlt, hu, ldl, ldo, eql_arr, decide_eq_false heq]
      exact hE _ _ ⟨(by simp only [push_cast, ↓reduceIte, Nat.reduceEqDiff, true_and, and_true, and_self, eq_self, fr]), rfl, fun hh => heq hh.2⟩
  clear fr
  rintro f w2 ⟨fr, rfl, heq⟩
  rw [if_neg heq] at hsn
  have hz : n = o.length → o.length = 0 → True := fun _ _ => trivial
  have hcn : n ≤ co := by omega
  simp (disch := first | with_reducible assumption | omega) only [push_cast, x_blk, x_cd, ↓reduceIte, Nat.reduceEqDiff, List.map_cons, List.map_nil, Int.reduceEq, Int.lt_irrefl, fr, slice_tail slT_23 n hat hcl, bs0_23]
  have o0 : OwnR arrCells w2.heap.size 75 3 (w2.alloc (.cells [].toArray 75)) (some ⟨w2.heap.size, 0, none⟩) 0 [] := ⟨World.ownsRow_made w2 #[] 0 (Nat.le_refl _) (by decide) (by simp)⟩
  have b0 : Below w2.heap.size w2 (w2.alloc (.cells [].toArray 75)) := (Below.refl _ _).alloc (Nat.le_refl _) _
  generalize w2.alloc (Obj.cells [].toArray 75) = w3 at *
  have hr : Rd w3 (if co = n then O else O.map (·.add (n * 3))) ((o.drop n).flatMap arrCells) := by
    rw [flatMap_drop arrEnc o hat]
    exact ((hod.rd (by decide)).tail (by rw [flatMap_len arrEnc]) hat hcl).below b0
  refine append_own slT_23 _ o0 hr (by rw [flatMap_len arrEnc, List.length_drop]) (fun v hv => by
    obtain ⟨y, _, hy⟩ := List.mem_flatMap.1 hv
    exact arrEnc.one y v hy) (by simp; omega) (by simp; omega) b0.size ?_
  intro R cr w4 hoR g4 hA4 hs4 hz4
  have hlO := fun {b : Nat} (hb : some b = O.map (·.block)) => hod.ltB hb
  have ho3 := hod.below b0 (Nat.le_refl _)
  have hne4 : O = none ∨ O.map (·.block) ≠ (some (⟨w2.heap.size, 0, none⟩ : Addr)).map (·.block) := .inr fun e => by
    have := hlO (b := w2.heap.size) e.symm
    omega
  have ho4 := ho3.grew g4 hne4
  have b4 : Below w2.heap.size w2 w4 := g4.below b0 b0.size (by intro a ha; injection ha with ha; subst ha; exact Nat.le_refl _)
  have bb4 := bd.trans (b4.mono bd.size)
  have hdl : ([] : List Arr).length + (o.length - n) = (o.drop n).length := by simp
  have hoR' : OwnR arrCells w2.heap.size 75 3 w4 R cr (o.drop n) := by
    have := hoR
    simp only [List.flatMap_nil, List.nil_append, List.length_nil, Nat.zero_add] at this
    unfold OwnR
    rw [List.length_drop]; exact this
  clear hoR
  have hRO : R = none ∨ R.map (·.block) ≠ O.map (·.block) := by
    cases R with
    | none => exact .inl rfl
    | some a =>
      refine .inr fun e => ?_
      have h1 := hoR'.geB a rfl
      have h2 := hlO (b := a.block) e
      omega
  have sd4 : Same w4 w4.drew := (Same.refl w4).drew
  replace ho4 := ho4.same sd4
  replace hoR' := hoR'.same sd4
  replace bb4 := bb4.trans (sd4.below _)
  have hI4 := h.below bb4
  have ldl4 := fun {K : Fr → World → Prop} {f : Fr} {d : Option Nat} {w : World} => hI4.ldA (P := Tryd.prog) (K := K) (f := f) (d := d) (w := w) ty_ag_75 ty_sz_75 k hlt
  rw [hx] at ldl4
  generalize hu4 : w4.drew = u4 at *
  simp (disch := first | with_reducible assumption | omega) only [push_cast, x_blk, x_cd, ↓reduceIte, Nat.reduceEqDiff, List.map_cons, List.map_nil, Int.reduceEq, Int.lt_irrefl, fr, hu4, hlt, slice_head slT_23 n hcn, ldl4, bs_rec arrEnc slT_23 _ (by decide)]
  refine ⟨(Below.refl _ _).alloc (Nat.le_refl _) _, ?_⟩
  have hln : (o.take n).length = n := by simp; omega
  have hot : OwnR arrCells w.heap.size 75 3 u4 O co (o.take n) := by
    have := ho4.take hat (by omega)
    rw [← flatMap_take arrEnc o hat] at this
    unfold OwnR
    rw [hln]; exact this
  refine app_rec' arrEnc slT_23 hln hot x (by omega) (by omega) bb4.size ?_
  intro O2 c2 w5 ho5 g5 hA5 hs5 hz5
  have hoR5 := hoR'.grew g5 hRO
  have bb5 := g5.below bb4 bb4.size hot.geB
  have ho5' : Own w.heap.size 75 3 w5 O2 c2 (n + 1) ((o.take n ++ [x]).flatMap arrCells) := by
    have := ho5
    unfold OwnR at this
    rwa [List.length_append, hln] at this
  simp (disch := first | with_reducible assumption | omega) only [push_cast, x_blk, x_cd, ↓reduceIte, Nat.reduceEqDiff, List.map_cons, List.map_nil, Int.reduceEq, Int.lt_irrefl]
  refine append_own slT_23 _ ho5' (hoR5.rd (by decide)) (by rw [flatMap_len arrEnc, List.length_drop]) (fun v hv => by
    obtain ⟨y, _, hy⟩ := List.mem_flatMap.1 hv
    exact arrEnc.one y v hy) (by omega) (by omega) bb5.size ?_
  intro O3 c3 w6 ho6 g6 hA6 hs6 hz6
  have hl6 : (o.take n ++ x :: o.drop n).length = n + 1 + (o.length - n) := by simp; omega
  have ho6' : OwnR arrCells w.heap.size 75 3 w6 O3 c3 (o.take n ++ x :: o.drop n) := by
    unfold OwnR
    rw [hl6]
    simpa using ho6
  simp (disch := first | with_reducible assumption | omega) only [push_cast, x_blk, x_cd, ↓reduceIte, Nat.reduceEqDiff, List.map_cons, List.map_nil, Int.reduceEq, Int.lt_irrefl, fr]
  exact hJ _ _ ⟨k + 1, O3, c3, hlt, (by simp only [push_cast, ↓reduceIte, Nat.reduceEqDiff, true_and, and_true, and_self, eq_self, fr, hsn, hl6]), by rw [hsn]; exact ho6', g6.below bb5 bb5.size ho5'.geB⟩ (by rw [hmu]; simp only [push_cast, ↓reduceIte, Nat.reduceEqDiff, intOf, fr]; omega)
end
end Go.Proofs.YtiabkafgmanhiaaDoor
