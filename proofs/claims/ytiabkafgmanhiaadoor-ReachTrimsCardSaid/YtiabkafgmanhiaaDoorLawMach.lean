/-
  The laws on machines: MachineTells, MachineSplits: they return true.
-/
import Derived.Test.YtiabkafgmanhiaaDoorSetAll
import Derived.Test.YtiabkafgmanhiaaDoorOwn
import Derived.KernelRfl
namespace Go.Proofs.YtiabkafgmanhiaaDoor
set_option linter.unusedSimpArgs false
set_option linter.unusedVariables false
set_option linter.unusedSectionVars false
open Go.RowKit

theorem law_MachineTells {w : World} (hT : Tab w) {a0 : MV} {m0 : Mach} (h : IsM (· < w.heap.size) w a0 m0) (hf : m0.Fits)
    {A1 : Option Addr} {c1 : Nat} {l1 : List Int} (h1 : Ints (· < w.heap.size) w A1 l1) (_b1 : ∀ x ∈ l1, I64 x) (n1 : l1.length ≤ 17592186043904) (_k1 : l1.length ≤ c1)
    {A2 : Option Addr} {c2 : Nat} {l2 : List Int} (h2 : Ints (· < w.heap.size) w A2 l2) (_b2 : ∀ x ∈ l2, I64 x) (n2 : l2.length ≤ 17592186043904) (_k2 : l2.length ≤ c2) :
    Cal Tryd.prog 4 [a0.val m0, .slice A1 l1.length c1, .slice A2 l2.length c2] w fun v w' => v = .bool true ∧ Below w.heap.size w w' := by
  refine cal_law_MachineTells (by simp) 100000 fun Q hQ => ?_
  simp (disch := first | with_reducible assumption | omega) only [push_cast, x_blk, x_cd, ↓reduceIte, Nat.reduceEqDiff, List.map_cons, List.map_nil, Int.reduceEq, Int.lt_irrefl, F_law_MachineTells]
  refine blk_of (box_agg _ (a0.cells m0)) ?_
  intro w1 k1 b1 z1
  have bb := b1
  have up : ∀ {w' : World}, Below w.heap.size w w' → IsM (· < w'.heap.size) w' a0 m0 := fun {w'} hb => (h.below hb).mono fun b hl => Nat.lt_of_lt_of_le hl hb.size
  simp (disch := first | with_reducible assumption | omega) only [push_cast, x_blk, x_cd, ↓reduceIte, Nat.reduceEqDiff, List.map_cons, List.map_nil, Int.reduceEq, Int.lt_irrefl, k1.mA ty_ag_25 ty_sz_25]
  refine call_of (machine_May (up bb) hf) ?_
  rintro v w2 ⟨rfl, b2⟩
  replace k1 := k1.below b2 k1.lt
  replace bb := bb.trans (b2.mono bb.size)
  simp (disch := first | with_reducible assumption | omega) only [push_cast, x_blk, x_cd, ↓reduceIte, Nat.reduceEqDiff, List.map_cons, List.map_nil, Int.reduceEq, Int.lt_irrefl, k1.mA ty_ag_25 ty_sz_25]
  refine call_of (ref2_May (up bb) hf) ?_
  rintro v w3 ⟨rfl, b3⟩
  replace k1 := k1.below b3 k1.lt
  replace bb := bb.trans (b3.mono bb.size)
  simp (disch := first | with_reducible assumption | omega) only [push_cast, x_blk, x_cd, ↓reduceIte, Nat.reduceEqDiff, List.map_cons, List.map_nil, Int.reduceEq, Int.lt_irrefl, bne_self_eq_false, k1.mA ty_ag_25 ty_sz_25]
  refine call_of (machine_After (up bb) hf (hT.below bb hT.lt) (h1.below bb).lt (h2.below bb).lt n1 n2) ?_
  rintro v w4 ⟨O, co, o, e, rfl, ho, b4, hyes, hno1, hno2⟩
  have z3 := bb.size
  replace k1 := k1.below b4 k1.lt
  replace bb := bb.trans (b4.mono bb.size)
  simp (disch := first | with_reducible assumption | omega) only [push_cast, x_blk, x_cd, ↓reduceIte, Nat.reduceEqDiff, List.map_cons, List.map_nil, Int.reduceEq, Int.lt_irrefl, k1.mA ty_ag_25 ty_sz_25]
  refine call_of (machine_Accepts (up bb) hf (hT.below bb hT.lt) (h2.below bb).lt n2) ?_
  rintro v w5 ⟨t, f, rfl, b5, ayes, ano1, ano2⟩
  replace k1 := k1.below b5 k1.lt
  replace ho := ho.below b5 (Nat.le_refl _)
  replace bb := bb.trans (b5.mono bb.size)
  by_cases p1 : m0.May
  case neg =>
    obtain ⟨rfl, rfl⟩ := hno1 fun hh => p1 hh.1
    obtain ⟨rfl, rfl⟩ := ano1 p1
    simp (disch := first | with_reducible assumption | omega) only [push_cast, x_blk, x_cd, ↓reduceIte, Nat.reduceEqDiff, List.map_cons, List.map_nil, Int.reduceEq, Int.lt_irrefl, p1, List.length_nil, eq_self]
    exact fin_1 (hQ _ _ ⟨(by simp only [push_cast, ↓reduceIte, Nat.reduceEqDiff, Int.reduceEq]), bb⟩)
  simp (disch := first | with_reducible assumption | omega) only [push_cast, x_blk, x_cd, ↓reduceIte, Nat.reduceEqDiff, List.map_cons, List.map_nil, Int.reduceEq, Int.lt_irrefl, p1, k1.mA ty_ag_25 ty_sz_25]
  refine call_of (ref2_Word (a := a0) (m := m0) (h2.below bb).lt c2 n2) ?_
  rintro v w6 ⟨rfl, b6⟩
  replace k1 := k1.below b6 k1.lt
  replace ho := ho.below b6 (Nat.le_refl _)
  replace bb := bb.trans (b6.mono bb.size)
  simp (disch := first | with_reducible assumption | omega) only [push_cast, x_blk, x_cd, ↓reduceIte, Nat.reduceEqDiff, List.map_cons, List.map_nil, Int.reduceEq, Int.lt_irrefl, k1.m0 ty_ag_3]
  refine call_of (ref1_Is (h1.below bb) c1 m0.states (by omega)) ?_
  rintro v w7 ⟨rfl, s7⟩
  replace k1 := k1.same s7
  replace ho := ho.same s7
  replace bb := bb.trans (s7.below _)
  by_cases p2 : IsRow l1 m0.states
  case neg =>
    obtain ⟨rfl, rfl⟩ := hno1 fun hh => p2 hh.2
    by_cases p3 : IsWord m0 l2
    · obtain ⟨rfl, rfl⟩ := ayes ⟨p1, p3⟩
      simp (disch := first | with_reducible assumption | omega) only [push_cast, x_blk, x_cd, ↓reduceIte, Nat.reduceEqDiff, List.map_cons, List.map_nil, Int.reduceEq, Int.lt_irrefl, p2, p3, List.length_nil, eq_self, k1.mA ty_ag_25 ty_sz_25]
      refine call_of (ref2_Accepts (up bb) hf p1 (h2.below bb).lt n2) ?_
      rintro v w8 ⟨rfl, b8⟩
      replace bb := bb.trans (b8.mono bb.size)
      simp (disch := first | with_reducible assumption | omega) only [push_cast, x_blk, x_cd, ↓reduceIte, Nat.reduceEqDiff, List.map_cons, List.map_nil, Int.reduceEq, Int.lt_irrefl, eq_self]
      exact fin_1 (hQ _ _ ⟨(by simp only [push_cast, ↓reduceIte, Nat.reduceEqDiff, Int.reduceEq]), bb⟩)
    · obtain ⟨rfl, rfl⟩ := ano2 ⟨p1, p3⟩
      simp (disch := first | with_reducible assumption | omega) only [push_cast, x_blk, x_cd, ↓reduceIte, Nat.reduceEqDiff, List.map_cons, List.map_nil, Int.reduceEq, Int.lt_irrefl, p2, p3, List.length_nil, eq_self]
      exact fin_1 (hQ _ _ ⟨(by simp only [push_cast, ↓reduceIte, Nat.reduceEqDiff, Int.reduceEq]), bb⟩)
  by_cases p3 : IsWord m0 l2
  case neg =>
    obtain ⟨rfl, rfl⟩ := hno2 ⟨⟨p1, p2⟩, p3⟩
    obtain ⟨rfl, rfl⟩ := ano2 ⟨p1, p3⟩
    simp (disch := first | with_reducible assumption | omega) only [push_cast, x_blk, x_cd, ↓reduceIte, Nat.reduceEqDiff, List.map_cons, List.map_nil, Int.reduceEq, Int.lt_irrefl, p2, p3, List.length_nil, eq_self]
    exact fin_1 (hQ _ _ ⟨(by simp only [push_cast, ↓reduceIte, Nat.reduceEqDiff, Int.reduceEq]), bb⟩)
  obtain ⟨rfl, rfl⟩ := hyes ⟨p1, p2, p3⟩
  obtain ⟨rfl, rfl⟩ := ayes ⟨p1, p3⟩
  have hrow := afterL_row p1 p2 l2
  have nO := hrow.len
  simp (disch := first | with_reducible assumption | omega) only [push_cast, x_blk, x_cd, ↓reduceIte, Nat.reduceEqDiff, List.map_cons, List.map_nil, Int.reduceEq, Int.lt_irrefl, p2, p3, eq_self, k1.mA ty_ag_25 ty_sz_25]
  refine call_of (ref2_After (up bb) hf p1 (h1.below bb).lt (h2.below bb).lt p2 n2) ?_
  rintro v w8 ⟨A8, c8, rfl, o8, b8⟩
  replace k1 := k1.below b8 k1.lt
  replace ho := ho.below b8 (Nat.le_refl _)
  replace bb := bb.trans (b8.mono bb.size)
  simp (disch := first | with_reducible assumption | omega) only [push_cast, x_blk, x_cd, ↓reduceIte, Nat.reduceEqDiff, List.map_cons, List.map_nil, Int.reduceEq, Int.lt_irrefl]
  refine call_of (ref1_Same (OwnI.ints ho) (OwnI.ints o8) co c8 (by omega)) ?_
  rintro v w9 ⟨rfl, s9⟩
  replace k1 := k1.same s9
  replace bb := bb.trans (s9.below _)
  simp (disch := first | with_reducible assumption | omega) only [push_cast, x_blk, x_cd, ↓reduceIte, Nat.reduceEqDiff, List.map_cons, List.map_nil, Int.reduceEq, Int.lt_irrefl, eq_self, p3, k1.mA ty_ag_25 ty_sz_25]
  refine call_of (ref2_Accepts (up bb) hf p1 (h2.below bb).lt n2) ?_
  rintro v w10 ⟨rfl, b10⟩
  replace bb := bb.trans (b10.mono bb.size)
  simp (disch := first | with_reducible assumption | omega) only [push_cast, x_blk, x_cd, ↓reduceIte, Nat.reduceEqDiff, List.map_cons, List.map_nil, Int.reduceEq, Int.lt_irrefl, eq_self]
  exact fin_1 (hQ _ _ ⟨(by simp only [push_cast, ↓reduceIte, Nat.reduceEqDiff, Int.reduceEq]), bb⟩)

theorem keep_same {ok ok' : Nat → Prop} {w : World} {A A' : Option Addr} {l m : List Int} (h : Ints ok w A l) (h' : Ints ok' w A' m) (c c' : Nat) (hl : l.length ≤ 9223372036854775807) :
    Cal Tryd.prog 18 [.slice A l.length c, .slice A' m.length c'] w fun v w' => v = .bool (decide (l = m)) ∧ Same w w' := by
  refine cal_keep_same (by simp) 100000 fun Q hQ => ?_
  by_cases hlen : (l.length : Int) = (m.length : Int)
  case neg =>
    have r : decide (l = m) = false := decide_eq_false fun h => hlen (by rw [h])
    simp (disch := first | with_reducible assumption | omega) only [push_cast, x_blk, x_cd, ↓reduceIte, Nat.reduceEqDiff, List.map_cons, List.map_nil, Int.reduceEq, Int.lt_irrefl, F_keep_same, hlen]
    exact fin_1 (hQ _ _ ⟨(by simp only [push_cast, ↓reduceIte, Nat.reduceEqDiff, Int.reduceEq, r]), Same.refl _⟩)
  have hlen' : l.length = m.length := by omega
  simp (disch := first | with_reducible assumption | omega) only [push_cast, x_blk, x_cd, ↓reduceIte, Nat.reduceEqDiff, List.map_cons, List.map_nil, Int.reduceEq, Int.lt_irrefl, F_keep_same, hlen, eq_self]
  refine loop_rule (fun f w' => ∃ k : Nat, k ≤ l.length ∧ (f 0 = .slice A l.length c ∧ f 1 = .slice A' m.length c' ∧ f 5 = .int .i64 k) ∧ (∀ i, i < k → l.getD i 0 = m.getD i 0) ∧ Same w w')
    (fun f _ => l.length - (intOf (f 5)).toNat) ⟨0, Nat.zero_le _, ⟨rfl, rfl, rfl⟩, fun i hi => absurd hi (by omega), Same.refl w⟩ ?_
  rintro f w1 ⟨k, hk, fr, hp, s1⟩ J hJ
  by_cases hlt : k < l.length
  case neg =>
    have r : decide (l = m) = true := decide_eq_true (ext_getD 0 hlen' fun i hi => hp i (by omega))
    simp (disch := first | with_reducible assumption | omega) only [push_cast, x_blk, x_cd, ↓reduceIte, Nat.reduceEqDiff, List.map_cons, List.map_nil, Int.reduceEq, Int.lt_irrefl, L_keep_same_0, fr, hlt]
    exact fin_1 (hQ _ _ ⟨(by simp only [push_cast, ↓reduceIte, Nat.reduceEqDiff, Int.reduceEq, r]), s1⟩)
  have hI := (h.same s1).drew
  have hI' := (h'.same s1).drew
  have hA := hI.isSome (by omega)
  have hA' := hI'.isSome (by omega)
  have hlt' : k < m.length := by omega
  by_cases c1 : l.getD k 0 = m.getD k 0
  · simp (disch := first | with_reducible assumption | omega) only [push_cast, x_blk, x_cd, ↓reduceIte, Nat.reduceEqDiff, List.map_cons, List.map_nil, Int.reduceEq, Int.lt_irrefl, L_keep_same_0, fr, hlt, hlt', hI.ld ty_ag_3, hI'.ld ty_ag_3, c1, eq_self]
    exact hJ _ _ ⟨k + 1, hlt, (by simp only [push_cast, ↓reduceIte, Nat.reduceEqDiff, true_and, and_true, and_self, eq_self, fr]), fun i hi => if e : i = k then e ▸ c1 else hp i (by omega), s1.drew⟩ (by simp only [push_cast, ↓reduceIte, Nat.reduceEqDiff, intOf, fr]; omega)
  · have r : decide (l = m) = false := decide_eq_false fun h => c1 (by rw [h])
    simp (disch := first | with_reducible assumption | omega) only [push_cast, x_blk, x_cd, ↓reduceIte, Nat.reduceEqDiff, List.map_cons, List.map_nil, Int.reduceEq, Int.lt_irrefl, L_keep_same_0, fr, hlt, hlt', hI.ld ty_ag_3, hI'.ld ty_ag_3, c1]
    exact fin_1 (hQ _ _ ⟨(by simp only [push_cast, ↓reduceIte, Nat.reduceEqDiff, Int.reduceEq, r]), s1.drew⟩)

def mach1 : Mach := ⟨1, 0, [], [], []⟩
theorem mach1_built {K : Fr → World → Prop} {u : World} {f : Fr} {d : Option Nat} {w : World} : Val1 Tryd.prog K (Instr.build 25 #[(0, .int .i64 1)]) u f d w = K (updO f d (MV.val ⟨none, 0, none, 0, none, 0⟩ mach1)) w := bld_of (by kernel_rfl)
theorem isWord_append {m : Mach} {a b : List Int} : IsWord m (a ++ b) ↔ IsWord m a ∧ IsWord m b := by
  have key : ∀ l : List Int, IsWord m l ↔ ∀ x ∈ l, 0 ≤ x ∧ x < m.events := fun l => ⟨fun h x hx => by
    obtain ⟨i, hi, rfl⟩ := (mem_iff_getD l 0 x).1 hx
    exact h i hi, fun h i hi => h _ (getD_mem l 0 i hi)⟩
  rw [key, key, key]
  exact ⟨fun h => ⟨fun x hx => h x (List.mem_append_left _ hx), fun x hx => h x (List.mem_append_right _ hx)⟩, fun h x hx => (List.mem_append.1 hx).elim (h.1 x) (h.2 x)⟩
theorem law_MachineSplits {w : World} (hT : Tab w) {a0 : MV} {m0 : Mach} (h : IsM (· < w.heap.size) w a0 m0) (hf : m0.Fits)
    {A1 : Option Addr} {c1 : Nat} {l1 : List Int} (h1 : Ints (· < w.heap.size) w A1 l1) (_b1 : ∀ x ∈ l1, I64 x) (n1 : l1.length ≤ 1048576) (_k1 : l1.length ≤ c1)
    {A2 : Option Addr} {c2 : Nat} {l2 : List Int} (h2 : Ints (· < w.heap.size) w A2 l2) (_b2 : ∀ x ∈ l2, I64 x) (n2 : l2.length ≤ 1048576) (_k2 : l2.length ≤ c2)
    {A3 : Option Addr} {c3 : Nat} {l3 : List Int} (h3 : Ints (· < w.heap.size) w A3 l3) (_b3 : ∀ x ∈ l3, I64 x) (n3 : l3.length ≤ 1048576) (_k3 : l3.length ≤ c3) :
    Cal Tryd.prog 3 [a0.val m0, .slice A1 l1.length c1, .slice A2 l2.length c2, .slice A3 l3.length c3] w fun v w' => v = .bool true ∧ Below w.heap.size w w' := by
  refine cal_keep_MachineSplits (by simp) 100000 fun Q hQ => ?_
  simp (disch := first | with_reducible assumption | omega) only [push_cast, x_blk, x_cd, ↓reduceIte, Nat.reduceEqDiff, List.map_cons, List.map_nil, Int.reduceEq, Int.lt_irrefl, F_keep_MachineSplits]
  refine blk_of (box_agg _ (a0.cells m0)) ?_
  intro w1 k1 b1 z1
  have up : ∀ {w' : World}, Below w.heap.size w w' → IsM (· < w'.heap.size) w' a0 m0 := fun {w'} hb => (h.below hb).mono fun b hl => Nat.lt_of_lt_of_le hl hb.size
  have o1 := own_int1 w1 0 3
  have bo : Below w1.heap.size w1 (w1.alloc (.cells [.int .i64 0].toArray 3)) := (Below.refl _ _).alloc (Nat.le_refl _) _
  simp (disch := first | with_reducible assumption | omega) only [push_cast, x_blk, x_cd, ↓reduceIte, Nat.reduceEqDiff, List.map_cons, List.map_nil, Int.reduceEq, Int.lt_irrefl, mach1_built, bs_22]
  generalize w1.alloc (.cells [.int .i64 0].toArray 3) = wo at *
  have k2 := k1.below bo (by omega)
  have bb := b1.trans (bo.mono b1.size)
  refine call_of (machine_After (m := mach1) ⟨Ints.nil _ _ _, Arrs.nil _ _ _, Ints.nil _ _ _⟩ ⟨⟨by decide, by decide⟩, ⟨by decide, by decide⟩, by simp [mach1], by simp [mach1], by simp [mach1], by decide, by decide, by decide⟩ (hT.below bb hT.lt) (Ints.lt (OwnI.ints o1)) (Ints.nil _ _ none) (by decide) (by decide) (l := [0]) (word := [])) ?_
  rintro v w2 ⟨O, co, o, e, rfl, ho, b2, hyes, _⟩
  obtain ⟨rfl, rfl⟩ := hyes ⟨by decide, by decide, by decide⟩
  replace k2 := k2.below b2 k2.lt
  replace bb := bb.trans (b2.mono bb.size)
  clear ho
  have el : ((afterL mach1 [0] []).length : Int) = 1 := rfl
  simp (disch := first | with_reducible assumption | omega) only [push_cast, x_blk, x_cd, ↓reduceIte, Nat.reduceEqDiff, List.map_cons, List.map_nil, Int.reduceEq, Int.lt_irrefl, el, eq_self, k2.mA ty_ag_25 ty_sz_25]
  refine call_of (machine_After (up bb) hf (hT.below bb hT.lt) (h1.below bb).lt (h2.below bb).lt (by omega) (by omega)) ?_
  rintro v w3 ⟨O, co, o, e, rfl, ho, b3, hyes, hno1, hno2⟩
  replace k2 := k2.below b3 k2.lt
  have zb := bb.size
  replace bb := bb.trans (b3.mono bb.size)
  replace ho := ho.base (B' := w.heap.size) zb
  simp (disch := first | with_reducible assumption | omega) only [push_cast, x_blk, x_cd, ↓reduceIte, Nat.reduceEqDiff, List.map_cons, List.map_nil, Int.reduceEq, Int.lt_irrefl]
  have b0 : Below w3.heap.size w3 (w3.alloc (.cells [].toArray 3)) := (Below.refl _ _).alloc (Nat.le_refl _) _
  have o0 : OwnI w3.heap.size 3 (w3.alloc (.cells [].toArray 3)) (some ⟨w3.heap.size, 0, none⟩) 0 [] := ⟨World.ownsRow_made w3 #[] 0 (Nat.le_refl _) (by decide) (by simp)⟩
  generalize w3.alloc (Obj.cells [].toArray 3) = ww at *
  have bw := bb.trans (b0.mono bb.size)
  refine app_ints (l := []) slT_22 o0 (h2.below bw) (by simp; omega) b0.size ?_
  intro A4 c4 w4 o4 hg4 _ z4
  have b4 := hg4.below b0 b0.size o0.geB
  rw [List.nil_append] at o4
  have bw4 := bb.trans (b4.mono bb.size)
  simp (disch := first | with_reducible assumption | omega) only [push_cast, x_blk, x_cd, ↓reduceIte, Nat.reduceEqDiff, List.map_cons, List.map_nil, Int.reduceEq, Int.lt_irrefl, List.length_nil, Nat.zero_add]
  refine app_ints slT_22 o4 (h3.below bw4) (by omega) b4.size ?_
  intro A5 c5 w5 o5 hg5 _ z5
  have b5 := hg5.below b4 b4.size o4.geB
  have ho5 := ho.below b5 (Nat.le_refl _)
  have k5 := k2.below b5 k2.lt
  have bw5 := bb.trans (b5.mono bb.size)
  rw [← List.length_append]
  simp (disch := first | with_reducible assumption | omega) only [push_cast, x_blk, x_cd, ↓reduceIte, Nat.reduceEqDiff, List.map_cons, List.map_nil, Int.reduceEq, Int.lt_irrefl, k5.mA ty_ag_25 ty_sz_25]
  refine call_of (machine_After (up bw5) hf (hT.below bw5 hT.lt) (h1.below bw5).lt (Ints.lt (OwnI.ints o5)) (by omega) (by simp; omega)) ?_
  rintro v w6 ⟨O6, co6, o6, e6, rfl, ho6, b6, yes6, no61, no62⟩
  have ho7 := ho5.below b6 (Nat.le_refl _)
  have k6 := k5.below b6 k5.lt
  have bw6 := bw5.trans (b6.mono bw5.size)
  by_cases p1 : m0.May
  case neg =>
    obtain ⟨rfl, rfl⟩ := hno1 fun hh => p1 hh.1
    obtain ⟨rfl, rfl⟩ := no61 fun hh => p1 hh.1
    simp (disch := first | with_reducible assumption | omega) only [push_cast, x_blk, x_cd, ↓reduceIte, Nat.reduceEqDiff, List.map_cons, List.map_nil, Int.reduceEq, Int.lt_irrefl, eq_self, List.length_nil, Int.add_zero, k6.mA ty_ag_25 ty_sz_25]
    refine call_of (machine_May (up bw6) hf) ?_
    rintro v w7 ⟨rfl, b7⟩
    replace bw6 := bw6.trans (b7.mono bw6.size)
    simp (disch := first | with_reducible assumption | omega) only [push_cast, x_blk, x_cd, ↓reduceIte, Nat.reduceEqDiff, List.map_cons, List.map_nil, Int.reduceEq, Int.lt_irrefl, p1]
    exact fin_1 (hQ _ _ ⟨(by simp only [push_cast, ↓reduceIte, Nat.reduceEqDiff, Int.reduceEq]), bw6⟩)
  by_cases p2 : IsRow l1 m0.states
  case neg =>
    obtain ⟨rfl, rfl⟩ := hno1 fun hh => p2 hh.2
    obtain ⟨rfl, rfl⟩ := no61 fun hh => p2 hh.2
    simp (disch := first | with_reducible assumption | omega) only [push_cast, x_blk, x_cd, ↓reduceIte, Nat.reduceEqDiff, List.map_cons, List.map_nil, Int.reduceEq, Int.lt_irrefl, eq_self, List.length_nil, Int.add_zero, k6.mA ty_ag_25 ty_sz_25]
    refine call_of (machine_May (up bw6) hf) ?_
    rintro v w7 ⟨rfl, b7⟩
    have k7 := k6.below b7 k6.lt
    replace bw6 := bw6.trans (b7.mono bw6.size)
    simp (disch := first | with_reducible assumption | omega) only [push_cast, x_blk, x_cd, ↓reduceIte, Nat.reduceEqDiff, List.map_cons, List.map_nil, Int.reduceEq, Int.lt_irrefl, p1, k7.m0 ty_ag_3]
    refine call_of (row_Is (h1.below bw6) c1 m0.states (by omega)) ?_
    rintro v w8 ⟨rfl, s8⟩
    replace bw6 := bw6.trans (s8.below _)
    simp (disch := first | with_reducible assumption | omega) only [push_cast, x_blk, x_cd, ↓reduceIte, Nat.reduceEqDiff, List.map_cons, List.map_nil, Int.reduceEq, Int.lt_irrefl, p2]
    exact fin_1 (hQ _ _ ⟨(by simp only [push_cast, ↓reduceIte, Nat.reduceEqDiff, Int.reduceEq]), bw6⟩)
  by_cases p3 : IsWord m0 l2
  case neg =>
    have p4 : ¬ IsWord m0 (l2 ++ l3) := fun hh => p3 (isWord_append.1 hh).1
    obtain ⟨rfl, rfl⟩ := hno2 ⟨⟨p1, p2⟩, p3⟩
    obtain ⟨rfl, rfl⟩ := no62 ⟨⟨p1, p2⟩, p4⟩
    simp (disch := first | with_reducible assumption | omega) only [push_cast, x_blk, x_cd, ↓reduceIte, Nat.reduceEqDiff, List.map_cons, List.map_nil, Int.reduceEq, Int.lt_irrefl, eq_self, List.length_nil, Int.add_zero, k6.mA ty_ag_25 ty_sz_25]
    refine call_of (machine_May (up bw6) hf) ?_
    rintro v w7 ⟨rfl, b7⟩
    replace bw6 := bw6.trans (b7.mono bw6.size)
    simp (disch := first | with_reducible assumption | omega) only [push_cast, x_blk, x_cd, ↓reduceIte, Nat.reduceEqDiff, List.map_cons, List.map_nil, Int.reduceEq, Int.lt_irrefl, p1, eq_self]
    exact fin_1 (hQ _ _ ⟨(by simp only [push_cast, ↓reduceIte, Nat.reduceEqDiff, Int.reduceEq]), bw6⟩)
  obtain ⟨rfl, rfl⟩ := hyes ⟨p1, p2, p3⟩
  have hrow := afterL_row p1 p2 l2
  have nO := hrow.len
  simp (disch := first | with_reducible assumption | omega) only [push_cast, x_blk, x_cd, ↓reduceIte, Nat.reduceEqDiff, List.map_cons, List.map_nil, Int.reduceEq, Int.lt_irrefl, eq_self, k6.mA ty_ag_25 ty_sz_25]
  refine call_of (machine_After (up bw6) hf (hT.below bw6 hT.lt) (Ints.lt (OwnI.ints ho7)) (h3.below bw6).lt (by omega) (by omega)) ?_
  rintro v w7 ⟨O7, co7, o7, e7, rfl, ho7', b7, yes7, no71, no72⟩
  have ho8 := ho6.below b7 (Nat.le_refl _)
  have bw7 := bw6.trans (b7.mono bw6.size)
  have fin : e6 = e7 ∧ o6 = o7 ∧ o6.length ≤ 2147483648 := by
    by_cases p4 : IsWord m0 l3
    · obtain ⟨rfl, rfl⟩ := yes6 ⟨p1, p2, isWord_append.2 ⟨p3, p4⟩⟩
      obtain ⟨rfl, rfl⟩ := yes7 ⟨p1, hrow, p4⟩
      refine ⟨rfl, ?_, (afterL_row p1 p2 _).len⟩
      unfold afterL
      rw [List.foldl_append]
    · obtain ⟨rfl, rfl⟩ := no62 ⟨⟨p1, p2⟩, fun hh => p4 (isWord_append.1 hh).2⟩
      obtain ⟨rfl, rfl⟩ := no72 ⟨⟨p1, hrow⟩, p4⟩
      exact ⟨rfl, rfl, by simp⟩
  obtain ⟨rfl, rfl, nn⟩ := fin
  simp (disch := first | with_reducible assumption | omega) only [push_cast, x_blk, x_cd, ↓reduceIte, Nat.reduceEqDiff, List.map_cons, List.map_nil, Int.reduceEq, Int.lt_irrefl, eq_self]
  refine call_of (keep_same (OwnI.ints ho8) (OwnI.ints ho7') co6 co7 (by omega)) ?_
  rintro v w9 ⟨rfl, s9⟩
  replace bw7 := bw7.trans (s9.below _)
  simp (disch := first | with_reducible assumption | omega) only [push_cast, x_blk, x_cd, ↓reduceIte, Nat.reduceEqDiff, List.map_cons, List.map_nil, Int.reduceEq, Int.lt_irrefl, eq_self]
  exact fin_1 (hQ _ _ ⟨(by simp only [push_cast, ↓reduceIte, Nat.reduceEqDiff, Int.reduceEq]), bw7⟩)
end Go.Proofs.YtiabkafgmanhiaaDoor
