/-
  The laws on safe rows: they return true.
-/
import Derived.Test.YtkemapljhmoafaaCtlD
namespace Go.Proofs.Ytkemapljhmoafaa
set_option linter.unusedSimpArgs false
set_option linter.unusedVariables false
open Go.RowKit

theorem keep_row {m : Mach} {free bad o : List Int} (hm : m.May) (h1 : Strict o) (h2 : ∀ x, x ∈ o ↔ (0 ≤ x ∧ x < m.states) ∧ ¬ Lost m free bad x) : IsRow o m.states :=
  IsRow.of_strict h1 fun x hx => by
    have := ((h2 x).1 hx).1
    have : m.states ≤ 256 := hm.2.1
    omega
theorem keep_safe {m : Mach} {free bad o : List Int} (hm : m.May) (h2 : ∀ x, x ∈ o ↔ (0 ≤ x ∧ x < m.states) ∧ ¬ Lost m free bad x) : SafeL m free bad o := by
  refine ⟨fun x hx hb => ((h2 x).1 hx).2 (.base x hb), fun y hy h he => (h2 _).2 ?_⟩
  obtain ⟨i, hi, rfl⟩ := (mem_iff_getD m.arrows default y).1 hy
  have ho := (hm.2.2.2.2.2.2.2 i hi).1.2.1
  exact ⟨ho, fun hl => ((h2 _).1 h).2 (.step _ hy he hl)⟩
theorem safe_not_lost {m : Mach} {free bad l : List Int} (hs : SafeL m free bad l) : ∀ x, Lost m free bad x → x ∉ l := by
  intro x hx
  induction hx with
  | base x hb => exact fun h => hs.1 x h hb
  | step y hy he _ ih => exact fun h => ih (hs.2 y hy h he)
theorem only_nil {m : Mach} {free bad o l : List Int} (h2 : ∀ x, x ∈ o ↔ (0 ≤ x ∧ x < m.states) ∧ ¬ Lost m free bad x) (hr : IsRow l m.states) (hs : SafeL m free bad l) : onlyL l o false = [] := by
  unfold onlyL
  rw [List.filter_eq_nil_iff]
  intro x hx
  have : x ∈ o := (h2 x).2 ⟨by have := hr.mem hx; omega, fun h => safe_not_lost hs x h hx⟩
  simp [this]

theorem law_ControlMost {w : World} {a0 : MV} {m0 : Mach} (h : IsM (· < w.heap.size) w a0 m0) (hf : m0.Fits)
    {A1 : Option Addr} {c1 : Nat} {l1 : List Int} (h1 : Ints (· < w.heap.size) w A1 l1) (_b1 : ∀ x ∈ l1, I64 x) (n1 : l1.length ≤ 17592186043904) (_k1 : l1.length ≤ c1)
    {A2 : Option Addr} {c2 : Nat} {l2 : List Int} (h2 : Ints (· < w.heap.size) w A2 l2) (_b2 : ∀ x ∈ l2, I64 x) (n2 : l2.length ≤ 17592186043904) (_k2 : l2.length ≤ c2)
    {A3 : Option Addr} {c3 : Nat} {l3 : List Int} (h3 : Ints (· < w.heap.size) w A3 l3) (_b3 : ∀ x ∈ l3, I64 x) (n3 : l3.length ≤ 17592186043904) (_k3 : l3.length ≤ c3) :
    Cal Try.prog 7 [a0.val m0, .slice A1 l1.length c1, .slice A2 l2.length c2, .slice A3 l3.length c3] w fun v w' => v = .bool true ∧ Below w.heap.size w w' := by
  refine cal_law_ControlMost (by simp) 100000 fun Q hQ => ?_
  simp (disch := first | with_reducible assumption | omega) only [push_cast, x_blk, x_cd, ↓reduceIte, Nat.reduceEqDiff, F_law_ControlMost]
  refine blk_of (box_agg _ (a0.cells m0)) ?_
  intro w1 k1 b1 z1
  have bb := b1
  simp (disch := first | with_reducible assumption | omega) only [push_cast, x_blk, x_cd, ↓reduceIte, Nat.reduceEqDiff, k1.mA ty_ag_33 ty_sz_33]
  refine call_of (ref2_May ((h.below bb).mono fun b hb => Nat.lt_of_lt_of_le hb bb.size) hf) ?_
  rintro v w2 ⟨rfl, b2⟩
  replace k1 := k1.below b2 k1.lt
  replace bb := bb.trans (b2.mono bb.size)
  by_cases p1 : m0.May
  case neg =>
    simp (disch := first | with_reducible assumption | omega) only [push_cast, x_blk, x_cd, ↓reduceIte, Nat.reduceEqDiff, p1]
    exact fin_1 (hQ _ _ ⟨(by simp only [push_cast, ↓reduceIte, Nat.reduceEqDiff]), bb⟩)
  simp (disch := first | with_reducible assumption | omega) only [push_cast, x_blk, x_cd, ↓reduceIte, Nat.reduceEqDiff, p1, k1.m1 ty_ag_3]
  refine call_of (ref1_Is (h1.below bb) c1 m0.events (by omega)) ?_
  rintro v w3 ⟨rfl, s3⟩
  replace k1 := k1.same s3
  replace bb := bb.trans (s3.below _)
  by_cases p2 : IsRow l1 m0.events
  case neg =>
    simp (disch := first | with_reducible assumption | omega) only [push_cast, x_blk, x_cd, ↓reduceIte, Nat.reduceEqDiff, p2]
    exact fin_1 (hQ _ _ ⟨(by simp only [push_cast, ↓reduceIte, Nat.reduceEqDiff]), bb⟩)
  simp (disch := first | with_reducible assumption | omega) only [push_cast, x_blk, x_cd, ↓reduceIte, Nat.reduceEqDiff, p2, k1.m0 ty_ag_3]
  refine call_of (ref1_Is (h2.below bb) c2 m0.states (by omega)) ?_
  rintro v w4 ⟨rfl, s4⟩
  replace k1 := k1.same s4
  replace bb := bb.trans (s4.below _)
  by_cases p3 : IsRow l2 m0.states
  case neg =>
    simp (disch := first | with_reducible assumption | omega) only [push_cast, x_blk, x_cd, ↓reduceIte, Nat.reduceEqDiff, p3]
    exact fin_1 (hQ _ _ ⟨(by simp only [push_cast, ↓reduceIte, Nat.reduceEqDiff]), bb⟩)
  simp (disch := first | with_reducible assumption | omega) only [push_cast, x_blk, x_cd, ↓reduceIte, Nat.reduceEqDiff, p3, k1.mA ty_ag_33 ty_sz_33]
  refine call_of (control_Keep ((h.below bb).mono fun b hb => Nat.lt_of_lt_of_le hb bb.size) hf (h1.below bb).lt (h2.below bb).lt n1 n2) ?_
  rintro v w5 ⟨O, co, o, e, rfl, ho, b5, hyes, _⟩
  obtain ⟨rfl, hst, hmem⟩ := hyes ⟨p1, p2, p3⟩
  replace k1 := k1.below b5 k1.lt
  have z4 := bb.size
  replace bb := bb.trans (b5.mono bb.size)
  have hrow := keep_row p1 hst hmem
  have hsafe := keep_safe p1 hmem
  have nO := hrow.len
  simp (disch := first | with_reducible assumption | omega) only [push_cast, x_blk, x_cd, ↓reduceIte, Nat.reduceEqDiff, Int.lt_irrefl, eq_self, k1.m0 ty_ag_3]
  refine call_of (ref1_Is (OwnI.ints ho) co m0.states (by omega)) ?_
  rintro v w6 ⟨rfl, s6⟩
  replace k1 := k1.same s6
  replace ho := ho.same s6
  replace bb := bb.trans (s6.below _)
  simp (disch := first | with_reducible assumption | omega) only [push_cast, x_blk, x_cd, ↓reduceIte, Nat.reduceEqDiff, hrow, k1.mA ty_ag_33 ty_sz_33]
  refine call_of (ref14_Safe ((h.below bb).mono fun b hb => Nat.lt_of_lt_of_le hb bb.size) hf (h1.below bb).lt (h2.below bb).lt (Ints.lt (OwnI.ints ho)) n1 n2 (by omega)) ?_
  rintro v w7 ⟨rfl, b7⟩
  replace k1 := k1.below b7 k1.lt
  replace ho := ho.below b7 (Nat.le_refl _)
  replace bb := bb.trans (b7.mono bb.size)
  simp (disch := first | with_reducible assumption | omega) only [push_cast, x_blk, x_cd, ↓reduceIte, Nat.reduceEqDiff, hsafe, k1.m0 ty_ag_3]
  refine call_of (ref1_Is (h3.below bb) c3 m0.states (by omega)) ?_
  rintro v w8 ⟨rfl, s8⟩
  replace k1 := k1.same s8
  replace ho := ho.same s8
  replace bb := bb.trans (s8.below _)
  by_cases p4 : IsRow l3 m0.states
  case neg =>
    simp (disch := first | with_reducible assumption | omega) only [push_cast, x_blk, x_cd, ↓reduceIte, Nat.reduceEqDiff, p4]
    exact fin_1 (hQ _ _ ⟨(by simp only [push_cast, ↓reduceIte, Nat.reduceEqDiff]), bb⟩)
  simp (disch := first | with_reducible assumption | omega) only [push_cast, x_blk, x_cd, ↓reduceIte, Nat.reduceEqDiff, p4, k1.mA ty_ag_33 ty_sz_33]
  refine call_of (ref14_Safe ((h.below bb).mono fun b hb => Nat.lt_of_lt_of_le hb bb.size) hf (h1.below bb).lt (h2.below bb).lt (h3.below bb).lt n1 n2 n3) ?_
  rintro v w9 ⟨rfl, b9⟩
  replace ho := ho.below b9 (Nat.le_refl _)
  replace bb := bb.trans (b9.mono bb.size)
  by_cases p5 : SafeL m0 l1 l2 l3
  case neg =>
    simp (disch := first | with_reducible assumption | omega) only [push_cast, x_blk, x_cd, ↓reduceIte, Nat.reduceEqDiff, p5]
    exact fin_1 (hQ _ _ ⟨(by simp only [push_cast, ↓reduceIte, Nat.reduceEqDiff]), bb⟩)
  have hn := only_nil hmem p4 p5
  simp (disch := first | with_reducible assumption | omega) only [push_cast, x_blk, x_cd, ↓reduceIte, Nat.reduceEqDiff, p5]
  refine call_of (ref1_Only (h3.below bb).lt (Ints.lt (OwnI.ints ho)) c3 co false (by omega) (by omega)) ?_
  rintro v w10 ⟨A', c', rfl, _, b10⟩
  rw [hn]
  replace bb := bb.trans (b10.mono bb.size)
  simp (disch := first | with_reducible assumption | omega) only [push_cast, x_blk, x_cd, ↓reduceIte, Nat.reduceEqDiff, List.length_nil, eq_self]
  exact fin_1 (hQ _ _ ⟨(by simp only [push_cast, ↓reduceIte, Nat.reduceEqDiff]), bb⟩)

theorem law_ControlTells {w : World} {a0 : MV} {m0 : Mach} (h : IsM (· < w.heap.size) w a0 m0) (hf : m0.Fits)
    {A1 : Option Addr} {c1 : Nat} {l1 : List Int} (h1 : Ints (· < w.heap.size) w A1 l1) (_b1 : ∀ x ∈ l1, I64 x) (n1 : l1.length ≤ 17592186043904) (_k1 : l1.length ≤ c1)
    {A2 : Option Addr} {c2 : Nat} {l2 : List Int} (h2 : Ints (· < w.heap.size) w A2 l2) (_b2 : ∀ x ∈ l2, I64 x) (n2 : l2.length ≤ 17592186043904) (_k2 : l2.length ≤ c2) :
    Cal Try.prog 6 [a0.val m0, .slice A1 l1.length c1, .slice A2 l2.length c2] w fun v w' => v = .bool true ∧ Below w.heap.size w w' := by
  refine cal_law_ControlTells (by simp) 100000 fun Q hQ => ?_
  simp (disch := first | with_reducible assumption | omega) only [push_cast, x_blk, x_cd, ↓reduceIte, Nat.reduceEqDiff, F_law_ControlTells]
  refine blk_of (box_agg _ (a0.cells m0)) ?_
  intro w1 k1 b1 z1
  have bb := b1
  simp (disch := first | with_reducible assumption | omega) only [push_cast, x_blk, x_cd, ↓reduceIte, Nat.reduceEqDiff, k1.mA ty_ag_33 ty_sz_33]
  refine call_of (law_great _ _ _) ?_
  rintro v w2 ⟨rfl, b2⟩
  replace k1 := k1.below b2 k1.lt
  replace bb := bb.trans (b2.mono bb.size)
  by_cases p0 : m0.Great
  case pos =>
    simp (disch := first | with_reducible assumption | omega) only [push_cast, x_blk, x_cd, ↓reduceIte, Nat.reduceEqDiff, p0]
    exact fin_1 (hQ _ _ ⟨(by simp only [push_cast, ↓reduceIte, Nat.reduceEqDiff]), bb⟩)
  simp (disch := first | with_reducible assumption | omega) only [push_cast, x_blk, x_cd, ↓reduceIte, Nat.reduceEqDiff, p0, k1.mA ty_ag_33 ty_sz_33]
  refine call_of (control_Keep ((h.below bb).mono fun b hb => Nat.lt_of_lt_of_le hb bb.size) hf (h1.below bb).lt (h2.below bb).lt n1 n2) ?_
  rintro v w5 ⟨O, co, o, e, rfl, ho, b5, hyes, hno⟩
  replace k1 := k1.below b5 k1.lt
  have z4 := bb.size
  replace bb := bb.trans (b5.mono bb.size)
  simp (disch := first | with_reducible assumption | omega) only [push_cast, x_blk, x_cd, ↓reduceIte, Nat.reduceEqDiff, k1.mA ty_ag_33 ty_sz_33]
  refine call_of (ref2_May ((h.below bb).mono fun b hb => Nat.lt_of_lt_of_le hb bb.size) hf) ?_
  rintro v w6 ⟨rfl, b6⟩
  replace k1 := k1.below b6 k1.lt
  replace ho := ho.below b6 (Nat.le_refl _)
  replace bb := bb.trans (b6.mono bb.size)
  by_cases p1 : m0.May
  case neg =>
    obtain ⟨rfl, rfl⟩ := hno fun hh => p1 hh.1
    simp (disch := first | with_reducible assumption | omega) only [push_cast, x_blk, x_cd, ↓reduceIte, Nat.reduceEqDiff, p1, List.length_nil, eq_self]
    exact fin_1 (hQ _ _ ⟨(by simp only [push_cast, ↓reduceIte, Nat.reduceEqDiff]), bb⟩)
  simp (disch := first | with_reducible assumption | omega) only [push_cast, x_blk, x_cd, ↓reduceIte, Nat.reduceEqDiff, p1, k1.m1 ty_ag_3]
  refine call_of (ref1_Is (h1.below bb) c1 m0.events (by omega)) ?_
  rintro v w3 ⟨rfl, s3⟩
  replace k1 := k1.same s3
  replace ho := ho.same s3
  replace bb := bb.trans (s3.below _)
  by_cases p2 : IsRow l1 m0.events
  case neg =>
    obtain ⟨rfl, rfl⟩ := hno fun hh => p2 hh.2.1
    simp (disch := first | with_reducible assumption | omega) only [push_cast, x_blk, x_cd, ↓reduceIte, Nat.reduceEqDiff, p2, List.length_nil, eq_self]
    exact fin_1 (hQ _ _ ⟨(by simp only [push_cast, ↓reduceIte, Nat.reduceEqDiff]), bb⟩)
  simp (disch := first | with_reducible assumption | omega) only [push_cast, x_blk, x_cd, ↓reduceIte, Nat.reduceEqDiff, p2, k1.m0 ty_ag_3]
  refine call_of (ref1_Is (h2.below bb) c2 m0.states (by omega)) ?_
  rintro v w4 ⟨rfl, s4⟩
  replace k1 := k1.same s4
  replace ho := ho.same s4
  replace bb := bb.trans (s4.below _)
  by_cases p3 : IsRow l2 m0.states
  case neg =>
    obtain ⟨rfl, rfl⟩ := hno fun hh => p3 hh.2.2
    simp (disch := first | with_reducible assumption | omega) only [push_cast, x_blk, x_cd, ↓reduceIte, Nat.reduceEqDiff, p3, List.length_nil, eq_self]
    exact fin_1 (hQ _ _ ⟨(by simp only [push_cast, ↓reduceIte, Nat.reduceEqDiff]), bb⟩)
  obtain ⟨rfl, hst, hmem⟩ := hyes ⟨p1, p2, p3⟩
  have hrow := keep_row p1 hst hmem
  have nO := hrow.len
  simp (disch := first | with_reducible assumption | omega) only [push_cast, x_blk, x_cd, ↓reduceIte, Nat.reduceEqDiff, p3, k1.mA ty_ag_33 ty_sz_33]
  refine call_of (ref14_Keep ((h.below bb).mono fun b hb => Nat.lt_of_lt_of_le hb bb.size) hf p1 (h1.below bb).lt (h2.below bb).lt n1 n2) ?_
  rintro v w7 ⟨O', co', o', rfl, ho', b7, hst', hmem'⟩
  obtain rfl : o = o' := hst.ext hst' fun x => by rw [hmem, hmem']
  replace ho := ho.below b7 (Nat.le_refl _)
  replace bb := bb.trans (b7.mono bb.size)
  simp (disch := first | with_reducible assumption | omega) only [push_cast, x_blk, x_cd, ↓reduceIte, Nat.reduceEqDiff, eq_self]
  refine call_of (ref1_Same (OwnI.ints ho) (OwnI.ints ho') co co' (by omega)) ?_
  rintro v w8 ⟨rfl, s8⟩
  replace bb := bb.trans (s8.below _)
  simp (disch := first | with_reducible assumption | omega) only [push_cast, x_blk, x_cd, ↓reduceIte, Nat.reduceEqDiff, eq_self]
  exact fin_1 (hQ _ _ ⟨(by simp only [push_cast, ↓reduceIte, Nat.reduceEqDiff]), bb⟩)
end Go.Proofs.Ytkemapljhmoafaa
