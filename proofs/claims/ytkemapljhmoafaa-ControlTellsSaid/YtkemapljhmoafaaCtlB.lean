/-
  Chapter 14: the program's Keep: by its contract.
-/
import Derived.Test.YtkemapljhmoafaaCtlA
import Derived.Test.YtkemapljhmoafaaRowL
namespace Go.Proofs.Ytkemapljhmoafaa
set_option linter.unusedSimpArgs false
set_option linter.unusedVariables false
open Go.RowKit

theorem least_of {p : Nat → Prop} (h : ∃ n, p n) : ∃ n, p n ∧ ∀ k, p k → n ≤ k := by
  obtain ⟨n, hn⟩ := h
  induction n using Nat.strongRecOn with
  | _ n ih =>
    by_cases hx : ∃ k, k < n ∧ p k
    · obtain ⟨k, hk, hp⟩ := hx
      exact ih k hk hp
    · exact ⟨n, hn, fun k hk => by
        rcases Nat.lt_or_ge k n with h | h
        · exact absurd ⟨k, h, hk⟩ hx
        · exact h⟩
/-- A loop whose rounds are told by a number that falls. -/
theorem loop_ix {X : List I → List It → World → Fr → World → Prop} {c : C} {k : List It} {f : Fr} {w : World} (I : Nat → Fr → World → Prop) {n0 : Nat} (h0 : I n0 f w)
    (h : ∀ n f w, I n f w → ∀ J : Fr → World → Prop, (∀ n' f' w', I n' f' w' → n' < n → J f' w') → X [] (.c c :: .lp J :: k) w f w) : LoopX X c k f w := by
  have hm : ∀ f w, ∃ n, (∃ n, I n f w) → I n f w ∧ ∀ k, I k f w → n ≤ k := fun f w => by
    by_cases hx : ∃ n, I n f w
    · obtain ⟨n, hn⟩ := least_of hx
      exact ⟨n, fun _ => hn⟩
    · exact ⟨0, fun h => absurd h hx⟩
  refine loop_rule (fun f w => ∃ n, I n f w) (fun f w => Classical.choose (hm f w)) ⟨n0, h0⟩ ?_
  intro f w hx J hJ
  refine h _ f w (Classical.choose_spec (hm f w) hx).1 J fun n' f' w' hi hn => hJ f' w' ⟨n', hi⟩ ?_
  exact Nat.lt_of_le_of_lt ((Classical.choose_spec (hm f' w') ⟨n', hi⟩).2 n' hi) hn

/-- From here a word of events that are not free leads to a bad state. -/
inductive Lost (m : Mach) (free bad : List Int) : Int → Prop
  | base (x : Int) (h : x ∈ bad) : Lost m free bad x
  | step (a : Arr) (ha : a ∈ m.arrows) (he : a.evt ∉ free) (h : Lost m free bad a.to_) : Lost m free bad a.frm
/-- How many of the states are not in the set. -/
def missing (ws : List Nat) : Nat := (List.range 256).countP fun n => !setHas ws n
theorem missing_add {ws : List Nat} (h : Words ws) {n : Nat} (hn : n < 256) (h0 : setHas ws n = false) : missing (setAdd ws n) < missing ws := by
  unfold missing
  have key : ∀ l : List Nat, (l.countP fun k => !setHas (setAdd ws n) k) ≤ (l.countP fun k => !setHas ws k) ∧ (n ∈ l → (l.countP fun k => !setHas (setAdd ws n) k) < (l.countP fun k => !setHas ws k)) := by
    intro l
    induction l with
    | nil => simp
    | cons x l ih =>
      simp only [List.countP_cons, setHas_add h hn]
      refine ⟨?_, fun hx => ?_⟩
      · have := ih.1
        cases hs : setHas ws x <;> by_cases e : x = n <;> simp_all [setHas_add h hn] <;> omega
      · by_cases e : x = n
        · subst e; have := ih.1; simp_all [setHas_add h hn]; omega
        · have := ih.2 (by simpa [Ne.symm e, show ¬ n = x from fun h => e h.symm] using hx)
          cases hs : setHas ws x <;> simp_all [setHas_add h hn]
  exact (key _).2 (List.mem_range.2 hn)

/-- What keep answers with. -/
def KeepRes (m : Mach) (free bad : List Int) (w : World) (v : Value) (w' : World) : Prop :=
  ∃ O co o e, v = .tuple #[.slice O o.length co, .int .i64 e] ∧ OwnI w.heap.size 3 w' O co o ∧ Below w.heap.size w w' ∧
    (m.May ∧ IsRow free m.events ∧ IsRow bad m.states → e = 0 ∧ Strict o ∧ ∀ x, x ∈ o ↔ (0 ≤ x ∧ x < m.states) ∧ ¬ Lost m free bad x) ∧ (¬ (m.May ∧ IsRow free m.events ∧ IsRow bad m.states) → e = 2 ∧ o = [])

theorem control_Keep {w : World} {a : MV} {m : Mach} (h : IsM (· < w.heap.size) w a m) (hf : m.Fits)
    {A1 A2 : Option Addr} {c1 c2 : Nat} {free bad : List Int} (h1 : Ints (· < w.heap.size) w A1 free) (h2 : Ints (· < w.heap.size) w A2 bad)
    (n1 : free.length ≤ 17592186043904) (n2 : bad.length ≤ 17592186043904) :
    Cal Try.prog 25 [a.val m, .slice A1 free.length c1, .slice A2 bad.length c2] w (KeepRes m free bad w) := by
  refine cal_control_Keep (by simp) 100000 fun Q hQ => ?_
  simp (disch := first | with_reducible assumption | omega) only [push_cast, x_blk, x_cd, ↓reduceIte, Nat.reduceEqDiff, F_control_Keep]
  refine blk_of (box_agg _ (a.cells m)) ?_
  intro w1 k1 b1 z1
  simp (disch := first | with_reducible assumption | omega) only [push_cast, x_blk, x_cd, ↓reduceIte, Nat.reduceEqDiff, k1.mA ty_ag_33 ty_sz_33]
  refine call_of (machine_May ((h.below b1).mono fun b hb => Nat.lt_of_lt_of_le hb b1.size) hf) ?_
  rintro v w2 ⟨rfl, b2⟩
  have k2 := k1.below b2 k1.lt
  have c2' := b1.trans (b2.mono b1.size)
  by_cases p1 : m.May
  case neg =>
    simp (disch := first | with_reducible assumption | omega) only [push_cast, x_blk, x_cd, ↓reduceIte, Nat.reduceEqDiff, p1]
    exact fin_2 (hQ _ _ ⟨none, 0, [], 2, (by simp only [push_cast, ↓reduceIte, Nat.reduceEqDiff, List.length_nil]), Own.nil _ _ _ _, c2', fun hh => absurd hh.1 p1, fun _ => ⟨rfl, rfl⟩⟩)
  simp (disch := first | with_reducible assumption | omega) only [push_cast, x_blk, x_cd, ↓reduceIte, Nat.reduceEqDiff, p1, k2.m1 ty_ag_3]
  refine call_of (row_Is (h1.below c2') c1 m.events (by omega)) ?_
  rintro v w3 ⟨rfl, s3⟩
  have k3 := k2.same s3
  have c3' := c2'.trans (s3.below _)
  by_cases p2 : IsRow free m.events
  case neg =>
    simp (disch := first | with_reducible assumption | omega) only [push_cast, x_blk, x_cd, ↓reduceIte, Nat.reduceEqDiff, p2]
    exact fin_2 (hQ _ _ ⟨none, 0, [], 2, (by simp only [push_cast, ↓reduceIte, Nat.reduceEqDiff, List.length_nil]), Own.nil _ _ _ _, c3', fun hh => absurd hh.2.1 p2, fun _ => ⟨rfl, rfl⟩⟩)
  simp (disch := first | with_reducible assumption | omega) only [push_cast, x_blk, x_cd, ↓reduceIte, Nat.reduceEqDiff, p2, k3.m0 ty_ag_3]
  refine call_of (row_Is (h2.below c3') c2 m.states (by omega)) ?_
  rintro v w4 ⟨rfl, s4⟩
  have k4 := k3.same s4
  have c4' := c3'.trans (s4.below _)
  by_cases p3 : IsRow bad m.states
  case neg =>
    simp (disch := first | with_reducible assumption | omega) only [push_cast, x_blk, x_cd, ↓reduceIte, Nat.reduceEqDiff, p3]
    exact fin_2 (hQ _ _ ⟨none, 0, [], 2, (by simp only [push_cast, ↓reduceIte, Nat.reduceEqDiff, List.length_nil]), Own.nil _ _ _ _, c4', fun hh => absurd hh.2.2 p3, fun _ => ⟨rfl, rfl⟩⟩)
  have mm : 1 ≤ m.states ∧ m.states ≤ 256 ∧ 0 ≤ m.events ∧ m.events ≤ 8 ∧ m.arrows.length ≤ 4096 ∧ IsRow m.starts m.states ∧ IsRow m.ends m.states ∧ ∀ i, i < m.arrows.length → m.At i := p1
  have hok : ∀ y ∈ m.arrows, ∃ p q : Nat, y.frm = p ∧ y.to_ = q ∧ p < 256 ∧ q < 256 := fun y hy => by
    obtain ⟨i, hi, rfl⟩ := (mem_iff_getD m.arrows default y).1 hy
    have ho := (mm.2.2.2.2.2.2.2 i hi).1
    have := ho.1
    have := ho.2.1
    exact ⟨(m.arrows.getD i default).frm.toNat, (m.arrows.getD i default).to_.toNat, by omega, by omega, by omega, by omega⟩
  simp (disch := first | with_reducible assumption | omega) only [push_cast, x_blk, x_cd, ↓reduceIte, Nat.reduceEqDiff, p3]
  refine call_of (machine_Of (h2.below c4').lt c2 n2 fun x hx => by have := p3.mem hx; omega) ?_
  rintro v w5 ⟨ws0, rfl, hw0, hs0, b5⟩
  have k5 := k4.below b5 k4.lt
  have c5' := c4'.trans (b5.mono c4'.size)
  simp (disch := first | with_reducible assumption | omega) only [push_cast, x_blk, x_cd, ↓reduceIte, Nat.reduceEqDiff]
  refine blk_of (cs := setCells [0, 0, 0, 0]) al_60 ?_
  intro w6 k6 b6 z6
  simp (disch := first | with_reducible assumption | omega) only [push_cast, x_blk, x_cd, ↓reduceIte, Nat.reduceEqDiff]
  have e4 : tySize Try.prog 60 = some (setCells ws0).length := by rw [setCells_len, hw0.1]; exact ty_sz_60
  refine sto_blk k6 e4 (by rw [setCells_len, setCells_len, hw0.1]; rfl) (by simp [setCells, Value.oneCell']) ?_
  intro w7 k7 g7 z7
  have hNG : w.heap.size < w5.heap.size := k5.lt
  have kM0 := (k5.below b6 hNG).grown g7.by_ (by simp; omega)
  have c7' : Below w.heap.size w w7 := g7.below (c5'.trans (b6.mono c5'.size)) (by omega) (by intro a ha; injection ha with ha; subst ha; show w.heap.size ≤ w5.heap.size; omega)
  generalize w5.heap.size = G at *
  simp (disch := first | with_reducible assumption | omega) only [push_cast, x_cd, ↓reduceIte, Nat.reduceEqDiff]
  refine cut (fun f' w' => ∃ ws, f' 3 = .pointer (some ⟨w.heap.size, 0, none⟩) ∧ f' 8 = .pointer (some ⟨G, 0, none⟩) ∧ Words ws ∧ (∀ n : Nat, n < 256 → (setHas ws n = true ↔ Lost m free bad n)) ∧
      Blk w' w.heap.size 33 (a.cells m) ∧ Blk w' G 60 (setCells ws) ∧ Below w.heap.size w w') 40000 40000 (by decide) ?_ ?_
  · intro E hE
    simp (disch := first | with_reducible assumption | omega) only [push_cast, x_blk, x_cd, ↓reduceIte, Nat.reduceEqDiff]
    refine loop_ix (fun n f' w' => ∃ ws, n = missing ws ∧ f' 1 = .slice A1 free.length c1 ∧ f' 3 = .pointer (some ⟨w.heap.size, 0, none⟩) ∧ f' 8 = .pointer (some ⟨G, 0, none⟩) ∧ Words ws ∧ (∀ n : Nat, n < 256 → setHas ws n = true → Lost m free bad n) ∧
      (∀ n : Nat, n < 256 → (n : Int) ∈ bad → setHas ws n = true) ∧ Blk w' w.heap.size 33 (a.cells m) ∧ Blk w' G 60 (setCells ws) ∧ Below w.heap.size w w')
      (n0 := missing ws0) ⟨ws0, rfl, rfl, rfl, rfl, hw0, fun n hn hh => .base _ (by rw [hs0 n hn] at hh; exact of_decide_eq_true hh), fun n hn hh => by rw [hs0 n hn]; exact decide_eq_true hh, kM0, k7, c7'⟩ ?_
    clear kM0 k7 c7' g7 k6 b6 hs0
    rintro _ f w8 ⟨ws, rfl, g1, g3, g8, hw, hs1, hs2, kM, kS, bb⟩ J hJ
    simp (disch := first | with_reducible assumption | omega) only [push_cast, x_blk, x_cd, ↓reduceIte, Nat.reduceEqDiff, L_control_Keep_2, g1, g3, g8, kM.m3 ty_ag_31]
    refine loop_rule (fun f' w' => ∃ k : Nat, k ≤ m.arrows.length ∧ f' 1 = .slice A1 free.length c1 ∧ f' 3 = .pointer (some ⟨w.heap.size, 0, none⟩) ∧ f' 8 = .pointer (some ⟨G, 0, none⟩) ∧
        f' 33 = .slice a.Aa m.arrows.length a.ca ∧ f' 34 = .int .i64 m.arrows.length ∧ f' 35 = .int .i64 k ∧
        (∀ i, i < k → (m.arrows.getD i default).evt ∉ free → setHas ws (m.arrows.getD i default).to_.toNat = true → setHas ws (m.arrows.getD i default).frm.toNat = true) ∧
        Blk w' w.heap.size 33 (a.cells m) ∧ Blk w' G 60 (setCells ws) ∧ Below w.heap.size w w')
      (fun f' _ => m.arrows.length - (intOf (f' 35)).toNat) ⟨0, Nat.zero_le _, (by simp only [push_cast, ↓reduceIte, Nat.reduceEqDiff, g1]), (by simp only [push_cast, ↓reduceIte, Nat.reduceEqDiff, g3]), (by simp only [push_cast, ↓reduceIte, Nat.reduceEqDiff, g8]), (by simp only [push_cast, ↓reduceIte, Nat.reduceEqDiff]), (by simp only [push_cast, ↓reduceIte, Nat.reduceEqDiff]), (by simp only [push_cast, ↓reduceIte, Nat.reduceEqDiff]), fun i hi => absurd hi (by omega), kM, kS, bb⟩ ?_
    clear kM kS bb g1 g3 g8
    rintro f w9 ⟨k, hk, g1, g3, g8, g33, g34, g35, hp, kM, kS, bb⟩ J2 hJ2
    have i2 := (h.below bb).arrows
    by_cases hlt : k < m.arrows.length
    case neg =>
      simp (disch := first | with_reducible assumption | omega) only [push_cast, x_blk, x_cd, ↓reduceIte, Nat.reduceEqDiff, L_control_Keep_1, g1, g3, g8, g33, g34, g35, hlt]
      refine hE _ _ ⟨ws, (by simp only [push_cast, ↓reduceIte, Nat.reduceEqDiff, g3]), (by simp only [push_cast, ↓reduceIte, Nat.reduceEqDiff, g8]), hw, fun n hn => ⟨hs1 n hn, fun hl => ?_⟩, kM, kS, bb⟩
      have key : ∀ x, Lost m free bad x → ∀ n : Nat, n < 256 → x = n → setHas ws n = true := by
        intro x hx
        induction hx with
        | base x hb => intro n hn e; exact hs2 n hn (e ▸ hb)
        | step y hy he _ ih =>
          intro n hn e
          obtain ⟨p, q, e1, e2, hp', hq'⟩ := hok y hy
          obtain ⟨i, hi, rfl⟩ := (mem_iff_getD m.arrows default y).1 hy
          have := hp i (by omega) he (by rw [e2]; simpa using ih q hq' e2)
          rw [e] at this
          simpa using this
      exact key _ hl n hn rfl
    have hA := i2.isSome (by omega)
    simp (disch := first | with_reducible assumption | omega) only [push_cast, x_blk, x_cd, ↓reduceIte, Nat.reduceEqDiff, L_control_Keep_1, g1, g3, g8, g33, g34, g35, hlt, i2.ldA ty_ag_54 ty_sz_54]
    refine blk_of al_54 ?_
    intro w10 k10 b10 z10
    simp (disch := first | with_reducible assumption | omega) only [push_cast, x_blk, x_cd, ↓reduceIte, Nat.reduceEqDiff]
    refine sto_blk k10 (cs := arrCells (m.arrows.getD k default)) ty_sz_54 rfl (by simp [arrCells, Value.oneCell']) ?_
    intro w11 k11 q11 z11
    have hm := getD_mem m.arrows default k hlt
    have hy' : ∀ P : Arr → Prop, P (m.arrows.getD k default) → P (m.arrows.getD k default) := fun _ h => h
    generalize hy : m.arrows.getD k default = y at *
    obtain ⟨p, q, e1, e2, hp', hq'⟩ := hok y hm
    have b911 : Below w9.heap.size w9 w11 := q11.below b10 (by omega) (by intro a ha; injection ha with ha; subst ha; exact Nat.le_refl _)
    have bb' := bb.trans (b911.mono bb.size)
    have kM' := kM.below b911 kM.lt
    have kS' := kS.below b911 kS.lt
    simp (disch := first | with_reducible assumption | omega) only [push_cast, x_blk, x_cd, ↓reduceIte, Nat.reduceEqDiff, g1, g3, g8, e1, kS'.setA hw ty_ag_60 ty_sz_60, k11.a0 ty_ag_3]
    refine call_of (set_Has ws hw p hp' _) ?_
    rintro v w12 ⟨rfl, b12⟩
    replace kM' := kM'.below b12 kM'.lt
    replace kS' := kS'.below b12 kS'.lt
    have k12 := k11.below b12 k11.lt
    replace bb' := bb'.trans (b12.mono bb'.size)
    by_cases d1 : setHas ws p = true
    · have hcl : (m.arrows.getD k default).evt ∉ free → setHas ws (m.arrows.getD k default).to_.toNat = true → setHas ws (m.arrows.getD k default).frm.toNat = true := by
        rw [hy]; intro _ _; rw [e1]; simpa using d1
      simp (disch := first | with_reducible assumption | omega) only [push_cast, x_blk, x_cd, ↓reduceIte, Nat.reduceEqDiff, d1, g35]
      exact hJ2 _ _ ⟨k + 1, hlt, (by simp only [push_cast, ↓reduceIte, Nat.reduceEqDiff, g1]), (by simp only [push_cast, ↓reduceIte, Nat.reduceEqDiff, g3]), (by simp only [push_cast, ↓reduceIte, Nat.reduceEqDiff, g8]), (by simp only [push_cast, ↓reduceIte, Nat.reduceEqDiff, g33]), (by simp only [push_cast, ↓reduceIte, Nat.reduceEqDiff, g34]), (by simp only [push_cast, ↓reduceIte, Nat.reduceEqDiff]), fun i hi => if e : i = k then e ▸ hcl else hp i (by omega), kM', kS', bb'⟩ (by simp only [push_cast, ↓reduceIte, Nat.reduceEqDiff, g35, intOf]; omega)
    have d1' : setHas ws p = false := by simpa using d1
    simp (disch := first | with_reducible assumption | omega) only [push_cast, x_blk, x_cd, ↓reduceIte, Nat.reduceEqDiff, d1', g1, g3, g8, e2, kS'.setA hw ty_ag_60 ty_sz_60, k12.a2 ty_ag_3]
    refine call_of (set_Has ws hw q hq' _) ?_
    rintro v w13 ⟨rfl, b13⟩
    replace kM' := kM'.below b13 kM'.lt
    replace kS' := kS'.below b13 kS'.lt
    have k13 := k12.below b13 k12.lt
    replace bb' := bb'.trans (b13.mono bb'.size)
    by_cases d2 : setHas ws q = true
    case neg =>
      have d2' : setHas ws q = false := by simpa using d2
      have hcl : (m.arrows.getD k default).evt ∉ free → setHas ws (m.arrows.getD k default).to_.toNat = true → setHas ws (m.arrows.getD k default).frm.toNat = true := by
        rw [hy, e2]; intro _ hh; exact absurd (by simpa using hh) d2
      simp (disch := first | with_reducible assumption | omega) only [push_cast, x_blk, x_cd, ↓reduceIte, Nat.reduceEqDiff, d2', g35]
      exact hJ2 _ _ ⟨k + 1, hlt, (by simp only [push_cast, ↓reduceIte, Nat.reduceEqDiff, g1]), (by simp only [push_cast, ↓reduceIte, Nat.reduceEqDiff, g3]), (by simp only [push_cast, ↓reduceIte, Nat.reduceEqDiff, g8]), (by simp only [push_cast, ↓reduceIte, Nat.reduceEqDiff, g33]), (by simp only [push_cast, ↓reduceIte, Nat.reduceEqDiff, g34]), (by simp only [push_cast, ↓reduceIte, Nat.reduceEqDiff]), fun i hi => if e : i = k then e ▸ hcl else hp i (by omega), kM', kS', bb'⟩ (by simp only [push_cast, ↓reduceIte, Nat.reduceEqDiff, g35, intOf]; omega)
    simp (disch := first | with_reducible assumption | omega) only [push_cast, x_blk, x_cd, ↓reduceIte, Nat.reduceEqDiff, d2, g1, g3, g8, k13.a1 ty_ag_3]
    refine call_of (row_Has (h1.below bb') c1 _ (by omega)) ?_
    rintro v w14 ⟨rfl, s14⟩
    replace kM' := kM'.same s14
    replace kS' := kS'.same s14
    have k14 := k13.same s14
    replace bb' := bb'.trans (s14.below _)
    by_cases d3 : y.evt ∈ free
    · have hcl : (m.arrows.getD k default).evt ∉ free → setHas ws (m.arrows.getD k default).to_.toNat = true → setHas ws (m.arrows.getD k default).frm.toNat = true := by
        rw [hy]; intro hh; exact absurd d3 hh
      simp (disch := first | with_reducible assumption | omega) only [push_cast, x_blk, x_cd, ↓reduceIte, Nat.reduceEqDiff, d3, g35]
      exact hJ2 _ _ ⟨k + 1, hlt, (by simp only [push_cast, ↓reduceIte, Nat.reduceEqDiff, g1]), (by simp only [push_cast, ↓reduceIte, Nat.reduceEqDiff, g3]), (by simp only [push_cast, ↓reduceIte, Nat.reduceEqDiff, g8]), (by simp only [push_cast, ↓reduceIte, Nat.reduceEqDiff, g33]), (by simp only [push_cast, ↓reduceIte, Nat.reduceEqDiff, g34]), (by simp only [push_cast, ↓reduceIte, Nat.reduceEqDiff]), fun i hi => if e : i = k then e ▸ hcl else hp i (by omega), kM', kS', bb'⟩ (by simp only [push_cast, ↓reduceIte, Nat.reduceEqDiff, g35, intOf]; omega)
    simp (disch := first | with_reducible assumption | omega) only [push_cast, x_blk, x_cd, ↓reduceIte, Nat.reduceEqDiff, d3, g1, g3, g8, e1, k14.a0 ty_ag_3, List.map_cons, List.map_nil]
    refine call_of (set_Add hw p hp' kS') ?_
    rintro v w15 ⟨rfl, k15, g15, z15⟩
    simp (disch := first | with_reducible assumption | omega) only [push_cast, x_blk, x_cd, ↓reduceIte, Nat.reduceEqDiff]
    exact hJ _ _ _ ⟨setAdd ws p, rfl, (by simp only [push_cast, ↓reduceIte, Nat.reduceEqDiff, g1]), (by simp only [push_cast, ↓reduceIte, Nat.reduceEqDiff, g3]), (by simp only [push_cast, ↓reduceIte, Nat.reduceEqDiff, g8]), hw.add hp', fun n hn hh => by
      rw [setHas_add hw hp'] at hh
      by_cases e : n = p
      · subst e; rw [← e1]; exact .step y hm d3 (by rw [e2]; exact hs1 q hq' d2)
      · exact hs1 n hn (by simpa [e] using hh), fun n hn hh => by rw [setHas_add hw hp', hs2 n hn hh]; rfl,
      kM'.grown g15.by_ (by simp; omega), k15, g15.below bb' bb'.size (by intro a ha; injection ha with ha; subst ha; show w.heap.size ≤ G; omega)⟩ (missing_add hw hp' d1')
  · rintro f w8 ⟨ws, g3, g8, hw, hs, kM, kS, bb⟩
    simp (disch := first | with_reducible assumption | omega) only [push_cast, x_blk, x_cd, ↓reduceIte, Nat.reduceEqDiff, g3, g8, kM.m0 ty_ag_3]
    refine loop_rule (fun f' w' => ∃ k : Nat, ∃ O co o, (k : Int) ≤ m.states ∧ f' 8 = .pointer (some ⟨G, 0, none⟩) ∧ f' 11 = .slice O o.length co ∧ f' 62 = .int .i64 m.states ∧ f' 63 = .int .i64 k ∧
        Strict o ∧ (∀ x, x ∈ o ↔ (0 ≤ x ∧ x < k) ∧ ¬ Lost m free bad x) ∧ o.length ≤ k ∧ OwnI w.heap.size 3 w' O co o ∧ Blk w' G 60 (setCells ws) ∧ Below w.heap.size w w')
      (fun f' _ => m.states.toNat - (intOf (f' 63)).toNat) ⟨0, none, 0, [], by omega, (by simp only [push_cast, ↓reduceIte, Nat.reduceEqDiff, g8]), (by simp only [push_cast, ↓reduceIte, Nat.reduceEqDiff, List.length_nil]), (by simp only [push_cast, ↓reduceIte, Nat.reduceEqDiff]), (by simp only [push_cast, ↓reduceIte, Nat.reduceEqDiff]), List.Pairwise.nil, fun x => ⟨fun hx => absurd hx (by simp), fun hx => absurd hx.1 (by omega)⟩, Nat.le_refl _, Own.nil _ _ _ _, kS, bb⟩ ?_
    clear kS bb kM g3 g8
    rintro f w9 ⟨k, O, co, o, hk, g8, g11, g62, g63, ho1, ho2, hol, ho, kS, bb⟩ J hJ
    by_cases hlt : (k : Int) < m.states
    case neg =>
      have hke : (k : Int) = m.states := by omega
      simp (disch := first | with_reducible assumption | omega) only [push_cast, x_blk, x_cd, ↓reduceIte, Nat.reduceEqDiff, L_control_Keep_0, g8, g11, g62, g63, hlt]
      exact fin_2 (hQ _ _ ⟨O, co, o, 0, (by simp only [push_cast, ↓reduceIte, Nat.reduceEqDiff, g11]), ho, bb, fun _ => ⟨rfl, ho1, fun x => by rw [ho2, hke]⟩, fun hn => absurd ⟨p1, p2, p3⟩ hn⟩)
    have hk256 : k < 256 := by omega
    simp (disch := first | with_reducible assumption | omega) only [push_cast, x_blk, x_cd, ↓reduceIte, Nat.reduceEqDiff, L_control_Keep_0, g8, g11, g62, g63, hlt, kS.setA hw ty_ag_60 ty_sz_60]
    refine call_of (set_Has ws hw k hk256 _) ?_
    rintro v w10 ⟨rfl, b10⟩
    have kS' := kS.below b10 kS.lt
    have bb' := bb.trans (b10.mono bb.size)
    have ho' := ho.below b10 (Nat.le_refl _)
    by_cases d : setHas ws k = true
    · have hl := (hs k hk256).1 d
      simp (disch := first | with_reducible assumption | omega) only [push_cast, x_blk, x_cd, ↓reduceIte, Nat.reduceEqDiff, d, g63]
      refine hJ _ _ ⟨k + 1, O, co, o, by omega, (by simp only [push_cast, ↓reduceIte, Nat.reduceEqDiff, g8]), (by simp only [push_cast, ↓reduceIte, Nat.reduceEqDiff, g11]), (by simp only [push_cast, ↓reduceIte, Nat.reduceEqDiff, g62]), (by simp only [push_cast, ↓reduceIte, Nat.reduceEqDiff]), ho1, fun x => ?_, by omega, ho', kS', bb'⟩ (by simp only [push_cast, ↓reduceIte, Nat.reduceEqDiff, g63, intOf]; omega)
      rw [ho2]
      constructor
      · rintro ⟨⟨a1, a2⟩, a3⟩
        exact ⟨⟨a1, by omega⟩, a3⟩
      · rintro ⟨⟨a1, a2⟩, a3⟩
        by_cases e : x = (k : Int)
        · exact absurd hl (e ▸ a3)
        · exact ⟨⟨a1, by omega⟩, a3⟩
    · have d' : setHas ws k = false := by simpa using d
      have hl : ¬ Lost m free bad (k : Int) := fun h => d ((hs k hk256).2 h)
      simp (disch := first | with_reducible assumption | omega) only [push_cast, x_blk, x_cd, ↓reduceIte, Nat.reduceEqDiff, d', g11, g63]
      refine app_int slT_22 ho' (k : Int) (by omega) bb'.size ?_
      intro A' c' w11 ho11 hg11 hA11 hs11 hz11
      simp (disch := first | with_reducible assumption | omega) only [push_cast, x_blk, x_cd, ↓reduceIte, Nat.reduceEqDiff, g63]
      refine hJ _ _ ⟨k + 1, A', c', o ++ [(k : Int)], by omega, (by simp only [push_cast, ↓reduceIte, Nat.reduceEqDiff, g8]), (by simp only [push_cast, ↓reduceIte, Nat.reduceEqDiff, List.length_append, List.length_cons, List.length_nil]), (by simp only [push_cast, ↓reduceIte, Nat.reduceEqDiff, g62]), (by simp only [push_cast, ↓reduceIte, Nat.reduceEqDiff]), ?_, fun x => ?_, by simp; omega, ho11, kS'.grown hg11.by_ ?_, hg11.below bb' bb'.size ho'.geB⟩ (by simp only [push_cast, ↓reduceIte, Nat.reduceEqDiff, g63, intOf]; omega)
      · exact List.pairwise_append.2 ⟨ho1, by simp, fun x hx y hy => by
          have := ((ho2 x).1 hx).1
          have e : y = (k : Int) := by simpa using hy
          omega⟩
      · rw [List.mem_append, ho2, List.mem_singleton]
        constructor
        · rintro (⟨⟨a1, a2⟩, a3⟩ | rfl)
          · exact ⟨⟨a1, by omega⟩, a3⟩
          · exact ⟨⟨by omega, by omega⟩, hl⟩
        · rintro ⟨⟨a1, a2⟩, a3⟩
          by_cases e : x = (k : Int)
          · exact .inr e
          · exact .inl ⟨⟨a1, by omega⟩, a3⟩
      · exact fun e => ho'.ne_blk kS' (by decide) e.symm
end Go.Proofs.Ytkemapljhmoafaa
