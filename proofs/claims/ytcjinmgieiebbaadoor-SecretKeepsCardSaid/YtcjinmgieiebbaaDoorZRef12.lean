/-
  Chapter 12's reference: places: a state and a row of states; has, Same, Judge, wide, step, First, After: by their contracts.
-/
import Derived.Test.YtcjinmgieiebbaaDoorZCurC
namespace Go.Proofs.YtcjinmgieiebbaaDoor
set_option linter.unusedSimpArgs false
set_option linter.unusedVariables false
set_option linter.unusedSectionVars false
open Go.RowKit

abbrev Pl := Int × List Int
def putP (l : List Pl) (y : Pl) : List Pl := if y ∈ l then l else l ++ [y]
def wAddP (s : Mach) (seen : List Int) (x : Pl) (l : List Pl) (a : Arr) : List Pl := if a.frm = x.1 ∧ a.evt ∉ seen then putP l (a.to_, stepL s x.2 a.evt) else l
def wOneP (m s : Mach) (seen : List Int) (x : Pl) (l : List Pl) : List Pl := m.arrows.foldl (wAddP s seen x) l
/-- Gone on from the first k places by unseen events. -/
def wIterP (m s : Mach) (seen : List Int) (l0 : List Pl) : Nat → List Pl
  | 0 => l0
  | k + 1 => match (wIterP m s seen l0 k)[k]? with
    | some x => wOneP m s seen x (wIterP m s seen l0 k)
    | none => wIterP m s seen l0 k
/-- .. and by the first i arrows from the next one. -/
def wPartP (m s : Mach) (seen : List Int) (x : Pl) (l : List Pl) (i : Nat) : List Pl := (m.arrows.take i).foldl (wAddP s seen x) l
theorem wPartP_zero (m s : Mach) (seen : List Int) (x : Pl) (l : List Pl) : wPartP m s seen x l 0 = l := rfl
theorem wPartP_succ {m s : Mach} {seen : List Int} {x : Pl} {l : List Pl} {i : Nat} (h : i < m.arrows.length) : wPartP m s seen x l (i + 1) = wAddP s seen x (wPartP m s seen x l i) (m.arrows.getD i default) := by
  unfold wPartP
  rw [take_snoc m.arrows default i h, List.foldl_append]; rfl
theorem wPartP_all (m s : Mach) (seen : List Int) (x : Pl) (l : List Pl) : wPartP m s seen x l m.arrows.length = wOneP m s seen x l := by unfold wPartP wOneP; rw [List.take_length]
theorem wIterP_succ {m s : Mach} {seen : List Int} {l0 : List Pl} {k : Nat} {x : Pl} (h : (wIterP m s seen l0 k)[k]? = some x) : wIterP m s seen l0 (k + 1) = wOneP m s seen x (wIterP m s seen l0 k) := by
  show (match (wIterP m s seen l0 k)[k]? with | some x => wOneP m s seen x (wIterP m s seen l0 k) | none => wIterP m s seen l0 k) = _
  rw [h]
theorem putP_prefix (l : List Pl) (y : Pl) : l <+: putP l y := by
  unfold putP
  split
  · exact List.prefix_refl _
  · exact List.prefix_append _ _
theorem wAddP_prefix (s : Mach) (seen : List Int) (x : Pl) (l : List Pl) (a : Arr) : l <+: wAddP s seen x l a := by
  unfold wAddP
  split
  · exact putP_prefix _ _
  · exact List.prefix_refl _
theorem foldP_prefix (s : Mach) (seen : List Int) (x : Pl) : ∀ (m : List Arr) (l : List Pl), l <+: m.foldl (wAddP s seen x) l
  | [], l => List.prefix_refl _
  | a :: m, l => (wAddP_prefix s seen x l a).trans (foldP_prefix s seen x m _)
/-- Places of up to six states, and rows of such. -/
def UPl (x : Pl) : Prop := (0 ≤ x.1 ∧ x.1 < 6) ∧ IsRow x.2 6
structure GoodPl (l : List Pl) : Prop where
  nodup : l.Nodup
  univ : ∀ x ∈ l, UPl x
theorem GoodPl.put {l : List Pl} (h : GoodPl l) {y : Pl} (hy : UPl y) : GoodPl (putP l y) := by
  unfold putP
  split
  · exact h
  · rename_i hn
    refine ⟨?_, fun x hx => ?_⟩
    · rw [List.nodup_append]
      refine ⟨h.nodup, by simp, fun a ha b hb hab => ?_⟩
      rw [List.mem_singleton.1 hb] at hab
      exact hn (hab ▸ ha)
    · rcases List.mem_append.1 hx with hx | hx
      · exact h.univ x hx
      · rw [List.mem_singleton.1 hx]; exact hy
theorem GoodPl.len {l : List Pl} (h : GoodPl l) : l.length ≤ 384 := by
  have := nodup_nat_len 384 (l.map fun x => x.1.toNat * 64 + codeR x.2) (by
    rw [List.nodup_iff_pairwise_ne, List.pairwise_map]
    refine (List.nodup_iff_pairwise_ne.1 h.nodup).imp_of_mem fun {x y} hx hy hxy e => hxy ?_
    have hx1 := h.univ x hx
    have hy1 := h.univ y hy
    have c1 := codeR_lt hx1.2
    have c2 := codeR_lt hy1.2
    have e1 : x.1.toNat = y.1.toNat := by omega
    have e2 : codeR x.2 = codeR y.2 := by omega
    exact Prod.ext (by have := hx1.1; have := hy1.1; omega) (codeR_inj hx1.2 hy1.2 e2)) fun n hn => by
    obtain ⟨x, hx, rfl⟩ := List.mem_map.1 hn
    have hx1 := h.univ x hx
    have := codeR_lt hx1.2
    have := hx1.1
    omega
  simpa using this
section
variable {m s : Mach} (hm : m.May) (h6 : m.states ≤ 6) (hs : ∀ l e, IsRow l 6 → IsRow (stepL s l e) 6)
include hm h6 hs
theorem GoodPl.add {l : List Pl} (h : GoodPl l) {seen : List Int} {x : Pl} (hx : UPl x) {a : Arr} (ha : a ∈ m.arrows) : GoodPl (wAddP s seen x l a) := by
  unfold wAddP
  split
  · have := May.arr hm ha
    exact h.put ⟨⟨this.2.1.1, by have := this.2.1.2; simp only; omega⟩, hs _ _ hx.2⟩
  · exact h
theorem GoodPl.part {l : List Pl} (h : GoodPl l) {seen : List Int} {x : Pl} (hx : UPl x) (i : Nat) : GoodPl (wPartP m s seen x l i) := by
  unfold wPartP
  have key : ∀ (t : List Arr) (l : List Pl), (∀ a ∈ t, a ∈ m.arrows) → GoodPl l → GoodPl (t.foldl (wAddP s seen x) l) := by
    intro t
    induction t with
    | nil => exact fun l _ h => h
    | cons a t ih => exact fun l ht h => ih _ (fun b hb => ht b (List.mem_cons_of_mem _ hb)) (h.add hm h6 hs hx (ht a (List.mem_cons_self ..)))
  exact key _ _ (fun a ha => List.mem_of_mem_take ha) h
theorem GoodPl.iter {l0 : List Pl} (h : GoodPl l0) {seen : List Int} : ∀ k, GoodPl (wIterP m s seen l0 k)
  | 0 => h
  | k + 1 => by
    have ih := GoodPl.iter h (seen := seen) k
    cases hx : (wIterP m s seen l0 k)[k]? with
    | none =>
      have : wIterP m s seen l0 (k + 1) = wIterP m s seen l0 k := by
        show (match (wIterP m s seen l0 k)[k]? with | some x => wOneP m s seen x (wIterP m s seen l0 k) | none => wIterP m s seen l0 k) = _
        rw [hx]
      rw [this]; exact ih
    | some x =>
      rw [wIterP_succ hx, ← wPartP_all]
      exact ih.part hm h6 hs (ih.univ x (List.mem_of_getElem? hx)) _
end

/-- What an event leads to. -/
def sAddP (s : Mach) (e : Int) (x : Pl) (l : List Pl) (a : Arr) : List Pl := if a.frm = x.1 ∧ a.evt = e then putP l (a.to_, stepL s x.2 e) else l
def sPartP (m s : Mach) (e : Int) (x : Pl) (l : List Pl) (i : Nat) : List Pl := (m.arrows.take i).foldl (sAddP s e x) l
def sUptoP (m s : Mach) (e : Int) (l : List Pl) (k : Nat) : List Pl := (l.take k).foldl (fun out x => sPartP m s e x out m.arrows.length) []
theorem sPartP_zero (m s : Mach) (e : Int) (x : Pl) (l : List Pl) : sPartP m s e x l 0 = l := rfl
theorem sPartP_succ {m s : Mach} {e : Int} {x : Pl} {l : List Pl} {i : Nat} (h : i < m.arrows.length) : sPartP m s e x l (i + 1) = sAddP s e x (sPartP m s e x l i) (m.arrows.getD i default) := by
  unfold sPartP
  rw [take_snoc m.arrows default i h, List.foldl_append]; rfl
theorem sUptoP_succ {m s : Mach} {e : Int} {l : List Pl} {k : Nat} {x : Pl} (h : l[k]? = some x) : sUptoP m s e l (k + 1) = sPartP m s e x (sUptoP m s e l k) m.arrows.length := by
  unfold sUptoP
  have hk : k < l.length := getElem?_lt h
  rw [List.take_succ_eq_append_getElem hk, List.foldl_append]
  rw [List.getElem?_eq_getElem hk] at h
  rw [Option.some.inj h]; rfl
section
variable {m s : Mach} (hm : m.May) (h6 : m.states ≤ 6) (hs : ∀ l e, IsRow l 6 → IsRow (stepL s l e) 6)
include hm h6 hs
theorem GoodPl.sadd {l : List Pl} (h : GoodPl l) {e : Int} {x : Pl} (hx : UPl x) {a : Arr} (ha : a ∈ m.arrows) : GoodPl (sAddP s e x l a) := by
  unfold sAddP
  split
  · have := May.arr hm ha
    exact h.put ⟨⟨this.2.1.1, by have := this.2.1.2; simp only; omega⟩, hs _ _ hx.2⟩
  · exact h
theorem GoodPl.spart {l : List Pl} (h : GoodPl l) {e : Int} {x : Pl} (hx : UPl x) (i : Nat) : GoodPl (sPartP m s e x l i) := by
  unfold sPartP
  have key : ∀ (t : List Arr) (l : List Pl), (∀ a ∈ t, a ∈ m.arrows) → GoodPl l → GoodPl (t.foldl (sAddP s e x) l) := by
    intro t
    induction t with
    | nil => exact fun l _ h => h
    | cons a t ih => exact fun l ht h => ih _ (fun b hb => ht b (List.mem_cons_of_mem _ hb)) (h.sadd hm h6 hs hx (ht a (List.mem_cons_self ..)))
  exact key _ _ (fun a ha => List.mem_of_mem_take ha) h
theorem GoodPl.supto {l : List Pl} (hl : ∀ x ∈ l, UPl x) {e : Int} (k : Nat) : GoodPl (sUptoP m s e l k) := by
  unfold sUptoP
  have key : ∀ (t : List Pl) (o : List Pl), (∀ x ∈ t, UPl x) → GoodPl o → GoodPl (t.foldl (fun out x => sPartP m s e x out m.arrows.length) o) := by
    intro t
    induction t with
    | nil => exact fun o _ h => h
    | cons x t ih => exact fun o ht h => ih _ (fun y hy => ht y (List.mem_cons_of_mem _ hy)) (h.spart hm h6 hs (ht x (List.mem_cons_self ..)) _)
  exact key _ _ (fun x hx => hl x (List.mem_of_mem_take hx)) ⟨List.nodup_nil, fun x hx => absurd hx (by simp)⟩
end

structure Atp where
  M : Int
  R : Option Addr
  cr : Nat
  s : List Int
def Atp.cells (p : Atp) : List Value := [.int .i64 p.M, .slice p.R p.s.length p.cr]
def Atp.abs (p : Atp) : Int × List Int := (p.M, p.s)
theorem atEnc : Enc Atp.cells 2 := ⟨fun _ => rfl, fun p u hu => by
  unfold Atp.cells at hu
  simp only [List.mem_cons, List.not_mem_nil, or_false] at hu
  rcases hu with rfl | rfl <;> rfl⟩
theorem one_at (x : Atp) : (Atp.cells x).all (·.oneCell') = true := List.all_eq_true.2 (atEnc.one x)
theorem e2_at (x : Atp) : tySize Tryd.prog 99 = some (Atp.cells x).length := ty_sz_99
section
variable {K : Fr → World → Prop} {u : World} {f : Fr} {d : Option Nat} {w : World} {g t ty : Nat} {p : Atp}
theorem Blk.at0 (h : Blk u g t (Atp.cells p)) (ht : tyAgg Tryd.prog ty = some false) : Val1 Tryd.prog K (Instr.loadAt ty (.pointer (some ⟨g, 0, none⟩))) u f d w = K (updO f d (.int .i64 p.M)) w := h.ld ht 0 (by simp [Atp.cells])
theorem Blk.at1 (h : Blk u g t (Atp.cells p)) (ht : tyAgg Tryd.prog ty = some false) : Val1 Tryd.prog K (Instr.loadAt ty (.pointer (some ⟨g, 1, none⟩))) u f d w = K (updO f d (.slice p.R p.s.length p.cr)) w := h.ld ht 1 (by simp [Atp.cells])
end
/-- A place that can be read. -/
structure AtAt (B : Nat) (w : World) (p : Atp) : Prop where
  r : RowT B 3 w p.R p.s
  n : p.s.length ≤ 256
theorem AtAt.below {B : Nat} {w w' : World} {p : Atp} (h : AtAt B w p) (b : Below w.heap.size w w') : AtAt B w' p := ⟨h.r.below b, h.n⟩
theorem AtAt.grew {B e' sz c n : Nat} {w w' : World} {p : Atp} {A2 : Option Addr} {xs : List Value} (h : AtAt B w p) (ho : Own B e' sz w A2 c n xs) (hne : e' ≠ 3) (hg : Grew w w' A2) : AtAt B w' p := ⟨h.r.grew ho hne hg, h.n⟩
theorem ref12_has {w : World} {L : Option Addr} {c : Nat} {ps : List Atp} (hR : Recs Atp.cells 2 (· < w.heap.size) w L ps) (hn : ps.length ≤ 100000) (hg : ∀ p ∈ ps, Ints (· < w.heap.size) w p.R p.s ∧ p.s.length ≤ 256) {x : Atp} (hx : Ints (· < w.heap.size) w x.R x.s) :
    Cal Tryd.prog 101 [.slice L ps.length c, .agg x.cells.toArray] w fun v w' => v = .bool (decide (x.abs ∈ ps.map Atp.abs)) ∧ Below w.heap.size w w' := by
  refine cal_ref12_has (by simp) 100000 fun Q hQ => ?_
  simp (disch := first | with_reducible assumption | omega) only [push_cast, x_blk, x_cd, ↓reduceIte, Nat.reduceEqDiff, List.map_cons, List.map_nil, Int.reduceEq, Int.lt_irrefl, F_ref12_has]
  refine blk_of (box_agg _ (Atp.cells x)) ?_
  intro w1 k1 b1 z1
  simp (disch := first | with_reducible assumption | omega) only [push_cast, x_blk, x_cd, ↓reduceIte, Nat.reduceEqDiff, List.map_cons, List.map_nil, Int.reduceEq, Int.lt_irrefl]
  refine loop_rule (fun f w' => ∃ k : Nat, k ≤ ps.length ∧ (f 0 = .slice L ps.length c ∧ f 3 = .pointer (some ⟨w.heap.size, 0, none⟩) ∧ f 5 = .int .i64 k) ∧ (∀ (i : Nat) (p : Atp), i < k → ps[i]? = some p → p.abs ≠ x.abs) ∧ Below w1.heap.size w1 w')
    (fun f _ => ps.length - (intOf (f 5)).toNat) ⟨0, Nat.zero_le _, ⟨rfl, rfl, rfl⟩, fun i p hi => absurd hi (by omega), Below.refl _ _⟩ ?_
  rintro f w2 ⟨k, hk, fr, hp, b2⟩ J hJ
  by_cases hlt : k < ps.length
  case neg =>
    have r : decide (x.abs ∈ ps.map Atp.abs) = false := decide_eq_false fun h => by
      obtain ⟨p, hp1, hp2⟩ := List.mem_map.1 h
      obtain ⟨i, hi, hpi⟩ := List.getElem_of_mem hp1
      exact hp i p (by omega) (by rw [List.getElem?_eq_getElem hi, hpi]) hp2
    simp (disch := first | with_reducible assumption | omega) only [push_cast, x_blk, x_cd, ↓reduceIte, Nat.reduceEqDiff, List.map_cons, List.map_nil, Int.reduceEq, Int.lt_irrefl, L_ref12_has_0, fr, hlt]
    exact fin_1 (hQ _ _ ⟨(by simp only [push_cast, ↓reduceIte, Nat.reduceEqDiff, Int.reduceEq, r]), b1.trans (b2.mono b1.size)⟩)
  have hpk : ps[k]? = some (ps[k]'hlt) := List.getElem?_eq_getElem hlt
  have hmem : ps[k]'hlt ∈ ps := List.getElem_mem hlt
  generalize ps[k]'hlt = p at hpk hmem
  obtain ⟨ga, na⟩ := hg p hmem
  have bd : Below w1.heap.size w1 w2.drew := drawn b2
  have bw := b1.trans (bd.mono b1.size)
  have hR1 := hR.below bw
  have hA := hR1.isSome (by omega)
  have k2 := k1.below bd k1.lt
  have l0 := fun {K : Fr → World → Prop} {f : Fr} {d : Option Nat} {w' : World} => hR1.ld (P := Tryd.prog) (K := K) (f := f) (d := d) (w := w') ty_ag_3 hpk (j := 0) (v := .int .i64 p.M) rfl
  have l1 := fun {K : Fr → World → Prop} {f : Fr} {d : Option Nat} {w' : World} => hR1.ld (P := Tryd.prog) (K := K) (f := f) (d := d) (w := w') ty_ag_22 hpk (j := 1) (v := .slice p.R p.s.length p.cr) rfl
  by_cases c0 : p.M = x.M
  case neg =>
    simp (disch := first | with_reducible assumption | omega) only [push_cast, x_blk, x_cd, ↓reduceIte, Nat.reduceEqDiff, List.map_cons, List.map_nil, Int.reduceEq, Int.lt_irrefl, L_ref12_has_0, fr, hlt, l0, k2.at0 ty_ag_3, c0]
    exact hJ _ _ ⟨k + 1, hlt, (by simp only [push_cast, ↓reduceIte, Nat.reduceEqDiff, true_and, and_true, and_self, eq_self, fr]), fun i p' hi hpi hh => by
      by_cases e : i = k
      · subst e; rw [hpk] at hpi; obtain rfl := Option.some.inj hpi; exact c0 (congrArg Prod.fst hh)
      · exact hp i p' (by omega) hpi hh, bd⟩ (by simp only [push_cast, ↓reduceIte, Nat.reduceEqDiff, intOf, fr]; omega)
  simp (disch := first | with_reducible assumption | omega) only [push_cast, x_blk, x_cd, ↓reduceIte, Nat.reduceEqDiff, List.map_cons, List.map_nil, Int.reduceEq, Int.lt_irrefl, L_ref12_has_0, fr, hlt, l0, l1, k2.at0 ty_ag_3, k2.at1 ty_ag_22, eq_true c0]
  refine call_of (ref1_Same (ga.up bw) (hx.up bw) p.cr x.cr (by omega)) ?_
  rintro v w3 ⟨rfl, s3⟩
  have b3 := bd.trans (s3.below _)
  by_cases c1 : p.s = x.s
  · have r : decide (x.abs ∈ ps.map Atp.abs) = true := decide_eq_true (List.mem_map.2 ⟨p, hmem, by unfold Atp.abs; rw [c0, c1]⟩)
    simp (disch := first | with_reducible assumption | omega) only [push_cast, x_blk, x_cd, ↓reduceIte, Nat.reduceEqDiff, List.map_cons, List.map_nil, Int.reduceEq, Int.lt_irrefl, c1, eq_self]
    exact fin_1 (hQ _ _ ⟨(by simp only [push_cast, ↓reduceIte, Nat.reduceEqDiff, Int.reduceEq, r]), b1.trans (b3.mono b1.size)⟩)
  · simp (disch := first | with_reducible assumption | omega) only [push_cast, x_blk, x_cd, ↓reduceIte, Nat.reduceEqDiff, List.map_cons, List.map_nil, Int.reduceEq, Int.lt_irrefl, c1, fr]
    exact hJ _ _ ⟨k + 1, hlt, (by simp only [push_cast, ↓reduceIte, Nat.reduceEqDiff, true_and, and_true, and_self, eq_self, fr]), fun i p' hi hpi hh => by
      by_cases e : i = k
      · subst e; rw [hpk] at hpi; obtain rfl := Option.some.inj hpi; exact c1 (congrArg Prod.snd hh)
      · exact hp i p' (by omega) hpi hh, b3⟩ (by simp only [push_cast, ↓reduceIte, Nat.reduceEqDiff, intOf, fr]; omega)
/-- As many, and the ones are all among the others. -/
def SameP (a b : List (Int × List Int)) : Prop := a.length = b.length ∧ ∀ x ∈ a, x ∈ b
instance (a b : List (Int × List Int)) : Decidable (SameP a b) := by unfold SameP; exact inferInstance
theorem blt_at : builtPl Tryd.prog 99 = some ([(0, 1), (1, 1)], [.int .i64 0, .slice none 0 0]) := by kernel_rfl
theorem bl_at {K : Fr → World → Prop} {u : World} {f : Fr} {d : Option Nat} {w : World} (p : Atp) :
    Val1 Tryd.prog K (Instr.build 99 #[(0, .int .i64 p.M), (1, .slice p.R p.s.length p.cr)]) u f d w = K (updO f d (.agg p.cells.toArray)) w := by
  have := bld_2 (P := Tryd.prog) (K := K) (u := u) (f := f) (d := d) (w := w) blt_at rfl rfl rfl (v0 := .int .i64 p.M) (v1 := .slice p.R p.s.length p.cr) rfl rfl
  rw [this]; rfl
theorem one_arr (a : Arr) : (arrCells a).all (·.oneCell') = true := rfl
theorem ref12_wide {B B2 : Nat} {w : World} (hB : B ≤ w.heap.size) (hB2 : B2 ≤ B) {am sv : MV} {m s : Mach} (hm : IsM (· < B) w am m) (fm : m.Fits) (hs : IsM (· < B) w sv s) (fs : s.Fits) (pm : m.May) (h6 : m.states ≤ 6) (hst : ∀ l e, IsRow l 6 → IsRow (stepL s l e) 6)
    {A1 : Option Addr} {c1 : Nat} {seen : List Int} (h1 : Ints (· < B) w A1 seen) (n1 : seen.length ≤ 17592186043904)
    {L : Option Addr} {c : Nat} {ps0 : List Atp} (ho : OwnR Atp.cells B 99 2 w L c ps0) (hg : ∀ x ∈ ps0, AtAt B2 w x) (hgp : GoodPl (ps0.map Atp.abs)) :
    Cal Tryd.prog 100 [am.val m, sv.val s, .slice A1 seen.length c1, .slice L ps0.length c] w fun v w' => ∃ (ps : List Atp) (L' : Option Addr) (c' : Nat), v = .slice L' ps.length c' ∧ ps.map Atp.abs = wIterP m s seen (ps0.map Atp.abs) ps.length ∧
      OwnR Atp.cells B 99 2 w' L' c' ps ∧ (∀ x ∈ ps, AtAt B2 w' x) ∧ Below B w w' := by
  have nA := fm.lenA
  have good := fun k => GoodPl.iter pm h6 hst hgp (seen := seen) k
  refine cal_ref12_wide (by simp) 100000 fun Q hQ => ?_
  simp (disch := first | with_reducible assumption | omega) only [push_cast, x_blk, x_cd, ↓reduceIte, Nat.reduceEqDiff, List.map_cons, List.map_nil, Int.reduceEq, Int.lt_irrefl, F_ref12_wide]
  refine blk_of (box_agg _ (am.cells m)) ?_
  intro w1 k1 b1 z1
  simp (disch := first | with_reducible assumption | omega) only [push_cast, x_blk, x_cd, ↓reduceIte, Nat.reduceEqDiff, List.map_cons, List.map_nil, Int.reduceEq, Int.lt_irrefl]
  refine blk_of (box_agg _ (sv.cells s)) ?_
  intro w2 k2 b2 z2
  replace k1 := k1.below b2 k1.lt
  have bb := b1.trans (b2.mono b1.size)
  have ho2 := ho.below bb (Nat.le_refl _)
  have hg2 : ∀ x ∈ ps0, AtAt B2 w2 x := fun x hx => (hg x hx).below bb
  simp (disch := first | with_reducible assumption | omega) only [push_cast, x_blk, x_cd, ↓reduceIte, Nat.reduceEqDiff, List.map_cons, List.map_nil, Int.reduceEq, Int.lt_irrefl]
  refine loop_rule (fun f w' => ∃ (k : Nat) (ps : List Atp) (L' : Option Addr) (c' : Nat), k ≤ ps.length ∧ (f 2 = .slice A1 seen.length c1 ∧ f 3 = .slice L' ps.length c' ∧ f 4 = .pointer (some ⟨w.heap.size, 0, none⟩) ∧ f 5 = .pointer (some ⟨w1.heap.size, 0, none⟩) ∧ f 9 = .int .i64 k) ∧ ps.map Atp.abs = wIterP m s seen (ps0.map Atp.abs) k ∧
      OwnR Atp.cells B 99 2 w' L' c' ps ∧ (∀ x ∈ ps, AtAt B2 w' x) ∧ Blk w' w.heap.size 25 (am.cells m) ∧ Blk w' w1.heap.size 25 (sv.cells s) ∧ Below B w w')
    (fun f _ => 385 - (intOf (f 9)).toNat) ⟨0, ps0, L, c, Nat.zero_le _, ⟨rfl, rfl, rfl, rfl, rfl⟩, rfl, ho2, hg2, k1, k2, bb.mono hB⟩ ?_
  clear k1 k2 bb ho2 hg2 ho hg b1 b2 z1 z2
  rintro f w3 ⟨k, ps, L', c', hk, fr, habs, ho, hg, k1, k2, bb⟩ J hJ
  have hpl : ps.length = (wIterP m s seen (ps0.map Atp.abs) k).length := by rw [← habs, List.length_map]
  have hp384 := (good k).len
  have hmu : (intOf (f 9)).toNat = k := by rw [fr.2.2.2.2]; simp [intOf]
  by_cases hlt : k < ps.length
  case neg =>
    obtain rfl : k = ps.length := by omega
    simp (disch := first | with_reducible assumption | omega) only [push_cast, x_blk, x_cd, ↓reduceIte, Nat.reduceEqDiff, List.map_cons, List.map_nil, Int.reduceEq, Int.lt_irrefl, L_ref12_wide_1, fr, Nat.lt_irrefl]
    exact fin_1 (hQ _ _ ⟨ps, L', c', (by simp only [push_cast, ↓reduceIte, Nat.reduceEqDiff, Int.reduceEq, fr]), habs, ho, hg, bb⟩)
  have hxk : ps[k]? = some (ps[k]'hlt) := List.getElem?_eq_getElem hlt
  generalize ps[k]'hlt = x at hxk
  have hx : (wIterP m s seen (ps0.map Atp.abs) k)[k]? = some x.abs := by rw [← habs, List.getElem?_map, hxk]; rfl
  have hxU := (good k).univ _ (List.mem_of_getElem? hx)
  have gpart := fun i => (good k).part pm h6 hst (seen := seen) hxU i
  simp (disch := first | with_reducible assumption | omega) only [push_cast, x_blk, x_cd, ↓reduceIte, Nat.reduceEqDiff, List.map_cons, List.map_nil, Int.reduceEq, Int.lt_irrefl, L_ref12_wide_1, fr, hlt]
  refine loop_rule (fun f' w' => ∃ (i : Nat) (ps : List Atp) (L' : Option Addr) (c' : Nat), i ≤ m.arrows.length ∧ (f' 2 = .slice A1 seen.length c1 ∧ f' 3 = .slice L' ps.length c' ∧ f' 4 = .pointer (some ⟨w.heap.size, 0, none⟩) ∧ f' 5 = .pointer (some ⟨w1.heap.size, 0, none⟩) ∧ f' 9 = .int .i64 k ∧ f' 10 = .int .i64 i) ∧ ps.map Atp.abs = wPartP m s seen x.abs (wIterP m s seen (ps0.map Atp.abs) k) i ∧
      OwnR Atp.cells B 99 2 w' L' c' ps ∧ (∀ x ∈ ps, AtAt B2 w' x) ∧ Blk w' w.heap.size 25 (am.cells m) ∧ Blk w' w1.heap.size 25 (sv.cells s) ∧ Below B w w')
    (fun f' _ => m.arrows.length - (intOf (f' 10)).toNat) ⟨0, ps, L', c', Nat.zero_le _, (by simp only [push_cast, ↓reduceIte, Nat.reduceEqDiff, true_and, and_true, and_self, eq_self, fr]), by rw [wPartP_zero]; exact habs, ho, hg, k1, k2, bb⟩ ?_
  clear ho hg k1 k2 bb habs fr hxk hlt hpl hk
  clear ps L' c'
  rintro f w4 ⟨i, ps, L', c', hi, fr, habs, ho, hg, k1, k2, bb⟩ J2 hJ2
  have hp384 := (gpart i).len
  rw [← habs, List.length_map] at hp384
  have hkl := getElem?_lt hx
  have hpre := foldP_prefix s seen x.abs (m.arrows.take i) (wIterP m s seen (ps0.map Atp.abs) k)
  have hlt : k < ps.length := by
    have := hpre.length_le
    have h2 : ps.length = (wPartP m s seen x.abs (wIterP m s seen (ps0.map Atp.abs) k) i).length := by rw [← habs, List.length_map]
    unfold wPartP at h2
    omega
  by_cases hit : i < m.arrows.length
  case neg =>
    obtain rfl : i = m.arrows.length := by omega
    rw [wPartP_all, ← wIterP_succ hx] at habs
    simp (disch := first | with_reducible assumption | omega) only [push_cast, x_blk, x_cd, ↓reduceIte, Nat.reduceEqDiff, List.map_cons, List.map_nil, Int.reduceEq, Int.lt_irrefl, L_ref12_wide_0, fr, Nat.lt_irrefl, k1.m3 ty_ag_23]
    exact hJ _ _ ⟨k + 1, ps, L', c', hlt, (by simp only [push_cast, ↓reduceIte, Nat.reduceEqDiff, true_and, and_true, and_self, eq_self, fr]), habs, ho, hg, k1, k2, bb⟩ (by rw [hmu]; simp only [push_cast, ↓reduceIte, Nat.reduceEqDiff, intOf, fr]; omega)
  have hmu2 : (intOf (f 10)).toNat = i := by rw [fr.2.2.2.2.2]; simp [intOf]
  have hyk : ps[k]? = some (ps[k]'hlt) := List.getElem?_eq_getElem hlt
  have hym : ps[k]'hlt ∈ ps := List.getElem_mem hlt
  generalize ps[k]'hlt = y at hyk hym
  have hyx : y.abs = x.abs := by
    have h1 : (ps.map Atp.abs)[k]? = some y.abs := by rw [List.getElem?_map, hyk]; rfl
    rw [habs] at h1
    unfold wPartP at h1
    rw [prefix_getElem? hpre hkl, hx] at h1
    exact (Option.some.inj h1).symm
  have hsucc := wPartP_succ (m := m) (s := s) (seen := seen) (x := x.abs) (l := wIterP m s seen (ps0.map Atp.abs) k) hit
  replace hsucc := hsucc.trans (congrArg (fun z => wAddP s seen z (wPartP m s seen x.abs (wIterP m s seen (ps0.map Atp.abs) k) i) (m.arrows.getD i default)) hyx.symm)
  have hmU := hm.below bb
  have hArs := hmU.arrows
  have hAA := hArs.isSome (by omega)
  have hlda := fun {K : Fr → World → Prop} {f : Fr} {d : Option Nat} {w : World} => hArs.ldA (P := Tryd.prog) (K := K) (f := f) (d := d) (w := w) ty_ag_91 ty_sz_91 i hit
  generalize m.arrows.getD i default = a at *
  simp (disch := first | with_reducible assumption | omega) only [push_cast, x_blk, x_cd, ↓reduceIte, Nat.reduceEqDiff, List.map_cons, List.map_nil, Int.reduceEq, Int.lt_irrefl, L_ref12_wide_0, fr, hit, k1.m3 ty_ag_23, hlda]
  refine blk_of (cs := arrCells ⟨0, 0, 0⟩) al_91 ?_
  intro w5 k5 b5 z5
  simp (disch := first | with_reducible assumption | omega) only [push_cast, x_blk, x_cd, ↓reduceIte, Nat.reduceEqDiff, List.map_cons, List.map_nil, Int.reduceEq, Int.lt_irrefl]
  refine sto_blk k5 (cs := arrCells a) ty_sz_91 rfl (one_arr _) ?_
  intro w6 k6 g6 z6
  have b46 := (g6.below b5 b5.size (by intro a ha; injection ha with ha; subst ha; exact Nat.le_refl _)).trans ((Same.refl w6).drew.below _)
  have k6d := k6.drew
  replace k1 := k1.below b46 k1.lt
  replace k2 := k2.below b46 k2.lt
  replace ho := ho.below b46 (Nat.le_refl _)
  replace hg : ∀ x ∈ ps, AtAt B2 w6.drew x := fun x hx => (hg x hx).below b46
  have hzB := bb.size
  replace bb := bb.trans (b46.mono (by omega))
  have hR := Recs.lt atEnc (by decide) (OwnR.recs ho atEnc (by decide))
  have hA := hR.isSome (by omega)
  have l0 := fun {K : Fr → World → Prop} {f : Fr} {d : Option Nat} {w' : World} => hR.ld (P := Tryd.prog) (K := K) (f := f) (d := d) (w := w') ty_ag_3 hyk (j := 0) (v := .int .i64 y.M) rfl
  have hz6 : w6.drew.heap.size = w6.heap.size := rfl
  by_cases c0 : a.frm = y.M
  case neg =>
    rw [show wAddP s seen y.abs (wPartP m s seen x.abs (wIterP m s seen (ps0.map Atp.abs) k) i) a = wPartP m s seen x.abs (wIterP m s seen (ps0.map Atp.abs) k) i from if_neg (fun hh => c0 hh.1)] at hsucc
    simp (disch := first | with_reducible assumption | omega) only [push_cast, x_blk, x_cd, ↓reduceIte, Nat.reduceEqDiff, List.map_cons, List.map_nil, Int.reduceEq, Int.lt_irrefl, fr, hit, hlt, k6d.a0 ty_ag_3, l0, c0]
    exact hJ2 _ _ ⟨i + 1, ps, L', c', hit, (by simp only [push_cast, ↓reduceIte, Nat.reduceEqDiff, true_and, and_true, and_self, eq_self, fr]), by rw [hsucc]; exact habs, ho, hg, k1, k2, bb⟩ (by rw [hmu2]; simp only [push_cast, ↓reduceIte, Nat.reduceEqDiff, intOf, fr]; omega)
  have hs7 := (h1.below bb).mono (ok' := (· < w6.drew.heap.size)) fun b hb => by have := bb.size; omega
  simp (disch := first | with_reducible assumption | omega) only [push_cast, x_blk, x_cd, ↓reduceIte, Nat.reduceEqDiff, List.map_cons, List.map_nil, Int.reduceEq, Int.lt_irrefl, fr, hit, hlt, k6d.a0 ty_ag_3, k6d.a1 ty_ag_3, l0, eq_true c0]
  refine call_of (ref1_Has hs7 c1 a.evt (by omega)) ?_
  rintro v w7 ⟨rfl, s7⟩
  replace k1 := k1.same s7
  replace k2 := k2.same s7
  replace k6d := k6d.same s7
  replace ho := ho.same s7
  replace hg : ∀ x ∈ ps, AtAt B2 w7 x := fun x hx => (hg x hx).below (s7.below _)
  replace bb := bb.trans (s7.below _)
  by_cases q1 : a.evt ∈ seen
  case pos =>
    rw [show wAddP s seen y.abs (wPartP m s seen x.abs (wIterP m s seen (ps0.map Atp.abs) k) i) a = wPartP m s seen x.abs (wIterP m s seen (ps0.map Atp.abs) k) i from if_neg (fun hh => hh.2 q1)] at hsucc
    simp (disch := first | with_reducible assumption | omega) only [push_cast, x_blk, x_cd, ↓reduceIte, Nat.reduceEqDiff, List.map_cons, List.map_nil, Int.reduceEq, Int.lt_irrefl, decide_eq_true q1, fr]
    exact hJ2 _ _ ⟨i + 1, ps, L', c', hit, (by simp only [push_cast, ↓reduceIte, Nat.reduceEqDiff, true_and, and_true, and_self, eq_self, fr]), by rw [hsucc]; exact habs, ho, hg, k1, k2, bb⟩ (by rw [hmu2]; simp only [push_cast, ↓reduceIte, Nat.reduceEqDiff, intOf, fr]; omega)
  rw [show wAddP s seen y.abs (wPartP m s seen x.abs (wIterP m s seen (ps0.map Atp.abs) k) i) a = putP (wPartP m s seen x.abs (wIterP m s seen (ps0.map Atp.abs) k) i) (a.to_, stepL s y.s a.evt) from if_pos ⟨c0, q1⟩] at hsucc
  have sd7 : Same w7 w7.drew := (Same.refl w7).drew
  replace k1 := k1.same sd7
  replace k2 := k2.same sd7
  replace k6d := k6d.same sd7
  replace ho := ho.same sd7
  replace hg : ∀ x ∈ ps, AtAt B2 w7.drew x := fun x hx => (hg x hx).below (sd7.below _)
  replace bb := bb.trans (sd7.below _)
  have hR7 := Recs.lt atEnc (by decide) (OwnR.recs ho atEnc (by decide))
  have hA7 := hR7.isSome (by omega)
  have l1 := fun {K : Fr → World → Prop} {f : Fr} {d : Option Nat} {w' : World} => hR7.ld (P := Tryd.prog) (K := K) (f := f) (d := d) (w := w') ty_ag_22 hyk (j := 1) (v := .slice y.R y.s.length y.cr) rfl
  have gy := hg y hym
  have ny := gy.n
  have hsU : IsM (· < w7.drew.heap.size) w7.drew sv s := (hs.below bb).mono fun b hb => by have := bb.size; omega
  simp (disch := first | with_reducible assumption | omega) only [push_cast, x_blk, x_cd, ↓reduceIte, Nat.reduceEqDiff, List.map_cons, List.map_nil, Int.reduceEq, Int.lt_irrefl, decide_eq_false q1, fr, hlt, l1, k2.mA ty_ag_25 ty_sz_25, k6d.a1 ty_ag_3]
  refine call_of (ref2_Step hsU fs gy.r.lt (by omega) a.evt) ?_
  rintro v w8 ⟨X, cx, rfl, ox, b8⟩
  have hz7 := bb.size
  replace k1 := k1.below b8 k1.lt
  replace k2 := k2.below b8 k2.lt
  replace k6d := k6d.below b8 k6d.lt
  replace ho := ho.below b8 (Nat.le_refl _)
  replace hg : ∀ x ∈ ps, AtAt B2 w8 x := fun x hx => (hg x hx).below b8
  replace bb := bb.trans (b8.mono (by omega))
  have hxl : (stepL s y.s a.evt).length ≤ 256 := by
    have hr := hst y.s a.evt (by have := hxU.2; rw [← hyx] at this; exact this)
    exact small_len hr.strict (hr.small (by decide))
  have rX := RowT.of_own (B := B2) ox
  clear ox
  generalize stepL s y.s a.evt = t at *
  simp (disch := first | with_reducible assumption | omega) only [push_cast, x_blk, x_cd, ↓reduceIte, Nat.reduceEqDiff, List.map_cons, List.map_nil, Int.reduceEq, Int.lt_irrefl, fr, k6d.a2 ty_ag_3, bl_at ⟨a.to_, X, cx, t⟩]
  refine blk_of (cs := Atp.cells ⟨0, none, 0, []⟩) al_99 ?_
  intro w9 k9 b9 z9
  simp (disch := first | with_reducible assumption | omega) only [push_cast, x_blk, x_cd, ↓reduceIte, Nat.reduceEqDiff, List.map_cons, List.map_nil, Int.reduceEq, Int.lt_irrefl]
  refine sto_blk k9 (cs := Atp.cells ⟨a.to_, X, cx, t⟩) (e2_at _) rfl (one_at _) ?_
  intro w10 k10 g10 z10
  have b810 := g10.below b9 b9.size (by intro a ha; injection ha with ha; subst ha; exact Nat.le_refl _)
  have hz8 := bb.size
  have hne10 : L'.map (·.block) ≠ some w8.heap.size := fun e => by have := ho.ltB e.symm; omega
  replace k1 := k1.below b810 k1.lt
  replace k2 := k2.below b810 k2.lt
  replace ho := ho.below b810 (Nat.le_refl _)
  replace hg : ∀ x ∈ ps, AtAt B2 w10 x := fun x hx => (hg x hx).below b810
  replace rX := rX.below b810
  replace bb := bb.trans (b810.mono (by omega))
  have hld10 := fun {w' : World} (h : Blk w' w8.heap.size 99 (Atp.cells ⟨a.to_, X, cx, t⟩)) {K : Fr → World → Prop} {f : Fr} {d : Option Nat} {w : World} => h.ldAll (P := Tryd.prog) (K := K) (f := f) (d := d) (w := w) ty_ag_99 (e2_at _)
  simp (disch := first | with_reducible assumption | omega) only [push_cast, x_blk, x_cd, ↓reduceIte, Nat.reduceEqDiff, List.map_cons, List.map_nil, Int.reduceEq, Int.lt_irrefl, fr, hld10 k10]
  refine call_of (ref12_has (x := ⟨a.to_, X, cx, t⟩) (Recs.lt atEnc (by decide) (OwnR.recs ho atEnc (by decide))) (by omega) (fun q hq => ⟨(hg q hq).r.lt, (hg q hq).n⟩) rX.lt) ?_
  rintro v w11 ⟨rfl, b11⟩
  have hz10 := bb.size
  replace k1 := k1.below b11 k1.lt
  replace k2 := k2.below b11 k2.lt
  replace k10 := k10.below b11 k10.lt
  replace ho := ho.below b11 (Nat.le_refl _)
  replace hg : ∀ x ∈ ps, AtAt B2 w11 x := fun x hx => (hg x hx).below b11
  replace rX := rX.below b11
  replace bb := bb.trans (b11.mono (by omega))
  have hab : (⟨a.to_, X, cx, t⟩ : Atp).abs = (a.to_, t) := rfl
  rw [hab, habs]
  by_cases q2 : (a.to_, t) ∈ wPartP m s seen x.abs (wIterP m s seen (ps0.map Atp.abs) k) i
  · rw [show putP (wPartP m s seen x.abs (wIterP m s seen (ps0.map Atp.abs) k) i) (a.to_, t) = wPartP m s seen x.abs (wIterP m s seen (ps0.map Atp.abs) k) i from if_pos q2] at hsucc
    simp (disch := first | with_reducible assumption | omega) only [push_cast, x_blk, x_cd, ↓reduceIte, Nat.reduceEqDiff, List.map_cons, List.map_nil, Int.reduceEq, Int.lt_irrefl, decide_eq_true q2, fr]
    exact hJ2 _ _ ⟨i + 1, ps, L', c', hit, (by simp only [push_cast, ↓reduceIte, Nat.reduceEqDiff, true_and, and_true, and_self, eq_self, fr]), by rw [hsucc]; exact habs, ho, hg, k1, k2, bb⟩ (by rw [hmu2]; simp only [push_cast, ↓reduceIte, Nat.reduceEqDiff, intOf, fr]; omega)
  · rw [show putP (wPartP m s seen x.abs (wIterP m s seen (ps0.map Atp.abs) k) i) (a.to_, t) = wPartP m s seen x.abs (wIterP m s seen (ps0.map Atp.abs) k) i ++ [(a.to_, t)] from if_neg q2] at hsucc
    simp (disch := first | with_reducible assumption | omega) only [push_cast, x_blk, x_cd, ↓reduceIte, Nat.reduceEqDiff, List.map_cons, List.map_nil, Int.reduceEq, Int.lt_irrefl, decide_eq_false q2, fr, hld10 k10, bs_rec atEnc slT_48 _ (by decide)]
    refine app_rec atEnc slT_48 ho ⟨a.to_, X, cx, t⟩ (by omega) (by omega) (by have := bb.size; omega) ?_
    intro A15 c15 w15 oR g15 hA15 hs15 z15
    simp (disch := first | with_reducible assumption | omega) only [push_cast, x_blk, x_cd, ↓reduceIte, Nat.reduceEqDiff, List.map_cons, List.map_nil, Int.reduceEq, Int.lt_irrefl, fr]
    refine hJ2 _ _ ⟨i + 1, ps ++ [⟨a.to_, X, cx, t⟩], A15, c15, hit, (by simp only [push_cast, ↓reduceIte, Nat.reduceEqDiff, true_and, and_true, and_self, eq_self, fr, List.length_append, List.length_cons, List.length_nil]), by rw [hsucc, List.map_append, habs]; rfl, oR, fun r hr => ?_, k1.grown g15.by_ (ho.ne_blk k1 (by decide)).symm, k2.grown g15.by_ (ho.ne_blk k2 (by decide)).symm, g15.below bb (by have := bb.size; omega) ho.geB⟩ (by rw [hmu2]; simp only [push_cast, ↓reduceIte, Nat.reduceEqDiff, intOf, fr]; omega)
    rcases List.mem_append.1 hr with hr | hr
    · exact (hg r hr).grew (ho.base hB2) (by decide) g15
    · rw [List.mem_singleton.1 hr]
      exact ⟨rX.grew (ho.base hB2) (by decide) g15, hxl⟩
theorem ref12_step {w : World} {am sv : MV} {m s : Mach} (hm : IsM (· < w.heap.size) w am m) (fm : m.Fits) (hs : IsM (· < w.heap.size) w sv s) (fs : s.Fits) (pm : m.May) (h6 : m.states ≤ 6) (hst : ∀ l e, IsRow l 6 → IsRow (stepL s l e) 6)
    {A1 : Option Addr} {c1 : Nat} {seen : List Int} (h1 : Ints (· < w.heap.size) w A1 seen) (n1 : seen.length ≤ 17592186043904)
    {L0 : Option Addr} {c0 : Nat} {ps0 : List Atp} (hR0 : Recs Atp.cells 2 (· < w.heap.size) w L0 ps0) (n0 : ps0.length ≤ 100000) (hg0 : ∀ x ∈ ps0, Ints (· < w.heap.size) w x.R x.s ∧ x.s.length ≤ 256) (hU0 : ∀ x ∈ ps0.map Atp.abs, UPl x) (e : Int) :
    Cal Tryd.prog 66 [am.val m, sv.val s, .slice A1 seen.length c1, .slice L0 ps0.length c0, .int .i64 e] w fun v w' => ∃ (ps : List Atp) (L' : Option Addr) (c' : Nat), v = .slice L' ps.length c' ∧ ps.map Atp.abs = wIterP m s seen (sUptoP m s e (ps0.map Atp.abs) ps0.length) ps.length ∧
      OwnR Atp.cells w.heap.size 99 2 w' L' c' ps ∧ (∀ x ∈ ps, AtAt 0 w' x) ∧ Below w.heap.size w w' := by
  have nA := fm.lenA
  have good := fun k => GoodPl.supto pm h6 hst hU0 (e := e) k
  refine cal_ref12_step (by simp) 100000 fun Q hQ => ?_
  simp (disch := first | with_reducible assumption | omega) only [push_cast, x_blk, x_cd, ↓reduceIte, Nat.reduceEqDiff, List.map_cons, List.map_nil, Int.reduceEq, Int.lt_irrefl, F_ref12_step]
  refine blk_of (box_agg _ (am.cells m)) ?_
  intro w1 k1 b1 z1
  simp (disch := first | with_reducible assumption | omega) only [push_cast, x_blk, x_cd, ↓reduceIte, Nat.reduceEqDiff, List.map_cons, List.map_nil, Int.reduceEq, Int.lt_irrefl]
  refine blk_of (box_agg _ (sv.cells s)) ?_
  intro w2 k2 b2 z2
  replace k1 := k1.below b2 k1.lt
  have bb := b1.trans (b2.mono b1.size)
  simp (disch := first | with_reducible assumption | omega) only [push_cast, x_blk, x_cd, ↓reduceIte, Nat.reduceEqDiff, List.map_cons, List.map_nil, Int.reduceEq, Int.lt_irrefl]
  refine loop_rule (fun f w' => ∃ (k : Nat) (ps : List Atp) (L' : Option Addr) (c' : Nat), k ≤ ps0.length ∧ (f 2 = .slice A1 seen.length c1 ∧ f 3 = .slice L0 ps0.length c0 ∧ f 4 = .int .i64 e ∧ f 5 = .pointer (some ⟨w.heap.size, 0, none⟩) ∧ f 6 = .pointer (some ⟨w1.heap.size, 0, none⟩) ∧ f 11 = .slice L' ps.length c' ∧ f 12 = .int .i64 k) ∧ ps.map Atp.abs = sUptoP m s e (ps0.map Atp.abs) k ∧
      OwnR Atp.cells w.heap.size 99 2 w' L' c' ps ∧ (∀ x ∈ ps, AtAt 0 w' x) ∧ Blk w' w.heap.size 25 (am.cells m) ∧ Blk w' w1.heap.size 25 (sv.cells s) ∧ Below w.heap.size w w')
    (fun f _ => ps0.length - (intOf (f 12)).toNat) ⟨0, [], none, 0, Nat.zero_le _, ⟨rfl, rfl, rfl, rfl, rfl, rfl, rfl⟩, rfl, Own.nil _ _ _ _, fun x hx => absurd hx (by simp), k1, k2, bb⟩ ?_
  clear k1 k2 bb b1 b2 z1 z2
  rintro f w3 ⟨k, ps, L', c', hk, fr, habs, ho, hg, k1, k2, bb⟩ J hJ
  have hp384 := (good k).len
  rw [← habs, List.length_map] at hp384
  have hmu : (intOf (f 12)).toNat = k := by rw [fr.2.2.2.2.2.2]; simp [intOf]
  by_cases hlt : k < ps0.length
  case neg =>
    obtain rfl : k = ps0.length := by omega
    simp (disch := first | with_reducible assumption | omega) only [push_cast, x_blk, x_cd, ↓reduceIte, Nat.reduceEqDiff, List.map_cons, List.map_nil, Int.reduceEq, Int.lt_irrefl, L_ref12_step_1, fr, Nat.lt_irrefl, k1.mA ty_ag_25 ty_sz_25, k2.mA ty_ag_25 ty_sz_25]
    refine call_of (ref12_wide (B := w.heap.size) (B2 := 0) bb.size (Nat.zero_le _) (hm.below bb) fm (hs.below bb) fs pm h6 hst (h1.below bb) n1 ho hg (by rw [habs]; exact good _)) ?_
    rintro v w4 ⟨ps', L2, c2, rfl, habs2, ho2, hg2, b4⟩
    rw [habs] at habs2
    simp (disch := first | with_reducible assumption | omega) only [push_cast, x_blk, x_cd, ↓reduceIte, Nat.reduceEqDiff, List.map_cons, List.map_nil, Int.reduceEq, Int.lt_irrefl]
    exact fin_1 (hQ _ _ ⟨ps', L2, c2, (by simp only [push_cast, ↓reduceIte, Nat.reduceEqDiff, Int.reduceEq, fr]), habs2, ho2, hg2, bb.trans b4⟩)
  have hxk : ps0[k]? = some (ps0[k]'hlt) := List.getElem?_eq_getElem hlt
  have hxm : ps0[k]'hlt ∈ ps0 := List.getElem_mem hlt
  generalize ps0[k]'hlt = y at hxk hxm
  have hx : (ps0.map Atp.abs)[k]? = some y.abs := by rw [List.getElem?_map, hxk]; rfl
  have hxU := hU0 _ (List.mem_of_getElem? hx)
  have gpart := fun i => (good k).spart pm h6 hst (e := e) hxU i
  obtain ⟨gy, ny⟩ := hg0 y hxm
  simp (disch := first | with_reducible assumption | omega) only [push_cast, x_blk, x_cd, ↓reduceIte, Nat.reduceEqDiff, List.map_cons, List.map_nil, Int.reduceEq, Int.lt_irrefl, L_ref12_step_1, fr, hlt, k1.m3 ty_ag_23]
  refine loop_rule (fun f' w' => ∃ (i : Nat) (ps : List Atp) (L' : Option Addr) (c' : Nat), i ≤ m.arrows.length ∧ (f' 2 = .slice A1 seen.length c1 ∧ f' 3 = .slice L0 ps0.length c0 ∧ f' 4 = .int .i64 e ∧ f' 5 = .pointer (some ⟨w.heap.size, 0, none⟩) ∧ f' 6 = .pointer (some ⟨w1.heap.size, 0, none⟩) ∧ f' 11 = .slice L' ps.length c' ∧ f' 12 = .int .i64 k ∧ f' 13 = .int .i64 i) ∧ ps.map Atp.abs = sPartP m s e y.abs (sUptoP m s e (ps0.map Atp.abs) k) i ∧
      OwnR Atp.cells w.heap.size 99 2 w' L' c' ps ∧ (∀ x ∈ ps, AtAt 0 w' x) ∧ Blk w' w.heap.size 25 (am.cells m) ∧ Blk w' w1.heap.size 25 (sv.cells s) ∧ Below w.heap.size w w')
    (fun f' _ => m.arrows.length - (intOf (f' 13)).toNat) ⟨0, ps, L', c', Nat.zero_le _, (by simp only [push_cast, ↓reduceIte, Nat.reduceEqDiff, true_and, and_true, and_self, eq_self, fr]), by rw [sPartP_zero]; exact habs, ho, hg, k1, k2, bb⟩ ?_
  clear ho hg k1 k2 bb habs fr hp384
  clear ps L' c'
  rintro f w4 ⟨i, ps, L', c', hi, fr, habs, ho, hg, k1, k2, bb⟩ J2 hJ2
  have hp384 := (gpart i).len
  rw [← habs, List.length_map] at hp384
  by_cases hit : i < m.arrows.length
  case neg =>
    obtain rfl : i = m.arrows.length := by omega
    rw [← sUptoP_succ hx] at habs
    simp (disch := first | with_reducible assumption | omega) only [push_cast, x_blk, x_cd, ↓reduceIte, Nat.reduceEqDiff, List.map_cons, List.map_nil, Int.reduceEq, Int.lt_irrefl, L_ref12_step_0, fr, Nat.lt_irrefl, k1.m3 ty_ag_23]
    exact hJ _ _ ⟨k + 1, ps, L', c', hlt, (by simp only [push_cast, ↓reduceIte, Nat.reduceEqDiff, true_and, and_true, and_self, eq_self, fr]), habs, ho, hg, k1, k2, bb⟩ (by rw [hmu]; simp only [push_cast, ↓reduceIte, Nat.reduceEqDiff, intOf, fr]; omega)
  have hmu2 : (intOf (f 13)).toNat = i := by rw [fr.2.2.2.2.2.2.2]; simp [intOf]
  have hsucc := sPartP_succ (m := m) (s := s) (e := e) (x := y.abs) (l := sUptoP m s e (ps0.map Atp.abs) k) hit
  have hArs := (hm.below bb).arrows
  have hAA := hArs.isSome (by omega)
  have hlda := fun {K : Fr → World → Prop} {f : Fr} {d : Option Nat} {w : World} => hArs.ldA (P := Tryd.prog) (K := K) (f := f) (d := d) (w := w) ty_ag_91 ty_sz_91 i hit
  generalize m.arrows.getD i default = a at *
  simp (disch := first | with_reducible assumption | omega) only [push_cast, x_blk, x_cd, ↓reduceIte, Nat.reduceEqDiff, List.map_cons, List.map_nil, Int.reduceEq, Int.lt_irrefl, L_ref12_step_0, fr, hit, k1.m3 ty_ag_23, hlda]
  refine blk_of (cs := arrCells ⟨0, 0, 0⟩) al_91 ?_
  intro w5 k5 b5 z5
  simp (disch := first | with_reducible assumption | omega) only [push_cast, x_blk, x_cd, ↓reduceIte, Nat.reduceEqDiff, List.map_cons, List.map_nil, Int.reduceEq, Int.lt_irrefl]
  refine sto_blk k5 (cs := arrCells a) ty_sz_91 rfl (one_arr _) ?_
  intro w6 k6 g6 z6
  have b46 := (g6.below b5 b5.size (by intro a ha; injection ha with ha; subst ha; exact Nat.le_refl _)).trans ((Same.refl w6).drew.below _)
  have k6d := k6.drew
  replace k1 := k1.below b46 k1.lt
  replace k2 := k2.below b46 k2.lt
  replace ho := ho.below b46 (Nat.le_refl _)
  replace hg : ∀ x ∈ ps, AtAt 0 w6.drew x := fun x hx => (hg x hx).below b46
  replace bb := bb.trans (b46.mono bb.size)
  have hR := hR0.below bb
  have hA := hR.isSome (by omega)
  have l0 := fun {K : Fr → World → Prop} {f : Fr} {d : Option Nat} {w' : World} => hR.ld (P := Tryd.prog) (K := K) (f := f) (d := d) (w := w') ty_ag_3 hxk (j := 0) (v := .int .i64 y.M) rfl
  by_cases q0 : a.frm = y.M
  case neg =>
    rw [show sAddP s e y.abs (sPartP m s e y.abs (sUptoP m s e (ps0.map Atp.abs) k) i) a = sPartP m s e y.abs (sUptoP m s e (ps0.map Atp.abs) k) i from if_neg (fun hh => q0 hh.1)] at hsucc
    simp (disch := first | with_reducible assumption | omega) only [push_cast, x_blk, x_cd, ↓reduceIte, Nat.reduceEqDiff, List.map_cons, List.map_nil, Int.reduceEq, Int.lt_irrefl, fr, hit, hlt, k6d.a0 ty_ag_3, l0, q0]
    exact hJ2 _ _ ⟨i + 1, ps, L', c', hit, (by simp only [push_cast, ↓reduceIte, Nat.reduceEqDiff, true_and, and_true, and_self, eq_self, fr]), by rw [hsucc]; exact habs, ho, hg, k1, k2, bb⟩ (by rw [hmu2]; simp only [push_cast, ↓reduceIte, Nat.reduceEqDiff, intOf, fr]; omega)
  by_cases q1 : a.evt = e
  case neg =>
    rw [show sAddP s e y.abs (sPartP m s e y.abs (sUptoP m s e (ps0.map Atp.abs) k) i) a = sPartP m s e y.abs (sUptoP m s e (ps0.map Atp.abs) k) i from if_neg (fun hh => q1 hh.2)] at hsucc
    simp (disch := first | with_reducible assumption | omega) only [push_cast, x_blk, x_cd, ↓reduceIte, Nat.reduceEqDiff, List.map_cons, List.map_nil, Int.reduceEq, Int.lt_irrefl, fr, hit, hlt, k6d.a0 ty_ag_3, k6d.a1 ty_ag_3, l0, eq_true q0, q1]
    exact hJ2 _ _ ⟨i + 1, ps, L', c', hit, (by simp only [push_cast, ↓reduceIte, Nat.reduceEqDiff, true_and, and_true, and_self, eq_self, fr]), by rw [hsucc]; exact habs, ho, hg, k1, k2, bb⟩ (by rw [hmu2]; simp only [push_cast, ↓reduceIte, Nat.reduceEqDiff, intOf, fr]; omega)
  rw [show sAddP s e y.abs (sPartP m s e y.abs (sUptoP m s e (ps0.map Atp.abs) k) i) a = putP (sPartP m s e y.abs (sUptoP m s e (ps0.map Atp.abs) k) i) (a.to_, stepL s y.s e) from if_pos ⟨q0, q1⟩] at hsucc
  have sd7 : Same w6.drew w6.drew.drew := (Same.refl w6.drew).drew
  have k1' := k1.same sd7
  have k2' := k2.same sd7
  have k6d' := k6d.same sd7
  have ho' := ho.same sd7
  have hg' : ∀ x ∈ ps, AtAt 0 w6.drew.drew x := fun x hx => (hg x hx).below (sd7.below _)
  have bb' := bb.trans (sd7.below _)
  have hR7 := hR0.below bb'
  have hA7 := hR7.isSome (by omega)
  have l1 := fun {K : Fr → World → Prop} {f : Fr} {d : Option Nat} {w' : World} => hR7.ld (P := Tryd.prog) (K := K) (f := f) (d := d) (w := w') ty_ag_22 hxk (j := 1) (v := .slice y.R y.s.length y.cr) rfl
  have hsU : IsM (· < w6.drew.drew.heap.size) w6.drew.drew sv s := hs.up bb'
  simp (disch := first | with_reducible assumption | omega) only [push_cast, x_blk, x_cd, ↓reduceIte, Nat.reduceEqDiff, List.map_cons, List.map_nil, Int.reduceEq, Int.lt_irrefl, fr, hit, hlt, k6d.a0 ty_ag_3, k6d.a1 ty_ag_3, l0, eq_true q0, eq_true q1, l1, k2'.mA ty_ag_25 ty_sz_25]
  clear k1 k2 k6d ho hg bb
  refine call_of (ref2_Step hsU fs (gy.up bb') (by omega) e) ?_
  rintro v w8 ⟨X, cx, rfl, ox, b8⟩
  have hz7 := bb'.size
  have k1 := k1'.below b8 k1'.lt
  have k2 := k2'.below b8 k2'.lt
  have k6d := k6d'.below b8 k6d'.lt
  have ho := ho'.below b8 (Nat.le_refl _)
  have hg : ∀ x ∈ ps, AtAt 0 w8 x := fun x hx => (hg' x hx).below b8
  have bb := bb'.trans (b8.mono hz7)
  clear k1' k2' k6d' ho' hg'
  have hxl : (stepL s y.s e).length ≤ 256 := by
    have hr := hst y.s e hxU.2
    exact small_len hr.strict (hr.small (by decide))
  have rX := RowT.of_own (B := 0) ox
  clear ox
  generalize stepL s y.s e = t at *
  simp (disch := first | with_reducible assumption | omega) only [push_cast, x_blk, x_cd, ↓reduceIte, Nat.reduceEqDiff, List.map_cons, List.map_nil, Int.reduceEq, Int.lt_irrefl, fr, k6d.a2 ty_ag_3, bl_at ⟨a.to_, X, cx, t⟩]
  refine blk_of (cs := Atp.cells ⟨0, none, 0, []⟩) al_99 ?_
  intro w9 k9 b9 z9
  simp (disch := first | with_reducible assumption | omega) only [push_cast, x_blk, x_cd, ↓reduceIte, Nat.reduceEqDiff, List.map_cons, List.map_nil, Int.reduceEq, Int.lt_irrefl]
  refine sto_blk k9 (cs := Atp.cells ⟨a.to_, X, cx, t⟩) (e2_at _) rfl (one_at _) ?_
  intro w10 k10 g10 z10
  have b810 := g10.below b9 b9.size (by intro a ha; injection ha with ha; subst ha; exact Nat.le_refl _)
  have hz8 := bb.size
  replace k1 := k1.below b810 k1.lt
  replace k2 := k2.below b810 k2.lt
  replace ho := ho.below b810 (Nat.le_refl _)
  replace hg : ∀ x ∈ ps, AtAt 0 w10 x := fun x hx => (hg x hx).below b810
  replace rX := rX.below b810
  replace bb := bb.trans (b810.mono hz8)
  have hld10 := fun {w' : World} (h : Blk w' w8.heap.size 99 (Atp.cells ⟨a.to_, X, cx, t⟩)) {K : Fr → World → Prop} {f : Fr} {d : Option Nat} {w : World} => h.ldAll (P := Tryd.prog) (K := K) (f := f) (d := d) (w := w) ty_ag_99 (e2_at _)
  simp (disch := first | with_reducible assumption | omega) only [push_cast, x_blk, x_cd, ↓reduceIte, Nat.reduceEqDiff, List.map_cons, List.map_nil, Int.reduceEq, Int.lt_irrefl, fr, hld10 k10]
  refine call_of (ref12_has (x := ⟨a.to_, X, cx, t⟩) (Recs.lt atEnc (by decide) (OwnR.recs ho atEnc (by decide))) (by omega) (fun q hq => ⟨(hg q hq).r.lt, (hg q hq).n⟩) rX.lt) ?_
  rintro v w11 ⟨rfl, b11⟩
  have hz10 := bb.size
  replace k1 := k1.below b11 k1.lt
  replace k2 := k2.below b11 k2.lt
  replace k10 := k10.below b11 k10.lt
  replace ho := ho.below b11 (Nat.le_refl _)
  replace hg : ∀ x ∈ ps, AtAt 0 w11 x := fun x hx => (hg x hx).below b11
  replace rX := rX.below b11
  replace bb := bb.trans (b11.mono hz10)
  have hab : (⟨a.to_, X, cx, t⟩ : Atp).abs = (a.to_, t) := rfl
  rw [hab, habs]
  by_cases q2 : (a.to_, t) ∈ sPartP m s e y.abs (sUptoP m s e (ps0.map Atp.abs) k) i
  · rw [show putP (sPartP m s e y.abs (sUptoP m s e (ps0.map Atp.abs) k) i) (a.to_, t) = sPartP m s e y.abs (sUptoP m s e (ps0.map Atp.abs) k) i from if_pos q2] at hsucc
    simp (disch := first | with_reducible assumption | omega) only [push_cast, x_blk, x_cd, ↓reduceIte, Nat.reduceEqDiff, List.map_cons, List.map_nil, Int.reduceEq, Int.lt_irrefl, decide_eq_true q2, fr]
    exact hJ2 _ _ ⟨i + 1, ps, L', c', hit, (by simp only [push_cast, ↓reduceIte, Nat.reduceEqDiff, true_and, and_true, and_self, eq_self, fr]), by rw [hsucc]; exact habs, ho, hg, k1, k2, bb⟩ (by rw [hmu2]; simp only [push_cast, ↓reduceIte, Nat.reduceEqDiff, intOf, fr]; omega)
  · rw [show putP (sPartP m s e y.abs (sUptoP m s e (ps0.map Atp.abs) k) i) (a.to_, t) = sPartP m s e y.abs (sUptoP m s e (ps0.map Atp.abs) k) i ++ [(a.to_, t)] from if_neg q2] at hsucc
    simp (disch := first | with_reducible assumption | omega) only [push_cast, x_blk, x_cd, ↓reduceIte, Nat.reduceEqDiff, List.map_cons, List.map_nil, Int.reduceEq, Int.lt_irrefl, decide_eq_false q2, fr, hld10 k10, bs_rec atEnc slT_48 _ (by decide)]
    refine app_rec atEnc slT_48 ho ⟨a.to_, X, cx, t⟩ (by omega) (by omega) bb.size ?_
    intro A15 c15 w15 oR g15 hA15 hs15 z15
    simp (disch := first | with_reducible assumption | omega) only [push_cast, x_blk, x_cd, ↓reduceIte, Nat.reduceEqDiff, List.map_cons, List.map_nil, Int.reduceEq, Int.lt_irrefl, fr]
    refine hJ2 _ _ ⟨i + 1, ps ++ [⟨a.to_, X, cx, t⟩], A15, c15, hit, (by simp only [push_cast, ↓reduceIte, Nat.reduceEqDiff, true_and, and_true, and_self, eq_self, fr, List.length_append, List.length_cons, List.length_nil]), by rw [hsucc, List.map_append, habs]; rfl, oR, fun r hr => ?_, k1.grown g15.by_ (ho.ne_blk k1 (by decide)).symm, k2.grown g15.by_ (ho.ne_blk k2 (by decide)).symm, g15.below bb bb.size ho.geB⟩ (by rw [hmu2]; simp only [push_cast, ↓reduceIte, Nat.reduceEqDiff, intOf, fr]; omega)
    rcases List.mem_append.1 hr with hr | hr
    · exact (hg r hr).grew (ho.base (Nat.zero_le _)) (by decide) g15
    · rw [List.mem_singleton.1 hr]
      exact ⟨rX.grew (ho.base (Nat.zero_le _)) (by decide) g15, hxl⟩
/-- The places at first. -/
def firstPl (m s : Mach) (k : Nat) : List Pl := (m.starts.take k).map fun x => (x, s.starts)
theorem good_firstPl {m s : Mach} (pm : m.May) (h6 : m.states ≤ 6) (hs6 : IsRow s.starts 6) (k : Nat) : GoodPl (firstPl m s k) := by
  have hst := may_starts pm
  refine ⟨?_, fun x hx => ?_⟩
  · unfold firstPl
    rw [List.nodup_iff_pairwise_ne, List.pairwise_map]
    exact ((List.nodup_iff_pairwise_ne.1 (Strict.nodup hst.strict)).sublist (List.take_sublist _ _)).imp fun h e => h (congrArg Prod.fst e)
  · obtain ⟨y, hy, rfl⟩ := List.mem_map.1 hx
    have := hst.mem (List.mem_of_mem_take hy)
    exact ⟨⟨this.1, by have := this.2.1; simp only; omega⟩, hs6⟩
theorem ref12_First {B2 : Nat} {w : World} (hB2 : B2 ≤ w.heap.size) {am sv : MV} {m s : Mach} (hm : IsM (· < w.heap.size) w am m) (fm : m.Fits) (hs : IsM (· < w.heap.size) w sv s) (fs : s.Fits) (pm : m.May) (h6 : m.states ≤ 6) (hst : ∀ l e, IsRow l 6 → IsRow (stepL s l e) 6) (hs6 : IsRow s.starts 6) (hsB : Ints (· < B2) w sv.As s.starts)
    {A1 : Option Addr} {c1 : Nat} {seen : List Int} (h1 : Ints (· < w.heap.size) w A1 seen) (n1 : seen.length ≤ 17592186043904) :
    Cal Tryd.prog 65 [am.val m, sv.val s, .slice A1 seen.length c1] w fun v w' => ∃ (ps : List Atp) (L' : Option Addr) (c' : Nat), v = .slice L' ps.length c' ∧ ps.map Atp.abs = wIterP m s seen (firstPl m s m.starts.length) ps.length ∧
      OwnR Atp.cells w.heap.size 99 2 w' L' c' ps ∧ (∀ x ∈ ps, AtAt B2 w' x) ∧ Below w.heap.size w w' := by
  have nS := row_len (may_starts pm)
  have n6 := row_len hs6
  refine cal_ref12_First (by simp) 100000 fun Q hQ => ?_
  simp (disch := first | with_reducible assumption | omega) only [push_cast, x_blk, x_cd, ↓reduceIte, Nat.reduceEqDiff, List.map_cons, List.map_nil, Int.reduceEq, Int.lt_irrefl, F_ref12_First]
  refine blk_of (box_agg _ (am.cells m)) ?_
  intro w1 k1 b1 z1
  simp (disch := first | with_reducible assumption | omega) only [push_cast, x_blk, x_cd, ↓reduceIte, Nat.reduceEqDiff, List.map_cons, List.map_nil, Int.reduceEq, Int.lt_irrefl]
  refine blk_of (box_agg _ (sv.cells s)) ?_
  intro w2 k2 b2 z2
  replace k1 := k1.below b2 k1.lt
  have bb := b1.trans (b2.mono b1.size)
  simp (disch := first | with_reducible assumption | omega) only [push_cast, x_blk, x_cd, ↓reduceIte, Nat.reduceEqDiff, List.map_cons, List.map_nil, Int.reduceEq, Int.lt_irrefl]
  refine loop_rule (fun f w' => ∃ (k : Nat) (ps : List Atp) (L' : Option Addr) (c' : Nat), k ≤ m.starts.length ∧ ps.length = k ∧ (f 2 = .slice A1 seen.length c1 ∧ f 3 = .pointer (some ⟨w.heap.size, 0, none⟩) ∧ f 4 = .pointer (some ⟨w1.heap.size, 0, none⟩) ∧ f 7 = .slice L' ps.length c' ∧ f 8 = .int .i64 k) ∧ ps.map Atp.abs = firstPl m s k ∧
      OwnR Atp.cells w.heap.size 99 2 w' L' c' ps ∧ (∀ x ∈ ps, AtAt B2 w' x) ∧ Blk w' w.heap.size 25 (am.cells m) ∧ Blk w' w1.heap.size 25 (sv.cells s) ∧ Below w.heap.size w w')
    (fun f _ => m.starts.length - (intOf (f 8)).toNat) ⟨0, [], none, 0, Nat.zero_le _, rfl, ⟨rfl, rfl, rfl, rfl, rfl⟩, rfl, Own.nil _ _ _ _, fun x hx => absurd hx (by simp), k1, k2, bb⟩ ?_
  clear k1 k2 bb b1 b2 z1 z2
  rintro f w3 ⟨k, ps, L', c', hk, hpk, fr, habs, ho, hg, k1, k2, bb⟩ J hJ
  by_cases hlt : k < m.starts.length
  case neg =>
    obtain rfl : k = m.starts.length := by omega
    simp (disch := first | with_reducible assumption | omega) only [push_cast, x_blk, x_cd, ↓reduceIte, Nat.reduceEqDiff, List.map_cons, List.map_nil, Int.reduceEq, Int.lt_irrefl, L_ref12_First_0, fr, Nat.lt_irrefl, k1.m2 ty_ag_22, k1.mA ty_ag_25 ty_sz_25, k2.mA ty_ag_25 ty_sz_25]
    refine call_of (ref12_wide (B := w.heap.size) (B2 := B2) bb.size hB2 (hm.below bb) fm (hs.below bb) fs pm h6 hst (h1.below bb) n1 ho hg (by rw [habs]; exact good_firstPl pm h6 hs6 _)) ?_
    rintro v w4 ⟨ps', L2, c2, rfl, habs2, ho2, hg2, b4⟩
    rw [habs] at habs2
    simp (disch := first | with_reducible assumption | omega) only [push_cast, x_blk, x_cd, ↓reduceIte, Nat.reduceEqDiff, List.map_cons, List.map_nil, Int.reduceEq, Int.lt_irrefl]
    exact fin_1 (hQ _ _ ⟨ps', L2, c2, (by simp only [push_cast, ↓reduceIte, Nat.reduceEqDiff, Int.reduceEq, fr]), habs2, ho2, hg2, bb.trans b4⟩)
  have hmu : (intOf (f 8)).toNat = k := by rw [fr.2.2.2.2]; simp [intOf]
  have k1c := k1
  have sd : Same w3 w3.drew := (Same.refl w3).drew
  replace k1 := k1.same sd
  replace k2 := k2.same sd
  replace ho := ho.same sd
  replace hg : ∀ x ∈ ps, AtAt B2 w3.drew x := fun x hx => (hg x hx).below (sd.below _)
  replace bb := bb.trans (sd.below _)
  have hIs := (hm.below bb).starts
  have hA := hIs.isSome (by omega)
  have htk : firstPl m s (k + 1) = firstPl m s k ++ [(m.starts.getD k 0, s.starts)] := by unfold firstPl; rw [take_snoc m.starts 0 k hlt, List.map_append]; rfl
  have hld := fun {K : Fr → World → Prop} {f : Fr} {d : Option Nat} {w : World} => hIs.ld (P := Tryd.prog) (K := K) (f := f) (d := d) (w := w) ty_ag_3 k hlt
  generalize m.starts.getD k 0 = x at *
  have rS : RowT B2 3 w3.drew sv.As s.starts := ⟨(hsB.keep fun b hb => bb.block b (Nat.lt_of_lt_of_le hb hB2)).mono fun b hb => ⟨by have := bb.size; omega, .inl hb⟩⟩
  have hk300 : k ≤ 300 := by have := pm.2.1; omega
  simp (disch := first | with_reducible assumption | omega) only [push_cast, x_blk, x_cd, ↓reduceIte, Nat.reduceEqDiff, List.map_cons, List.map_nil, Int.reduceEq, Int.lt_irrefl, L_ref12_First_0, fr, hlt, k1c.m2 ty_ag_22, k1.m2 ty_ag_22, k2.m2 ty_ag_22, hld, bl_at ⟨x, sv.As, sv.cs, s.starts⟩, bs_rec atEnc slT_48 _ (by decide)]
  refine ⟨(Below.refl _ _).alloc (Nat.le_refl _) _, ?_⟩
  refine app_rec atEnc slT_48 ho ⟨x, sv.As, sv.cs, s.starts⟩ (by omega) (by omega) bb.size ?_
  intro A15 c15 w15 oR g15 hA15 hs15 z15
  simp (disch := first | with_reducible assumption | omega) only [push_cast, x_blk, x_cd, ↓reduceIte, Nat.reduceEqDiff, List.map_cons, List.map_nil, Int.reduceEq, Int.lt_irrefl, fr]
  refine hJ _ _ ⟨k + 1, ps ++ [⟨x, sv.As, sv.cs, s.starts⟩], A15, c15, hlt, by simp [hpk], (by simp only [push_cast, ↓reduceIte, Nat.reduceEqDiff, true_and, and_true, and_self, eq_self, fr, List.length_append, List.length_cons, List.length_nil]), by rw [htk, List.map_append, habs]; rfl, oR, fun r hr => ?_, k1.grown g15.by_ (ho.ne_blk k1 (by decide)).symm, k2.grown g15.by_ (ho.ne_blk k2 (by decide)).symm, g15.below bb bb.size ho.geB⟩ (by rw [hmu]; simp only [push_cast, ↓reduceIte, Nat.reduceEqDiff, intOf, fr]; omega)
  rcases List.mem_append.1 hr with hr | hr
  · exact (hg r hr).grew (ho.base hB2) (by decide) g15
  · rw [List.mem_singleton.1 hr]
    exact ⟨rS.grew (ho.base hB2) (by decide) g15, by simp only; omega⟩
/-- What is judged: some place ends where the secret ends; some ends where it does not. -/
def judS (m s : Mach) (l : List Pl) : Prop := ∃ x ∈ l, x.1 ∈ m.ends ∧ 0 < (onlyL x.2 s.ends true).length
def judO (m s : Mach) (l : List Pl) : Prop := ∃ x ∈ l, x.1 ∈ m.ends ∧ ¬ 0 < (onlyL x.2 s.ends true).length
noncomputable instance (m s : Mach) (l : List Pl) : Decidable (judS m s l) := Classical.propDecidable _
noncomputable instance (m s : Mach) (l : List Pl) : Decidable (judO m s l) := Classical.propDecidable _
theorem jud_snoc {Q : Pl → Prop} {l : List Pl} {x : Pl} : (∃ y ∈ l ++ [x], Q y) ↔ ((∃ y ∈ l, Q y) ∨ Q x) := by
  constructor
  · rintro ⟨y, hy, hq⟩
    rcases List.mem_append.1 hy with hy | hy
    · exact .inl ⟨y, hy, hq⟩
    · rw [List.mem_singleton.1 hy] at hq; exact .inr hq
  · rintro (⟨y, hy, hq⟩ | hq)
    · exact ⟨y, List.mem_append_left _ hy, hq⟩
    · exact ⟨x, by simp, hq⟩
theorem ref12_Judge {w : World} {am sv : MV} {m s : Mach} (hm : IsM (· < w.heap.size) w am m) (fm : m.Fits) (hs : IsM (· < w.heap.size) w sv s) (fs : s.Fits)
    {L : Option Addr} {c : Nat} {ps : List Atp} (hR : Recs Atp.cells 2 (· < w.heap.size) w L ps) (hn : ps.length ≤ 100000) (hg : ∀ p ∈ ps, Ints (· < w.heap.size) w p.R p.s ∧ p.s.length ≤ 256) :
    Cal Tryd.prog 30 [am.val m, sv.val s, .slice L ps.length c] w fun v w' => v = .tuple #[.bool (decide (judS m s (ps.map Atp.abs))), .bool (decide (judO m s (ps.map Atp.abs)))] ∧ Below w.heap.size w w' := by
  have nE := fm.lenE
  have nF := fs.lenE
  refine cal_ref12_Judge (by simp) 100000 fun Q hQ => ?_
  simp (disch := first | with_reducible assumption | omega) only [push_cast, x_blk, x_cd, ↓reduceIte, Nat.reduceEqDiff, List.map_cons, List.map_nil, Int.reduceEq, Int.lt_irrefl, F_ref12_Judge]
  refine blk_of (box_agg _ (am.cells m)) ?_
  intro w1 k1 b1 z1
  simp (disch := first | with_reducible assumption | omega) only [push_cast, x_blk, x_cd, ↓reduceIte, Nat.reduceEqDiff, List.map_cons, List.map_nil, Int.reduceEq, Int.lt_irrefl]
  refine blk_of (box_agg _ (sv.cells s)) ?_
  intro w2 k2 b2 z2
  replace k1 := k1.below b2 k1.lt
  have bb := b1.trans (b2.mono b1.size)
  simp (disch := first | with_reducible assumption | omega) only [push_cast, x_blk, x_cd, ↓reduceIte, Nat.reduceEqDiff, List.map_cons, List.map_nil, Int.reduceEq, Int.lt_irrefl]
  refine loop_rule (fun f w' => ∃ (k : Nat) (bs bo : Bool), k ≤ ps.length ∧ (f 2 = .slice L ps.length c ∧ f 3 = .pointer (some ⟨w.heap.size, 0, none⟩) ∧ f 4 = .pointer (some ⟨w1.heap.size, 0, none⟩) ∧ f 8 = .bool bs ∧ f 9 = .bool bo ∧ f 10 = .int .i64 k) ∧ bs = decide (judS m s ((ps.take k).map Atp.abs)) ∧ bo = decide (judO m s ((ps.take k).map Atp.abs)) ∧
      Blk w' w.heap.size 25 (am.cells m) ∧ Blk w' w1.heap.size 25 (sv.cells s) ∧ Below w.heap.size w w')
    (fun f _ => ps.length - (intOf (f 10)).toNat) ⟨0, false, false, Nat.zero_le _, ⟨rfl, rfl, rfl, rfl, rfl, rfl⟩, (decide_eq_false fun ⟨_, h, _⟩ => by simp at h).symm, (decide_eq_false fun ⟨_, h, _⟩ => by simp at h).symm, k1, k2, bb⟩ ?_
  clear k1 k2 bb b1 b2 z1 z2
  rintro f w3 ⟨k, bs, bo, hk, fr, hbs, hbo, k1, k2, bb⟩ J hJ
  by_cases hlt : k < ps.length
  case neg =>
    obtain rfl : k = ps.length := by omega
    rw [List.take_length] at hbs hbo
    simp (disch := first | with_reducible assumption | omega) only [push_cast, x_blk, x_cd, ↓reduceIte, Nat.reduceEqDiff, List.map_cons, List.map_nil, Int.reduceEq, Int.lt_irrefl, L_ref12_Judge_0, fr, Nat.lt_irrefl]
    exact fin_2 (hQ _ _ ⟨by rw [← hbs, ← hbo]; exact (by simp only [push_cast, ↓reduceIte, Nat.reduceEqDiff, Int.reduceEq, fr]), bb⟩)
  have hpk : ps[k]? = some (ps[k]'hlt) := List.getElem?_eq_getElem hlt
  have hmem : ps[k]'hlt ∈ ps := List.getElem_mem hlt
  have htk : (ps.take (k + 1)).map Atp.abs = (ps.take k).map Atp.abs ++ [(ps[k]'hlt).abs] := by rw [List.take_succ_eq_append_getElem hlt, List.map_append]; rfl
  generalize ps[k]'hlt = p at hpk hmem htk
  obtain ⟨ga, na⟩ := hg p hmem
  have hmu : (intOf (f 10)).toNat = k := by rw [fr.2.2.2.2.2]; simp [intOf]
  have sd : Same w3 w3.drew := (Same.refl w3).drew
  have k1d := k1.same sd
  have k2d := k2.same sd
  have bd := bb.trans (sd.below _)
  have hR1 := hR.below bd
  have hA := hR1.isSome (by omega)
  have l0 := fun {K : Fr → World → Prop} {f : Fr} {d : Option Nat} {w' : World} => hR1.ld (P := Tryd.prog) (K := K) (f := f) (d := d) (w := w') ty_ag_3 hpk (j := 0) (v := .int .i64 p.M) rfl
  have hsS : judS m s ((ps.take (k + 1)).map Atp.abs) ↔ (judS m s ((ps.take k).map Atp.abs) ∨ (p.M ∈ m.ends ∧ 0 < (onlyL p.s s.ends true).length)) := by rw [htk]; exact jud_snoc
  have hsO : judO m s ((ps.take (k + 1)).map Atp.abs) ↔ (judO m s ((ps.take k).map Atp.abs) ∨ (p.M ∈ m.ends ∧ ¬ 0 < (onlyL p.s s.ends true).length)) := by rw [htk]; exact jud_snoc
  simp (disch := first | with_reducible assumption | omega) only [push_cast, x_blk, x_cd, ↓reduceIte, Nat.reduceEqDiff, List.map_cons, List.map_nil, Int.reduceEq, Int.lt_irrefl, L_ref12_Judge_0, fr, hlt, l0, k1d.m4 ty_ag_22]
  refine call_of (ref1_Has (hm.up bd).ends am.ce p.M (by omega)) ?_
  rintro v w4 ⟨rfl, s4⟩
  have b4 := bd.trans (s4.below _)
  by_cases q1 : p.M ∈ m.ends
  case neg =>
    simp (disch := first | with_reducible assumption | omega) only [push_cast, x_blk, x_cd, ↓reduceIte, Nat.reduceEqDiff, List.map_cons, List.map_nil, Int.reduceEq, Int.lt_irrefl, decide_eq_false q1, fr]
    exact hJ _ _ ⟨k + 1, bs, bo, hlt, (by simp only [push_cast, ↓reduceIte, Nat.reduceEqDiff, true_and, and_true, and_self, eq_self, fr]), by rw [hbs]; exact decide_eq_decide.2 (hsS.trans ⟨fun h => h.resolve_right fun h => q1 h.1, .inl⟩).symm, by rw [hbo]; exact decide_eq_decide.2 (hsO.trans ⟨fun h => h.resolve_right fun h => q1 h.1, .inl⟩).symm, k1d.same s4, k2d.same s4, b4⟩ (by rw [hmu]; simp only [push_cast, ↓reduceIte, Nat.reduceEqDiff, intOf, fr]; omega)
  have sd4 : Same w4 w4.drew := (Same.refl w4).drew
  have k1e := (k1d.same s4).same sd4
  have k2e := (k2d.same s4).same sd4
  have be := b4.trans (sd4.below _)
  have hR2 := hR.below be
  have hA2 := hR2.isSome (by omega)
  have l1 := fun {K : Fr → World → Prop} {f : Fr} {d : Option Nat} {w' : World} => hR2.ld (P := Tryd.prog) (K := K) (f := f) (d := d) (w := w') ty_ag_22 hpk (j := 1) (v := .slice p.R p.s.length p.cr) rfl
  simp (disch := first | with_reducible assumption | omega) only [push_cast, x_blk, x_cd, ↓reduceIte, Nat.reduceEqDiff, List.map_cons, List.map_nil, Int.reduceEq, Int.lt_irrefl, decide_eq_true q1, fr, hlt, l1, k2e.m4 ty_ag_22]
  refine call_of (ref1_Only (ga.up be) (hs.up be).ends p.cr sv.ce true (by omega) (by omega)) ?_
  rintro v w5 ⟨O, co, rfl, oo, b5⟩
  have bf := be.trans (b5.mono be.size)
  have k1f := k1e.below b5 k1e.lt
  have k2f := k2e.below b5 k2e.lt
  by_cases q2 : 0 < (onlyL p.s s.ends true).length
  · have hpos : (0 : Int) < ((onlyL p.s s.ends true).length : Int) := by omega
    simp (disch := first | with_reducible assumption | omega) only [push_cast, x_blk, x_cd, ↓reduceIte, Nat.reduceEqDiff, List.map_cons, List.map_nil, Int.reduceEq, Int.lt_irrefl, hpos, fr]
    exact hJ _ _ ⟨k + 1, true, bo, hlt, (by simp only [push_cast, ↓reduceIte, Nat.reduceEqDiff, true_and, and_true, and_self, eq_self, fr]), (decide_eq_true (hsS.2 (.inr ⟨q1, q2⟩))).symm, by rw [hbo]; exact decide_eq_decide.2 (hsO.trans ⟨fun h => h.resolve_right fun h => h.2 q2, .inl⟩).symm, k1f, k2f, bf⟩ (by rw [hmu]; simp only [push_cast, ↓reduceIte, Nat.reduceEqDiff, intOf, fr]; omega)
  · have hpos : ¬ (0 : Int) < ((onlyL p.s s.ends true).length : Int) := by omega
    simp (disch := first | with_reducible assumption | omega) only [push_cast, x_blk, x_cd, ↓reduceIte, Nat.reduceEqDiff, List.map_cons, List.map_nil, Int.reduceEq, Int.lt_irrefl, hpos, fr]
    exact hJ _ _ ⟨k + 1, bs, true, hlt, (by simp only [push_cast, ↓reduceIte, Nat.reduceEqDiff, true_and, and_true, and_self, eq_self, fr]), by rw [hbs]; exact decide_eq_decide.2 (hsS.trans ⟨fun h => h.resolve_right fun h => q2 h.2, .inl⟩).symm, (decide_eq_true (hsO.2 (.inr ⟨q1, q2⟩))).symm, k1f, k2f, bf⟩ (by rw [hmu]; simp only [push_cast, ↓reduceIte, Nat.reduceEqDiff, intOf, fr]; omega)
end Go.Proofs.YtcjinmgieiebbaaDoor
