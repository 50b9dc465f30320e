/-
  Chapter 12's reference: places: a state and a row of states; has, Same, Judge, wide, step, First, After: by their contracts.
-/
import Derived.Test.YtcjinmgieiebbaaDoorZCurC
namespace Go.Proofs.YtcjinmgieiebbaaDoor
set_option linter.unusedSimpArgs false
set_option linter.unusedVariables false
set_option linter.unusedSectionVars false
open Go.RowKit

abbrev Pl := Int × List Int
def putP (l : List Pl) (y : Pl) : List Pl := if y ∈ l then l else l ++ [y]
def wAddP (s : Mach) (seen : List Int) (x : Pl) (l : List Pl) (a : Arr) : List Pl := if a.frm = x.1 ∧ a.evt ∉ seen then putP l (a.to_, stepL s x.2 a.evt) else l
def wOneP (m s : Mach) (seen : List Int) (x : Pl) (l : List Pl) : List Pl := m.arrows.foldl (wAddP s seen x) l
/-- Gone on from the first k places by unseen events. -/
def wIterP (m s : Mach) (seen : List Int) (l0 : List Pl) : Nat → List Pl
  | 0 => l0
  | k + 1 => match (wIterP m s seen l0 k)[k]? with
    | some x => wOneP m s seen x (wIterP m s seen l0 k)
    | none => wIterP m s seen l0 k
/-- .. and by the first i arrows from the next one. -/
def wPartP (m s : Mach) (seen : List Int) (x : Pl) (l : List Pl) (i : Nat) : List Pl := (m.arrows.take i).foldl (wAddP s seen x) l
theorem wPartP_all (m s : Mach) (seen : List Int) (x : Pl) (l : List Pl) : wPartP m s seen x l m.arrows.length = wOneP m s seen x l := by unfold wPartP wOneP; rw [List.take_length]
theorem wIterP_succ {m s : Mach} {seen : List Int} {l0 : List Pl} {k : Nat} {x : Pl} (h : (wIterP m s seen l0 k)[k]? = some x) : wIterP m s seen l0 (k + 1) = wOneP m s seen x (wIterP m s seen l0 k) := by
  show (match (wIterP m s seen l0 k)[k]? with | some x => wOneP m s seen x (wIterP m s seen l0 k) | none => wIterP m s seen l0 k) = _
  rw [h]
theorem putP_prefix (l : List Pl) (y : Pl) : l <+: putP l y := by
  unfold putP
  split
  · exact List.prefix_refl _
  · exact List.prefix_append _ _
theorem wAddP_prefix (s : Mach) (seen : List Int) (x : Pl) (l : List Pl) (a : Arr) : l <+: wAddP s seen x l a := by
  unfold wAddP
  split
  · exact putP_prefix _ _
  · exact List.prefix_refl _
theorem foldP_prefix (s : Mach) (seen : List Int) (x : Pl) : ∀ (m : List Arr) (l : List Pl), l <+: m.foldl (wAddP s seen x) l
  | [], l => List.prefix_refl _
  | a :: m, l => (wAddP_prefix s seen x l a).trans (foldP_prefix s seen x m _)
/-- Places of up to six states, and rows of such. -/
def UPl (x : Pl) : Prop := (0 ≤ x.1 ∧ x.1 < 6) ∧ IsRow x.2 6
structure GoodPl (l : List Pl) : Prop where
  nodup : l.Nodup
  univ : ∀ x ∈ l, UPl x
theorem GoodPl.put {l : List Pl} (h : GoodPl l) {y : Pl} (hy : UPl y) : GoodPl (putP l y) := by
  unfold putP
  split
  · exact h
  · rename_i hn
    refine ⟨?_, fun x hx => ?_⟩
    · rw [List.nodup_append]
      refine ⟨h.nodup, by simp, fun a ha b hb hab => ?_⟩
      rw [List.mem_singleton.1 hb] at hab
      exact hn (hab ▸ ha)
    · rcases List.mem_append.1 hx with hx | hx
      · exact h.univ x hx
      · rw [List.mem_singleton.1 hx]; exact hy
theorem GoodPl.len {l : List Pl} (h : GoodPl l) : l.length ≤ 384 := by
  have := nodup_nat_len 384 (l.map fun x => x.1.toNat * 64 + codeR x.2) (by
    rw [List.nodup_iff_pairwise_ne, List.pairwise_map]
    refine (List.nodup_iff_pairwise_ne.1 h.nodup).imp_of_mem fun {x y} hx hy hxy e => hxy ?_
    have hx1 := h.univ x hx
    have hy1 := h.univ y hy
    have c1 := codeR_lt hx1.2
    have c2 := codeR_lt hy1.2
    have e1 : x.1.toNat = y.1.toNat := by omega
    have e2 : codeR x.2 = codeR y.2 := by omega
    exact Prod.ext (by have := hx1.1; have := hy1.1; omega) (codeR_inj hx1.2 hy1.2 e2)) fun n hn => by
    obtain ⟨x, hx, rfl⟩ := List.mem_map.1 hn
    have hx1 := h.univ x hx
    have := codeR_lt hx1.2
    have := hx1.1
    omega
  simpa using this
section
variable {m s : Mach} (hm : m.May) (h6 : m.states ≤ 6) (hs : ∀ l e, IsRow l 6 → IsRow (stepL s l e) 6)
include hm h6 hs
theorem GoodPl.add {l : List Pl} (h : GoodPl l) {seen : List Int} {x : Pl} (hx : UPl x) {a : Arr} (ha : a ∈ m.arrows) : GoodPl (wAddP s seen x l a) := by
  unfold wAddP
  split
  · have := May.arr hm ha
    exact h.put ⟨⟨this.2.1.1, by have := this.2.1.2; simp only; omega⟩, hs _ _ hx.2⟩
  · exact h
theorem GoodPl.part {l : List Pl} (h : GoodPl l) {seen : List Int} {x : Pl} (hx : UPl x) (i : Nat) : GoodPl (wPartP m s seen x l i) := by
  unfold wPartP
  have key : ∀ (t : List Arr) (l : List Pl), (∀ a ∈ t, a ∈ m.arrows) → GoodPl l → GoodPl (t.foldl (wAddP s seen x) l) := by
    intro t
    induction t with
    | nil => exact fun l _ h => h
    | cons a t ih => exact fun l ht h => ih _ (fun b hb => ht b (List.mem_cons_of_mem _ hb)) (h.add hm h6 hs hx (ht a (List.mem_cons_self ..)))
  exact key _ _ (fun a ha => List.mem_of_mem_take ha) h
theorem GoodPl.iter {l0 : List Pl} (h : GoodPl l0) {seen : List Int} : ∀ k, GoodPl (wIterP m s seen l0 k)
  | 0 => h
  | k + 1 => by
    have ih := GoodPl.iter h (seen := seen) k
    cases hx : (wIterP m s seen l0 k)[k]? with
    | none =>
      have : wIterP m s seen l0 (k + 1) = wIterP m s seen l0 k := by
        show (match (wIterP m s seen l0 k)[k]? with | some x => wOneP m s seen x (wIterP m s seen l0 k) | none => wIterP m s seen l0 k) = _
        rw [hx]
      rw [this]; exact ih
    | some x =>
      rw [wIterP_succ hx, ← wPartP_all]
      exact ih.part hm h6 hs (ih.univ x (List.mem_of_getElem? hx)) _
end

/-- What an event leads to. -/
def sAddP (s : Mach) (e : Int) (x : Pl) (l : List Pl) (a : Arr) : List Pl := if a.frm = x.1 ∧ a.evt = e then putP l (a.to_, stepL s x.2 e) else l
def sPartP (m s : Mach) (e : Int) (x : Pl) (l : List Pl) (i : Nat) : List Pl := (m.arrows.take i).foldl (sAddP s e x) l
def sUptoP (m s : Mach) (e : Int) (l : List Pl) (k : Nat) : List Pl := (l.take k).foldl (fun out x => sPartP m s e x out m.arrows.length) []
section
variable {m s : Mach} (hm : m.May) (h6 : m.states ≤ 6) (hs : ∀ l e, IsRow l 6 → IsRow (stepL s l e) 6)
include hm h6 hs
theorem GoodPl.sadd {l : List Pl} (h : GoodPl l) {e : Int} {x : Pl} (hx : UPl x) {a : Arr} (ha : a ∈ m.arrows) : GoodPl (sAddP s e x l a) := by
  unfold sAddP
  split
  · have := May.arr hm ha
    exact h.put ⟨⟨this.2.1.1, by have := this.2.1.2; simp only; omega⟩, hs _ _ hx.2⟩
  · exact h
theorem GoodPl.spart {l : List Pl} (h : GoodPl l) {e : Int} {x : Pl} (hx : UPl x) (i : Nat) : GoodPl (sPartP m s e x l i) := by
  unfold sPartP
  have key : ∀ (t : List Arr) (l : List Pl), (∀ a ∈ t, a ∈ m.arrows) → GoodPl l → GoodPl (t.foldl (sAddP s e x) l) := by
    intro t
    induction t with
    | nil => exact fun l _ h => h
    | cons a t ih => exact fun l ht h => ih _ (fun b hb => ht b (List.mem_cons_of_mem _ hb)) (h.sadd hm h6 hs hx (ht a (List.mem_cons_self ..)))
  exact key _ _ (fun a ha => List.mem_of_mem_take ha) h
theorem GoodPl.supto {l : List Pl} (hl : ∀ x ∈ l, UPl x) {e : Int} (k : Nat) : GoodPl (sUptoP m s e l k) := by
  unfold sUptoP
  have key : ∀ (t : List Pl) (o : List Pl), (∀ x ∈ t, UPl x) → GoodPl o → GoodPl (t.foldl (fun out x => sPartP m s e x out m.arrows.length) o) := by
    intro t
    induction t with
    | nil => exact fun o _ h => h
    | cons x t ih => exact fun o ht h => ih _ (fun y hy => ht y (List.mem_cons_of_mem _ hy)) (h.spart hm h6 hs (ht x (List.mem_cons_self ..)) _)
  exact key _ _ (fun x hx => hl x (List.mem_of_mem_take hx)) ⟨List.nodup_nil, fun x hx => absurd hx (by simp)⟩
end

structure Atp where
  M : Int
  R : Option Addr
  cr : Nat
  s : List Int
def Atp.cells (p : Atp) : List Value := [.int .i64 p.M, .slice p.R p.s.length p.cr]
def Atp.abs (p : Atp) : Int × List Int := (p.M, p.s)
theorem atEnc : Enc Atp.cells 2 := ⟨fun _ => rfl, fun p u hu => by
  unfold Atp.cells at hu
  simp only [List.mem_cons, List.not_mem_nil, or_false] at hu
  rcases hu with rfl | rfl <;> rfl⟩
section
variable {K : Fr → World → Prop} {u : World} {f : Fr} {d : Option Nat} {w : World} {g t ty : Nat} {p : Atp}
end
/-- A place that can be read. -/
structure AtAt (B : Nat) (w : World) (p : Atp) : Prop where
  r : RowT B 3 w p.R p.s
  n : p.s.length ≤ 256
theorem AtAt.below {B : Nat} {w w' : World} {p : Atp} (h : AtAt B w p) (b : Below w.heap.size w w') : AtAt B w' p := ⟨h.r.below b, h.n⟩
theorem AtAt.grew {B e' sz c n : Nat} {w w' : World} {p : Atp} {A2 : Option Addr} {xs : List Value} (h : AtAt B w p) (ho : Own B e' sz w A2 c n xs) (hne : e' ≠ 3) (hg : Grew w w' A2) : AtAt B w' p := ⟨h.r.grew ho hne hg, h.n⟩
/-- As many, and the ones are all among the others. -/
def SameP (a b : List (Int × List Int)) : Prop := a.length = b.length ∧ ∀ x ∈ a, x ∈ b
instance (a b : List (Int × List Int)) : Decidable (SameP a b) := by unfold SameP; exact inferInstance
/-- The places at first. -/
def firstPl (m s : Mach) (k : Nat) : List Pl := (m.starts.take k).map fun x => (x, s.starts)
theorem good_firstPl {m s : Mach} (pm : m.May) (h6 : m.states ≤ 6) (hs6 : IsRow s.starts 6) (k : Nat) : GoodPl (firstPl m s k) := by
  have hst := may_starts pm
  refine ⟨?_, fun x hx => ?_⟩
  · unfold firstPl
    rw [List.nodup_iff_pairwise_ne, List.pairwise_map]
    exact ((List.nodup_iff_pairwise_ne.1 (Strict.nodup hst.strict)).sublist (List.take_sublist _ _)).imp fun h e => h (congrArg Prod.fst e)
  · obtain ⟨y, hy, rfl⟩ := List.mem_map.1 hx
    have := hst.mem (List.mem_of_mem_take hy)
    exact ⟨⟨this.1, by have := this.2.1; simp only; omega⟩, hs6⟩
/-- What is judged: some place ends where the secret ends; some ends where it does not. -/
def judS (m s : Mach) (l : List Pl) : Prop := ∃ x ∈ l, x.1 ∈ m.ends ∧ 0 < (onlyL x.2 s.ends true).length
def judO (m s : Mach) (l : List Pl) : Prop := ∃ x ∈ l, x.1 ∈ m.ends ∧ ¬ 0 < (onlyL x.2 s.ends true).length
noncomputable instance (m s : Mach) (l : List Pl) : Decidable (judS m s l) := Classical.propDecidable _
noncomputable instance (m s : Mach) (l : List Pl) : Decidable (judO m s l) := Classical.propDecidable _
end Go.Proofs.YtcjinmgieiebbaaDoor
