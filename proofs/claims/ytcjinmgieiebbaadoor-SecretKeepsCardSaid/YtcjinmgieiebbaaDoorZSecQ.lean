/-
  Chapter 12, in plain Lean: rounds over the unseen events come to what they lead to. No program in sight.
-/
import Derived.Test.YtcjinmgieiebbaaDoorZSecP
namespace Go.Proofs.YtcjinmgieiebbaaDoor
set_option linter.unusedSimpArgs false
set_option linter.unusedVariables false
set_option linter.unusedSectionVars false
open Go.RowKit

theorem Spread.grow {es : List (Int × Int)} {l0 was l l' : List Int} (h : Spread es l0 was l) (hs : Small l') (sub : ∀ x ∈ l, x ∈ l') (cl : ∀ x ∈ l', Clos es l x) (ed : ∀ p ∈ es, p.1 ∈ l → p.2 ∈ l') : Spread es l0 l l' :=
  ⟨hs, fun x hx => sub x (h.sub x hx), fun x hx => Clos.trans h.clos (cl x hx), fun hw p hp h1 => ed p hp (small_sub hw hs _ h1)⟩
theorem left_grow {was l l' : List Int} (hs : Small l') (sub : ∀ x ∈ l, x ∈ l') (hw : wordsOf was ≠ wordsOf l) : left l l' < left was l := by
  unfold left
  rw [if_neg hw]
  by_cases h : wordsOf l = wordsOf l'
  · rw [if_pos h]
    have : miss l' ≤ miss l := by
      unfold miss
      refine List.countP_mono_left fun n _ hn => ?_
      simp only [Bool.not_eq_true', decide_eq_false_iff_not] at hn ⊢
      exact fun hh => hn (sub _ hh)
    omega
  · rw [if_neg h]
    have hx : ∃ x ∈ l', x ∉ l := Classical.byContradiction fun hno => h (wordsOf_ext fun x _ _ => ⟨sub x, fun hx => Classical.byContradiction fun hn => hno ⟨x, hx, hn⟩⟩)
    obtain ⟨x, hx, hn⟩ := hx
    have := miss_lt sub (hs x hx).1 (hs x hx).2 hx hn
    omega
section
variable {m s : Mach} {L : List (List Int)} {ar : List Arr}
def secR (m s : Mach) (L : List (List Int)) (ar : List Arr) (seen l : List Int) (k : Nat) : List Int := (evs k).foldl (fun x e => if e ∈ seen then x else x ++ sStep m s L ar x e) l
theorem secR_succ (seen l : List Int) (k : Nat) : secR m s L ar seen l (k + 1) = if (k : Int) ∈ seen then secR m s L ar seen l k else secR m s L ar seen l k ++ sStep m s L ar (secR m s L ar seen l k) k := by
  have : evs (k + 1) = evs k ++ [(k : Int)] := by unfold evs; rw [List.range_succ, List.map_append]; rfl
  unfold secR
  rw [this, List.foldl_append]; rfl
theorem secR_sub (seen l : List Int) (k : Nat) : ∀ x ∈ l, x ∈ secR m s L ar seen l k := by
  induction k with
  | zero => exact fun x h => h
  | succ k ih =>
    intro x hx
    rw [secR_succ]
    split
    · exact ih x hx
    · exact List.mem_append_left _ (ih x hx)
theorem secR_mono (seen l : List Int) {k n : Nat} (h : k ≤ n) : ∀ x ∈ secR m s L ar seen l k, x ∈ secR m s L ar seen l n := by
  induction n with
  | zero => intro x hx; rw [show k = 0 by omega] at hx; exact hx
  | succ n ih =>
    intro x hx
    rcases Nat.lt_or_ge n k with c | c
    · rw [show k = n + 1 by omega] at hx; exact hx
    · rw [secR_succ]
      split
      · exact ih c x hx
      · exact List.mem_append_left _ (ih c x hx)
variable (h : SecD m s L ar)
include h
theorem SecD.r_small {seen l : List Int} (hl : Small l) (k : Nat) : Small (secR m s L ar seen l k) := by
  induction k with
  | zero => exact hl
  | succ k ih =>
    rw [secR_succ]
    split
    · exact ih
    · intro x hx
      rcases List.mem_append.1 hx with hx | hx
      · exact ih x hx
      · have := (h.step_row _ _).mem hx; omega
theorem SecD.r_clos {seen l : List Int} (k : Nat) : ∀ x ∈ secR m s L ar seen l k, Clos (secE m s.events.toNat L.length ar (unB seen)) l x := by
  induction k with
  | zero => exact fun x hx => .base x hx
  | succ k ih =>
    rw [secR_succ]
    split
    · exact ih
    · rename_i hk
      intro x hx
      rcases List.mem_append.1 hx with hx | hx
      · exact ih x hx
      · obtain ⟨a, ha, he, t, ht, hin, rfl⟩ := sPart_mem.1 ((sortedL_spec _).2 _ |>.1 hx)
        exact .step (nmb L.length a.frm t, nmb L.length a.to_ (Go.Proofs.YtcjinmgieiebbaaDoor.dto s.events.toNat ar t k)) (secE_mem.2 ⟨a, ha, decide_eq_true (by rw [he]; exact hk), t, ht, by rw [he]⟩) (ih _ hin)
theorem SecD.r_edge {seen l : List Int} : ∀ p ∈ secE m s.events.toNat L.length ar (unB seen), p.1 ∈ l → p.2 ∈ secR m s L ar seen l m.events.toNat := by
  intro p hp h1
  obtain ⟨a, ha, hq, t, ht, rfl⟩ := secE_mem.1 hp
  have hh := (h.arr ha).2.2
  obtain ⟨k, hk⟩ : ∃ k : Nat, a.evt = k := ⟨a.evt.toNat, by omega⟩
  have hkm : k + 1 ≤ m.events.toNat := by omega
  refine secR_mono _ _ hkm _ ?_
  rw [secR_succ, if_neg (by rw [← hk]; exact of_decide_eq_true hq)]
  refine List.mem_append_right _ ((sortedL_spec _).2 _ |>.2 (sPart_mem.2 ⟨a, ha, hk, t, ht, secR_sub _ _ _ _ h1, ?_⟩))
  rw [hk]
theorem SecD.wide_done {seen was l l0 : List Int} (hS : Spread (secE m s.events.toNat L.length ar (unB seen)) l0 was l) (hw : wordsOf was = wordsOf l) : setV l = setV (sWide m s L ar seen l0) := hS.done hw
omit h
def sIn (n D : Nat) (ar : List Arr) (S : List Int) (e : Int) (a : Arr) (t : Nat) : List Int := ((List.range t).filter fun t => decide (nmb D a.frm t ∈ S)).map fun t => nmb D a.to_ (Go.Proofs.YtcjinmgieiebbaaDoor.dto n ar t e)
theorem sIn_succ (n D : Nat) (S : List Int) (e : Int) (a : Arr) (t : Nat) : sIn n D ar S e a (t + 1) = if nmb D a.frm t ∈ S then sIn n D ar S e a t ++ [nmb D a.to_ (Go.Proofs.YtcjinmgieiebbaaDoor.dto n ar t e)] else sIn n D ar S e a t := by
  unfold sIn
  rw [List.range_succ, List.filter_append, List.map_append]
  by_cases c : nmb D a.frm t ∈ S
  · rw [if_pos c, List.filter_cons, if_pos (decide_eq_true c)]; rfl
  · rw [if_neg c, List.filter_cons, if_neg (by simpa using c)]; simp
theorem sPart_snoc {n D : Nat} {S : List Int} {e : Int} {as_ : List Arr} {k : Nat} (hk : k < as_.length) : sPart m n D ar S e (as_.take (k + 1)) = if (as_.getD k default).evt = e then sPart m n D ar S e (as_.take k) ++ sIn n D ar S e (as_.getD k default) D else sPart m n D ar S e (as_.take k) := by
  unfold sPart
  rw [take_snoc _ default k hk, List.filter_append, List.flatMap_append]
  generalize as_.getD k default = a
  by_cases c : a.evt = e
  · rw [if_pos c, List.filter_cons, if_pos (by unfold atB; exact decide_eq_true c), List.filter_nil, List.flatMap_cons, List.flatMap_nil, List.append_nil]; rfl
  · rw [if_neg c, List.filter_cons, if_neg (by unfold atB; simpa using c), List.filter_nil, List.flatMap_nil, List.append_nil]
end
theorem make_few {s : Mach} (hm : s.May) (h4 : s.states ≤ 4) : ¬ SetsRes (stepL s) (evs s.events.toNat) s.starts false [] [] := by
  rintro (⟨h, _⟩ | ⟨_, _, _, k, hk⟩)
  · cases h
  · have hg := bIter_good (step := stepL s) (es := evs s.events.toNat) (U := fun l => IsRow l 4) (fun l _ e _ => (stepL_row hm l e).more h4) ((may_starts hm).more h4) k
    have : (((bIter (stepL s) (evs s.events.toNat) s.starts k).map (·.1)).map codeR).length ≤ 16 := nodup_nat_len 16 _ (List.Pairwise.map _ (fun a b hab => hab) (List.Pairwise.imp_of_mem (fun {x y} hx hy hxy e => by
        obtain ⟨p, hp, rfl⟩ := List.mem_map.1 hx
        obtain ⟨q, hq, rfl⟩ := List.mem_map.1 hy
        exact hxy (codeR_inj ((hg.univ p hp).more (by decide)) ((hg.univ q hq).more (by decide)) e)) hg.nodup)) fun n hn => by
      obtain ⟨l, hl, rfl⟩ := List.mem_map.1 hn
      obtain ⟨p, hp, rfl⟩ := List.mem_map.1 hl
      exact codeR4 (hg.univ p hp)
    simp only [List.length_map] at this
    omega
end Go.Proofs.YtcjinmgieiebbaaDoor
