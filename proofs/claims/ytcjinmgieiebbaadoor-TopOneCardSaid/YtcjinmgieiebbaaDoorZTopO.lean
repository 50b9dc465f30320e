/-
  The law TopOne, in plain Lean: beside itself a plain machine is at one place of each of its states. No program in sight.
-/
import Derived.Test.YtcjinmgieiebbaaDoorZLawSec
namespace Go.Proofs.YtcjinmgieiebbaaDoor
set_option linter.unusedSimpArgs false
set_option linter.unusedVariables false
set_option linter.unusedSectionVars false
open Go.RowKit

def PlainM (m : Mach) : Prop := m.starts.length ≤ 1 ∧ ∀ s e : Int, 0 ≤ s → s < m.states → 0 ≤ e → e < m.events → (stepL m [s] e).length ≤ 1
theorem one_of {l : List Int} (h : l.length ≤ 1) {x : Int} (hx : x ∈ l) : l = [x] := by
  match l, hx with
  | [y], hx => rw [List.mem_singleton.1 hx]
  | y :: z :: l, _ => simp at h
theorem est_wide {M : Mach} (hM : M.May) (seen v : List Int) : ∃ T, (∀ x ∈ T, 0 ≤ x ∧ x < M.states) ∧ estM M seen v = wideL M seen T := by
  refine snoc_ind (P := fun v => ∃ T, (∀ x ∈ T, 0 ≤ x ∧ x < M.states) ∧ estM M seen v = wideL M seen T) ?_ ?_ v
  · exact ⟨M.starts, row_range (may_starts hM), rfl⟩
  · intro v e _
    exact ⟨_, stepL_range hM _ _, estM_snoc ..⟩
theorem est_closed {M : Mach} (hM : M.May) {seen v : List Int} {a : Arr} (h : a ∈ M.arrows) (he : a.evt ∉ seen) (hx : a.frm ∈ estM M seen v) : a.to_ ∈ estM M seen v := by
  obtain ⟨T, hT, e⟩ := est_wide hM seen v
  rw [e] at hx ⊢
  rw [mem_wideL hM hT] at hx ⊢
  exact .step (a.frm, a.to_) (mem_eds.2 ⟨a, h, by unfold unA; simpa using he, rfl⟩) hx
theorem est_event {M : Mach} (hM : M.May) {seen v : List Int} {a : Arr} (h : a ∈ M.arrows) (hx : a.frm ∈ estM M seen v) : a.to_ ∈ estM M seen (v ++ [a.evt]) := by
  rw [estM_snoc]
  unfold seeL
  rw [mem_wideL hM (stepL_range hM _ _)]
  exact .base _ (mem_stepL.2 ⟨a, h, rfl, hx, rfl⟩)
section
variable {M S : Mach} {seen : List Int} (hM : M.May) (ha : S.arrows = M.arrows) (hs : S.starts = M.starts) (hp : PlainM M)
include hM ha hp
theorem plain_step {a : Arr} (h : a ∈ M.arrows) : stepL S [a.frm] a.evt = [a.to_] := by
  have e1 : stepL S [a.frm] a.evt = stepL M [a.frm] a.evt := by unfold stepL stepT; rw [ha]
  rw [e1]
  have hh := May.arr hM h
  obtain ⟨⟨a1, a2⟩, _, a5, a6⟩ := hh
  exact one_of (hp.2 _ _ a1 a2 a5 a6) (mem_stepL.2 ⟨a, h, rfl, by simp, rfl⟩)
include hs
theorem rel_plain {v : List Int} {x : Pl} (h : RelP M S seen v x) : x.2 = [x.1] ∧ x.1 ∈ estM M seen v := by
  induction h with
  | @start x hx =>
    refine ⟨by show S.starts = [x]; rw [hs]; exact one_of hp.1 hx, ?_⟩
    show x ∈ wideL M seen M.starts
    rw [mem_wideL hM (row_range (may_starts hM))]
    exact .base _ hx
  | @quiet v x a _ h hf he ih =>
    have e1 : x.2 = [a.frm] := by rw [ih.1, hf]
    exact ⟨by show stepL S x.2 a.evt = [a.to_]; rw [e1]; exact plain_step hM ha hp h, est_closed hM h he (by rw [hf]; exact ih.2)⟩
  | @event v e x a _ h hf he ih =>
    have e1 : x.2 = [a.frm] := by rw [ih.1, hf]
    exact ⟨by show stepL S x.2 e = [a.to_]; rw [e1, ← he]; exact plain_step hM ha hp h, by rw [← he]; exact est_event hM h (by rw [hf]; exact ih.2)⟩
theorem plain_clos {v : List Int} {T : List Int} (hT : ∀ x ∈ T, RelP M S seen v (x, [x])) {x : Int} (hx : Clos (unE M seen) T x) : RelP M S seen v (x, [x]) := by
  refine Clos.all (p := fun x => RelP M S seen v (x, [x])) hT ?_ hx
  intro e he h1
  obtain ⟨a, h, hu, rfl⟩ := mem_eds.1 he
  have h2 := RelP.quiet h1 h rfl (by unfold unA at hu; simpa using hu)
  have e1 : stepL S [a.frm] a.evt = [a.to_] := plain_step hM ha hp h
  rw [show stepL S ((if false = true then (a.to_, a.frm) else (a.frm, a.to_)).1, [(if false = true then (a.to_, a.frm) else (a.frm, a.to_)).1]).2 a.evt = [a.to_] from e1] at h2
  exact h2
theorem rel_conv (v : List Int) : ∀ x ∈ estM M seen v, RelP M S seen v (x, [x]) := by
  refine snoc_ind (P := fun v => ∀ x ∈ estM M seen v, RelP M S seen v (x, [x])) ?_ ?_ v
  · intro x hx
    have hx' : x ∈ wideL M seen M.starts := hx
    rw [mem_wideL hM (row_range (may_starts hM))] at hx'
    refine plain_clos hM ha hs hp (fun y hy => ?_) hx'
    have := RelP.start (m := M) (s := S) (seen := seen) hy
    rwa [hs, one_of hp.1 hy] at this
  · intro v e ih x hx
    rw [estM_snoc] at hx
    unfold seeL at hx
    rw [mem_wideL hM (stepL_range hM _ _)] at hx
    refine plain_clos hM ha hs hp (fun y hy => ?_) hx
    obtain ⟨a, h, h1, h2, h3⟩ := mem_stepL.1 hy
    have := RelP.event (ih _ h2) h rfl h1
    simp only at this
    rw [← h1, plain_step hM ha hp h, h3] at this
    rw [← h1]
    exact this
variable {L : List (List Int)} {ar : List Arr} (hD : SecD M S L ar)
include hD
theorem plain_est (v : List Int) (y : Int) : y ∈ sEst M S L ar seen v ↔ ∃ x ∈ estM M seen v, ∃ t : Nat, L[t]? = some [x] ∧ y = nmb L.length x t := by
  rw [hD.est_mem]
  constructor
  · rintro ⟨p, hR, t, ht, rfl⟩
    obtain ⟨h1, h2⟩ := rel_plain hM ha hs hp hR
    exact ⟨p.1, h2, t, by rw [← h1]; exact ht, rfl⟩
  · rintro ⟨x, hx, t, ht, rfl⟩
    exact ⟨(x, [x]), rel_conv hM ha hs hp v x hx, t, ht, rfl⟩
theorem plain_num {v : List Int} {x : Int} (hx : x ∈ estM M seen v) : ∃ t : Nat, L[t]? = some [x] := (hD.rel (rel_conv hM ha hs hp v x hx)).2
theorem plain_same {u v : List Int} (h : estM M seen u = estM M seen v) : sEst M S L ar seen u = sEst M S L ar seen v :=
  Strict.ext (hD.est_row seen u).strict (hD.est_row seen v).strict fun y => by rw [plain_est hM ha hs hp hD, plain_est hM ha hs hp hD, h]
theorem plain_few (hr : seen.Pairwise (· < ·)) (h4 : M.states ≤ 4) (k : Nat) : (bIter (sNext M S L ar seen) seen (sFirst M S L ar seen) k).length ≤ 16 := by
  have hg := bIter_good (step := sNext M S L ar seen) (es := seen) (U := fun _ => True) (fun _ _ _ _ => trivial) (first := sFirst M S L ar seen) trivial k
  have hrun : ∀ q ∈ bIter (sNext M S L ar seen) seen (sFirst M S L ar seen) k, q.1 = sEst M S L ar seen q.2 := fun q hq => by
    obtain ⟨j, hj⟩ := List.mem_iff_getElem?.1 hq
    exact (bIter_run hr hj).1
  have hrow : ∀ v, IsRow (estM M seen v) 4 := fun v => (estM_row hM seen v).more h4
  have hn := hg.nodup
  rw [List.nodup_iff_pairwise_ne, List.pairwise_map] at hn
  have : ((bIter (sNext M S L ar seen) seen (sFirst M S L ar seen) k).map fun q => codeR (estM M seen q.2)).length ≤ 16 := nodup_nat_len 16 _ (by
      rw [List.nodup_iff_pairwise_ne, List.pairwise_map]
      exact hn.imp_of_mem fun {x y} hx hy hxy e => hxy (by
        rw [hrun x hx, hrun y hy]
        exact plain_same hM ha hs hp hD (codeR_inj ((hrow _).more (by decide)) ((hrow _).more (by decide)) e))) fun n hn => by
    obtain ⟨q, _, rfl⟩ := List.mem_map.1 hn
    exact codeR4 (hrow _)
  simpa using this
theorem plain_leak (hE : ∀ x, 0 ≤ x → x < M.states → x ∈ M.ends) (v : List Int) : sLeak M S L (sEst M S L ar seen v) = true ↔ TellsL (estM M seen v) S.ends := by
  have hr := estM_row hM seen v
  have key : ∀ x ∈ estM M seen v, ∀ t : Nat, L[t]? = some [x] → isM M L.length (nmb L.length x t) ∧ (isD S L (nmb L.length x t) ↔ x ∈ S.ends) := fun x hx t ht => by
    have h0 := hr.mem hx
    have := hD.ends (p := (x, [x])) h0.1 ht
    refine ⟨this.1.2 (hE x h0.1 h0.2.1), this.2.trans ?_⟩
    rw [only_pos]
    unfold MeetL
    simp
  have h1 : sHid M S L (sEst M S L ar seen v) ↔ ∃ x ∈ estM M seen v, x ∈ S.ends := by
    constructor
    · rintro ⟨y, hy, _, h2⟩
      obtain ⟨x, hx, t, ht, rfl⟩ := (plain_est hM ha hs hp hD v y).1 hy
      exact ⟨x, hx, ((key x hx t ht).2).1 h2⟩
    · rintro ⟨x, hx, h2⟩
      obtain ⟨t, ht⟩ := plain_num hM ha hs hp hD hx
      exact ⟨_, (plain_est hM ha hs hp hD v _).2 ⟨x, hx, t, ht, rfl⟩, (key x hx t ht).1, (key x hx t ht).2.2 h2⟩
  have h2 : sOpn M S L (sEst M S L ar seen v) ↔ ∃ x ∈ estM M seen v, x ∉ S.ends := by
    constructor
    · rintro ⟨y, hy, _, h2⟩
      obtain ⟨x, hx, t, ht, rfl⟩ := (plain_est hM ha hs hp hD v y).1 hy
      exact ⟨x, hx, fun hh => h2 ((key x hx t ht).2.2 hh)⟩
    · rintro ⟨x, hx, h2⟩
      obtain ⟨t, ht⟩ := plain_num hM ha hs hp hD hx
      exact ⟨_, (plain_est hM ha hs hp hD v _).2 ⟨x, hx, t, ht, rfl⟩, (key x hx t ht).1, fun hh => h2 ((key x hx t ht).2.1 hh)⟩
  unfold sLeak
  rw [Bool.and_eq_true, decide_eq_true_eq, Bool.not_eq_true', decide_eq_false_iff_not, h1, h2]
  unfold TellsL AllIn
  constructor
  · rintro ⟨⟨x, hx, _⟩, hn⟩
    exact ⟨fun e => by rw [e] at hx; simp at hx, fun y hy => Classical.byContradiction fun hh => hn ⟨y, hy, hh⟩⟩
  · rintro ⟨hne, hall⟩
    obtain ⟨x, hx⟩ := List.exists_mem_of_ne_nil _ hne
    exact ⟨⟨x, hx, hall x hx⟩, fun ⟨y, hy, hh⟩ => hh (hall y hy)⟩
end
end Go.Proofs.YtcjinmgieiebbaaDoor
