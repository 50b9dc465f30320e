/-
  append: the new slice lies where the old one did, or in a new block, and then all else is as it was. No program in sight.
-/
import Derived.Test.YtcjinmgieiebbaaDoorZOwn
namespace Go.Proofs.YtcjinmgieiebbaaDoor
set_option linter.unusedSimpArgs false
set_option linter.unusedVariables false
set_option linter.unusedSectionVars false
open Go.RowKit

section
variable {α : Type} {enc : α → List Value} {sz : Nat} {P : Program} {K : Fr → World → Prop} {w : World} {f : Fr} {d : Option Nat} {A : Option Addr} {l : List α} {B e bytes t ty c : Nat}
theorem cell_new_enc (w : World) (cs : List Value) (e : TypeId) : ∀ j v, cs[j]? = some v → (w.alloc (.cells cs.toArray e)).cell? ((⟨w.heap.size, 0, none⟩ : Addr).add j) = some v := fun j v hj => by
  rw [addr_add, (Blk.new w e cs).cell, Nat.zero_add, hj]
theorem app_rec2 (E : Enc enc sz) (hT : SlT P t e sz bytes) (hown : OwnR enc B e sz w A c l) (x : α) (hl : (l.length + 1) * bytes ≤ 140737488355328) (h63 : l.length + 1 ≤ 9223372036854775807) (hB : B ≤ w.heap.size)
    (hk : ∀ A' c' w', OwnR enc B e sz w' A' c' (l ++ [x]) → Grew w w' A → (A' = A ∨ ((∃ g, A' = some ⟨g, 0, none⟩ ∧ w.heap.size ≤ g) ∧ ∀ k, k < w.heap.size → w'.heap[k]? = w.heap[k]?)) → A'.isSome = true → w.heap.size ≤ w'.heap.size → K (updO f d (.slice A' (l.length + 1) c')) w') :
    Eff1 P K (Builtin.append_ #[t, t] ty #[.slice A l.length c, .slice (some ⟨w.heap.size, 0, none⟩) 1 1]) f d (w.alloc (.cells (enc x).toArray e)) := by
  have h0 := app_rec (K := fun f' w' => ∃ A' c', f' 0 = .slice A' (l.length + 1) c' ∧ OwnR enc B e sz w' A' c' (l ++ [x]) ∧ Grew w w' A ∧ (A'.map (·.block) = A.map (·.block) ∨ ∃ g, A'.map (·.block) = some g ∧ w.heap.size ≤ g) ∧ A'.isSome = true ∧ w.heap.size ≤ w'.heap.size)
    (f := fun _ => undef) (d := some 0) (ty := ty) E hT hown x hl h63 hB fun A' c' w' h1 h2 h3 h4 h5 => ⟨A', c', rfl, h1, h2, h3, h4, h5⟩
  obtain ⟨v, w', hr, A', c', hv, h1, h2, h3, h4, h5⟩ := h0
  have hv : v = .slice A' (l.length + 1) c' := hv
  subst hv
  refine ⟨_, w', hr, hk A' c' w' h1 h2 ?_ h4 h5⟩
  obtain ⟨g', hg'⟩ : ∃ g', A' = some ⟨g', 0, none⟩ := by
    rcases h1.form with ⟨rfl, _⟩ | ⟨g, rfl, _⟩
    · cases h4
    · exact ⟨g, rfl⟩
  rcases hown.own.2 with ⟨h6, h7⟩ | ⟨g, cap, cur, hv, hBg, hh, hnc, hcm, hcs, htake⟩
  · injection h6 with h6
    subst h6
    refine .inr ⟨⟨g', hg', ?_⟩, fun k hk => h2.by_.block k hk (by simp)⟩
    rcases h3 with h3 | ⟨g2, h3, h8⟩
    · rw [hg'] at h3; cases h3
    · rw [hg'] at h3
      injection h3 with h3
      simp at h3; omega
  · injection hv with hv hv2 hv3
    subst hv hv3
    obtain ⟨i, z, hi, hz, hsz, hby, hzc⟩ := hT.get
    have hglt : g < w.heap.size := by
      rcases Nat.lt_or_ge g w.heap.size with c1 | c1
      · exact c1
      · rw [Array.getElem?_eq_none c1] at hh; cases hh
    have hnew := cell_new_enc w (enc x) e
    have hhW : (w.alloc (.cells (enc x).toArray e)).heap[g]? = some (.cells cur e (0, 0)) := (Below.heap_alloc w _ g hglt).trans hh
    by_cases hroom : l.length + 1 ≤ c
    · left
      have hr2 := run_append_room (P := P) (w.alloc (.cells (enc x).toArray e)) t ty e i hT.under hi g l.length c cur hhW ⟨w.heap.size, 0, none⟩ 1 1 (enc x) (by rw [E.len, hsz]; omega) hnew (E.one x) hroom (by
        rw [E.len, hcs, hsz]
        have := Nat.mul_le_mul_right sz hroom
        rw [Nat.succ_mul] at this
        exact this)
      rw [hr] at hr2
      injection hr2 with hr3
      injection hr3
    · right
      have hcells : ∀ j v, (l.flatMap enc)[j]? = some v → (w.alloc (.cells (enc x).toArray e)).cell? ((⟨g, 0, none⟩ : Addr).add j) = some v := fun j v hj => by
        have := hown.own.cells (g := g) rfl j v hj
        exact (World.cell?_of_block (by rw [show ((⟨g, 0, none⟩ : Addr).add j).block = g by rw [addr_add]]; exact (Below.heap_alloc w _ g hglt))).trans this
      have hr2 := run_append_grow (P := P) (w.alloc (.cells (enc x).toArray e)) t ty e i z hT.under hi hz ⟨g, 0, none⟩ l.length c (l.flatMap enc) (by rw [hsz]; exact hown.own.1) hcells ⟨w.heap.size, 0, none⟩ 1 1 (enc x) (by rw [E.len, hsz]; omega) hnew (by omega) (by omega) (growslice_fits (by omega) (by rw [hby]; exact hl))
      rw [hr] at hr2
      injection hr2 with hr3 hr4
      injection hr3 with hr3
      refine ⟨⟨w.heap.size + 1, by rw [hr3]; simp, by omega⟩, fun k hk => ?_⟩
      rw [hr4]
      rw [show (World.alloc (w.alloc (.cells (enc x).toArray e)).drew _).heap[k]? = (w.alloc (.cells (enc x).toArray e)).drew.heap[k]? from Below.heap_alloc _ _ k (by simp; omega)]
      exact Below.heap_alloc w _ k hk
end
end Go.Proofs.YtcjinmgieiebbaaDoor
