/-
  Two runs of which the same is seen are a walk of twins; who sees more finds faults no later; in plain Lean. No program in sight.
-/
import Derived.Test.YtfckamjbeplceaaZDelM
import Derived.Test.YtfckamjbeplceaaZObs
import Derived.Test.YtfckamjbeplceaaZRef12L
namespace Go.Proofs.Ytfckamjbeplceaa
set_option linter.unusedSimpArgs false
set_option linter.unusedVariables false
set_option linter.unusedSectionVars false
open Go.RowKit

def cntF (faults : List Int) : Bool → List Int → Nat
  | _, [] => 0
  | f, e :: w => cnt f + cntF faults (f || decide (e ∈ faults)) w
def flagF (faults : List Int) : Bool → List Int → Bool
  | f, [] => f
  | f, e :: w => flagF faults (f || decide (e ∈ faults)) w
/-- How many events come ahead of the first fault. -/
def firstF (faults : List Int) : List Int → Nat
  | [] => 0
  | e :: w => if e ∈ faults then 0 else firstF faults w + 1
theorem cntF_true (faults : List Int) : ∀ w, cntF faults true w = w.length ∧ flagF faults true w = true
  | [] => ⟨rfl, rfl⟩
  | e :: w => by
      obtain ⟨h1, h2⟩ := cntF_true faults w
      unfold cntF flagF
      rw [Bool.true_or]
      exact ⟨by rw [h1, List.length_cons]; show 1 + _ = _; omega, h2⟩
theorem cntF_first (faults : List Int) : ∀ w, firstF faults w < w.length → cntF faults false w = w.length - firstF faults w - 1 ∧ flagF faults false w = true
  | [], h => absurd h (by simp)
  | e :: w, h => by
      unfold firstF at h
      unfold cntF flagF firstF
      rw [Bool.false_or]
      by_cases c : e ∈ faults
      · obtain ⟨h1, h2⟩ := cntF_true faults w
        rw [decide_eq_true c, if_pos c, h1, List.length_cons]
        exact ⟨by show 0 + _ = _; omega, h2⟩
      · rw [if_neg c, List.length_cons] at h
        obtain ⟨h1, h2⟩ := cntF_first faults w (by omega)
        rw [decide_eq_false c, if_neg c, h1, List.length_cons]
        exact ⟨by show 0 + _ = _; omega, h2⟩
theorem edW_of {m : Mach} (hm : m.May) {seen faults : List Int} {x y : Tw} {a : Arr} (ha : a ∈ m.arrows) {b : Bool} (h : (y, b) ∈ leadsE m seen faults x a.evt) : EdW m seen faults x y (cnt b) :=
  (edW_iff hm).2 ⟨a.evt, (may_at hm ha).2.2.1, (may_at hm ha).2.2.2, b, h, rfl⟩
theorem step_one {m : Mach} {a : Arr} (ha : a ∈ m.arrows) : a.to_ ∈ stepL m [a.frm] a.evt := mem_stepL.2 ⟨a, ha, rfl, by simp, rfl⟩
theorem Pth.cons {T : Type} {E : T → T → Nat → Prop} {s t u : T} {n c k : Nat} (he : E s t c) (h : Pth E t u n k) : Pth E s u (c + n) (k + 1) := ((Pth.snoc .nil he).trans h).cast (by omega) (by omega)
theorem twin_runs {m : Mach} (hm : m.May) {seen faults : List Int} : ∀ (N : Nat) (w u : List Int), w.length + u.length ≤ N → ∀ (s s' a b : Int) (f : Bool), Rn m s w a → Rn m s' u b → obs seen w = obs seen u → (∀ e ∈ u, e ∉ faults) →
    ∃ k, Pth (EdW m seen faults) (s, s', f) (a, b, flagF faults f w) (cntF faults f w) k
  | 0, w, u, hN, s, s', a, b, f, hw, hu, ho, hf => by
      have h1 : w = [] := List.eq_nil_of_length_eq_zero (by omega)
      have h2 : u = [] := List.eq_nil_of_length_eq_zero (by omega)
      subst h1 h2
      cases hw; cases hu
      exact ⟨0, .nil⟩
  | N + 1, w, u, hN, s, s', a, b, f, hw, hu, ho, hf => by
      cases hu with
      | nil =>
        cases hw with
        | nil => exact ⟨0, .nil⟩
        | cons c w' _ hc hw' =>
          by_cases hs : c.evt ∈ seen
          · rw [obs_in hs, obs_nil] at ho; cases ho
          · rw [obs_out hs] at ho
            obtain ⟨k, hk⟩ := twin_runs hm N w' [] (by simp at hN ⊢; omega) c.to_ s' a s' (f || decide (c.evt ∈ faults)) hw' (.nil _) ho (by simp)
            exact ⟨_, Pth.cons (t := (c.to_, s', f || decide (c.evt ∈ faults))) (edW_of hm (b := f) hc (mem_leadsE.2 (.inr (.inl ⟨hs, step_one hc, rfl, rfl, rfl⟩)))) hk⟩
      | cons d u' _ hd hu' =>
        have hdf : d.evt ∉ faults := hf _ List.mem_cons_self
        by_cases hds : d.evt ∈ seen
        · rw [obs_in hds] at ho
          cases hw with
          | nil => rw [obs_nil] at ho; cases ho
          | cons c w' _ hc hw' =>
            by_cases hs : c.evt ∈ seen
            · rw [obs_in hs] at ho
              obtain ⟨he, ho⟩ := List.cons.inj ho
              obtain ⟨k, hk⟩ := twin_runs hm N w' u' (by simp at hN ⊢; omega) c.to_ d.to_ a b f hw' hu' ho fun e h => hf e (List.mem_cons_of_mem _ h)
              have hcf : c.evt ∉ faults := he ▸ hdf
              have : (f || decide (c.evt ∈ faults)) = f := by rw [decide_eq_false hcf, Bool.or_false]
              unfold cntF flagF
              rw [this]
              exact ⟨_, Pth.cons (t := (c.to_, d.to_, f)) (edW_of hm (b := f) hc (mem_leadsE.2 (.inl ⟨hs, hcf, step_one hc, by rw [he]; exact step_one hd, rfl, rfl⟩))) hk⟩
            · rw [obs_out hs] at ho
              obtain ⟨k, hk⟩ := twin_runs hm N w' (d.evt :: u') (by simp at hN ⊢; omega) c.to_ d.frm a b (f || decide (c.evt ∈ faults)) hw' (.cons d u' b hd hu') (by rw [obs_in hds]; exact ho) hf
              exact ⟨_, Pth.cons (t := (c.to_, d.frm, f || decide (c.evt ∈ faults))) (edW_of hm (b := f) hc (mem_leadsE.2 (.inr (.inl ⟨hs, step_one hc, rfl, rfl, rfl⟩)))) hk⟩
        · rw [obs_out hds] at ho
          obtain ⟨k, hk⟩ := twin_runs hm N w u' (by simp at hN ⊢; omega) s d.to_ a b f hw hu' ho fun e h => hf e (List.mem_cons_of_mem _ h)
          exact ⟨_, (Pth.cons (s := (s, d.frm, f)) (t := (s, d.to_, f)) (edW_of (x := (s, d.frm, f)) (y := (s, d.to_, f)) hm (b := false) hd (mem_leadsE.2 (.inr (.inr ⟨hds, hdf, rfl, step_one hd, rfl, rfl⟩)))) hk).cast (by show cnt false + cntF faults f w = cntF faults f w; simp [cnt]) rfl⟩
theorem rn_low {m : Mach} {high : List Int} {x y : Int} {s : List Int} (h : Rn (lowM m high) x s y) : Rn m x s y ∧ ∀ e ∈ s, e ∉ high := by
  induction h with
  | nil => exact ⟨.nil _, fun e he => absurd he (by simp)⟩
  | cons a s y ha _ ih =>
    have : a ∈ m.arrows ∧ a.evt ∉ high := by
      have h2 : a ∈ (m.arrows.take m.arrows.length).filter fun a => decide (a.evt ∉ high) := ha
      rw [List.take_length] at h2
      obtain ⟨h3, h4⟩ := List.mem_filter.1 h2
      exact ⟨h3, of_decide_eq_true h4⟩
    refine ⟨.cons a s y this.1 ih.1, fun e he => ?_⟩
    rcases List.mem_cons.1 he with rfl | he
    · exact this.2
    · exact ih.2 e he
/-- A fault that is long ago is found. -/
theorem delay_holds {m : Mach} (hm : m.May) {seen faults : List Int} {d : Int} (hd : DelIs m seen faults d) (h0 : 0 ≤ d) {w : List Int} {x a : Int} (hx : x ∈ m.starts) (hw : Rn m x w a) (hf : firstF faults w < w.length) (hl : d ≤ ((w.length - firstF faults w - 1 : Nat) : Int))
    {q : List Int} : estL ⟨lowM m faults, seen, q⟩ (obs seen w) = [] := by
  refine List.eq_nil_iff_forall_not_mem.2 fun b hb => ?_
  obtain ⟨x', hx', s, hs, ho⟩ := (mem_est (p := ⟨lowM m faults, seen, q⟩) (low_may hm faults) (obs_all w)).1 hb
  obtain ⟨hs1, hs2⟩ := rn_low hs
  obtain ⟨k, hk⟩ := twin_runs hm (faults := faults) _ w s (Nat.le_refl _) x x' a b false hw hs1 ho.symm hs2
  obtain ⟨c1, c2⟩ := cntF_first faults w hf
  rw [c1, c2] at hk
  rcases hd with ⟨rfl, _⟩ | ⟨_, hd, _⟩
  · omega
  · have := hd (a, b, true) _ rfl ⟨(x, x', false), k, ⟨hx, hx', rfl⟩, hk⟩
    omega
end Go.Proofs.Ytfckamjbeplceaa
