/-
  The executor inside a round of a range over a function: soundness of a smaller part of it; and pieces of code by themselves. No program in sight.
-/
import Derived.Test.YtcjinmgieiebbaaDoorZLaws
import Derived.RangeFuncCalls
import Derived.RangeFuncNested
import Derived.RangeFuncBox
import Derived.RangeFuncLeaves
import Derived.RangeFuncBound
import Derived.WalkKit
import Derived.Shelf.Abstract
import Derived.StillTail
import Derived.OrdersIn
namespace Go.Proofs.YtcjinmgieiebbaaDoor
set_option linter.unusedSimpArgs false
set_option linter.unusedVariables false
set_option linter.unusedSectionVars false
open Go.RowKit

inductive RI where
  | c (c : Code)
  | bl (id : Nat)
  | lp (J : Fr → World → Prop)
def lowI (N : Nat) : RI → It
  | .c cc => .c (cI' N cc)
  | .bl id => .bl id
  | .lp J => .lp J
def kontI (l m : Nat) (P : Program) (N : Nat) (ds : List Deferred) (Rf : Fr → World → Prop) : List RI → Exit → Act → World → Prop
  | [], .normal, a, w => RQ N ds Rf a w
  | [], .ret, a, w => RQ N ds Rf a w
  | [], _, _, _ => False
  | .c c :: k, e, a, w => Exit.then (c.wpIn (Fence.wide.inRound l) m P (kontI l m P N ds Rf k)) (kontI l m P N ds Rf k) e a w
  | .bl id :: k, e, a, w => Exit.inBlock id (kontI l m P N ds Rf k) e a w
  | .lp J :: k, e, a, w => Exit.then (RQ N ds J) (kontI l m P N ds Rf k) e a w
section
variable {l m : Nat} {P : Program} {N : Nat} {ds : List Deferred} {Rf : Fr → World → Prop}
theorem kont_retI : ∀ (k : List RI) (a : Act) (w : World), RQ N ds Rf a w → kontI l m P N ds Rf k .ret a w
  | [], _, _, h => h
  | .c _ :: k, a, w, h => kont_retI k a w h
  | .bl _ :: k, a, w, h => kont_retI k a w h
  | .lp _ :: k, a, w, h => kont_retI k a w h
theorem kont_panicI : ∀ (k : List RI) (ch : List PanicEntry) (a : Act) (w : World), ¬ kontI l m P N ds Rf k (.panic ch) a w
  | [], _, _, _ => id
  | .c _ :: k, ch, a, w => kont_panicI k ch a w
  | .bl _ :: k, ch, a, w => kont_panicI k ch a w
  | .lp _ :: k, ch, a, w => kont_panicI k ch a w
theorem kont_exitI : ∀ (k : List RI) (id : Nat) (k' : List It), popTo id (k.map (lowI N)) = some k' →
    ∃ rk, k' = rk.map (lowI N) ∧ ∀ a w, kontI l m P N ds Rf rk .normal a w → kontI l m P N ds Rf k (.exit id) a w
  | [], _, _, h => by simp [popTo] at h
  | .c _ :: k, id, k', h => by
    obtain ⟨rk, e, hh⟩ := kont_exitI k id k' (by simpa [popTo, lowI] using h)
    exact ⟨rk, e, fun a w hq => hh a w hq⟩
  | .lp _ :: k, id, k', h => by
    obtain ⟨rk, e, hh⟩ := kont_exitI k id k' (by simpa [popTo, lowI] using h)
    exact ⟨rk, e, fun a w hq => hh a w hq⟩
  | .bl j :: k, id, k', h => by
    by_cases hj : id = j
    · subst hj
      have e : k.map (lowI N) = k' := by simpa [popTo, lowI] using h
      exact ⟨k, e.symm, fun a w hq => by simpa [kontI, Exit.inBlock] using hq⟩
    · obtain ⟨rk, e, hh⟩ := kont_exitI k id k' (by simpa [popTo, lowI, hj] using h)
      exact ⟨rk, e, fun a w hq => by simpa [kontI, Exit.inBlock, hj] using hh a w hq⟩

theorem upon_ofI {o : Oper} {a : Act} {K' : Act → World → Prop} {Q : Exit → Act → World → Prop} {w w' : World} {v : Value} (hd : ∀ c, o.op ≠ .defer c)
    (h : (execOp a.eval o).run P w = .ok (.value v) w' ∨ ((execOp a.eval o).run P w = .ok .skip w' ∧ v = undef)) (hk : K' (a.put o.dst v) w') : o.wpIn (Fence.wide.inRound l) m P a w K' Q := by
  refine ⟨fun _ _ => trivial, ?_⟩
  rw [Oper.semAt_eq _ _ _ hd]
  rcases h with h | ⟨h, rfl⟩ <;> rw [h] <;> exact hk
theorem call_wpI {K : Fr → World → Prop} {g : FuncId} {vs : List Value} {o : Oper} {a : Act} {f : Fr} {w : World} {K' : Act → World → Prop} {Q : Exit → Act → World → Prop} (hdf : ∀ c, o.op ≠ .defer c) (hf : Fits N ds a f) (hd : okD N o.dst = true)
    (he : (execOp a.eval o).run P w = (callFunc g vs.toArray).run P w) (h : CallX P K g vs f o.dst w) (hK : ∀ a f w, Fits N ds a f → K f w → K' a w) : o.wpIn (Fence.wide.inRound l) m P a w K' Q := by
  obtain ⟨hok, hc⟩ := h
  refine ⟨fun _ _ => trivial, ?_⟩
  rw [Oper.semAt_eq _ _ _ hdf, he, run_callFunc_ok hok, Oper.uponIn_enter]
  refine ⟨fun h => (by cases h), ?_⟩
  refine CallsIn.mono (CallsIn.inRound l (callsIn_wide.2 hc)) ?_
  rintro e w' ⟨v, rfl, hk⟩
  exact hK _ _ _ (hf.put _ (okD_lt hd) v) hk
theorem stepI_soundI {K : Fr → World → Prop} {o : Oper} {a : Act} {f : Fr} {w : World} {K' : Act → World → Prop} {Q : Exit → Act → World → Prop} (hf : Fits N ds a f) (hd : okD N o.dst = true)
    (h : stepI P K (rawI o) w f w) (hK : ∀ a f w, Fits N ds a f → K f w → K' a w) : o.wpIn (Fence.wide.inRound l) m P a w K' Q := by
  have hev := hf.evF
  have hput := fun v => hf.put o.dst (okD_lt hd) v
  obtain ⟨dst, op, ty, pos, after, guard⟩ := o
  have vals : ∀ (o' : Op), op = o' → (quietOp o').isSome = true → ValX P K o' ty w f dst w → Oper.wpIn (Fence.wide.inRound l) m P ⟨dst, op, ty, pos, after, guard⟩ a w K' Q := by
    intro o' eo hq hv
    subst eo
    have hdd : ∀ c, (⟨dst, op, ty, pos, after, guard⟩ : Oper).op ≠ .defer c := by intro c h; rw [show op = .defer c from h] at hq; cases hq
    unfold ValX at hv
    cases hs : valOf (ev f) ty op with
    | none => simp [hs] at hv
    | some s =>
      simp only [hs] at hv
      obtain ⟨v, hr, hk⟩ := hv
      refine upon_ofI hdd (exec_val (o := ⟨dst, op, ty, pos, after, guard⟩) hq (by rw [hev]; exact hs) (hr w (Below.refl _ _))) (hK _ _ _ (hput v) hk)
  have effs : ∀ (o' : Op), op = o' → (quietOp o').isSome = true → EffX P K o' ty f dst w → Oper.wpIn (Fence.wide.inRound l) m P ⟨dst, op, ty, pos, after, guard⟩ a w K' Q := by
    intro o' eo hq hv
    subst eo
    have hdd : ∀ c, (⟨dst, op, ty, pos, after, guard⟩ : Oper).op ≠ .defer c := by intro c h; rw [show op = .defer c from h] at hq; cases hq
    unfold EffX at hv
    cases hs : valOf (ev f) ty op with
    | none => simp [hs] at hv
    | some s =>
      simp only [hs] at hv
      obtain ⟨v, w', hr, hk⟩ := hv
      exact upon_ofI hdd (exec_val (o := ⟨dst, op, ty, pos, after, guard⟩) hq (by rw [hev]; exact hs) hr) (hK _ _ _ (hput v) hk)
  cases op
  case move y => exact upon_ofI (by intro c h; cases h) (.inl (by simp [execOp, hev])) (hK _ _ _ (hput _) h)
  case assign y => exact upon_ofI (by intro c h; cases h) (.inl (by simp [execOp, hev])) (hK _ _ _ (hput _) h)
  case pick c y z =>
    obtain ⟨t, ht, hk⟩ := h
    refine upon_ofI (by intro c h; cases h) (v := if t then ev f y else ev f z) (w' := w) (.inl ?_) (hK _ _ _ (hput _) hk)
    simp only [execOp, hev, ht, asBool]
    cases t <;> simp
  case nilCheck y =>
    obtain ⟨hn, hk⟩ := h
    refine upon_ofI (by intro c h; cases h) (v := ev f y) (w' := w) (.inl ?_) (hK _ _ _ (hput _) hk)
    rcases hn with ⟨p, hp⟩ | ⟨g, p, q, hp⟩ <;> simp only [execOp, hev, hp] <;> rfl
  case call c =>
    obtain ⟨callee, args, argTypes⟩ := c
    have gen : ∀ (g : Operand), callee = .value g → CallVX P K (ev f g) (args.toList.map (ev f)) f dst w → Oper.wpIn (Fence.wide.inRound l) m P ⟨dst, .call ⟨callee, args, argTypes⟩, ty, pos, after, guard⟩ a w K' Q := by
      intro g eg hv
      subst eg
      obtain ⟨g', first, cap, hg, hc⟩ := hv
      refine call_wpI (by intro c h; cases h) hf hd ?_ hc hK
      simp only [execOp, hev, resolve, Deferred.ofValue, hg, Sem.run_bind, Sem.run_pure, Result.andThen_ok, invoke]
      congr 3
      apply Array.ext'
      simp
    cases callee with
    | value g =>
      cases g with
      | func g =>
        refine call_wpI (by intro c h; cases h) hf hd ?_ h hK
        simp only [execOp, hev, ev, resolve, Deferred.ofValue, Sem.run_bind, Sem.run_pure, Result.andThen_ok, invoke]
        congr 3
        apply Array.ext'
        simp
      | tmp t => exact gen _ rfl h
      | const v => exact gen _ rfl h
      | global g => exact gen _ rfl h
    | invoke _ _ => exact h.elim
    | builtin b => cases b <;> first | exact vals _ rfl rfl h | exact effs _ rfl rfl h | exact h.elim
  all_goals first | exact vals _ rfl rfl h | exact effs _ rfl rfl h | exact h.elim

/-- An instruction of a region, guard and all. -/
theorem cI_soundI {K : Fr → World → Prop} {all : Array Oper} {o : Oper} {a : Act} {f : Fr} {w : World} {K' : Act → World → Prop} {Q : Exit → Act → World → Prop} (hf : Fits N ds a f)
    (h : stepI P K (cI N all o) w f w) (hK : ∀ a f w, Fits N ds a f → K f w → K' a w) :
    if Region.wanted o (yielded all a.tmps) = true then o.wpIn (Fence.wide.inRound l) m P a w K' Q else K' (a.put o.dst undef) w := by
  unfold cI at h
  by_cases hd : okD N o.dst = true
  · rw [if_pos hd] at h
    cases hg : o.guard with
    | none =>
      simp only [hg] at h
      rw [if_pos (by simp [Region.wanted, hg])]
      exact stepI_soundI hf hd h hK
    | some jb =>
      obtain ⟨j, b⟩ := jb
      simp only [hg] at h
      cases hs : (all[j]?).bind (·.dst) with
      | none => simp only [hs, stepI] at h
      | some s =>
        simp only [hs, stepI] at h
        rw [wanted_gd hf hg hs]
        have hput := hf.put o.dst (okD_lt hd) undef
        cases hfs : f s <;> simp only [hfs] at h ⊢
        case bool t =>
          by_cases ht : t = b
          · rw [if_pos ht] at h; rw [if_pos (by simp [ht])]; exact stepI_soundI hf hd h hK
          · rw [if_neg ht] at h; rw [if_neg (by simp [ht])]; exact hK _ _ _ hput h
        all_goals (rw [if_neg (by simp)]; exact hK _ _ _ hput h)
  · rw [if_neg hd] at h; exact h.elim

end

section
variable {l m : Nat} {P : Program} {ops : Array Oper}
theorem noDefer_spec (h : noDefer ops = true) (i : Nat) (o : Oper) (hi : ops[i]? = some o) : ∀ c, o.op ≠ .defer c := by
  intro c hc
  have hm : o ∈ ops.toList := by
    rw [← Array.getElem?_toList] at hi
    exact List.mem_of_getElem? hi
  have := List.all_eq_true.1 h o hm
  rw [hc] at this
  cases this
theorem stOp_In (hnd : ∀ (i : Nat) (o : Oper), ops[i]? = some o → ∀ c, o.op ≠ .defer c) {w : World} {i : Nat} {K : Act → Prop} {a : Act} {Q : Exit → Act → World → Prop} (h : stOp P ops w i K a) :
    wpOpIn (Fence.wide.inRound l) m P ops Q i (fun a' w' => w' = w ∧ K a') a w := by
  unfold stOp at h
  unfold wpOpIn
  cases ho : ops[i]? with
  | none => simp only [ho] at h ⊢; first | exact ⟨rfl, h⟩ | exact ⟨trivial, h⟩
  | some o =>
    simp only [ho] at h ⊢
    by_cases hw : Region.wanted o (yielded ops a.tmps) = true
    · rw [if_pos hw] at h ⊢
      refine ⟨fun _ _ => trivial, ?_⟩
      rw [Oper.semAt_eq _ _ _ (hnd i o ho)]
      unfold Oper.still at h
      generalize (execOp a.eval o).run P w = r at h
      cases r with
      | halt _ _ => exact h.elim
      | ok n w' =>
        cases n with
        | value v => exact h
        | skip => exact h
        | enter f args =>
          obtain ⟨rfl, v, hc, hk⟩ := h
          refine ⟨fun h => (by cases h), CallsIn.mono (CallsIn.inRound l (callsIn_wide.2 hc)) ?_⟩
          rintro e w'' ⟨rfl, rfl⟩
          first | exact ⟨rfl, hk⟩ | exact ⟨trivial, hk⟩
        | _ => exact h.elim
    · rw [if_neg hw] at h ⊢
      first | exact ⟨fun _ _ => trivial, rfl, h⟩ | exact ⟨fun _ _ => trivial, trivial, h⟩
theorem wpAnyIn_of_head (hnd : ∀ (i : Nat) (o : Oper), ops[i]? = some o → ∀ c, o.op ≠ .defer c) {md : Region.Mode} {w : World} {n g : Nat} {L : Array Bool → Act → Prop} {Q' : Exit → Act → World → Prop} (hL : ∀ listed a, L listed a → wpAnyIn (Fence.wide.inRound l) m P md ops Q' g listed a w) :
    ∀ (f : Nat) (listed : Array Bool) (a : Act), wpAnyL P md ops w n L f listed a → wpAnyIn (Fence.wide.inRound l) m P md ops Q' (f + g) listed a w
  | 0, listed, a, h => by rw [Nat.zero_add]; exact hL _ _ h
  | f + 1, listed, a, h => by
    rw [show f + 1 + g = (f + g) + 1 by omega]
    refine ⟨fun h0 => absurd h0 h.1, fun i hi => ?_⟩
    refine wpOpIn_mono ?_ (stOp_In hnd (h.2 i hi).2)
    rintro a' w' ⟨rfl, h'⟩
    exact wpAnyIn_of_head hnd hL f _ a' h'
theorem wpAnyIn_of_still (hnd : ∀ (i : Nat) (o : Oper), ops[i]? = some o → ∀ c, o.op ≠ .defer c) {md : Region.Mode} {w : World} {K : Act → Prop} {Q' : Exit → Act → World → Prop} (hQ : ∀ a, K a → Q' .normal a w) :
    ∀ (f : Nat) (listed : Array Bool) (a : Act), wpAnyS P md ops w K f listed a → wpAnyIn (Fence.wide.inRound l) m P md ops Q' f listed a w
  | 0, listed, a, h => ⟨h.1, hQ _ h.2⟩
  | f + 1, listed, a, h => by
    refine ⟨fun h0 => hQ _ (h.1 h0), fun i hi => ?_⟩
    refine wpOpIn_mono ?_ (stOp_In hnd (h.2 i hi))
    rintro a' w' ⟨rfl, h'⟩
    exact wpAnyIn_of_still hnd hQ f _ a' h'
theorem wpAnyIn_of_seq {F : Fence} {md : Region.Mode} {Q' : Exit → Act → World → Prop} : ∀ (t : List Oper) (k : Nat) (listed : Array Bool) (a : Act) (w : World), (∀ j, t[j]? = ops[k + j]?) →
    Region.seqB md ops t.length k listed = true → wpListIn F m P ops Q' t a w → wpAnyIn F m P md ops Q' t.length listed a w
  | [], _, _, _, _, _, hB, h => ⟨by simpa [Region.seqB] using hB, h⟩
  | o :: t, k, listed, a, w, hl, hB, h => by
    have h0 : ops[k]? = some o := by simpa using (hl 0).symm
    simp only [List.length_cons, Region.seqB, Bool.and_eq_true, decide_eq_true_eq] at hB
    refine ⟨fun h1 => (by rw [hB.1] at h1; cases h1), fun i hi => ?_⟩
    rw [hB.1] at hi
    have hik : i = k := by simpa using hi
    subst hik
    have hw : wpOpIn F m P ops Q' i (wpListIn F m P ops Q' t) a w := by
      unfold wpOpIn; simp only [h0]
      unfold wpListIn at h
      split at h
      · rename_i hw; rw [if_pos hw]; exact h
      · rename_i hw; rw [if_neg hw]; exact h
    exact wpOpIn_mono (fun a' w' h' => wpAnyIn_of_seq t (i + 1) _ a' w' (fun j => by have := hl (j + 1); simpa [Nat.add_assoc, Nat.add_comm 1 j] using this) hB.2 h') hw
theorem wpIn_region_still {id : Nat} {Q : Exit → Act → World → Prop} {a : Act} {w : World} (hm : P.follows .mixedOrders = true) (hnd : noDefer ops = true) (hB : Region.lexB .any ops = true)
    (h : wpStill P ops w.drew (fun a' => Q .normal a' w.drew) ops.toList a) : (Code.region id ops true).wpIn (Fence.wide.inRound l) m P Q a w := by
  simp only [Region.lexB, Bool.and_eq_true] at hB
  refine wpIn_region_any hm (wpAnyIn_of_still (noDefer_spec hnd) (K := fun a' => Q .normal a' w.drew) (fun _ h => h) _ _ _ ?_)
  have := wpAnyS_lex (md := .any) hB.1 ops.toList 0 (Array.replicate ops.size false) a (by simp) (by simpa using hB.2) h
  simpa using this
theorem wpIn_region_still_tail {id : Nat} {Q : Exit → Act → World → Prop} {a : Act} {w : World} {t : List Oper} (n : Nat) (hm : P.follows .mixedOrders = true) (hnd : noDefer t.toArray = true) (hB : Region.lexTailB .any t.toArray n = true)
    (h : wpStill P t.toArray w.drew (fun a' => wpListIn (Fence.wide.inRound l) m P t.toArray Q (t.drop n) a' w.drew) (t.take n) a) : (Code.region id t.toArray true).wpIn (Fence.wide.inRound l) m P Q a w := by
  simp only [Region.lexTailB, Bool.and_eq_true, decide_eq_true_eq] at hB
  obtain ⟨⟨⟨⟨hsel, hn⟩, hs⟩, hc⟩, hlex⟩ := hB
  have hn' : n < t.length := by simpa using hn
  have htl : (t.take n).length = n := by simp; omega
  have hdl : (t.drop n).length = t.toArray.size - n := by simp
  have inv0 : HeadInv .any t.toArray n (Array.replicate t.toArray.size false) :=
    ⟨by simp, fun j oj _ hl => (by rw [getD_replicate_false] at hl; cases hl), fun k _ ht => getD_in (by simpa using ht) (getD_replicate_false _ _)⟩
  have H := wpAnyL_lex (md := .any) (g := t.toArray.size - n) hsel hs hc hn (t.take n) 0 _ a (fun j hj => by
    have hj' : j < n := by rw [htl] at hj; exact hj
    simp [hj']) (by simpa using htl) inv0 (by rw [htl]; exact hlex) h
  refine wpIn_region_any hm ?_
  have := wpAnyIn_of_head (noDefer_spec hnd) (Q' := Q) (g := t.toArray.size - n) (fun listed a' hL => by
    have := wpAnyIn_of_seq (md := .any) (Q' := Q) (t.drop n) n listed a' w.drew (fun j => by simp [List.getElem?_drop]) (by rw [hdl]; exact hL.1) hL.2
    rwa [hdl] at this) _ _ _ H
  rw [htl, show n + (t.toArray.size - n) = t.toArray.size by omega] at this
  exact this
end
section
variable {l m : Nat} {P : Program} {N : Nat} {ds : List Deferred} {Rf : Fr → World → Prop}
theorem yields_wpOpI {ops : Array Oper} {Q : Exit → Act → World → Prop} {i : Nat} {o : Oper} {v : Value} {a : Act} (hnd : ∀ c, o.op ≠ .defer c) (hi : ops[i]? = some o) (hy : YieldsIf P ops (fun _ => True) o v a)
    {K : Act → World → Prop} {w : World} (h : K (a.put o.dst v) w) : wpOpIn (Fence.wide.inRound l) m P ops Q i K a w := by
  unfold wpOpIn
  simp only [hi]
  rcases hy with ⟨hw, hv⟩ | ⟨hw, rfl⟩
  · rw [if_pos hw]
    refine ⟨fun _ _ => trivial, ?_⟩
    rw [Oper.semAt_eq _ _ _ hnd, hv w trivial]
    exact h
  · simp only [hw, Bool.false_eq_true, if_false]; exact ⟨fun _ _ => trivial, h⟩
theorem wpOpIn_putI {ops : Array Oper} {Q : Exit → Act → World → Prop} {j : Nat} {oi oj : Oper} {v : Value} (hnd : ∀ c, oj.op ≠ .defer c) (hj : ops[j]? = some oj) (hap : oi.apart ops oj = true)
    (hsi : ∀ cs b, oi.op ≠ .select cs b) (hsj : ∀ cs b, oj.op ≠ .select cs b)
    (hQ : ∀ c a w, Q (.panic c) (a.put oi.dst v) w → Q (.panic c) a w) {K : Act → World → Prop} {a : Act} {w : World}
    (hy : YieldsIf P ops (fun _ => True) oi v a) (h : wpOpIn (Fence.wide.inRound l) m P ops Q j K (a.put oi.dst v) w) :
    wpOpIn (Fence.wide.inRound l) m P ops Q j (fun a' w' => YieldsIf P ops (fun _ => True) oi v a' ∧ K (a'.put oi.dst v) w') a w := by
  obtain ⟨h1, h2, h3⟩ := Oper.apart_spec hap
  have keep : ∀ (a : Act), YieldsIf P ops (fun _ => True) oi v a → ∀ u, YieldsIf P ops (fun _ => True) oi v (a.put oj.dst u) := fun a hy u =>
    hy.of_same (execOp_put oi hsi a oj.dst u h3) (wanted_put oi a oj.dst u h3)
  have keepD : ∀ d, YieldsIf P ops (fun _ => True) oi v { a with defers := d :: a.defers } := fun d => hy.of_same rfl rfl
  unfold wpOpIn at *
  simp only [hj] at *
  rw [wanted_put oj a oi.dst v h1] at h
  split
  · rename_i hw
    simp only [hw, if_true] at h
    unfold Oper.wpIn at *
    refine ⟨fun _ _ => trivial, ?_⟩
    have h := h.2
    rw [Oper.semAt_eq _ _ _ hnd, execOp_put oj hsj a oi.dst v h1] at h
    rw [Oper.semAt_eq _ _ _ hnd]
    generalize (execOp a.eval oj).run P w = r at *
    cases r with
    | ok x w' =>
      cases x <;> simp only [Oper.uponIn] at h ⊢
      case value u => exact ⟨keep a hy u, by rw [← Act.put_comm a v u h2]; exact h⟩
      case skip => exact ⟨keep a hy _, by rw [← Act.put_comm a v undef h2]; exact h⟩
      case defer d =>
        refine ⟨keep _ (keepD d) _, ?_⟩
        rw [← Act.put_comm _ v undef h2, ← Act.put_defers]
        exact h
      case enter f args =>
        refine ⟨h.1, CallsIn.mono h.2 fun e w'' he => ?_⟩
        cases e with
        | returned u => exact ⟨keep a hy u, by rw [← Act.put_comm a v u h2]; exact he⟩
        | panicked c => exact hQ _ _ _ he
        | outgrown => exact he
      case row row args => exact ⟨h.1, RowsIn.mono h.2 fun u w'' he => ⟨keep a hy u, by rw [← Act.put_comm a v u h2]; exact he⟩⟩
      case round l f tmps assign body =>
        refine ⟨h.1, RoundIn.mono h.2 fun e w'' he => ?_⟩
        cases e with
        | returned u => exact ⟨keep a hy u, by rw [← Act.put_comm a v u h2]; exact he⟩
        | panicked c => exact hQ _ _ _ he
        | outgrown => exact he
    | halt x w' =>
      cases x <;> simp only [Oper.uponIn] at h ⊢
      case panic u => exact hQ _ _ _ h
  · rename_i hw
    simp only [hw] at h
    exact ⟨fun _ _ => trivial, keep a hy _, by rw [← Act.put_comm a v undef h2]; exact h.2⟩
theorem lookPI {ops : Array Oper} {Q : Exit → Act → World → Prop} {i : Nat} {oi : Oper} {v : Value} (hi : ops[i]? = some oi) (hs : Region.noSelect ops = true) (hnd : ∀ (i : Nat) (o : Oper), ops[i]? = some o → ∀ c, o.op ≠ .defer c)
    (hQ : ∀ c a w, Q (.panic c) (a.put oi.dst v) w → Q (.panic c) a w) :
    ∀ (n : Nat) (listed : Array Bool) (a : Act) (w : World),
      (∀ j oj, ops[j]? = some oj → j ≠ i → listed.getD j true = false → (∀ e ∈ oj.after, Region.binds .any e = true → e.on ≠ i) → oi.apart ops oj = true) →
      i ∈ Region.ready .any ops listed → YieldsIf P ops (fun _ => True) oi v a → wpAnyIn (Fence.wide.inRound l) m P .any ops Q n (listed.setIfInBounds i true) (a.put oi.dst v) w → wpAnyIn (Fence.wide.inRound l) m P .any ops Q (n + 1) listed a w
  | n, listed, a, w, hf, hr, hy, H => by
    refine ⟨fun h => (by rw [h] at hr; cases hr), fun j hj => ?_⟩
    by_cases hji : j = i
    · subst hji; exact yields_wpOpI (hnd j oi hi) hi hy H
    have hj' := ready_mono hj hji
    cases n with
    | zero => rw [H.1] at hj'; cases hj'
    | succ n =>
      obtain ⟨hjun, oj, hoj, hall⟩ := mem_ready.1 hj
      have hiun := (mem_ready.1 hr).1
      have hno : ∀ e ∈ oj.after, Region.binds .any e = true → e.on ≠ i := fun e he hb heq => unlisted hiun (heq ▸ hall e he hb)
      have h2 := wpOpIn_putI (hnd j oj hoj) hoj (hf j oj hoj hji hjun hno) (fun cs b => Region.noSelect_spec hs i oi cs b hi) (fun cs b => Region.noSelect_spec hs j oj cs b hoj) hQ hy (H.2 j hj')
      refine wpOpIn_mono (fun a' w' h3 => ?_) h2
      obtain ⟨h3, h4⟩ := h3
      refine lookPI hi hs hnd hQ n (listed.setIfInBounds j true) a' w' (fun k ok hk hki hun hno => hf k ok hk hki ?_ hno) (ready_mono hr (Ne.symm hji)) h3 ?_
      · by_cases hjk : j = k
        · subst hjk; exact hjun
        · rwa [getD_set_ne true hjk] at hun
      · rw [Array.setIfInBounds_comm _ _ hji]
        exact h4
theorem held_of_tpI {all : Array Oper} {rk : List RI} (hns : Region.noSelect all = true) (hnd : ∀ (i : Nat) (o : Oper), all[i]? = some o → ∀ c, o.op ≠ .defer c) :
    ∀ (t : PT) (n : Nat) (b : World) (fuel : Nat) (rs : Option (List Nat)) (listed : Array Bool) (a : Act) (f : Fr) (w : World), Fits N ds a f → ptOkP all t fuel rs listed = true →
      (∀ l, rs = some l → ∀ i ∈ l, i ∈ Region.ready .any all listed) → x P Rf n [] (.t b (lowTP N all t) :: rk.map (lowI N)) b f w →
      (∀ n' a' f' w', n' ≤ n → Fits N ds a' f' → x P Rf n' [] (rk.map (lowI N)) w' f' w' → kontI l m P N ds Rf rk .normal a' w') →
      (rs = none → wpAnyIn (Fence.wide.inRound l) m P .any all (kontI l m P N ds Rf rk) fuel listed a w) ∧
      (∀ is, rs = some is → ∀ i ∈ is, wpOpIn (Fence.wide.inRound l) m P all (kontI l m P N ds Rf rk) i (wpAnyIn (Fence.wide.inRound l) m P .any all (kontI l m P N ds Rf rk) (fuel - 1) (listed.setIfInBounds i true)) a w) := by
  intro t
  induction t with
  | nil =>
    intro n b fuel rs listed a f w hf hok _ h hL
    cases rs with
    | some l => cases fuel <;> simp [ptOkP] at hok
    | none =>
      refine ⟨fun _ => ?_, fun l h => by cases h⟩
      cases n with
      | zero => exact h.elim
      | succ n => exact wpAnyIn_done (by cases fuel <;> simpa [ptOkP] using hok) (hL n a f w (by omega) hf h) fuel
  | q i t ih =>
    intro n b fuel rs listed a f w hf hok _ h hL
    cases fuel with
    | zero => cases rs <;> simp [ptOkP] at hok
    | succ fuel =>
      cases rs with
      | some l => simp [ptOkP] at hok
      | none =>
        refine ⟨fun _ => ?_, fun l h => by cases h⟩
        simp only [ptOkP, Bool.and_eq_true, decide_eq_true_eq] at hok
        obtain ⟨⟨⟨⟨hq, hi⟩, hr⟩, hfr⟩, hrest⟩ := hok
        cases n with
        | zero => exact h.elim
        | succ n =>
          cases n with
          | zero => exact h.elim
          | succ n =>
            have h' : stepI P (x P Rf n [] (.t b (lowTP N all t) :: rk.map (lowI N)) b) (adrT N all (all.getD i default)) b f w := h
            have hoi : all[i]? = some (all.getD i default) := by simp [hi]
            generalize all.getD i default = oi at *
            obtain ⟨hdd, v, hy, hk⟩ := pure3_yields hf hq h'
            have hr' : i ∈ Region.ready .any all listed := by simpa using hr
            exact lookPI hoi hns hnd (fun c a w hh => (kont_panicI rk c _ _ hh).elim) _ _ _ _ (Region.free_spec hoi hfr) hr' hy
                ((ih n b fuel none _ _ _ _ (hf.put _ (okD_lt hdd) _) hrest (fun l h => by cases h) hk fun n' a' f' w' hn' => hL n' a' f' w' (by omega)).1 rfl)
  | act i t ih =>
    intro n b fuel rs listed a f w hf hok hrs h hL
    have key : ∀ fuel', fuel = fuel' + 1 → i < all.size → i ∈ Region.ready .any all listed → ptOkP all t fuel' none (listed.setIfInBounds i true) = true →
        wpOpIn (Fence.wide.inRound l) m P all (kontI l m P N ds Rf rk) i (wpAnyIn (Fence.wide.inRound l) m P .any all (kontI l m P N ds Rf rk) fuel' (listed.setIfInBounds i true)) a w := by
      intro fuel' _ hi hrr hrest
      cases n with
      | zero => exact h.elim
      | succ n =>
        cases n with
        | zero => exact (show False from h).elim
        | succ n =>
          have hoi : all[i]? = some (all.getD i default) := by simp [hi]
          have h0 : x P Rf (n + 1 + 1) [] (.t b (.cut (cI N all (all.getD i default)) (lowTP N all t)) :: rk.map (lowI N)) b f w := h
          generalize all.getD i default = oi at *
          have hstep : ∀ {l : List I} {k : List It}, x P Rf (n + 1) (cI N all oi :: l) k b f w → stepI P (x P Rf n l k b) (cI N all oi) w f w := fun {l k} h' => by
            generalize hc : cI N all oi = ci at h'
            cases ci with
            | q i' => exact absurd hc (cI_ne_q _ _ _)
            | chk => exact absurd hc (cI_ne_chk _ _)
            | rb => exact absurd hc (cI_ne_rb _ _)
            | adr d o ty => exact absurd hc (cI_ne_adr _ _ _ _ _)
            | qx t i' => exact absurd hc (cI_ne_qx _ _ _ _)
            | chkx t => exact absurd hc (cI_ne_chkx _ _ _)
            | mv d o => exact h'
            | pick d c a b => exact h'
            | nilc d y => exact h'
            | val d o ty => exact h'
            | eff d o ty => exact h'
            | call d g args => exact h'
            | callv d g args => exact h'
            | gd s bb d i' => exact h'
            | bad => exact h'
          unfold wpOpIn
          simp only [hoi]
          have h' : x P Rf (n + 1) [cI N all oi] (.tn (lowTP N all t) :: rk.map (lowI N)) b f w := h0
          have hs := cI_soundI (l := l) (m := m) (Q := kontI l m P N ds Rf rk) (K' := wpAnyIn (Fence.wide.inRound l) m P .any all (kontI l m P N ds Rf rk) fuel' (listed.setIfInBounds i true)) hf (hstep h') (by
            intro a' f' w' hf' hx
            cases n with
            | zero => exact hx.elim
            | succ n =>
              have hx' : x P Rf n [] (.t w' (lowTP N all t) :: rk.map (lowI N)) w' f' w' := hx
              exact (ih n w' fuel' none _ _ _ _ hf' hrest (fun l h => by cases h) hx' fun n' a'' f'' w'' hn' => hL n' a'' f'' w'' (by omega)).1 rfl)
          split
          · rename_i hw; rw [if_pos hw] at hs; exact hs
          · rename_i hw; rw [if_neg hw] at hs; exact ⟨fun _ _ => trivial, hs⟩
    cases fuel with
    | zero => cases rs <;> simp [ptOkP] at hok
    | succ fuel =>
      cases rs with
      | none =>
        simp only [ptOkP, Bool.and_eq_true, decide_eq_true_eq] at hok
        refine ⟨fun _ => ?_, fun l h => by cases h⟩
        refine ⟨fun h0 => (by rw [h0] at hok; cases hok.1.2), fun j hj => ?_⟩
        obtain rfl : j = i := by rw [hok.1.2] at hj; simpa using hj
        exact key fuel rfl hok.1.1 hj hok.2
      | some is =>
        simp only [ptOkP, Bool.and_eq_true, decide_eq_true_eq] at hok
        refine ⟨fun h => (by cases h), fun l' hl j hj => ?_⟩
        cases hl
        have hj0 := hrs is rfl j hj
        obtain rfl : j = i := by rw [hok.1.2] at hj; simpa using hj
        exact key fuel rfl hok.1.1 hj0 hok.2
  | two u v ihu ihv =>
    intro n b fuel rs listed a f w hf hok hrs h hL
    cases fuel with
    | zero => cases rs <;> simp [ptOkP] at hok
    | succ fuel =>
      cases n with
      | zero => exact h.elim
      | succ n =>
        have h' : x P Rf n [] (.t b (lowTP N all u) :: rk.map (lowI N)) b f w ∧ x P Rf n [] (.t b (lowTP N all v) :: rk.map (lowI N)) b f w := h
        have hL' : ∀ n' a' f' w', n' ≤ n → Fits N ds a' f' → x P Rf n' [] (rk.map (lowI N)) w' f' w' → kontI l m P N ds Rf rk .normal a' w' := fun n' a' f' w' hn' => hL n' a' f' w' (by omega)
        cases rs with
        | none =>
          cases hr : Region.ready .any all listed with
          | nil => simp [ptOkP, hr] at hok
          | cons i is =>
            simp only [ptOkP, hr, Bool.and_eq_true] at hok
            have h1 := (ihu n b (fuel + 1) (some [i]) listed a f w hf hok.1 (fun l hl j hj => by cases hl; rw [hr]; rw [List.mem_singleton.1 hj]; exact List.mem_cons_self ..) h'.1 hL').2 _ rfl
            have h2 := (ihv n b (fuel + 1) (some is) listed a f w hf hok.2 (fun l hl j hj => by cases hl; rw [hr]; exact List.mem_cons_of_mem _ hj) h'.2 hL').2 _ rfl
            refine ⟨fun _ => ⟨fun h0 => (by rw [hr] at h0; cases h0), fun j hj => ?_⟩, fun l h => by cases h⟩
            rw [hr] at hj
            rcases List.mem_cons.1 hj with rfl | hj
            · exact h1 _ (List.mem_singleton.2 rfl)
            · exact h2 _ hj
        | some is0 =>
          cases is0 with
          | nil => simp [ptOkP] at hok
          | cons i is =>
            simp only [ptOkP, Bool.and_eq_true] at hok
            have h1 := (ihu n b (fuel + 1) (some [i]) listed a f w hf hok.1 (fun l hl j hj => by cases hl; rw [List.mem_singleton.1 hj]; exact hrs _ rfl _ (List.mem_cons_self ..)) h'.1 hL').2 _ rfl
            have h2 := (ihv n b (fuel + 1) (some is) listed a f w hf hok.2 (fun l hl j hj => by cases hl; exact hrs _ rfl _ (List.mem_cons_of_mem _ hj)) h'.2 hL').2 _ rfl
            refine ⟨fun h => (by cases h), fun l' hl j hj => ?_⟩
            cases hl
            rcases List.mem_cons.1 hj with rfl | hj
            · exact h1 _ (List.mem_singleton.2 rfl)
            · exact h2 _ hj
theorem soundI (hmo : P.follows .mixedOrders = true) : ∀ (n : Nat) (rl : List Oper) (all : Array Oper) (rk : List RI) (b : World) (f : Fr) (w : World) (a : Act), Fits N ds a f →
    x P Rf n (rl.map (cI N all)) (rk.map (lowI N)) b f w → wpListIn (Fence.wide.inRound l) m P all (kontI l m P N ds Rf rk) rl a w := by
  intro n
  induction n using Nat.strongRecOn with
  | _ n IH =>
  intro rl all rk b f w a hf h
  have IH0 : ∀ n', n' < n → ∀ (rk : List RI) (b : World) (f : Fr) (w : World) (a : Act), Fits N ds a f → x P Rf n' [] (rk.map (lowI N)) b f w → kontI l m P N ds Rf rk .normal a w :=
    fun n' hn' rk b f w a hf h => IH n' hn' [] #[] rk b f w a hf h
  cases n with
  | zero => exact h.elim
  | succ n =>
  cases rl with
  | cons o rl =>
    simp only [List.map_cons] at h
    have hstep : stepI P (x P Rf n (rl.map (cI N all)) (rk.map (lowI N)) b) (cI N all o) w f w := by
      generalize hc : cI N all o = ci at h
      cases ci with
      | q i' => exact absurd hc (cI_ne_q _ _ _)
      | chk => exact absurd hc (cI_ne_chk _ _)
      | rb => exact absurd hc (cI_ne_rb _ _)
      | adr d o ty => exact absurd hc (cI_ne_adr _ _ _ _ _)
      | qx t i' => exact absurd hc (cI_ne_qx _ _ _ _)
      | chkx t => exact absurd hc (cI_ne_chkx _ _ _)
      | mv d o => exact h
      | pick d c a b => exact h
      | nilc d y => exact h
      | val d o ty => exact h
      | eff d o ty => exact h
      | call d g args => exact h
      | callv d g args => exact h
      | gd s bb d i' => exact h
      | bad => exact h
    have hsnd := cI_soundI (l := l) (m := m) (Q := kontI l m P N ds Rf rk) (K' := wpListIn (Fence.wide.inRound l) m P all (kontI l m P N ds Rf rk) rl) hf hstep (fun a' f' w' hf' hx => IH n (Nat.lt_succ_self n) rl all rk b f' w' a' hf' hx)
    unfold wpListIn
    split
    · rename_i hw; rw [if_pos hw] at hsnd; exact hsnd
    · rename_i hw; rw [if_neg hw] at hsnd; exact ⟨fun _ _ => trivial, hsnd⟩
  | nil =>
    show kontI l m P N ds Rf rk .normal a w
    have lt := Nat.lt_succ_self n
    cases rk with
    | nil => exact ⟨f, hf, h⟩
    | cons it rk =>
      cases it with
      | bl id => exact IH0 n lt rk _ _ _ _ hf h
      | lp J => exact ⟨f, hf, h⟩
      | c cc =>
        show cc.wpIn (Fence.wide.inRound l) m P (kontI l m P N ds Rf rk) a w
        cases cc with
        | skip => exact wpIn_skip (IH0 n lt rk _ _ _ _ hf h)
        | label l => exact wpIn_label (IH0 n lt rk _ _ _ _ hf h)
        | ret => exact wpIn_ret (kont_retI rk a w ⟨f, hf, h⟩)
        | seq c1 c2 =>
          refine wpIn_seq ?_
          have := IH0 n lt (.c c1 :: .c c2 :: rk) _ _ _ _ hf h
          exact Go.wpIn_mono (this : c1.wpIn (Fence.wide.inRound l) m P (kontI l m P N ds Rf (.c c2 :: rk)) a w) (fun e a w hq => hq)
        | cond c c1 c2 =>
          obtain ⟨t, ht, hk⟩ := h
          refine wpIn_cond (t := t) (by rw [hf.ev]; exact ht) ?_
          cases t
          · exact IH0 n lt (.c c2 :: rk) _ _ _ _ hf hk
          · exact IH0 n lt (.c c1 :: rk) _ _ _ _ hf hk
        | block id c =>
          refine wpIn_block ?_
          have := IH0 n lt (.c c :: .bl id :: rk) _ _ _ _ hf h
          exact Go.wpIn_mono (this : c.wpIn (Fence.wide.inRound l) m P (kontI l m P N ds Rf (.bl id :: rk)) a w) (fun e a w hq => hq)
        | scope c => exact h.elim
        | exit id =>
          have h' : (match popTo id (rk.map (lowI N)) with | some k' => x P Rf n [] k' w f w | none => False) := h
          cases hp : popTo id (rk.map (lowI N)) with
          | none => rw [hp] at h'; exact h'.elim
          | some k' =>
            rw [hp] at h'
            obtain ⟨rk', rfl, hh⟩ := kont_exitI (P := P) (Rf := Rf) (l := l) (m := m) rk id k' hp
            exact wpIn_exit (hh a w (IH0 n lt rk' _ _ _ _ hf h'))
        | loop c =>
          obtain ⟨J, μ, h0, hr⟩ := h
          refine wpIn_loop (RQ N ds J) (fun a w => μ (fun t => a.tmps.getD t undef) w) ⟨f, hf, h0⟩ ?_
          rintro a' w' ⟨f', hf', hJ⟩
          have := IH0 n lt (.c c :: .lp (fun f2 w2 => J f2 w2 ∧ μ f2 w2 < μ f' w') :: rk) _ _ _ _ hf' (hr f' w' hJ)
          refine Go.wpIn_mono (this : c.wpIn (Fence.wide.inRound l) m P (kontI l m P N ds Rf (.lp (fun f2 w2 => J f2 w2 ∧ μ f2 w2 < μ f' w') :: rk)) a' w') (fun e a2 w2 hq => ?_)
          cases e with
          | normal =>
            obtain ⟨f2, hf2, hJ2, hlt⟩ := hq
            refine ⟨⟨f2, hf2, hJ2⟩, ?_⟩
            rw [show (fun t => a2.tmps.getD t undef) = f2 from funext hf2.at_, show (fun t => a'.tmps.getD t undef) = f' from funext hf'.at_]
            exact hlt
          | _ => exact hq
        | region id ops draw =>
          cases draw with
          | false => exact wpIn_region_list (IH n lt ops.toList ops rk _ f w a hf h)
          | true =>
            have h' : x P Rf (n + 1) [] (.c (cDrawI N ops) :: rk.map (lowI N)) b f w := h
            unfold cDrawI at h'
            simp only at h'
            have hl : ops = ops.toList.toArray := by simp
            split at h'
            · rename_i hB
              simp only [Bool.and_eq_true, decide_eq_true_eq] at hB
              refine wpIn_region_still hmo hB.2 hB.1.2 ?_
              have hq : ∀ o ∈ ops.toList, (rawI o).quiet = true := by
                have := quiet_takeWhile ops.toList
                rwa [hB.1.1, ← Array.length_toList, List.take_length] at this
              refine still_of_x (Rf := Rf) (N := N) (tl := []) (k := rk.map (lowI N)) ops.toList hq n a f hf (by rw [List.append_nil]; exact h') ?_
              intro n' a' f' hn' hf' hx
              exact IH0 n' (by omega) rk _ _ _ _ hf' hx
            · split at h'
              · rename_i hB
                simp only [Bool.and_eq_true] at hB
                rw [hl]
                refine wpIn_region_still_tail (headLen ops.toList) hmo (by rw [← hl]; exact hB.2) (by rw [← hl]; exact hB.1) ?_
                rw [← hl]
                refine still_of_x (Rf := Rf) (N := N) (k := rk.map (lowI N)) _ (quiet_takeWhile ops.toList) n a f hf h' ?_
                intro n' a' f' hn' hf' hx
                exact IH n' (by omega) _ ops rk _ f' _ a' hf' hx
              · split at h'
                · rename_i hnd
                  unfold cTreeP at h'
                  split at h'
                  · rename_i pt _
                    split at h'
                    · rename_i hB
                      simp only [Bool.and_eq_true] at hB
                      refine wpIn_region_any hmo ?_
                      exact (held_of_tpI (P := P) (Rf := Rf) (N := N) (rk := rk) hB.1 (noDefer_spec hnd) pt n w.drew _ none _ a f w.drew hf hB.2.1 (fun l h => by cases h) h' (fun n' a' f' w' hn' hf' hx => IH0 n' (by omega) rk _ _ _ _ hf' hx)).1 rfl
                    · exact h'.elim
                  · exact h'.elim
                · exact h'.elim
        | goto _ => exact h.elim
        | rangeFunc _ _ _ _ => exact h.elim
        | refuse _ => exact h.elim
end

theorem cDraw_ne {N : Nat} {ops : Array Oper} : (∀ a b, cDraw N ops ≠ .sq a b) ∧ (∀ i c, cDraw N ops ≠ .bl i c) ∧ (∀ g ps a b, cDraw N ops ≠ .rf g ps a b) ∧ (∀ c, cDraw N ops ≠ .sc c) ∧ (∀ c, cDraw N ops ≠ .lo c) := by
  have h : (∃ l, cDraw N ops = .dr l) ∨ (∃ t, cDraw N ops = .drt t) ∨ (∃ l, cDraw N ops = .drz l) ∨ cDraw N ops = .bad := by
    unfold cDraw cTree cTreeP planD
    dsimp only
    repeat' split
    all_goals first
      | exact .inl ⟨_, rfl⟩
      | exact .inr (.inl ⟨_, rfl⟩)
      | exact .inr (.inr (.inl ⟨_, rfl⟩))
      | exact .inr (.inr (.inr rfl))
  rcases h with ⟨l, h⟩ | ⟨l, h⟩ | ⟨l, h⟩ | h <;> rw [h] <;> exact ⟨fun _ _ e => (by cases e), fun _ _ e => (by cases e), fun _ _ _ _ e => (by cases e), fun _ e => (by cases e), fun _ e => (by cases e)⟩
theorem inv_sq {N : Nat} {code : Code} {A B : C} (h : cC N code = .sq A B) : ∃ a b, code = .seq a b ∧ cC N a = A ∧ cC N b = B := by
  cases code with
  | seq a b => injection h with h1 h2; exact ⟨a, b, rfl, h1, h2⟩
  | region _ ops dr =>
    cases dr with
    | true => exact absurd h (cDraw_ne.1 _ _)
    | false => exact absurd h (by intro h; cases h)
  | rangeFunc g ps a b => unfold cC at h; split at h <;> cases h
  | _ => cases h
theorem inv_bl {N : Nat} {code : Code} {i : Nat} {A : C} (h : cC N code = .bl i A) : ∃ a, code = .block i a ∧ cC N a = A := by
  cases code with
  | block j a => injection h with h1 h2; subst h1; exact ⟨a, rfl, h2⟩
  | region _ ops dr =>
    cases dr with
    | true => exact absurd h (cDraw_ne.2.1 _ _)
    | false => exact absurd h (by intro h; cases h)
  | rangeFunc g ps a b => unfold cC at h; split at h <;> cases h
  | _ => cases h
theorem inv_rf {N : Nat} {code : Code} {g : Operand} {ps : List Nat} {A B : C} (h : cC N code = .rf g ps A B) :
    ∃ a b, code = .rangeFunc g ps.toArray a b ∧ (∀ t ∈ ps, t < N) ∧ cI' N a = A ∧ cI' N b = B := by
  cases code with
  | region _ ops dr =>
    cases dr with
    | true => exact absurd h (cDraw_ne.2.2.1 _ _ _ _)
    | false => exact absurd h (by intro h; cases h)
  | rangeFunc g' ps' a b =>
    unfold cC at h
    split at h
    · rename_i hp
      injection h with h1 h2 h3 h4
      subst h1 h2
      exact ⟨a, b, rfl, fun t ht => by simpa using List.all_eq_true.1 hp t ht, h3, h4⟩
    · cases h
  | _ => cases h

/-- One behind another. -/
def wps (P : Program) (Q : Exit → Act → World → Prop) : List Code → Act → World → Prop
  | [], a, w => Q .normal a w
  | c :: k, a, w => c.wp P (Exit.then (wps P Q k) Q) a w
section
variable {P : Program} {N : Nat} {ds : List Deferred} {Q : Exit → Act → World → Prop} {a : Act} {w : World} {f : Fr}
theorem wps_one {c : Code} : wps P Q [c] a w → c.wp P Q a w := fun h => Go.wp_mono (h : c.wp P (Exit.then (wps P Q []) Q) a w) fun e _ _ hq => by cases e <;> exact hq
theorem wps_seq {c1 c2 : Code} {k : List Code} (h : wps P Q (c1 :: c2 :: k) a w) : wps P Q (.seq c1 c2 :: k) a w := by
  show (Code.seq c1 c2).wp P (Exit.then (wps P Q k) Q) a w
  refine Go.wp_seq (Go.wp_mono (h : c1.wp P (Exit.then (wps P Q (c2 :: k)) Q) a w) fun e a1 w1 hq => ?_)
  cases e <;> exact hq
theorem wps_cons {c : Code} {k k' : List Code} (hk : ∀ a w, wps P Q k a w → wps P Q k' a w) (h : wps P Q (c :: k) a w) : wps P Q (c :: k') a w :=
  Go.wp_mono (h : c.wp P (Exit.then (wps P Q k) Q) a w) fun e a1 w1 hq => by
    cases e with
    | normal => exact hk _ _ hq
    | _ => exact hq
theorem wps_block {id : Nat} {c : Code} {k : List Code} (h : c.wp P (Exit.inBlock id (Exit.then (wps P Q k) Q)) a w) : wps P Q (.block id c :: k) a w := Go.wp_block h
theorem wps_app : ∀ {k1 k2 : List Code} {a : Act} {w : World}, wps P (Exit.then (wps P Q k2) Q) k1 a w → wps P Q (k1 ++ k2) a w
  | [], _, _, _, h => h
  | c :: k1, k2, a, w, h => Go.wp_mono (h : c.wp P (Exit.then (wps P (Exit.then (wps P Q k2) Q) k1) (Exit.then (wps P Q k2) Q)) a w) fun e _ _ hq => by
      cases e with
      | normal => exact wps_app (k1 := k1) hq
      | _ => exact hq
/-- By the executor, to a place between. -/
theorem segs (hm : P.follows .mixedOrders = true) {E R : Fr → World → Prop} {n : Nat} (k1 k2 : List Code) (hf : Fits N ds a f)
    (h : x P R n [] (k1.map (fun c => It.c (cC N c)) ++ [.lp E]) w f w) (hE : ∀ a' f' w', Fits N ds a' f' → E f' w' → wps P Q k2 a' w') (hR : ∀ a' f' w', Fits N ds a' f' → R f' w' → Q .ret a' w') : wps P Q (k1 ++ k2) a w := by
  have e : (k1.map RIt.c ++ [RIt.lp E]).map (RIt.low N) = k1.map (fun c => It.c (cC N c)) ++ [.lp E] := by rw [List.map_append, List.map_map]; rfl
  rw [← e] at h
  have hs := sound (Rf := R) (ds := ds) hm n [] #[] (k1.map RIt.c ++ [RIt.lp E]) w f w a hf h
  replace hs : kont P N ds R (k1.map RIt.c ++ [.lp E]) .normal a w := hs
  refine wps_app ?_
  clear h hf e
  induction k1 generalizing a w with
  | nil =>
    obtain ⟨f', hf', hE'⟩ := hs
    exact hE _ _ _ hf' hE'
  | cons c k1 ih =>
    refine Go.wp_mono (hs : c.wp P (kont P N ds R (k1.map RIt.c ++ [.lp E])) a w) fun e a' w' hq => ?_
    cases e with
    | normal => exact ih hq
    | ret =>
      have : RQ N ds R a' w' := by
        clear ih hs
        induction k1 with
        | nil => exact hq
        | cons _ _ ih => exact ih hq
      obtain ⟨f', hf', hR'⟩ := this
      exact hR _ _ _ hf' hR'
    | _ =>
      exfalso
      clear ih hs
      induction k1 with
      | nil => exact hq
      | cons _ _ ih => exact ih hq
/-- To the end. -/
theorem segs_end (hm : P.follows .mixedOrders = true) {R : Fr → World → Prop} {n : Nat} (k1 : List Code) (hf : Fits N ds a f)
    (h : x P R n [] (k1.map (fun c => It.c (cC N c)) ++ [.lp R]) w f w) (hR : ∀ e a' f' w', e = .normal ∨ e = .ret → Fits N ds a' f' → R f' w' → Q e a' w') : wps P Q k1 a w := by
  have := segs (k2 := []) (Q := Q) hm k1 hf h (fun a' f' w' hf' h' => hR _ _ _ _ (.inl rfl) hf' h') (fun a' f' w' hf' h' => hR _ _ _ _ (.inr rfl) hf' h')
  simpa using this
end

def coll (D : Nat) : Deferred := { target := .collected D, args := #[] }
def Clean (w : World) (Ds : List Nat) : Prop := Ds.Nodup ∧ ∀ D ∈ Ds, w.heap[D]? = some (.deferred (some []))
theorem leavesM {P : Program} {n : Nat} {fn : Func} {tmps : Array Value} {B : Nat} {Rc : Value → World → Prop} (hR : OwnFrom B Rc) {v : Value} {Inv : World → Prop} (hI : OwnFrom B (fun (_ : Unit) W => Inv W)) (hv : ∀ w, Inv w → (results fn tmps).run P w = .ok v w) :
    ∀ (Ds : List Nat) (w : World), Clean w Ds → (∀ D ∈ Ds, B ≤ D) → Inv w → Rc v w → LeavesInM Fence.wide n P fn tmps (fun e w' => ∃ v, e = .returned v ∧ Rc v w') (Ds.map coll) .returning w
  | [], w, _, _, hi, h => ⟨v, hv w hi, v, rfl, h⟩
  | D :: Ds, w, hc, hB, hi, h => by
    have hD := hc.2 D (by simp)
    refine ⟨by simp, .inl ⟨D, _, rfl, run_takeDeferred hD, ?_⟩⟩
    have hnd := List.nodup_cons.1 hc.1
    refine leavesM hR hI hv Ds _ ⟨hnd.2, fun E hE => ?_⟩ (fun E hE => hB E (by simp [hE])) (hI.putObj (s := ()) _ hi (hB D (by simp)) hD rfl) (hR.putObj _ h (hB D (by simp)) hD rfl)
    rw [World.putObj_heap_other (fun e => hnd.1 (by rw [← e]; exact hE))]
    exact hc.2 E (by simp [hE])
def FinM (P : Program) (N : Nat) (rs : Array ResultVar) (B : Nat) (Rc : Value → World → Prop) (e : Exit) (a : Act) (w : World) : Prop :=
  (e = .normal ∨ e = .ret) ∧ ∃ Ds f v, ∃ Inv : World → Prop, Fits N (Ds.map coll) a f ∧ Clean w Ds ∧ (∀ D ∈ Ds, B ≤ D) ∧ OwnFrom B (fun (_ : Unit) W => Inv W) ∧ Inv w ∧ (∀ (fn : Func) (tmps : Array Value) w, Inv w → fn.results = rs → (∀ t, tmps.getD t undef = f t) → (results fn tmps).run P w = .ok v w) ∧ Rc v w
theorem finM {P : Program} {N : Nat} {rs : Array ResultVar} {B : Nat} {Rc : Value → World → Prop} {e : Exit} {a : Act} {w : World} (he : e = .normal ∨ e = .ret) {Ds : List Nat} {f : Fr} {v : Value} (hf : Fits N (Ds.map coll) a f)
    (hc : Clean w Ds) (hB : ∀ D ∈ Ds, B ≤ D) (hv : ∀ (fn : Func) (tmps : Array Value) w, fn.results = rs → (∀ t, tmps.getD t undef = f t) → (results fn tmps).run P w = .ok v w) (h : Rc v w) : FinM P N rs B Rc e a w :=
  ⟨he, Ds, f, v, fun _ => True, hf, hc, hB, fun _ _ _ _ _ _ _ => trivial, trivial, fun fn tmps w _ => hv fn tmps w, h⟩
theorem finM_1 {P : Program} {N : Nat} {t : Nat} {B : Nat} {Rc : Value → World → Prop} {e : Exit} {a : Act} {w : World} (he : e = .normal ∨ e = .ret) {Ds : List Nat} {f : Fr} (hf : Fits N (Ds.map coll) a f)
    (hc : Clean w Ds) (hB : ∀ D ∈ Ds, B ≤ D) (h : Rc (f t) w) : FinM P N #[.tmp t] B Rc e a w := finM he hf hc hB (fun fn tmps w hr hf => by rw [results_tmp hr, hf]) h
theorem clean_one {w : World} {D : Nat} (h : w.heap[D]? = some (.deferred (some []))) : Clean w [D] := ⟨by simp, fun E hE => by simp at hE; subst hE; exact h⟩
theorem cal_of_marks {P : Program} {g : FuncId} {fn : Func} {c : C} {args : List Value} {w : World} {Rc : Value → World → Prop} {N : Nat} {rs : Array ResultVar} (hf : P.funcs[g]? = some fn)
    (hN : fn.ntmps = N) (hrs : fn.results = rs) (hc : fn.body.map (cC N) = some c) (hok : callOk P g = true) (hsz : args.length ≤ N) (hR : OwnFrom w.heap.size Rc)
    (h : ∀ code a, cC N code = c → Fits N [] a (ofL args) → wps P (FinM P N rs w.heap.size Rc) [code] a w) : Cal P g args w Rc := by
  refine ⟨hok, ?_⟩
  cases hb : fn.body with
  | none => simp [hb] at hc
  | some cc =>
    simp only [hb, Option.map_some, Option.some.injEq] at hc
    have hfit : Fits N [] { tmps := args.toArray ++ Array.replicate (fn.ntmps - args.toArray.size) undef, defers := [] } (ofL args) := by
      refine ⟨rfl, by simp [hN]; omega, fun t => ?_⟩
      simp only [Array.getD_eq_getD_getElem?, ofL, List.getD_eq_getElem?_getD, Array.getElem?_append, List.size_toArray, List.getElem?_toArray]
      split
      · rfl
      · rename_i ht
        rw [List.getElem?_eq_none (by omega), Array.getElem?_replicate]
        split <;> rfl
    refine callsIn_wide.1 (callsIn_of_wp_marks (n := 9) hf hb trivial (wpIn_wide.2 ?_) rfl)
    refine Go.wp_mono (wps_one (h cc _ hc hfit)) fun e a w' hq => ?_
    obtain ⟨he, Ds, f, v, Inv, hf', hcl, hB, hI, hi, hv, hRc⟩ := hq
    have key : LeavesInM Fence.wide 9 P fn a.tmps (fun e w' => ∃ v, e = .returned v ∧ Rc v w') a.defers .returning w' := by
      rw [hf'.defers]
      exact leavesM hR hI (fun w hw => hv fn a.tmps w hw hrs hf'.at_) Ds w' hcl hB hi hRc
    rcases he with rfl | rfl <;> exact key

structure But (n g : Nat) (w w' : World) : Prop where
  os : w'.os = w.os
  tape : w'.tape = w.tape
  output : w'.output = w.output
  size : w.heap.size ≤ w'.heap.size
  block : ∀ k, k < n → k ≠ g → w'.heap[k]? = w.heap[k]?
theorem But.refl (n g : Nat) (w : World) : But n g w w := ⟨rfl, rfl, rfl, Nat.le_refl _, fun _ _ _ => rfl⟩
theorem But.trans {n g : Nat} {a b c : World} (h : But n g a b) (k : But n g b c) : But n g a c := ⟨k.os.trans h.os, k.tape.trans h.tape, k.output.trans h.output, Nat.le_trans h.size k.size, fun i hi hg => (k.block i hi hg).trans (h.block i hi hg)⟩
theorem But.of_below {n g m : Nat} {w w' : World} (h : Below m w w') (hm : n ≤ m) : But n g w w' := ⟨h.os, h.tape, h.output, h.size, fun i hi _ => h.block i (by omega)⟩
theorem But.of_grown {n g : Nat} {w w' : World} (h : w.grownBy w' (some g)) (hn : n ≤ w.heap.size) : But n g w w' := ⟨h.os, h.tape, h.output, h.size, fun i hi hg => h.block i (by omega) (fun e => hg (by cases e; rfl))⟩
theorem KeepsFrom.of_below {B m : Nat} {w w' : World} (h : Below m w w') (hm : w.heap.size ≤ m) : KeepsFrom B w w' := ⟨h.size, fun k o _ hk _ => (h.block k (by have := (Array.getElem?_eq_some_iff.1 hk).1; omega)).trans hk⟩
theorem KeepsFrom.of_grown {B g : Nat} {w w' : World} (h : w.grownBy w' (some g)) (hg : g < B) : KeepsFrom B w w' := KeepsFrom.of_grownBy h fun j e => by cases e; exact hg

def updL (f : Fr) : List Nat → List Value → Fr
  | p :: ps, v :: vs => updL (upd f p v) ps vs
  | _, _ => f
theorem Fits.updL {N : Nat} {ds : List Deferred} : ∀ (ps : List Nat) (vs : List Value) {a : Act} {f : Fr}, Fits N ds a f → (∀ t ∈ ps, t < N) →
    Fits N ds { a with tmps := (ps.zip vs).foldl (fun t (p, v) => t.setIfInBounds p v) a.tmps } (updL f ps vs)
  | [], _, _, _, h, _ => h
  | _ :: _, [], _, _, h, _ => h
  | p :: ps, v :: vs, a, f, h, hp => by
    have h1 := h.put (some p) (fun k hk => by cases hk; exact hp p (by simp)) v
    exact Fits.updL ps vs h1 fun t ht => hp t (by simp [ht])
theorem range_x {P : Program} (hmo : P.follows .mixedOrders = true) {N : Nat} {ds : List Deferred} {g : Operand} {ps : List Nat} {CA CB : C} {code : Code} (hc : cC N code = .rf g ps CA CB) {Q : Exit → Act → World → Prop} {a : Act} {f : Fr} {w : World} (hf : Fits N ds a f)
    {gf : Nat} {lb : Array Value} (hg : ev f g = .func (.func gf) #[] lb) (eg : ∀ args w, (callFunc gf args).run P w = .ok (.enter gf args) w)
    {α : Type} {encs : α → Array Value} {Kp : World → World → Prop} {S Sp : List α → Prop} {M : Nat} {w0 : World} (hseq : SeqStopsK Fence.wide 3 P gf lb encs Kp S Sp M w0) (hb0 : Below w0.heap.size w0 w) (hKt : ∀ {A B C : World}, Kp A B → Kp B C → Kp A C)
    (hKb : ∀ (W : World) (l : Nat) (o o' : Obj), w.heap.size ≤ l → W.heap[l]? = some o → o.isCells = false → o.isWalk = false → Kp W (W.putObj l o')) (hKr : ∀ W, Kp W W) (hps : ∀ x, (encs x).size = ps.length)
    (I : List α → World → Prop) (hI : OwnFrom w.heap.size I) (h0 : I [] w) (fA : α → Fr)
    (hA : ∀ x W, ∃ k, Go.Proofs.YtcjinmgieiebbaaDoor.x P (fun _ _ => False) k [] [.c CA, .lp (fun f' W' => f' = fA x ∧ W' = W)] W (updL f ps (encs x).toList) W)
    (hB : ∀ pre x W, I pre W → pre.length < M → ∃ k, Go.Proofs.YtcjinmgieiebbaaDoor.x P (fun _ _ => False) k [] [.c CB, .lp (fun _ W' => KeepsFrom w.heap.size W W' ∧ Kp W W' ∧ I (pre ++ [x]) W')] W (fA x) W)
    (hd : ∀ D xs a' W, w.heap.size ≤ D → S xs → I xs W → W.heap[D]? = some (.deferred (some [])) → Fits N (coll D :: ds) a' f → Q .normal a' W) : code.wp P Q a w := by
  obtain ⟨ca, cb, rfl, hpN, hca, hcb⟩ := inv_rf hc
  subst hca hcb
  refine (wpIn_wide (n := 4)).1 (wpIn_rangeFunc_ownH (F := Fence.wide) (n := 4) rfl (by decide) (gf := gf) (lb := lb) (by rw [hf.ev]; exact hg) trivial eg hseq hKt hKb hb0 (fun x => hps x) I (fun _ _ _ => False) hI
    (fun _ _ _ _ _ hs _ _ => hs) h0 (fun x a' _ => Fits N [] a' (fA x)) (fun _ _ => fun _ _ _ _ hs _ _ => hs) ?_ ?_ ?_ ?_)
  · intro l pre x W K hi hK
    obtain ⟨k, hx⟩ := hA x W
    have hfit : Fits N [] { tmps := (ps.toArray.zip (encs x)).foldl (fun t (p, v) => t.setIfInBounds p v) a.tmps, defers := [] } (updL f ps (encs x).toList) := by
      have h1 : Fits N [] { tmps := a.tmps, defers := [] } f := ⟨rfl, hf.size, hf.at_⟩
      have h2 := h1.updL ps (encs x).toList hpN
      have e : (ps.toArray.zip (encs x)).foldl (fun t (p, v) => t.setIfInBounds p v) a.tmps = (ps.zip (encs x).toList).foldl (fun t (p, v) => t.setIfInBounds p v) a.tmps := by
        rw [← Array.foldl_toList]
        simp
      rw [e]
      exact h2
    have hs := soundI (Rf := fun _ _ => False) hmo (l := l) (m := 4 - 1 - 1) k [] #[] [.c ca, .lp _] W _ W _ hfit hx
    refine Go.wpIn_mono (hs : ca.wpIn _ _ P (kontI l (4 - 1 - 1) P N [] (fun _ _ => False) [.lp _]) _ W) fun e a' W' hq => ?_
    cases e with
    | normal =>
      obtain ⟨f', hf', rfl, rfl⟩ := hq
      exact hK _ _ (KeepsFrom.refl _ _) (hKr _) hi hf'
    | ret => obtain ⟨_, _, h⟩ := hq; exact h.elim
    | _ => exact hq.elim
  · intro l pre x a' W _ _ hi hfit hlt
    obtain ⟨k, hx⟩ := hB pre x W hi hlt
    have hs := soundI (Rf := fun _ _ => False) hmo (l := l) (m := 4 - 1 - 1) k [] #[] [.c cb, .lp _] W _ W _ hfit hx
    refine Go.wpIn_mono (hs : cb.wpIn _ _ P (kontI l (4 - 1 - 1) P N [] (fun _ _ => False) [.lp _]) _ W) fun e a' W' hq => ?_
    cases e with
    | normal =>
      obtain ⟨f', hf', h1, h2, h3⟩ := hq
      exact ⟨h1, h2, h3⟩
    | ret => obtain ⟨_, _, h⟩ := hq; exact h.elim
    | _ => exact hq.elim
  · intro D xs W hD hS hi hW
    exact hd D xs _ W hD hS hi hW ⟨by rw [← hf.defers]; rfl, hf.size, hf.at_⟩
  · intro D c pre W _ _ h _
    exact h.elim
end Go.Proofs.YtcjinmgieiebbaaDoor
