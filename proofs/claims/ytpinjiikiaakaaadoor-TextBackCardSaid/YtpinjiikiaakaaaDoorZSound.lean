/-
  The executor of YtpinjiikiaakaaaDoorExec is enough for 'Calls': soundness. No program in sight.
-/
import Derived.Test.YtpinjiikiaakaaaDoorZExec
namespace Go.Proofs.YtpinjiikiaakaaaDoor
set_option linter.unusedSimpArgs false
set_option linter.unusedVariables false
set_option linter.unusedSectionVars false
open Go.RowKit

inductive RIt where
  | c (c : Code)
  | bl (id : Nat)
  | lp (J : Fr → World → Prop)
  | sc
def RIt.low (N : NT) : RIt → It
  | .c cc => .c (cC N cc)
  | .bl id => .bl id
  | .lp J => .lp J
  | .sc => .sc
def RQ (N : NT) (ds : Dx) (Rf : Fr → World → Prop) (a : Act) (w : World) : Prop := ∃ f, Fits N ds a f ∧ Rf f w
def kont (P : Program) (N : NT) (ds : Dx) (Rf : Rx) : List RIt → Exit → Act → World → Prop
  | [], .normal, a, w => RQ N ds Rf.ret a w
  | [], .ret, a, w => RQ N ds Rf.ret a w
  | [], .panic ch, a, w => (a.defers = ds.ds ∧ ∀ t, t < N.lo → a.tmps.getD t undef = ds.low t) ∧ Rf.pan ch w
  | [], _, _, _ => False
  | .c c :: k, e, a, w => Exit.then (c.wp P (kont P N ds Rf k)) (kont P N ds Rf k) e a w
  | .bl id :: k, e, a, w => Exit.inBlock id (kont P N ds Rf k) e a w
  | .lp J :: k, e, a, w => Exit.then (RQ N ds J) (kont P N ds Rf k) e a w
  | .sc :: k, e, a, w => Exit.noGoto (kont P N ds Rf k) e a w

section
variable {P : Program} {N : NT} {ds : Dx} {Rf : Rx} {pn : List PanicEntry → World → Prop}
theorem kont_ret : ∀ (k : List RIt) (a : Act) (w : World), RQ N ds Rf.ret a w → kont P N ds Rf k .ret a w
  | [], _, _, h => h
  | .c _ :: k, a, w, h => kont_ret k a w h
  | .bl _ :: k, a, w, h => kont_ret k a w h
  | .lp _ :: k, a, w, h => kont_ret k a w h
  | .sc :: k, a, w, h => kont_ret k a w h
theorem kont_panic : ∀ (k : List RIt) (ch : List PanicEntry) (a : Act) (w : World), kont P N ds Rf k (.panic ch) a w ↔ ((a.defers = ds.ds ∧ ∀ t, t < N.lo → a.tmps.getD t undef = ds.low t) ∧ Rf.pan ch w)
  | [], _, _, _ => Iff.rfl
  | .c _ :: k, ch, a, w => kont_panic k ch a w
  | .bl _ :: k, ch, a, w => kont_panic k ch a w
  | .lp _ :: k, ch, a, w => kont_panic k ch a w
  | .sc :: k, ch, a, w => kont_panic k ch a w
theorem put_defers (a : Act) (d : Option Nat) (v : Value) : (a.put d v).defers = a.defers := by cases d <;> rfl
theorem okD_lt {d : Option Nat} (h : okD N d = true) : ∀ k, d = some k → k < N.n ∧ N.lo ≤ k := by
  intro k hk; subst hk; simpa [okD] using h
theorem kont_put (k : List RIt) (ch : List PanicEntry) (a : Act) (w : World) (d : Option Nat) (v : Value) (hd : okD N d = true) (h : kont P N ds Rf k (.panic ch) (a.put d v) w) : kont P N ds Rf k (.panic ch) a w := by
  rw [kont_panic] at h ⊢
  rw [put_defers] at h
  refine ⟨⟨h.1.1, fun t ht => ?_⟩, h.2⟩
  rw [← h.1.2 t ht]
  cases d with
  | none => rfl
  | some k =>
    have := (okD_lt hd k rfl).2
    simp only [Act.put, Array.getD_eq_getD_getElem?, Array.getElem?_setIfInBounds]
    rw [if_neg (by omega)]
theorem kont_pan (k : List RIt) {f : Fr} {a : Act} (hf : Fits N ds a f) (ch : List PanicEntry) (w : World) (h : Rf.pan ch w) : kont P N ds Rf k (.panic ch) a w := (kont_panic k ch a w).2 ⟨⟨hf.defers, fun t ht => by rw [hf.at_, hf.low t ht]⟩, h⟩
theorem kont_exit : ∀ (k : List RIt) (id : Nat) (k' : List It), popTo id (k.map (RIt.low N)) = some k' →
    ∃ rk, k' = rk.map (RIt.low N) ∧ ∀ a w, kont P N ds Rf rk .normal a w → kont P N ds Rf k (.exit id) a w
  | [], _, _, h => by simp [popTo] at h
  | .c _ :: k, id, k', h => by
    obtain ⟨rk, e, hh⟩ := kont_exit k id k' (by simpa [popTo, RIt.low] using h)
    exact ⟨rk, e, fun a w hq => hh a w hq⟩
  | .lp _ :: k, id, k', h => by
    obtain ⟨rk, e, hh⟩ := kont_exit k id k' (by simpa [popTo, RIt.low] using h)
    exact ⟨rk, e, fun a w hq => hh a w hq⟩
  | .sc :: k, id, k', h => by
    obtain ⟨rk, e, hh⟩ := kont_exit k id k' (by simpa [popTo, RIt.low] using h)
    exact ⟨rk, e, fun a w hq => hh a w hq⟩
  | .bl j :: k, id, k', h => by
    by_cases hj : id = j
    · subst hj
      have e : k.map (RIt.low N) = k' := by simpa [popTo, RIt.low] using h
      exact ⟨k, e.symm, fun a w hq => by simpa [kont, Exit.inBlock] using hq⟩
    · obtain ⟨rk, e, hh⟩ := kont_exit k id k' (by simpa [popTo, RIt.low, hj] using h)
      exact ⟨rk, e, fun a w hq => by simpa [kont, Exit.inBlock, hj] using hh a w hq⟩

theorem run_callFunc_ok {g : FuncId} (h : callOk P g = true) (args : Array Value) (w : World) : (callFunc g args).run P w = .ok (.enter g args) w := by
  unfold callOk at h
  cases hf : P.funcs[g]? with
  | none => simp [hf] at h
  | some fn =>
    simp only [hf, Bool.and_eq_true, Bool.not_eq_true'] at h
    obtain ⟨h1, h2⟩ := h
    have h1' : fn.name ≠ "runtime.NumGoroutine" := by simpa using h1
    have h3 : fn.body ≠ none := by cases hb : fn.body <;> simp [hb] at h2 ⊢
    simp [callFunc, program, Sem.run, hf, h1', h3, pure]

theorem exec_val {o : Oper} {s : Sem Value} {ρ : Operand → Value} (hq : (quietOp o.op).isSome = true) (hs : valOf ρ o.type o.op = some s) {w w' : World} {v : Value} (hr : s.run P w = .ok v w') :
    (execOp ρ o).run P w = .ok (.value v) w' ∨ ((execOp ρ o).run P w = .ok .skip w' ∧ v = undef) := by
  obtain ⟨dst, op, ty, pos, after, guard⟩ := o
  have key : ∀ (s' : Sem Value), some s' = some s → (do pure (Next.value (← s')) : Sem Next).run P w = .ok (.value v) w' := by
    intro s' e; cases e; simp [hr]
  cases op
  case call c =>
    obtain ⟨callee, args, argTypes⟩ := c
    cases callee with
    | value _ => simp [quietOp] at hq
    | invoke _ _ => simp [quietOp] at hq
    | builtin b =>
      cases b <;> first
        | (simp [quietOp] at hq; done)
        | (refine .inl ?_
           simp only [valOf] at hs
           simp only [execOp, resolve, invoke, builtin, Sem.run_bind, Sem.run_pure, Result.andThen_ok]
           simpa using key _ hs)
  case store t a x =>
    simp only [valOf, Option.some.injEq] at hs
    subst hs
    refine .inr ?_
    simp only [Sem.run_bind] at hr
    cases hst : (Instr.storeAt t (ρ a) (ρ x)).run P w with
    | ok _ w2 =>
      simp only [hst, Result.andThen_ok, Sem.run_pure, Result.ok.injEq] at hr
      exact ⟨by simp [execOp, hst, hr.2], hr.1.symm⟩
    | halt _ _ => simp [hst, Result.andThen] at hr
  case mapUpdate t m k x =>
    simp only [valOf, Option.some.injEq] at hs
    subst hs
    refine .inr ?_
    simp only [Sem.run_bind] at hr
    cases hst : (Instr.mapUpdate t (ρ m) (ρ k) (ρ x)).run P w with
    | ok _ w2 =>
      simp only [hst, Result.andThen_ok, Sem.run_pure, Result.ok.injEq] at hr
      exact ⟨by simp [execOp, hst, hr.2], hr.1.symm⟩
    | halt _ _ => simp [hst, Result.andThen] at hr
  case insert t m k x =>
    simp only [valOf, Option.some.injEq] at hs
    subst hs
    refine .inr ?_
    simp only [Sem.run_bind] at hr
    cases hst : (Instr.mapUpdate t (ρ m) (ρ k) (ρ x)).run P w with
    | ok _ w2 =>
      simp only [hst, Result.andThen_ok, Sem.run_pure, Result.ok.injEq] at hr
      exact ⟨by simp [execOp, hst, hr.2], hr.1.symm⟩
    | halt _ _ => simp [hst, Result.andThen] at hr
  all_goals first
    | (simp [quietOp] at hq; done)
    | (refine .inl ?_
       simp only [valOf] at hs
       simpa only [execOp] using key _ hs)

theorem upon_of {o : Oper} {a : Act} {K' : Act → World → Prop} {Q : Exit → Act → World → Prop} {w w' : World} {v : Value}
    (h : (execOp a.eval o).run P w = .ok (.value v) w' ∨ ((execOp a.eval o).run P w = .ok .skip w' ∧ v = undef)) (hk : K' (a.put o.dst v) w') : o.wp P a w K' Q := by
  unfold Oper.wp
  rcases h with h | ⟨h, rfl⟩ <;> rw [h] <;> exact hk

theorem call_wp {K : Fr → World → Prop} {g : FuncId} {vs : List Value} {o : Oper} {a : Act} {f : Fr} {w : World} {K' : Act → World → Prop} {Q : Exit → Act → World → Prop} (hf : Fits N ds a f) (hd : okD N o.dst = true)
    (he : (execOp a.eval o).run P w = (callFunc g vs.toArray).run P w) (h : CallX P pn K g vs f o.dst w) (hP : ∀ ch w', pn ch w' → Q (.panic ch) a w') (hK : ∀ a f w, Fits N ds a f → K f w → K' a w) : o.wp P a w K' Q := by
  obtain ⟨hok, hc⟩ := h
  unfold Oper.wp
  rw [he, run_callFunc_ok hok, Oper.upon_enter]
  refine hc.mono ?_
  rintro e w' (⟨v, rfl, hk⟩ | ⟨ch, rfl, hk⟩)
  · exact hK _ _ _ (hf.put _ (okD_lt hd) v) hk
  · exact hP ch w' hk

theorem stepI_sound {K : Fr → World → Prop} {o : Oper} {a : Act} {f : Fr} {w : World} {K' : Act → World → Prop} {Q : Exit → Act → World → Prop} (hf : Fits N ds a f) (hd : okD N o.dst = true)
    (h : stepI P pn K (rawI o) w f w) (hP : ∀ ch w', pn ch w' → Q (.panic ch) a w') (hK : ∀ a f w, Fits N ds a f → K f w → K' a w) : o.wp P a w K' Q := by
  have hev := hf.evF
  have hput := fun v => hf.put o.dst (okD_lt hd) v
  obtain ⟨dst, op, ty, pos, after, guard⟩ := o
  have vals : ∀ (o' : Op), op = o' → (quietOp o').isSome = true → ValX P K o' ty w f dst w → Oper.wp P ⟨dst, op, ty, pos, after, guard⟩ a w K' Q := by
    intro o' eo hq hv
    subst eo
    unfold ValX at hv
    cases hs : valOf (ev f) ty op with
    | none => simp [hs] at hv
    | some s =>
      simp only [hs] at hv
      obtain ⟨v, hr, hk⟩ := hv
      refine upon_of (exec_val (o := ⟨dst, op, ty, pos, after, guard⟩) hq (by rw [hev]; exact hs) (hr w (Below.refl _ _))) (hK _ _ _ (hput v) hk)
  have effs : ∀ (o' : Op), op = o' → (quietOp o').isSome = true → EffX P K o' ty f dst w → Oper.wp P ⟨dst, op, ty, pos, after, guard⟩ a w K' Q := by
    intro o' eo hq hv
    subst eo
    unfold EffX at hv
    cases hs : valOf (ev f) ty op with
    | none => simp [hs] at hv
    | some s =>
      simp only [hs] at hv
      obtain ⟨v, w', hr, hk⟩ := hv
      exact upon_of (exec_val (o := ⟨dst, op, ty, pos, after, guard⟩) hq (by rw [hev]; exact hs) hr) (hK _ _ _ (hput v) hk)
  cases op
  case panic y =>
    obtain ⟨⟨t, z, hv⟩, hk⟩ := h
    unfold Oper.wp
    have hr : (execOp a.eval ⟨dst, .panic y, ty, pos, after, guard⟩).run P w = .halt (.panic (ev f y)) w := by
      simp only [execOp, hev, hv, Instr.panic]
      rfl
    rw [hr, Oper.upon_panic]
    exact hP _ _ hk
  case move y => exact upon_of (.inl (by simp [execOp, hev])) (hK _ _ _ (hput _) h)
  case assign y => exact upon_of (.inl (by simp [execOp, hev])) (hK _ _ _ (hput _) h)
  case pick c y z =>
    obtain ⟨t, ht, hk⟩ := h
    refine upon_of (v := if t then ev f y else ev f z) (w' := w) (.inl ?_) (hK _ _ _ (hput _) hk)
    simp only [execOp, hev, ht, asBool]
    cases t <;> simp
  case nilCheck y =>
    obtain ⟨hn, hk⟩ := h
    refine upon_of (v := ev f y) (w' := w) (.inl ?_) (hK _ _ _ (hput _) hk)
    rcases hn with ⟨p, hp⟩ | ⟨g, p, q, hp⟩ <;> simp only [execOp, hev, hp] <;> rfl
  case call c =>
    obtain ⟨callee, args, argTypes⟩ := c
    have gen : ∀ (g : Operand), callee = .value g → CallVX P pn K (ev f g) (args.toList.map (ev f)) f dst w → Oper.wp P ⟨dst, .call ⟨callee, args, argTypes⟩, ty, pos, after, guard⟩ a w K' Q := by
      intro g eg hv
      subst eg
      obtain ⟨g', first, cap, hg, hc⟩ := hv
      refine call_wp hf hd ?_ hc hP hK
      simp only [execOp, hev, resolve, Deferred.ofValue, hg, Sem.run_bind, Sem.run_pure, Result.andThen_ok, invoke]
      congr 3
      apply Array.ext'
      simp
    cases callee with
    | value g =>
      cases g with
      | func g =>
        refine call_wp hf hd ?_ h hP hK
        simp only [execOp, hev, ev, resolve, Deferred.ofValue, Sem.run_bind, Sem.run_pure, Result.andThen_ok, invoke]
        congr 3
        apply Array.ext'
        simp
      | tmp t => exact gen _ rfl h
      | const v => exact gen _ rfl h
      | global g => exact gen _ rfl h
    | invoke _ _ => exact h.elim
    | builtin b => cases b <;> first | exact vals _ rfl rfl h | exact effs _ rfl rfl h | exact h.elim
  all_goals first | exact vals _ rfl rfl h | exact effs _ rfl rfl h | exact h.elim

theorem wanted_gd {o : Oper} {all : Array Oper} {a : Act} {f : Fr} (hf : Fits N ds a f) {j s : Nat} {b : Bool} (hg : o.guard = some (j, b)) (hs : (all[j]?).bind (·.dst) = some s) :
    Region.wanted o (yielded all a.tmps) = (match f s with | .bool t => decide (t = b) | _ => false) := by
  simp only [Region.wanted, hg, hf.yield, hs]
  cases f s <;> simp
  rename_i t; cases t <;> cases b <;> rfl

/-- An instruction of a region, guard and all. -/
theorem cI_sound {K : Fr → World → Prop} {all : Array Oper} {o : Oper} {a : Act} {f : Fr} {w : World} {K' : Act → World → Prop} {Q : Exit → Act → World → Prop} (hf : Fits N ds a f)
    (h : stepI P pn K (cI N all o) w f w) (hP : ∀ ch w', pn ch w' → Q (.panic ch) a w') (hK : ∀ a f w, Fits N ds a f → K f w → K' a w) :
    if Region.wanted o (yielded all a.tmps) = true then o.wp P a w K' Q else K' (a.put o.dst undef) w := by
  unfold cI at h
  by_cases hd : okD N o.dst = true
  · rw [if_pos hd] at h
    cases hg : o.guard with
    | none =>
      simp only [hg] at h
      rw [if_pos (by simp [Region.wanted, hg])]
      exact stepI_sound hf hd h hP hK
    | some jb =>
      obtain ⟨j, b⟩ := jb
      simp only [hg] at h
      cases hs : (all[j]?).bind (·.dst) with
      | none => simp only [hs, stepI] at h
      | some s =>
        simp only [hs, stepI] at h
        rw [wanted_gd hf hg hs]
        have hput := hf.put o.dst (okD_lt hd) undef
        cases hfs : f s <;> simp only [hfs] at h ⊢
        case bool t =>
          by_cases ht : t = b
          · rw [if_pos ht] at h; rw [if_pos (by simp [ht])]; exact stepI_sound hf hd h hP hK
          · rw [if_neg ht] at h; rw [if_neg (by simp [ht])]; exact hK _ _ _ hput h
        all_goals (rw [if_neg (by simp)]; exact hK _ _ _ hput h)
  · rw [if_neg hd] at h; exact h.elim

/-- A  quiet instruction: the value, in every world that keeps what lay in 'b'. -/
theorem quiet_sound {K : Fr → World → Prop} {all : Array Oper} {o : Oper} {a : Act} {f : Fr} {b w : World} (hf : Fits N ds a f) (hq : (rawI o).quiet = true)
    (h : stepI P pn K (cI N all o) b f w) :
    ∃ v, okD N o.dst = true ∧ YieldsIf P all (Below b.heap.size b) o v a ∧ K (updO f o.dst v) w := by
  unfold cI at h
  by_cases hd : okD N o.dst = true
  · rw [if_pos hd] at h
    have raw : stepI P pn K (rawI o) b f w → ∃ v, (∀ w', Below b.heap.size b w' → (execOp a.eval o).run P w' = .ok (.value v) w') ∧ K (updO f o.dst v) w := by
      clear h
      intro h
      have hev := hf.evF
      obtain ⟨dst, op, ty, pos, after, guard⟩ := o
      have vals : ∀ (o' : Op), op = o' → quietOp o' = some true → ValX P K o' ty b f dst w →
          ∃ v, (∀ w', Below b.heap.size b w' → (execOp a.eval ⟨dst, op, ty, pos, after, guard⟩).run P w' = .ok (.value v) w') ∧ K (updO f dst v) w := by
        intro o' eo hqo hv
        subst eo
        unfold ValX at hv
        cases hs : valOf (ev f) ty op with
        | none => simp [hs] at hv
        | some s =>
          simp only [hs] at hv
          obtain ⟨v, hr, hk⟩ := hv
          refine ⟨v, fun w' hw' => ?_, hk⟩
          rcases exec_val (o := ⟨dst, op, ty, pos, after, guard⟩) (ρ := a.eval) (by rw [hqo]; rfl) (by rw [hev]; exact hs) (hr w' hw') with h | ⟨h, _⟩
          · exact h
          · exfalso
            have : ∀ op', quietOp op' = some true → ∀ dst ty pos after guard, ∀ r, (execOp (ev f) ⟨dst, op', ty, pos, after, guard⟩).run P w' = .ok .skip r → False := by
              intro op' hq' dst ty pos after guard r hr'
              have fin : ∀ (s : Sem Value), (do pure (Next.value (← s)) : Sem Next).run P w' = .ok .skip r → False := by
                intro s hs
                simp only [Sem.run_bind] at hs
                cases hz : s.run P w' <;> simp [hz, Result.andThen] at hs
              cases op'
              case call c =>
                obtain ⟨callee, args, argTypes⟩ := c
                cases callee with
                | value _ => simp [quietOp] at hq'
                | invoke _ _ => simp [quietOp] at hq'
                | builtin bb =>
                  cases bb <;> first
                    | (simp [quietOp] at hq'; done)
                    | (simp only [execOp, resolve, invoke, builtin, Sem.run_bind, Sem.run_pure, Result.andThen_ok] at hr'
                       exact fin _ (by simp only [Sem.run_bind, Sem.run_pure]; exact hr'))
              all_goals first
                | (simp [quietOp] at hq'; done)
                | (simp only [execOp] at hr'; exact fin _ hr')
            rw [hev] at h
            exact this op hqo _ _ _ _ _ _ h
      cases op
      case move y => exact ⟨_, fun w' _ => by simp [execOp, hev], h⟩
      case assign y => exact ⟨_, fun w' _ => by simp [execOp, hev], h⟩
      case pick c y z =>
        obtain ⟨t, ht, hk⟩ := h
        exact ⟨_, fun w' _ => by simp only [execOp, hev, ht, asBool]; cases t <;> simp, hk⟩
      case nilCheck y =>
        obtain ⟨hn, hk⟩ := h
        refine ⟨ev f y, fun w' _ => ?_, hk⟩
        rcases hn with ⟨p, hp⟩ | ⟨g, p, q, hp⟩ <;> simp only [execOp, hev, hp] <;> rfl
      case call c =>
        obtain ⟨callee, args, argTypes⟩ := c
        cases callee with
        | value g => cases g <;> simp [rawI, I.quiet] at hq
        | invoke _ _ => exact h.elim
        | builtin bb => cases bb <;> first | exact vals _ rfl rfl h | (simp [rawI, quietOp, I.quiet] at hq; done) | exact h.elim
      all_goals first | exact vals _ rfl rfl h | (simp [rawI, quietOp, I.quiet] at hq; done) | exact h.elim
    cases hg : o.guard with
    | none =>
      simp only [hg] at h
      obtain ⟨v, h1, h2⟩ := raw h
      exact ⟨v, hd, .inl ⟨by simp [Region.wanted, hg], h1⟩, h2⟩
    | some jb =>
      obtain ⟨j, bb⟩ := jb
      simp only [hg] at h
      cases hs : (all[j]?).bind (·.dst) with
      | none => simp only [hs, stepI] at h
      | some s =>
        simp only [hs, stepI] at h
        have hw := wanted_gd hf hg hs
        cases hfs : f s <;> simp only [hfs] at h hw
        case bool t =>
          by_cases ht : t = bb
          · rw [if_pos ht] at h
            obtain ⟨v, h1, h2⟩ := raw h
            exact ⟨v, hd, .inl ⟨by rw [hw]; simp [ht], h1⟩, h2⟩
          · rw [if_neg ht] at h; exact ⟨undef, hd, .inr ⟨by rw [hw]; simp [ht], rfl⟩, h⟩
        all_goals exact ⟨undef, hd, .inr ⟨hw, rfl⟩, h⟩
  · rw [if_neg hd] at h; exact h.elim

/-- A  quiet instruction: the value, in every world that keeps what lay in 'b'. -/
theorem quiet_soundE {K : Fr → World → Prop} {all : Array Oper} {o : Oper} {a : Act} {f : Fr} {b w : World} {et : TypeId} (hf : Fits N ds a f) (hq : (rawI o).quiet = true)
    (h : stepE P K et (cI N all o) b f w) :
    ∃ v, okD N o.dst = true ∧ YieldsIf P all (BelowE P et b) o v a ∧ K (updO f o.dst v) w := by
  unfold cI at h
  by_cases hd : okD N o.dst = true
  · rw [if_pos hd] at h
    have raw : stepE P K et (rawI o) b f w → ∃ v, (∀ w', BelowE P et b w' → (execOp a.eval o).run P w' = .ok (.value v) w') ∧ K (updO f o.dst v) w := by
      clear h
      intro h
      have hev := hf.evF
      obtain ⟨dst, op, ty, pos, after, guard⟩ := o
      have vals : ∀ (o' : Op), op = o' → quietOp o' = some true → ValXE P K et o' ty b f dst w →
          ∃ v, (∀ w', BelowE P et b w' → (execOp a.eval ⟨dst, op, ty, pos, after, guard⟩).run P w' = .ok (.value v) w') ∧ K (updO f dst v) w := by
        intro o' eo hqo hv
        subst eo
        unfold ValXE at hv
        cases hs : valOf (ev f) ty op with
        | none => simp [hs] at hv
        | some s =>
          simp only [hs] at hv
          obtain ⟨v, hr, hk⟩ := hv
          refine ⟨v, fun w' hw' => ?_, hk⟩
          rcases exec_val (o := ⟨dst, op, ty, pos, after, guard⟩) (ρ := a.eval) (by rw [hqo]; rfl) (by rw [hev]; exact hs) (hr w' hw') with h | ⟨h, _⟩
          · exact h
          · exfalso
            have : ∀ op', quietOp op' = some true → ∀ dst ty pos after guard, ∀ r, (execOp (ev f) ⟨dst, op', ty, pos, after, guard⟩).run P w' = .ok .skip r → False := by
              intro op' hq' dst ty pos after guard r hr'
              have fin : ∀ (s : Sem Value), (do pure (Next.value (← s)) : Sem Next).run P w' = .ok .skip r → False := by
                intro s hs
                simp only [Sem.run_bind] at hs
                cases hz : s.run P w' <;> simp [hz, Result.andThen] at hs
              cases op'
              case call c =>
                obtain ⟨callee, args, argTypes⟩ := c
                cases callee with
                | value _ => simp [quietOp] at hq'
                | invoke _ _ => simp [quietOp] at hq'
                | builtin bb =>
                  cases bb <;> first
                    | (simp [quietOp] at hq'; done)
                    | (simp only [execOp, resolve, invoke, builtin, Sem.run_bind, Sem.run_pure, Result.andThen_ok] at hr'
                       exact fin _ (by simp only [Sem.run_bind, Sem.run_pure]; exact hr'))
              all_goals first
                | (simp [quietOp] at hq'; done)
                | (simp only [execOp] at hr'; exact fin _ hr')
            rw [hev] at h
            exact this op hqo _ _ _ _ _ _ h
      cases op
      case move y => exact ⟨_, fun w' _ => by simp [execOp, hev], h⟩
      case assign y => exact ⟨_, fun w' _ => by simp [execOp, hev], h⟩
      case pick c y z =>
        obtain ⟨t, ht, hk⟩ := h
        exact ⟨_, fun w' _ => by simp only [execOp, hev, ht, asBool]; cases t <;> simp, hk⟩
      case nilCheck y =>
        obtain ⟨hn, hk⟩ := h
        refine ⟨ev f y, fun w' _ => ?_, hk⟩
        rcases hn with ⟨p, hp⟩ | ⟨g, p, q, hp⟩ <;> simp only [execOp, hev, hp] <;> rfl
      case call c =>
        obtain ⟨callee, args, argTypes⟩ := c
        cases callee with
        | value g => cases g <;> simp [rawI, I.quiet] at hq
        | invoke _ _ => exact h.elim
        | builtin bb => cases bb <;> first | exact vals _ rfl rfl h | (simp [rawI, quietOp, I.quiet] at hq; done) | exact h.elim
      all_goals first | exact vals _ rfl rfl h | (simp [rawI, quietOp, I.quiet] at hq; done) | exact h.elim
    cases hg : o.guard with
    | none =>
      simp only [hg] at h
      obtain ⟨v, h1, h2⟩ := raw h
      exact ⟨v, hd, .inl ⟨by simp [Region.wanted, hg], h1⟩, h2⟩
    | some jb =>
      obtain ⟨j, bb⟩ := jb
      simp only [hg] at h
      cases hs : (all[j]?).bind (·.dst) with
      | none => simp only [hs, stepE] at h
      | some s => simp only [hs, stepE] at h
  · rw [if_neg hd] at h; exact h.elim

/-- A  quiet instruction: the value, in every world of which S is so. -/
theorem quiet_soundS {K : Fr → World → Prop} {all : Array Oper} {o : Oper} {a : Act} {f : Fr} {w : World} {S : World → Prop} (hf : Fits N ds a f) (hq : (rawI o).quiet = true)
    (h : stepS P K S (cI N all o) f w) :
    ∃ v, okD N o.dst = true ∧ YieldsIf P all S o v a ∧ K (updO f o.dst v) w := by
  unfold cI at h
  by_cases hd : okD N o.dst = true
  · rw [if_pos hd] at h
    have raw : stepS P K S (rawI o) f w → ∃ v, (∀ w', S w' → (execOp a.eval o).run P w' = .ok (.value v) w') ∧ K (updO f o.dst v) w := by
      clear h
      intro h
      have hev := hf.evF
      obtain ⟨dst, op, ty, pos, after, guard⟩ := o
      have vals : ∀ (o' : Op), op = o' → quietOp o' = some true → ValXS P K S o' ty f dst w →
          ∃ v, (∀ w', S w' → (execOp a.eval ⟨dst, op, ty, pos, after, guard⟩).run P w' = .ok (.value v) w') ∧ K (updO f dst v) w := by
        intro o' eo hqo hv
        subst eo
        unfold ValXS at hv
        cases hs : valOf (ev f) ty op with
        | none => simp [hs] at hv
        | some s =>
          simp only [hs] at hv
          obtain ⟨v, hr, hk⟩ := hv
          refine ⟨v, fun w' hw' => ?_, hk⟩
          rcases exec_val (o := ⟨dst, op, ty, pos, after, guard⟩) (ρ := a.eval) (by rw [hqo]; rfl) (by rw [hev]; exact hs) (hr w' hw') with h | ⟨h, _⟩
          · exact h
          · exfalso
            have : ∀ op', quietOp op' = some true → ∀ dst ty pos after guard, ∀ r, (execOp (ev f) ⟨dst, op', ty, pos, after, guard⟩).run P w' = .ok .skip r → False := by
              intro op' hq' dst ty pos after guard r hr'
              have fin : ∀ (s : Sem Value), (do pure (Next.value (← s)) : Sem Next).run P w' = .ok .skip r → False := by
                intro s hs
                simp only [Sem.run_bind] at hs
                cases hz : s.run P w' <;> simp [hz, Result.andThen] at hs
              cases op'
              case call c =>
                obtain ⟨callee, args, argTypes⟩ := c
                cases callee with
                | value _ => simp [quietOp] at hq'
                | invoke _ _ => simp [quietOp] at hq'
                | builtin bb =>
                  cases bb <;> first
                    | (simp [quietOp] at hq'; done)
                    | (simp only [execOp, resolve, invoke, builtin, Sem.run_bind, Sem.run_pure, Result.andThen_ok] at hr'
                       exact fin _ (by simp only [Sem.run_bind, Sem.run_pure]; exact hr'))
              all_goals first
                | (simp [quietOp] at hq'; done)
                | (simp only [execOp] at hr'; exact fin _ hr')
            rw [hev] at h
            exact this op hqo _ _ _ _ _ _ h
      cases op
      case move y => exact ⟨_, fun w' _ => by simp [execOp, hev], h⟩
      case assign y => exact ⟨_, fun w' _ => by simp [execOp, hev], h⟩
      case pick c y z =>
        obtain ⟨t, ht, hk⟩ := h
        exact ⟨_, fun w' _ => by simp only [execOp, hev, ht, asBool]; cases t <;> simp, hk⟩
      case nilCheck y =>
        obtain ⟨hn, hk⟩ := h
        refine ⟨ev f y, fun w' _ => ?_, hk⟩
        rcases hn with ⟨p, hp⟩ | ⟨g, p, q, hp⟩ <;> simp only [execOp, hev, hp] <;> rfl
      case call c =>
        obtain ⟨callee, args, argTypes⟩ := c
        cases callee with
        | value g => cases g <;> simp [rawI, I.quiet] at hq
        | invoke _ _ => exact h.elim
        | builtin bb => cases bb <;> first | exact vals _ rfl rfl h | (simp [rawI, quietOp, I.quiet] at hq; done) | exact h.elim
      all_goals first | exact vals _ rfl rfl h | (simp [rawI, quietOp, I.quiet] at hq; done) | exact h.elim
    cases hg : o.guard with
    | none =>
      simp only [hg] at h
      obtain ⟨v, h1, h2⟩ := raw h
      exact ⟨v, hd, .inl ⟨by simp [Region.wanted, hg], h1⟩, h2⟩
    | some jb =>
      obtain ⟨j, bb⟩ := jb
      simp only [hg] at h
      cases hs : (all[j]?).bind (·.dst) with
      | none => simp only [hs, stepS] at h
      | some s => simp only [hs, stepS] at h
  · rw [if_neg hd] at h; exact h.elim

theorem rawI_ne_q (o : Oper) (i : I) : rawI o ≠ .q i := by
  intro hc
  unfold rawI at hc
  split at hc <;> first | (cases hc; done) | skip
  split at hc <;> cases hc
theorem rawI_ne_rb (o : Oper) : rawI o ≠ .rb := by
  intro hc
  unfold rawI at hc
  split at hc <;> first | (cases hc; done) | skip
  split at hc <;> cases hc
theorem rawI_ne_adr (o : Oper) (d : Option Nat) (p : Op) (ty : TypeId) : rawI o ≠ .adr d p ty := by
  intro hc
  unfold rawI at hc
  split at hc <;> first | (cases hc; done) | skip
  split at hc <;> cases hc
theorem rawI_ne_qx (o : Oper) (t : TypeId) (i : I) : rawI o ≠ .qx t i := by
  intro hc
  unfold rawI at hc
  split at hc <;> first | (cases hc; done) | skip
  split at hc <;> cases hc
theorem rawI_ne_chkx (o : Oper) (t : TypeId) : rawI o ≠ .chkx t := by
  intro hc
  unfold rawI at hc
  split at hc <;> first | (cases hc; done) | skip
  split at hc <;> cases hc
theorem rawI_ne_chk (o : Oper) : rawI o ≠ .chk := by
  intro hc
  unfold rawI at hc
  split at hc <;> first | (cases hc; done) | skip
  split at hc <;> cases hc
theorem cI_ne_q (all : Array Oper) (o : Oper) (i : I) : cI N all o ≠ .q i := by
  intro hc
  unfold cI at hc
  split at hc
  · split at hc
    · exact rawI_ne_q _ _ hc
    · split at hc <;> cases hc
  · cases hc
theorem cI_ne_chk (all : Array Oper) (o : Oper) : cI N all o ≠ .chk := by
  intro hc
  unfold cI at hc
  split at hc
  · split at hc
    · exact rawI_ne_chk _ hc
    · split at hc <;> cases hc
  · cases hc

theorem cI_ne_adr (all : Array Oper) (o : Oper) (d : Option Nat) (p : Op) (ty : TypeId) : cI N all o ≠ .adr d p ty := by
  intro hc
  unfold cI at hc
  split at hc
  · split at hc
    · exact rawI_ne_adr _ _ _ _ hc
    · split at hc <;> cases hc
  · cases hc
theorem cI_ne_qx (all : Array Oper) (o : Oper) (t : TypeId) (i : I) : cI N all o ≠ .qx t i := by
  intro hc
  unfold cI at hc
  split at hc
  · split at hc
    · exact rawI_ne_qx _ _ _ hc
    · split at hc <;> cases hc
  · cases hc
theorem cI_ne_chkx (all : Array Oper) (o : Oper) (t : TypeId) : cI N all o ≠ .chkx t := by
  intro hc
  unfold cI at hc
  split at hc
  · split at hc
    · exact rawI_ne_chkx _ _ hc
    · split at hc <;> cases hc
  · cases hc
theorem cI_ne_rb (all : Array Oper) (o : Oper) : cI N all o ≠ .rb := by
  intro hc
  unfold cI at hc
  split at hc
  · split at hc
    · exact rawI_ne_rb _ hc
    · split at hc <;> cases hc
  · cases hc

theorem still_of_x {all : Array Oper} {b : World} {k : List It} {tl : List I} {Lq : Act → Prop} (ol : List Oper) (hq : ∀ o ∈ ol, (rawI o).quiet = true) :
    ∀ (n : Nat) (a : Act) (f : Fr), Fits N ds a f → x P Rf n (ol.map (fun o => .q (cI N all o)) ++ tl) k b f b →
      (∀ n' a' f', n' ≤ n → Fits N ds a' f' → x P Rf n' tl k b f' b → Lq a') → wpStill P all b Lq ol a := by
  induction ol with
  | nil => exact fun n a f hf h hL => hL n a f (Nat.le_refl _) hf h
  | cons o ol ih =>
    intro n a f hf h hL
    cases n with
    | zero => exact h.elim
    | succ n =>
      simp only [List.map_cons, List.cons_append, x] at h
      obtain ⟨v, hd, hy, hk⟩ := quiet_sound hf (hq o (by simp)) h
      have hrec := ih (fun o' ho' => hq o' (by simp [ho'])) n _ _ (hf.put o.dst (okD_lt hd) v) hk (fun n' a' f' hn' => hL n' a' f' (by omega))
      unfold wpStill
      rcases hy with ⟨hw, hr⟩ | ⟨hw, rfl⟩
      · rw [if_pos hw, Oper.still, hr b (Below.refl _ _)]; exact ⟨rfl, hrec⟩
      · rw [if_neg (by simp [hw])]; exact hrec

def Dn (ops : Array Oper) (listed : Array Bool) : Prop := ∀ k, listed.getD k false = true → ∀ d ∈ depsOf ops k, listed.getD d false = true
theorem mem_depsOf {ops : Array Oper} {k : Nat} {o : Oper} (ho : ops[k]? = some o) {d : Nat} : d ∈ depsOf ops k ↔ ∃ e ∈ o.after, Region.binds .any e = true ∧ e.on = d := by
  unfold depsOf
  rw [ho]
  simp only [List.mem_map, List.mem_filter, Array.mem_toList_iff]
  exact ⟨fun ⟨e, ⟨h1, h2⟩, h3⟩ => ⟨e, h1, h2, h3⟩, fun ⟨e, h1, h2, h3⟩ => ⟨e, ⟨h1, h2⟩, h3⟩⟩
theorem Dn.cover {ops : Array Oper} {listed : Array Bool} (h : Dn ops listed) : ∀ (n : Nat) (l : List Nat), (∀ k ∈ l, listed.getD k false = true) → ∀ k ∈ cover ops n l, listed.getD k false = true
  | 0, _, hl, k, hk => hl k hk
  | n + 1, l, hl, k, hk => by
    refine Dn.cover h n _ (fun j hj => ?_) k hk
    rw [List.mem_eraseDups] at hj
    rcases List.mem_append.1 hj with hj | hj
    · exact hl j hj
    · obtain ⟨i, hi, hj⟩ := List.mem_flatMap.1 hj
      exact h i (hl i hi) j hj
theorem unlisted {listed : Array Bool} {k : Nat} (h0 : listed.getD k true = false) (h1 : listed.getD k false = true) : False := by
  rcases Nat.lt_or_ge k listed.size with hh | hh
  · simp [hh] at h0 h1; rw [h0] at h1; cases h1
  · simp [Array.getElem?_eq_none hh] at h1
theorem Dn.ready {ops : Array Oper} {listed : Array Bool} (h : Dn ops listed) {j : Nat} (hr : j ∈ Region.ready .any ops listed) : ∀ k ∈ Go.Proofs.YtpinjiikiaakaaaDoor.cover ops 12 (depsOf ops j), listed.getD k false = true := by
  obtain ⟨_, o, ho, hall⟩ := mem_ready.1 hr
  refine h.cover 12 _ fun d hd => ?_
  obtain ⟨e, he, hb, rfl⟩ := (mem_depsOf ho).1 hd
  exact hall e he hb
/-- What comes up at one place alone does not come up beside anything. -/
theorem Dn.alone {ops : Array Oper} {listed : Array Bool} (h : Dn ops listed) {j : Nat} (hz : cutOk ops j = true) (hr : j ∈ Region.ready .any ops listed) {k : Nat} (hk : k ∈ Region.ready .any ops listed) (hp : isPure (ops.getD k default) = false) : k = j := by
  refine Classical.byContradiction fun hne => ?_
  have hlt : k < ops.size := by
    obtain ⟨_, o, ho, _⟩ := mem_ready.1 hk
    exact (Array.getElem?_eq_some_iff.1 ho).1
  have hc := List.all_eq_true.1 hz k (List.mem_range.2 hlt)
  simp only [Bool.or_eq_true, beq_iff_eq, hne, hp, false_or, Bool.false_eq_true, List.contains_iff_mem] at hc
  rcases hc with hc | hc
  · exact unlisted (mem_ready.1 hk).1 (h.ready hr k hc)
  · exact unlisted (mem_ready.1 hr).1 (h.ready hk j hc)
theorem Dn.alone2 {ops : Array Oper} {listed : Array Bool} (h : Dn ops listed) {j : Nat} (hz : cutOk2 ops j = true) (hr : j ∈ Region.ready .any ops listed) {k : Nat} (hk : k ∈ Region.ready .any ops listed) (hp : isPure2 (ops.getD k default) = false) : k = j := by
  refine Classical.byContradiction fun hne => ?_
  have hlt : k < ops.size := by
    obtain ⟨_, o, ho, _⟩ := mem_ready.1 hk
    exact (Array.getElem?_eq_some_iff.1 ho).1
  have hc := List.all_eq_true.1 hz k (List.mem_range.2 hlt)
  simp only [Bool.or_eq_true, beq_iff_eq, hne, hp, false_or, Bool.false_eq_true, List.contains_iff_mem] at hc
  rcases hc with hc | hc
  · exact unlisted (mem_ready.1 hk).1 (h.ready hr k hc)
  · exact unlisted (mem_ready.1 hr).1 (h.ready hk j hc)
theorem Dn.aloneW {ops : Array Oper} {listed : Array Bool} (h : Dn ops listed) {j : Nat} (hz : cutOkW ops j = true) (hr : j ∈ Region.ready .any ops listed) {k : Nat} (hk : k ∈ Region.ready .any ops listed) (hp : isPureW (ops.getD k default) = false) : k = j := by
  refine Classical.byContradiction fun hne => ?_
  have hlt : k < ops.size := by
    obtain ⟨_, o, ho, _⟩ := mem_ready.1 hk
    exact (Array.getElem?_eq_some_iff.1 ho).1
  have hc := List.all_eq_true.1 hz k (List.mem_range.2 hlt)
  simp only [Bool.or_eq_true, beq_iff_eq, hne, hp, false_or, Bool.false_eq_true, List.contains_iff_mem] at hc
  rcases hc with hc | hc
  · exact unlisted (mem_ready.1 hk).1 (h.ready hr k hc)
  · exact unlisted (mem_ready.1 hr).1 (h.ready hk j hc)
theorem Dn.next {ops : Array Oper} {listed : Array Bool} (h : Dn ops listed) {j : Nat} (hr : j ∈ Region.ready .any ops listed) : Dn ops (listed.setIfInBounds j true) := fun k hk d hd => by
  by_cases e : j = k
  · subst e
    obtain ⟨_, o, ho, hall⟩ := mem_ready.1 hr
    obtain ⟨e, he, hb, rfl⟩ := (mem_depsOf ho).1 hd
    exact getD_set_true (hall e he hb)
  · rw [getD_set_ne false e] at hk
    exact getD_set_true (h k hk d hd)
theorem Dn.start (ops : Array Oper) (n : Nat) : Dn ops (Array.replicate n false) := fun k hk => by
  rcases Nat.lt_or_ge k n with h | h
  · simp [h] at hk
  · simp [Array.getElem?_eq_none (show (Array.replicate n false).size ≤ k by simpa using h)] at hk
/-- Whatever order is picked, S holds behind every operation but those that come up at one place alone; behind these something else may hold from there on. -/
def AnyC (P : Program) (ops : Array Oper) (ct : Nat → Bool) (Q : Exit → Act → World → Prop) : Nat → (World → Prop) → Array Bool → Act → World → Prop
  | 0, _, listed, a, w => Region.ready .any ops listed = [] ∧ Q .normal a w
  | n + 1, S, listed, a, w => (Region.ready .any ops listed = [] → Q .normal a w) ∧
    ∀ i ∈ Region.ready .any ops listed, wpOp P ops Q i (fun a' w' => (ct i = true ∧ ∃ S' : World → Prop, S' w' ∧ AnyC P ops ct Q n S' (listed.setIfInBounds i true) a' w') ∨ (S w' ∧ AnyC P ops ct Q n S (listed.setIfInBounds i true) a' w')) a w
theorem AnyC.any {ops : Array Oper} {ct : Nat → Bool} {Q : Exit → Act → World → Prop} : ∀ (n : Nat) (S : World → Prop) (listed : Array Bool) (a : Act) (w : World), AnyC P ops ct Q n S listed a w → wpAny P .any ops Q n listed a w
  | 0, _, _, _, _, h => h
  | n + 1, _, _, _, _, h => ⟨h.1, fun i hi => wpOp_mono (fun a' w' h' => h'.elim (fun ⟨_, S', _, h''⟩ => AnyC.any n S' _ a' w' h'') fun h'' => AnyC.any n _ _ a' w' h''.2) (h.2 i hi)⟩
theorem AnyC.nil {ops : Array Oper} {ct : Nat → Bool} {Q : Exit → Act → World → Prop} {S : World → Prop} {listed : Array Bool} {a : Act} {w : World} (hr : Region.ready .any ops listed = []) (h : Q .normal a w) : ∀ n, AnyC P ops ct Q n S listed a w
  | 0 => ⟨hr, h⟩
  | _ + 1 => ⟨fun _ => h, by rw [hr]; simp⟩
/-- An operation that only looks is taken as soon as it may come up. -/
theorem AnyC.look {ops : Array Oper} {ct : Nat → Bool} {Q : Exit → Act → World → Prop} {i : Nat} {oi : Oper} {v : Value} (hi : ops[i]? = some oi) (hs : Region.noSelect ops = true) (hz : ∀ (listed : Array Bool) (j : Nat), Dn ops listed → j ∈ Region.ready .any ops listed → i ∈ Region.ready .any ops listed → ct j = true → j = i)
    (hQ : ∀ c a w, Q (.panic c) (a.put oi.dst v) w → Q (.panic c) a w) :
    ∀ (n : Nat) (S : World → Prop) (listed : Array Bool) (a : Act) (w : World), Dn ops listed →
      (∀ j oj, ops[j]? = some oj → j ≠ i → listed.getD j true = false → (∀ e ∈ oj.after, Region.binds .any e = true → e.on ≠ i) → oi.apart ops oj = true) →
      i ∈ Region.ready .any ops listed → YieldsIf P ops S oi v a → S w → AnyC P ops ct Q n S (listed.setIfInBounds i true) (a.put oi.dst v) w → AnyC P ops ct Q (n + 1) S listed a w
  | n, S, listed, a, w, hd, hf, hr, hy, hS, H => by
    refine ⟨fun h => (by rw [h] at hr; cases hr), fun j hj => ?_⟩
    by_cases hji : j = i
    · subst hji; exact hy.wpOp hi hS (.inr ⟨hS, H⟩)
    have hj' := ready_mono hj hji
    cases n with
    | zero => rw [H.1] at hj'; cases hj'
    | succ n =>
      obtain ⟨hjun, oj, hoj, hall⟩ := mem_ready.1 hj
      have hiun := (mem_ready.1 hr).1
      have hjz : ¬ ct j = true := fun e => hji (hz listed j hd hj hr e)
      have hno : ∀ e ∈ oj.after, Region.binds .any e = true → e.on ≠ i := fun e he hb heq => unlisted hiun (heq ▸ hall e he hb)
      have h2 := wpOp_putIf hoj (hf j oj hoj hji hjun hno) (fun cs b => Region.noSelect_spec hs i oi cs b hi) (fun cs b => Region.noSelect_spec hs j oj cs b hoj) hQ hy (H.2 j hj')
      refine wpOp_mono (fun a' w' h3 => ?_) h2
      obtain ⟨h3, h4⟩ := h3
      rcases h4 with h4 | h4
      · exact absurd h4.1 hjz
      refine .inr ⟨h4.1, AnyC.look hi hs hz hQ n S (listed.setIfInBounds j true) a' w' (hd.next hj) (fun k ok hk hki hun hno => hf k ok hk hki ?_ hno) (ready_mono hr (Ne.symm hji)) h3 h4.1 ?_⟩
      · by_cases hjk : j = k
        · subst hjk; exact hjun
        · rwa [getD_set_ne true hjk] at hun
      · rw [Array.setIfInBounds_comm _ _ hji]
        exact h4.2

/-- .. and one that looks at no memory, however the memory changes. -/
theorem AnyC.lookP {ops : Array Oper} {ct : Nat → Bool} {Q : Exit → Act → World → Prop} {i : Nat} {oi : Oper} {v : Value} (hi : ops[i]? = some oi) (hs : Region.noSelect ops = true)
    (hQ : ∀ c a w, Q (.panic c) (a.put oi.dst v) w → Q (.panic c) a w) :
    ∀ (n : Nat) (S : World → Prop) (listed : Array Bool) (a : Act) (w : World), Dn ops listed →
      (∀ j oj, ops[j]? = some oj → j ≠ i → listed.getD j true = false → (∀ e ∈ oj.after, Region.binds .any e = true → e.on ≠ i) → oi.apart ops oj = true) →
      i ∈ Region.ready .any ops listed → YieldsIf P ops (fun _ => True) oi v a → S w → AnyC P ops ct Q n S (listed.setIfInBounds i true) (a.put oi.dst v) w → AnyC P ops ct Q (n + 1) S listed a w
  | n, S, listed, a, w, hd, hf, hr, hy, hS, H => by
    refine ⟨fun h => (by rw [h] at hr; cases hr), fun j hj => ?_⟩
    by_cases hji : j = i
    · subst hji; exact hy.wpOp hi trivial (.inr ⟨hS, H⟩)
    have hj' := ready_mono hj hji
    cases n with
    | zero => rw [H.1] at hj'; cases hj'
    | succ n =>
      obtain ⟨hjun, oj, hoj, hall⟩ := mem_ready.1 hj
      have hiun := (mem_ready.1 hr).1
      have hno : ∀ e ∈ oj.after, Region.binds .any e = true → e.on ≠ i := fun e he hb heq => unlisted hiun (heq ▸ hall e he hb)
      have h2 := wpOp_putIf hoj (hf j oj hoj hji hjun hno) (fun cs b => Region.noSelect_spec hs i oi cs b hi) (fun cs b => Region.noSelect_spec hs j oj cs b hoj) hQ hy (H.2 j hj')
      refine wpOp_mono (fun a' w' h3 => ?_) h2
      obtain ⟨h3, h4⟩ := h3
      have go : ∀ S' : World → Prop, S' w' → AnyC P ops ct Q n S' ((listed.setIfInBounds i true).setIfInBounds j true) (a'.put oi.dst v) w' → AnyC P ops ct Q (n + 1) S' (listed.setIfInBounds j true) a' w' := fun S' hS' hA =>
        AnyC.lookP hi hs hQ n S' (listed.setIfInBounds j true) a' w' (hd.next hj) (fun k ok hk hki hun hno => hf k ok hk hki (by
          by_cases hjk : j = k
          · subst hjk; exact hjun
          · rwa [getD_set_ne true hjk] at hun) hno) (ready_mono hr (Ne.symm hji)) h3 hS' (by rw [Array.setIfInBounds_comm _ _ hji]; exact hA)
      exact h4.elim (fun ⟨hc, S', hS', hA⟩ => .inl ⟨hc, S', hS', go S' hS' hA⟩) fun ⟨hS', hA⟩ => .inr ⟨hS', go S hS' hA⟩
theorem pure_yields {all : Array Oper} {o : Oper} (hp : isPure o = true) (a : Act) : ∃ y, rawI o = .mv o.dst y ∧ o.guard = none ∧ YieldsIf P all (fun _ => True) o (a.eval y) a := by
  unfold isPure at hp
  rw [Bool.and_eq_true] at hp
  have hg : o.guard = none := by simpa using hp.1
  have hw : Region.wanted o (yielded all a.tmps) = true := by simp [Region.wanted, hg]
  have hh := hp.2
  split at hh
  · rename_i x he
    exact ⟨x, by unfold rawI; rw [he], hg, .inl ⟨hw, fun w _ => by unfold execOp; rw [he]; rfl⟩⟩
  · rename_i x he
    exact ⟨x, by unfold rawI; rw [he], hg, .inl ⟨hw, fun w _ => by unfold execOp; rw [he]; rfl⟩⟩
  · cases hh

theorem adr_yields {K : Fr → World → Prop} {all : Array Oper} {o : Oper} {a : Act} {f : Fr} {b w : World} (hf : Fits N ds a f) (ha : isAddr o = true) (h : stepI P pn K (.adr o.dst o.op o.type) b f w) :
    ∃ v, YieldsIf P all (fun _ => True) o v a ∧ K (updO f o.dst v) w := by
  unfold isAddr at ha
  rw [Bool.and_eq_true] at ha
  have hg : o.guard = none := by simpa using ha.1
  have hw : Region.wanted o (yielded all a.tmps) = true := by simp [Region.wanted, hg]
  have hh := ha.2
  have hev := hf.evF
  obtain ⟨dst, op, ty, pos, after, guard⟩ := o
  simp only [stepI, AdrX] at h
  cases op <;> first
    | (cases hh; done)
    | (simp only [valOf] at h
       obtain ⟨v, hr, hk⟩ := h
       exact ⟨v, .inl ⟨hw, fun w' _ => by simp [execOp, hev, hr w']⟩, hk⟩)
theorem arith_yields {K : Fr → World → Prop} {all : Array Oper} {o : Oper} {a : Act} {f : Fr} {b w : World} (hf : Fits N ds a f) (ha : isArith o = true) (h : stepI P pn K (.adr o.dst o.op o.type) b f w) :
    ∃ v, YieldsIf P all (fun _ => True) o v a ∧ K (updO f o.dst v) w := by
  unfold isArith at ha
  rw [Bool.and_eq_true] at ha
  have hg : o.guard = none := by simpa using ha.1
  have hw : Region.wanted o (yielded all a.tmps) = true := by simp [Region.wanted, hg]
  have hh := ha.2
  have hev := hf.evF
  obtain ⟨dst, op, ty, pos, after, guard⟩ := o
  simp only [stepI, AdrX] at h
  cases op <;> first
    | (cases hh; done)
    | (simp only [valOf] at h
       obtain ⟨v, hr, hk⟩ := h
       refine ⟨v, .inl ⟨hw, fun w' _ => ?_⟩, hk⟩
       have h2 := hr w'
       simp only [Sem.run_bind] at h2
       simp only [execOp, hev, Sem.run_bind]
       cases h3 : (eqGuard _ _ _ _ _ _ : Sem Unit).run P w' <;> simp_all)
theorem nilc_yields {K : Fr → World → Prop} {all : Array Oper} {o : Oper} {a : Act} {f : Fr} {b w : World} (hf : Fits N ds a f) (ha : isNilc o = true) (h : stepI P pn K (cI N all o) b f w) :
    ∃ v, YieldsIf P all (fun _ => True) o v a ∧ K (updO f o.dst v) w := by
  unfold isNilc at ha
  rw [Bool.and_eq_true] at ha
  have hg : o.guard = none := by simpa using ha.1
  have hw : Region.wanted o (yielded all a.tmps) = true := by simp [Region.wanted, hg]
  have hh := ha.2
  have hev := hf.evF
  obtain ⟨dst, op, ty, pos, after, guard⟩ := o
  simp only at hg
  subst hg
  cases op <;> first | (cases hh; done) | skip
  rename_i y
  unfold cI at h
  split at h
  · simp only [rawI] at h
    obtain ⟨hn, hk⟩ := h
    refine ⟨ev f y, .inl ⟨hw, fun w' _ => ?_⟩, hk⟩
    rcases hn with ⟨p, hp⟩ | ⟨g, p, q, hp⟩ <;> simp only [execOp, hev, hp] <;> rfl
  · exact h.elim
theorem held_of_c {all : Array Oper} {rk : List RIt} (hns : Region.noSelect all = true) :
    ∀ (pl : List (Nat × Bool)) (n : Nat) (b : World) (listed : Array Bool) (a : Act) (f : Fr) (w : World), Fits N ds a f → Below b.heap.size b w → planOk all pl listed = true → Dn all listed →
      x P Rf n (planIc N all pl) (rk.map (RIt.low N)) b f w →
      (∀ n' a' f' w', n' ≤ n → Fits N ds a' f' → (∃ b', x P Rf n' [] (rk.map (RIt.low N)) b' f' w') → kont P N ds Rf rk .normal a' w') →
      AnyC P all (isCut2 all) (kont P N ds Rf rk) pl.length (Below b.heap.size b) listed a w
  | [], n, b, listed, a, f, w, hf, _, hok, _, h, hL => AnyC.nil (by simpa [planOk] using hok) (hL n a f w (Nat.le_refl _) hf ⟨b, h⟩) 0
  | (i, true) :: pl, n, b, listed, a, f, w, hf, hb, hok, hd, h, hL => by
    simp only [planOk, Bool.and_eq_true, decide_eq_true_eq] at hok
    obtain ⟨⟨⟨⟨hq, hi⟩, hr⟩, hfr⟩, hrest⟩ := hok
    cases n with
    | zero => exact h.elim
    | succ n =>
      simp only [planIc] at h
      have hoi : all[i]? = some (all.getD i default) := by simp [hi]
      generalize all.getD i default = oi at *
      have hr' : i ∈ Region.ready .any all listed := by simpa using hr
      by_cases had : (okD N oi.dst && isAddr oi) = true
      · have h' : x P Rf (n + 1) (.adr oi.dst oi.op oi.type :: planIc N all pl) (rk.map (RIt.low N)) b f w := by
          unfold adrI at h; rw [if_pos had] at h; exact h
        rw [Bool.and_eq_true] at had
        obtain ⟨v, hy', hk'⟩ := adr_yields (P := P) (all := all) hf had.2 h'
        exact AnyC.lookP hoi hns (fun c a w hh => kont_put rk c _ _ _ _ (by first | assumption | exact had.1 | exact hI.2) hh) _ _ _ _ _ hd (Region.free_spec hoi hfr) hr' hy' hb
          (held_of_c hns pl n b _ _ _ _ (hf.put _ (okD_lt had.1) _) hb hrest (hd.next hr') hk' fun n' a' f' w' hn' => hL n' a' f' w' (by omega))
      have h : stepI P Rf.pan (x P Rf n (planIc N all pl) (rk.map (RIt.low N)) b) (cI N all oi) b f w := by
        unfold adrI at h; rw [if_neg had] at h; exact h
      obtain ⟨v, hdd, hy, hk⟩ := quiet_sound hf hq h
      rw [Bool.and_eq_true, hdd] at had
      by_cases hp : isPure oi = true
      · obtain ⟨y, hraw, hg, hy'⟩ := pure_yields (P := P) (all := all) hp a
        have hI : cI N all oi = .mv oi.dst y ∧ okD N oi.dst = true := by
          unfold cI at h ⊢
          by_cases hok : okD N oi.dst = true
          · rw [if_pos hok, hg]; exact ⟨hraw, hok⟩
          · rw [if_neg hok] at h; exact h.elim
        have hk' : x P Rf n (planIc N all pl) (rk.map (RIt.low N)) b (updO f oi.dst (a.eval y)) w := by
          rw [hI.1] at h
          rw [hf.ev]; exact h
        exact AnyC.lookP hoi hns (fun c a w hh => kont_put rk c _ _ _ _ (by first | assumption | exact had.1 | exact hI.2) hh) _ _ _ _ _ hd (Region.free_spec hoi hfr) hr' hy' hb
          (held_of_c hns pl n b _ _ _ _ (hf.put _ (okD_lt hI.2) _) hb hrest (hd.next hr') hk' fun n' a' f' w' hn' => hL n' a' f' w' (by omega))
      by_cases hni : isNilc oi = true
      · obtain ⟨v', hy', hk'⟩ := nilc_yields (P := P) (all := all) hf hni h
        exact AnyC.lookP hoi hns (fun c a w hh => kont_put rk c _ _ _ _ (by first | assumption | exact had.1 | exact hI.2) hh) _ _ _ _ _ hd (Region.free_spec hoi hfr) hr' hy' hb
          (held_of_c hns pl n b _ _ _ _ (hf.put _ (okD_lt hdd) _) hb hrest (hd.next hr') hk' fun n' a' f' w' hn' => hL n' a' f' w' (by omega))
      have hp2 : isPure2 oi = false := by
        have hA : ¬ isAddr oi = true := fun e => had ⟨rfl, e⟩
        unfold isPure2
        simp only [Bool.not_eq_true] at hp hni hA
        rw [hp, hni, hA]; rfl
      exact AnyC.look hoi hns (fun listed j hd hj hr e => ((hd.alone2 (by unfold isCut2 at e; rw [Bool.and_eq_true] at e; exact e.2) hj hr (by simpa [hoi] using hp2)).symm)) (fun c a w hh => kont_put rk c _ _ _ _ (by first | assumption | exact had.1 | exact hI.2) hh) _ _ _ _ _ hd (Region.free_spec hoi hfr) hr' hy hb
        (held_of_c hns pl n b _ _ _ _ (hf.put _ (okD_lt hdd) v) hb hrest (hd.next hr') hk fun n' a' f' w' hn' => hL n' a' f' w' (by omega))
  | (i, false) :: pl, n, b, listed, a, f, w, hf, hb, hok, hd, h, hL => by
    simp only [planOk, Bool.and_eq_true, decide_eq_true_eq] at hok
    obtain ⟨⟨hi, hr⟩, hrest⟩ := hok
    have hoi : all[i]? = some (all.getD i default) := by simp [hi]
    have hrr : i ∈ Region.ready .any all listed := by rw [hr]; simp
    have h0 : x P Rf n (cI N all (all.getD i default) :: (if isCut2 all i then .rb else .chk) :: planIc N all pl) (rk.map (RIt.low N)) b f w := h
    refine ⟨fun h0 => (by rw [h0] at hr; cases hr), fun j hj => ?_⟩
    obtain rfl : j = i := by rw [hr] at hj; simpa using hj
    generalize all.getD j default = oi at hoi h0
    unfold wpOp
    simp only [hoi]
    cases n with
    | zero => exact h0.elim
    | succ n =>
      have hstep : stepI P Rf.pan (x P Rf n ((if isCut2 all j then .rb else .chk) :: planIc N all pl) (rk.map (RIt.low N)) b) (cI N all oi) w f w := by
        generalize hc : cI N all oi = ci at h0
        cases ci with
        | q i' => exact absurd hc (cI_ne_q _ _ _)
        | chk => exact absurd hc (cI_ne_chk _ _)
        | rb => exact absurd hc (cI_ne_rb _ _)
        | adr d o ty => exact absurd hc (cI_ne_adr _ _ _ _ _)
        | qx t i' => exact absurd hc (cI_ne_qx _ _ _ _)
        | chkx t => exact absurd hc (cI_ne_chkx _ _ _)
        | mv d o => exact h0
        | pick d c a b => exact h0
        | nilc d y => exact h0
        | val d o ty => exact h0
        | eff d o ty => exact h0
        | call d g args => exact h0
        | callv d g args => exact h0
        | pnk o => exact h0
        | gd s bb d i' => exact h0
        | bad => exact h0
      have hs := cI_sound (Q := kont P N ds Rf rk) (K' := fun a' w' => (isCut2 all j = true ∧ ∃ S' : World → Prop, S' w' ∧ AnyC P all (isCut2 all) (kont P N ds Rf rk) pl.length S' (listed.setIfInBounds j true) a' w') ∨ (Below b.heap.size b w' ∧ AnyC P all (isCut2 all) (kont P N ds Rf rk) pl.length (Below b.heap.size b) (listed.setIfInBounds j true) a' w')) hf hstep (kont_pan rk hf) (by
        intro a' f' w' hf' hx
        cases n with
        | zero => exact hx.elim
        | succ n =>
          by_cases hc : isCut2 all j = true
          · rw [if_pos hc] at hx
            exact .inl ⟨hc, _, (Below.refl _ _ : Below w'.heap.size w' w'), held_of_c hns pl n w' _ _ _ _ hf' (Below.refl _ _) hrest (hd.next hrr) hx fun n' a'' f'' w'' hn' => hL n' a'' f'' w'' (by omega)⟩
          · rw [if_neg hc] at hx
            exact .inr ⟨hx.1, held_of_c hns pl n b _ _ _ _ hf' hx.1 hrest (hd.next hrr) hx.2 fun n' a'' f'' w'' hn' => hL n' a'' f'' w'' (by omega)⟩)
      split
      · rename_i hw; rw [if_pos hw] at hs; exact .inl hs
      · rename_i hw; rw [if_neg hw] at hs; exact hs

theorem BelowE.refl (t : TypeId) (w : World) : BelowE P t w w := ⟨Nat.le_refl _, fun _ _ _ => rfl⟩
theorem nilc_yieldsE {K : Fr → World → Prop} {all : Array Oper} {o : Oper} {a : Act} {f : Fr} {b w : World} {et : TypeId} (hf : Fits N ds a f) (ha : isNilc o = true) (h : stepE P K et (cI N all o) b f w) :
    ∃ v, YieldsIf P all (fun _ => True) o v a ∧ K (updO f o.dst v) w := by
  unfold isNilc at ha
  rw [Bool.and_eq_true] at ha
  have hg : o.guard = none := by simpa using ha.1
  have hw : Region.wanted o (yielded all a.tmps) = true := by simp [Region.wanted, hg]
  have hh := ha.2
  have hev := hf.evF
  obtain ⟨dst, op, ty, pos, after, guard⟩ := o
  simp only at hg
  subst hg
  cases op <;> first | (cases hh; done) | skip
  rename_i y
  unfold cI at h
  split at h
  · simp only [rawI] at h
    obtain ⟨hn, hk⟩ := h
    refine ⟨ev f y, .inl ⟨hw, fun w' _ => ?_⟩, hk⟩
    rcases hn with ⟨p, hp⟩ | ⟨g, p, q, hp⟩ <;> simp only [execOp, hev, hp] <;> rfl
  · exact h.elim
theorem held_of_cx {all : Array Oper} {rk : List RIt} (hns : Region.noSelect all = true) (et : TypeId) :
    ∀ (pl : List (Nat × Bool)) (n : Nat) (b : World) (listed : Array Bool) (a : Act) (f : Fr) (w : World), Fits N ds a f → BelowE P et b w → planOk all pl listed = true → Dn all listed →
      x P Rf n (planIx N et all pl) (rk.map (RIt.low N)) b f w →
      (∀ n' a' f' w', n' ≤ n → Fits N ds a' f' → (∃ b', x P Rf n' [] (rk.map (RIt.low N)) b' f' w') → kont P N ds Rf rk .normal a' w') →
      AnyC P all (isCut2 all) (kont P N ds Rf rk) pl.length (BelowE P et b) listed a w
  | [], n, b, listed, a, f, w, hf, _, hok, _, h, hL => AnyC.nil (by simpa [planOk] using hok) (hL n a f w (Nat.le_refl _) hf ⟨b, h⟩) 0
  | (i, true) :: pl, n, b, listed, a, f, w, hf, hb, hok, hd, h, hL => by
    simp only [planOk, Bool.and_eq_true, decide_eq_true_eq] at hok
    obtain ⟨⟨⟨⟨hq, hi⟩, hr⟩, hfr⟩, hrest⟩ := hok
    cases n with
    | zero => exact h.elim
    | succ n =>
      simp only [planIx] at h
      have hoi : all[i]? = some (all.getD i default) := by simp [hi]
      generalize all.getD i default = oi at *
      have hr' : i ∈ Region.ready .any all listed := by simpa using hr
      by_cases had : (okD N oi.dst && isAddr oi) = true
      · have h' : x P Rf (n + 1) (.adr oi.dst oi.op oi.type :: planIx N et all pl) (rk.map (RIt.low N)) b f w := by
          rw [if_pos had] at h; exact h
        rw [Bool.and_eq_true] at had
        obtain ⟨v, hy', hk'⟩ := adr_yields (P := P) (all := all) hf had.2 h'
        exact AnyC.lookP hoi hns (fun c a w hh => kont_put rk c _ _ _ _ (by first | assumption | exact had.1 | exact hI.2) hh) _ _ _ _ _ hd (Region.free_spec hoi hfr) hr' hy' hb
          (held_of_cx hns et pl n b _ _ _ _ (hf.put _ (okD_lt had.1) _) hb hrest (hd.next hr') hk' fun n' a' f' w' hn' => hL n' a' f' w' (by omega))
      have h : stepE P (x P Rf n (planIx N et all pl) (rk.map (RIt.low N)) b) et (cI N all oi) b f w := by
        rw [if_neg had] at h; exact h
      obtain ⟨v, hdd, hy, hk⟩ := quiet_soundE hf hq h
      rw [Bool.and_eq_true, hdd] at had
      by_cases hp : isPure oi = true
      · obtain ⟨y, hraw, hg, hy'⟩ := pure_yields (P := P) (all := all) hp a
        have hI : cI N all oi = .mv oi.dst y ∧ okD N oi.dst = true := by
          unfold cI at h ⊢
          by_cases hok : okD N oi.dst = true
          · rw [if_pos hok, hg]; exact ⟨hraw, hok⟩
          · rw [if_neg hok] at h; exact h.elim
        have hk' : x P Rf n (planIx N et all pl) (rk.map (RIt.low N)) b (updO f oi.dst (a.eval y)) w := by
          rw [hI.1] at h
          rw [hf.ev]; exact h
        exact AnyC.lookP hoi hns (fun c a w hh => kont_put rk c _ _ _ _ (by first | assumption | exact had.1 | exact hI.2) hh) _ _ _ _ _ hd (Region.free_spec hoi hfr) hr' hy' hb
          (held_of_cx hns et pl n b _ _ _ _ (hf.put _ (okD_lt hI.2) _) hb hrest (hd.next hr') hk' fun n' a' f' w' hn' => hL n' a' f' w' (by omega))
      by_cases hni : isNilc oi = true
      · obtain ⟨v', hy', hk'⟩ := nilc_yieldsE (P := P) (all := all) hf hni h
        exact AnyC.lookP hoi hns (fun c a w hh => kont_put rk c _ _ _ _ (by first | assumption | exact had.1 | exact hI.2) hh) _ _ _ _ _ hd (Region.free_spec hoi hfr) hr' hy' hb
          (held_of_cx hns et pl n b _ _ _ _ (hf.put _ (okD_lt hdd) _) hb hrest (hd.next hr') hk' fun n' a' f' w' hn' => hL n' a' f' w' (by omega))
      have hp2 : isPure2 oi = false := by
        have hA : ¬ isAddr oi = true := fun e => had ⟨rfl, e⟩
        unfold isPure2
        simp only [Bool.not_eq_true] at hp hni hA
        rw [hp, hni, hA]; rfl
      exact AnyC.look hoi hns (fun listed j hd hj hr e => ((hd.alone2 (by unfold isCut2 at e; rw [Bool.and_eq_true] at e; exact e.2) hj hr (by simpa [hoi] using hp2)).symm)) (fun c a w hh => kont_put rk c _ _ _ _ (by first | assumption | exact had.1 | exact hI.2) hh) _ _ _ _ _ hd (Region.free_spec hoi hfr) hr' hy hb
        (held_of_cx hns et pl n b _ _ _ _ (hf.put _ (okD_lt hdd) v) hb hrest (hd.next hr') hk fun n' a' f' w' hn' => hL n' a' f' w' (by omega))
  | (i, false) :: pl, n, b, listed, a, f, w, hf, hb, hok, hd, h, hL => by
    simp only [planOk, Bool.and_eq_true, decide_eq_true_eq] at hok
    obtain ⟨⟨hi, hr⟩, hrest⟩ := hok
    have hoi : all[i]? = some (all.getD i default) := by simp [hi]
    have hrr : i ∈ Region.ready .any all listed := by rw [hr]; simp
    have h0 : x P Rf n (cI N all (all.getD i default) :: (if isCut2 all i then .rb else .chkx et) :: planIx N et all pl) (rk.map (RIt.low N)) b f w := h
    refine ⟨fun h0 => (by rw [h0] at hr; cases hr), fun j hj => ?_⟩
    obtain rfl : j = i := by rw [hr] at hj; simpa using hj
    generalize all.getD j default = oi at hoi h0
    unfold wpOp
    simp only [hoi]
    cases n with
    | zero => exact h0.elim
    | succ n =>
      have hstep : stepI P Rf.pan (x P Rf n ((if isCut2 all j then .rb else .chkx et) :: planIx N et all pl) (rk.map (RIt.low N)) b) (cI N all oi) w f w := by
        generalize hc : cI N all oi = ci at h0
        cases ci with
        | q i' => exact absurd hc (cI_ne_q _ _ _)
        | chk => exact absurd hc (cI_ne_chk _ _)
        | rb => exact absurd hc (cI_ne_rb _ _)
        | adr d o ty => exact absurd hc (cI_ne_adr _ _ _ _ _)
        | qx t i' => exact absurd hc (cI_ne_qx _ _ _ _)
        | chkx t => exact absurd hc (cI_ne_chkx _ _ _)
        | mv d o => exact h0
        | pick d c a b => exact h0
        | nilc d y => exact h0
        | val d o ty => exact h0
        | eff d o ty => exact h0
        | call d g args => exact h0
        | callv d g args => exact h0
        | pnk o => exact h0
        | gd s bb d i' => exact h0
        | bad => exact h0
      have hs := cI_sound (Q := kont P N ds Rf rk) (K' := fun a' w' => (isCut2 all j = true ∧ ∃ S' : World → Prop, S' w' ∧ AnyC P all (isCut2 all) (kont P N ds Rf rk) pl.length S' (listed.setIfInBounds j true) a' w') ∨ (BelowE P et b w' ∧ AnyC P all (isCut2 all) (kont P N ds Rf rk) pl.length (BelowE P et b) (listed.setIfInBounds j true) a' w')) hf hstep (kont_pan rk hf) (by
        intro a' f' w' hf' hx
        cases n with
        | zero => exact hx.elim
        | succ n =>
          by_cases hc : isCut2 all j = true
          · rw [if_pos hc] at hx
            exact .inl ⟨hc, _, (BelowE.refl et w' : BelowE P et w' w'), held_of_cx hns et pl n w' _ _ _ _ hf' (BelowE.refl et _) hrest (hd.next hrr) hx fun n' a'' f'' w'' hn' => hL n' a'' f'' w'' (by omega)⟩
          · rw [if_neg hc] at hx
            exact .inr ⟨hx.1, held_of_cx hns et pl n b _ _ _ _ hf' hx.1 hrest (hd.next hrr) hx.2 fun n' a'' f'' w'' hn' => hL n' a'' f'' w'' (by omega)⟩)
      split
      · rename_i hw; rw [if_pos hw] at hs; exact .inl hs
      · rename_i hw; rw [if_neg hw] at hs; exact hs

theorem held_of_t {all : Array Oper} {rk : List RIt} (hns : Region.noSelect all = true) :
    ∀ (t : PT) (n : Nat) (b : World) (fuel : Nat) (rs : Option (List Nat)) (listed : Array Bool) (a : Act) (f : Fr) (w : World), Fits N ds a f → Below b.heap.size b w → Dn all listed → ptOk all t fuel rs listed = true →
      (∀ l, rs = some l → ∀ i ∈ l, i ∈ Region.ready .any all listed) → x P Rf n [] (.t b (lowT N all t) :: rk.map (RIt.low N)) b f w →
      (∀ n' a' f' w', n' ≤ n → Fits N ds a' f' → x P Rf n' [] (rk.map (RIt.low N)) w' f' w' → kont P N ds Rf rk .normal a' w') →
      (rs = none → AnyC P all (isCut all) (kont P N ds Rf rk) fuel (Below b.heap.size b) listed a w) ∧
      (∀ l, rs = some l → ∀ i ∈ l, wpOp P all (kont P N ds Rf rk) i (fun a' w' => (isCut all i = true ∧ ∃ S' : World → Prop, S' w' ∧ AnyC P all (isCut all) (kont P N ds Rf rk) (fuel - 1) S' (listed.setIfInBounds i true) a' w') ∨ (Below b.heap.size b w' ∧ AnyC P all (isCut all) (kont P N ds Rf rk) (fuel - 1) (Below b.heap.size b) (listed.setIfInBounds i true) a' w')) a w) := by
  intro t
  induction t with
  | nil =>
    intro n b fuel rs listed a f w hf hb hd hok _ h hL
    cases rs with
    | some l => cases fuel <;> simp [ptOk] at hok
    | none =>
      refine ⟨fun _ => ?_, fun l h => by cases h⟩
      cases n with
      | zero => exact h.elim
      | succ n => exact AnyC.nil (by cases fuel <;> simpa [ptOk] using hok) (hL n a f w (by omega) hf h) fuel
  | q i t ih =>
    intro n b fuel rs listed a f w hf hb hd hok _ h hL
    cases fuel with
    | zero => cases rs <;> simp [ptOk] at hok
    | succ fuel =>
      cases rs with
      | some l => simp [ptOk] at hok
      | none =>
        refine ⟨fun _ => ?_, fun l h => by cases h⟩
        simp only [ptOk, Bool.and_eq_true, decide_eq_true_eq] at hok
        obtain ⟨⟨⟨⟨hq, hi⟩, hr⟩, hfr⟩, hrest⟩ := hok
        cases n with
        | zero => exact h.elim
        | succ n =>
          cases n with
          | zero => exact h.elim
          | succ n =>
            have h' : stepI P Rf.pan (x P Rf n [] (.t b (lowT N all t) :: rk.map (RIt.low N)) b) (cI N all (all.getD i default)) b f w := h
            have hoi : all[i]? = some (all.getD i default) := by simp [hi]
            generalize all.getD i default = oi at *
            obtain ⟨v, hdd, hy, hk⟩ := quiet_sound hf hq h'
            have hr' : i ∈ Region.ready .any all listed := by simpa using hr
            by_cases hp : isPure oi = true
            · obtain ⟨y, hraw, hg, hy'⟩ := pure_yields (P := P) (all := all) hp a
              have hI : cI N all oi = .mv oi.dst y := by unfold cI; rw [if_pos hdd, hg]; exact hraw
              have hk' : x P Rf n [] (.t b (lowT N all t) :: rk.map (RIt.low N)) b (updO f oi.dst (a.eval y)) w := by
                rw [hI] at h'
                rw [hf.ev]; exact h'
              exact AnyC.lookP hoi hns (fun c a w hh => kont_put rk c _ _ _ _ (by first | assumption | exact had.1 | exact hI.2) hh) _ _ _ _ _ hd (Region.free_spec hoi hfr) hr' hy' hb
                ((ih n b fuel none _ _ _ _ (hf.put _ (okD_lt hdd) _) hb (hd.next hr') hrest (fun l h => by cases h) hk' fun n' a' f' w' hn' => hL n' a' f' w' (by omega)).1 rfl)
            exact AnyC.look hoi hns (fun listed j hd hj hr e => ((hd.alone (by unfold isCut at e; rw [Bool.and_eq_true] at e; exact e.2) hj hr (by simpa [hoi] using hp)).symm)) (fun c a w hh => kont_put rk c _ _ _ _ (by first | assumption | exact had.1 | exact hI.2) hh) _ _ _ _ _ hd (Region.free_spec hoi hfr) hr' hy hb
              ((ih n b fuel none _ _ _ _ (hf.put _ (okD_lt hdd) v) hb (hd.next hr') hrest (fun l h => by cases h) hk fun n' a' f' w' hn' => hL n' a' f' w' (by omega)).1 rfl)
  | act i t ih =>
    intro n b fuel rs listed a f w hf hb hd hok hrs h hL
    have key : ∀ fuel', fuel = fuel' + 1 → i < all.size → i ∈ Region.ready .any all listed → ptOk all t fuel' none (listed.setIfInBounds i true) = true →
        wpOp P all (kont P N ds Rf rk) i (fun a' w' => (isCut all i = true ∧ ∃ S' : World → Prop, S' w' ∧ AnyC P all (isCut all) (kont P N ds Rf rk) fuel' S' (listed.setIfInBounds i true) a' w') ∨ (Below b.heap.size b w' ∧ AnyC P all (isCut all) (kont P N ds Rf rk) fuel' (Below b.heap.size b) (listed.setIfInBounds i true) a' w')) a w := by
      intro fuel' _ hi hrr hrest
      cases n with
      | zero => exact h.elim
      | succ n =>
        cases n with
        | zero =>
          have h0 : x P Rf 1 [] (.t b (if isCut all i then .cut (cI N all (all.getD i default)) (lowT N all t) else .act (cI N all (all.getD i default)) (lowT N all t)) :: rk.map (RIt.low N)) b f w := h
          by_cases hc : isCut all i = true
          · rw [if_pos hc] at h0; exact h0.elim
          · rw [if_neg hc] at h0; exact h0.elim
        | succ n =>
          have hoi : all[i]? = some (all.getD i default) := by simp [hi]
          have h0 : x P Rf (n + 1 + 1) [] (.t b (if isCut all i then .cut (cI N all (all.getD i default)) (lowT N all t) else .act (cI N all (all.getD i default)) (lowT N all t)) :: rk.map (RIt.low N)) b f w := h
          generalize all.getD i default = oi at *
          have hstep : ∀ {l : List I} {k : List It}, x P Rf (n + 1) (cI N all oi :: l) k b f w → stepI P Rf.pan (x P Rf n l k b) (cI N all oi) w f w := fun {l k} h' => by
            generalize hc : cI N all oi = ci at h'
            cases ci with
            | q i' => exact absurd hc (cI_ne_q _ _ _)
            | chk => exact absurd hc (cI_ne_chk _ _)
            | rb => exact absurd hc (cI_ne_rb _ _)
            | adr d o ty => exact absurd hc (cI_ne_adr _ _ _ _ _)
            | qx t i' => exact absurd hc (cI_ne_qx _ _ _ _)
            | chkx t => exact absurd hc (cI_ne_chkx _ _ _)
            | mv d o => exact h'
            | pick d c a b => exact h'
            | nilc d y => exact h'
            | val d o ty => exact h'
            | eff d o ty => exact h'
            | call d g args => exact h'
            | callv d g args => exact h'
            | pnk o => exact h'
            | gd s bb d i' => exact h'
            | bad => exact h'
          unfold wpOp
          simp only [hoi]
          by_cases hc : isCut all i = true
          · rw [if_pos hc] at h0
            have h' : x P Rf (n + 1) [cI N all oi] (.tn (lowT N all t) :: rk.map (RIt.low N)) b f w := h0
            have hs := cI_sound (Q := kont P N ds Rf rk) (K' := fun a' w' => (isCut all i = true ∧ ∃ S' : World → Prop, S' w' ∧ AnyC P all (isCut all) (kont P N ds Rf rk) fuel' S' (listed.setIfInBounds i true) a' w') ∨ (Below b.heap.size b w' ∧ AnyC P all (isCut all) (kont P N ds Rf rk) fuel' (Below b.heap.size b) (listed.setIfInBounds i true) a' w')) hf (hstep h') (kont_pan rk hf) (by
              intro a' f' w' hf' hx
              cases n with
              | zero => exact hx.elim
              | succ n =>
                have hx' : x P Rf n [] (.t w' (lowT N all t) :: rk.map (RIt.low N)) w' f' w' := hx
                exact .inl ⟨hc, _, (Below.refl _ _ : Below w'.heap.size w' w'), (ih n w' fuel' none _ _ _ _ hf' (Below.refl _ _) (hd.next hrr) hrest (fun l h => by cases h) hx' fun n' a'' f'' w'' hn' => hL n' a'' f'' w'' (by omega)).1 rfl⟩)
            split
            · rename_i hw; rw [if_pos hw] at hs; exact .inl hs
            · rename_i hw; rw [if_neg hw] at hs; exact hs
          · rw [if_neg hc] at h0
            have h' : x P Rf (n + 1) [cI N all oi, .chk] (.t b (lowT N all t) :: rk.map (RIt.low N)) b f w := h0
            have hs := cI_sound (Q := kont P N ds Rf rk) (K' := fun a' w' => (isCut all i = true ∧ ∃ S' : World → Prop, S' w' ∧ AnyC P all (isCut all) (kont P N ds Rf rk) fuel' S' (listed.setIfInBounds i true) a' w') ∨ (Below b.heap.size b w' ∧ AnyC P all (isCut all) (kont P N ds Rf rk) fuel' (Below b.heap.size b) (listed.setIfInBounds i true) a' w')) hf (hstep h') (kont_pan rk hf) (by
              intro a' f' w' hf' hx
              cases n with
              | zero => exact hx.elim
              | succ n =>
                have hx' : Below b.heap.size b w' ∧ x P Rf n [] (.t b (lowT N all t) :: rk.map (RIt.low N)) b f' w' := hx
                exact .inr ⟨hx'.1, (ih n b fuel' none _ _ _ _ hf' hx'.1 (hd.next hrr) hrest (fun l h => by cases h) hx'.2 fun n' a'' f'' w'' hn' => hL n' a'' f'' w'' (by omega)).1 rfl⟩)
            split
            · rename_i hw; rw [if_pos hw] at hs; exact .inl hs
            · rename_i hw; rw [if_neg hw] at hs; exact hs
    cases fuel with
    | zero => cases rs <;> simp [ptOk] at hok
    | succ fuel =>
      cases rs with
      | none =>
        simp only [ptOk, Bool.and_eq_true, decide_eq_true_eq] at hok
        refine ⟨fun _ => ?_, fun l h => by cases h⟩
        refine ⟨fun h0 => (by rw [h0] at hok; cases hok.1.2), fun j hj => ?_⟩
        obtain rfl : j = i := by rw [hok.1.2] at hj; simpa using hj
        exact key fuel rfl hok.1.1 hj hok.2
      | some l =>
        simp only [ptOk, Bool.and_eq_true, decide_eq_true_eq] at hok
        refine ⟨fun h => (by cases h), fun l' hl j hj => ?_⟩
        cases hl
        have hj0 := hrs l rfl j hj
        obtain rfl : j = i := by rw [hok.1.2] at hj; simpa using hj
        exact key fuel rfl hok.1.1 hj0 hok.2
  | two u v ihu ihv =>
    intro n b fuel rs listed a f w hf hb hd hok hrs h hL
    cases fuel with
    | zero => cases rs <;> simp [ptOk] at hok
    | succ fuel =>
      cases n with
      | zero => exact h.elim
      | succ n =>
        have h' : x P Rf n [] (.t b (lowT N all u) :: rk.map (RIt.low N)) b f w ∧ x P Rf n [] (.t b (lowT N all v) :: rk.map (RIt.low N)) b f w := h
        have hL' : ∀ n' a' f' w', n' ≤ n → Fits N ds a' f' → x P Rf n' [] (rk.map (RIt.low N)) w' f' w' → kont P N ds Rf rk .normal a' w' := fun n' a' f' w' hn' => hL n' a' f' w' (by omega)
        cases rs with
        | none =>
          cases hr : Region.ready .any all listed with
          | nil => simp [ptOk, hr] at hok
          | cons i is =>
            simp only [ptOk, hr, Bool.and_eq_true] at hok
            have h1 := (ihu n b (fuel + 1) (some [i]) listed a f w hf hb hd hok.1 (fun l hl j hj => by cases hl; rw [hr]; rw [List.mem_singleton.1 hj]; exact List.mem_cons_self ..) h'.1 hL').2 _ rfl
            have h2 := (ihv n b (fuel + 1) (some is) listed a f w hf hb hd hok.2 (fun l hl j hj => by cases hl; rw [hr]; exact List.mem_cons_of_mem _ hj) h'.2 hL').2 _ rfl
            refine ⟨fun _ => ⟨fun h0 => (by rw [hr] at h0; cases h0), fun j hj => ?_⟩, fun l h => by cases h⟩
            rw [hr] at hj
            rcases List.mem_cons.1 hj with rfl | hj
            · exact h1 _ (List.mem_singleton.2 rfl)
            · exact h2 _ hj
        | some l =>
          cases l with
          | nil => simp [ptOk] at hok
          | cons i is =>
            simp only [ptOk, Bool.and_eq_true] at hok
            have h1 := (ihu n b (fuel + 1) (some [i]) listed a f w hf hb hd hok.1 (fun l hl j hj => by cases hl; rw [List.mem_singleton.1 hj]; exact hrs _ rfl _ (List.mem_cons_self ..)) h'.1 hL').2 _ rfl
            have h2 := (ihv n b (fuel + 1) (some is) listed a f w hf hb hd hok.2 (fun l hl j hj => by cases hl; exact hrs _ rfl _ (List.mem_cons_of_mem _ hj)) h'.2 hL').2 _ rfl
            refine ⟨fun h => (by cases h), fun l' hl j hj => ?_⟩
            cases hl
            rcases List.mem_cons.1 hj with rfl | hj
            · exact h1 _ (List.mem_singleton.2 rfl)
            · exact h2 _ hj

theorem bld_yields {K : Fr → World → Prop} {all : Array Oper} {o : Oper} {a : Act} {f : Fr} {b w : World} (hf : Fits N ds a f) (ha : isBld o = true) (h : stepI P pn K (.adr o.dst o.op o.type) b f w) :
    ∃ v, YieldsIf P all (fun _ => True) o v a ∧ K (updO f o.dst v) w := by
  unfold isBld at ha
  rw [Bool.and_eq_true] at ha
  have hg : o.guard = none := by simpa using ha.1
  have hw : Region.wanted o (yielded all a.tmps) = true := by simp [Region.wanted, hg]
  have hh := ha.2
  have hev := hf.evF
  obtain ⟨dst, op, ty, pos, after, guard⟩ := o
  simp only [stepI, AdrX] at h
  cases op <;> first
    | (cases hh; done)
    | (simp only [valOf] at h
       obtain ⟨v, hr, hk⟩ := h
       exact ⟨v, .inl ⟨hw, fun w' _ => by simp [execOp, hev, hr w']⟩, hk⟩)
theorem pure3_yields {K : Fr → World → Prop} {all : Array Oper} {o : Oper} {a : Act} {f : Fr} {b w : World} (hf : Fits N ds a f) (hp : isPure3 o = true) (h : stepI P pn K (adrT N all o) b f w) :
    okD N o.dst = true ∧ ∃ v, YieldsIf P all (fun _ => True) o v a ∧ K (updO f o.dst v) w := by
  have hd : okD N o.dst = true := by
    by_cases hd : okD N o.dst = true
    · exact hd
    · have e : adrT N all o = .bad := by
        unfold adrT cI
        rw [Bool.eq_false_iff.2 hd]
        rfl
      rw [e] at h
      exact h.elim
  refine ⟨hd, ?_⟩
  unfold adrT at h
  rw [hd, Bool.true_and] at h
  by_cases h1 : isAddr o = true
  · rw [h1, Bool.true_or, if_pos rfl] at h
    exact adr_yields hf h1 h
  by_cases h2 : isBld o = true
  · rw [h2, Bool.or_true, if_pos rfl] at h
    exact bld_yields hf h2 h
  rw [Bool.eq_false_iff.2 h1, Bool.eq_false_iff.2 h2] at h
  have h' : stepI P pn K (cI N all o) b f w := h
  by_cases h3 : isPure o = true
  · obtain ⟨y, hraw, hg, hy'⟩ := pure_yields (P := P) (all := all) h3 a
    have hI : cI N all o = .mv o.dst y := by unfold cI; rw [if_pos hd, hg]; exact hraw
    rw [hI] at h'
    exact ⟨_, hy', by rw [hf.ev]; exact h'⟩
  have h4 : isNilc o = true := by
    unfold isPure3 isPure2 at hp
    rw [Bool.eq_false_iff.2 h1, Bool.eq_false_iff.2 h2, Bool.eq_false_iff.2 h3] at hp
    simpa using hp
  exact nilc_yields hf h4 h'
theorem held_of_tp {all : Array Oper} {rk : List RIt} (hns : Region.noSelect all = true) :
    ∀ (t : PT) (n : Nat) (b : World) (fuel : Nat) (rs : Option (List Nat)) (listed : Array Bool) (a : Act) (f : Fr) (w : World), Fits N ds a f → Dn all listed → ptOkP all t fuel rs listed = true →
      (∀ l, rs = some l → ∀ i ∈ l, i ∈ Region.ready .any all listed) → x P Rf n [] (.t b (lowTP N all t) :: rk.map (RIt.low N)) b f w →
      (∀ n' a' f' w', n' ≤ n → Fits N ds a' f' → x P Rf n' [] (rk.map (RIt.low N)) w' f' w' → kont P N ds Rf rk .normal a' w') →
      (rs = none → AnyC P all (fun _ => true) (kont P N ds Rf rk) fuel (fun _ => True) listed a w) ∧
      (∀ l, rs = some l → ∀ i ∈ l, wpOp P all (kont P N ds Rf rk) i (fun a' w' => AnyC P all (fun _ => true) (kont P N ds Rf rk) (fuel - 1) (fun _ => True) (listed.setIfInBounds i true) a' w') a w) := by
  intro t
  induction t with
  | nil =>
    intro n b fuel rs listed a f w hf hd hok _ h hL
    cases rs with
    | some l => cases fuel <;> simp [ptOkP] at hok
    | none =>
      refine ⟨fun _ => ?_, fun l h => by cases h⟩
      cases n with
      | zero => exact h.elim
      | succ n => exact AnyC.nil (by cases fuel <;> simpa [ptOkP] using hok) (hL n a f w (by omega) hf h) fuel
  | q i t ih =>
    intro n b fuel rs listed a f w hf hd hok _ h hL
    cases fuel with
    | zero => cases rs <;> simp [ptOkP] at hok
    | succ fuel =>
      cases rs with
      | some l => simp [ptOkP] at hok
      | none =>
        refine ⟨fun _ => ?_, fun l h => by cases h⟩
        simp only [ptOkP, Bool.and_eq_true, decide_eq_true_eq] at hok
        obtain ⟨⟨⟨⟨hq, hi⟩, hr⟩, hfr⟩, hrest⟩ := hok
        cases n with
        | zero => exact h.elim
        | succ n =>
          cases n with
          | zero => exact h.elim
          | succ n =>
            have h' : stepI P Rf.pan (x P Rf n [] (.t b (lowTP N all t) :: rk.map (RIt.low N)) b) (adrT N all (all.getD i default)) b f w := h
            have hoi : all[i]? = some (all.getD i default) := by simp [hi]
            generalize all.getD i default = oi at *
            obtain ⟨hdd, v, hy, hk⟩ := pure3_yields hf hq h'
            have hr' : i ∈ Region.ready .any all listed := by simpa using hr
            exact AnyC.lookP hoi hns (fun c a w hh => kont_put rk c _ _ _ _ (by first | assumption | exact had.1 | exact hI.2) hh) _ _ _ _ _ hd (Region.free_spec hoi hfr) hr' hy trivial
                ((ih n b fuel none _ _ _ _ (hf.put _ (okD_lt hdd) _) (hd.next hr') hrest (fun l h => by cases h) hk fun n' a' f' w' hn' => hL n' a' f' w' (by omega)).1 rfl)
  | act i t ih =>
    intro n b fuel rs listed a f w hf hd hok hrs h hL
    have key : ∀ fuel', fuel = fuel' + 1 → i < all.size → i ∈ Region.ready .any all listed → ptOkP all t fuel' none (listed.setIfInBounds i true) = true →
        wpOp P all (kont P N ds Rf rk) i (fun a' w' => AnyC P all (fun _ => true) (kont P N ds Rf rk) fuel' (fun _ => True) (listed.setIfInBounds i true) a' w') a w := by
      intro fuel' _ hi hrr hrest
      cases n with
      | zero => exact h.elim
      | succ n =>
        cases n with
        | zero => exact (show False from h).elim
        | succ n =>
          have hoi : all[i]? = some (all.getD i default) := by simp [hi]
          have h0 : x P Rf (n + 1 + 1) [] (.t b (.cut (cI N all (all.getD i default)) (lowTP N all t)) :: rk.map (RIt.low N)) b f w := h
          generalize all.getD i default = oi at *
          have hstep : ∀ {l : List I} {k : List It}, x P Rf (n + 1) (cI N all oi :: l) k b f w → stepI P Rf.pan (x P Rf n l k b) (cI N all oi) w f w := fun {l k} h' => by
            generalize hc : cI N all oi = ci at h'
            cases ci with
            | q i' => exact absurd hc (cI_ne_q _ _ _)
            | chk => exact absurd hc (cI_ne_chk _ _)
            | rb => exact absurd hc (cI_ne_rb _ _)
            | adr d o ty => exact absurd hc (cI_ne_adr _ _ _ _ _)
            | qx t i' => exact absurd hc (cI_ne_qx _ _ _ _)
            | chkx t => exact absurd hc (cI_ne_chkx _ _ _)
            | mv d o => exact h'
            | pick d c a b => exact h'
            | nilc d y => exact h'
            | val d o ty => exact h'
            | eff d o ty => exact h'
            | call d g args => exact h'
            | callv d g args => exact h'
            | pnk o => exact h'
            | gd s bb d i' => exact h'
            | bad => exact h'
          unfold wpOp
          simp only [hoi]
          have h' : x P Rf (n + 1) [cI N all oi] (.tn (lowTP N all t) :: rk.map (RIt.low N)) b f w := h0
          have hs := cI_sound (Q := kont P N ds Rf rk) (K' := fun a' w' => AnyC P all (fun _ => true) (kont P N ds Rf rk) fuel' (fun _ => True) (listed.setIfInBounds i true) a' w') hf (hstep h') (kont_pan rk hf) (by
            intro a' f' w' hf' hx
            cases n with
            | zero => exact hx.elim
            | succ n =>
              have hx' : x P Rf n [] (.t w' (lowTP N all t) :: rk.map (RIt.low N)) w' f' w' := hx
              exact (ih n w' fuel' none _ _ _ _ hf' (hd.next hrr) hrest (fun l h => by cases h) hx' fun n' a'' f'' w'' hn' => hL n' a'' f'' w'' (by omega)).1 rfl)
          split
          · rename_i hw; rw [if_pos hw] at hs; exact .inl hs
          · rename_i hw; rw [if_neg hw] at hs; exact hs
    cases fuel with
    | zero => cases rs <;> simp [ptOkP] at hok
    | succ fuel =>
      cases rs with
      | none =>
        simp only [ptOkP, Bool.and_eq_true, decide_eq_true_eq] at hok
        refine ⟨fun _ => ?_, fun l h => by cases h⟩
        refine ⟨fun h0 => (by rw [h0] at hok; cases hok.1.2), fun j hj => ?_⟩
        obtain rfl : j = i := by rw [hok.1.2] at hj; simpa using hj
        exact wpOp_mono (fun a' w' h => .inr ⟨trivial, h⟩) (key fuel rfl hok.1.1 hj hok.2)
      | some l =>
        simp only [ptOkP, Bool.and_eq_true, decide_eq_true_eq] at hok
        refine ⟨fun h => (by cases h), fun l' hl j hj => ?_⟩
        cases hl
        have hj0 := hrs l rfl j hj
        obtain rfl : j = i := by rw [hok.1.2] at hj; simpa using hj
        exact key fuel rfl hok.1.1 hj0 hok.2
  | two u v ihu ihv =>
    intro n b fuel rs listed a f w hf hd hok hrs h hL
    cases fuel with
    | zero => cases rs <;> simp [ptOkP] at hok
    | succ fuel =>
      cases n with
      | zero => exact h.elim
      | succ n =>
        have h' : x P Rf n [] (.t b (lowTP N all u) :: rk.map (RIt.low N)) b f w ∧ x P Rf n [] (.t b (lowTP N all v) :: rk.map (RIt.low N)) b f w := h
        have hL' : ∀ n' a' f' w', n' ≤ n → Fits N ds a' f' → x P Rf n' [] (rk.map (RIt.low N)) w' f' w' → kont P N ds Rf rk .normal a' w' := fun n' a' f' w' hn' => hL n' a' f' w' (by omega)
        cases rs with
        | none =>
          cases hr : Region.ready .any all listed with
          | nil => simp [ptOkP, hr] at hok
          | cons i is =>
            simp only [ptOkP, hr, Bool.and_eq_true] at hok
            have h1 := (ihu n b (fuel + 1) (some [i]) listed a f w hf hd hok.1 (fun l hl j hj => by cases hl; rw [hr]; rw [List.mem_singleton.1 hj]; exact List.mem_cons_self ..) h'.1 hL').2 _ rfl
            have h2 := (ihv n b (fuel + 1) (some is) listed a f w hf hd hok.2 (fun l hl j hj => by cases hl; rw [hr]; exact List.mem_cons_of_mem _ hj) h'.2 hL').2 _ rfl
            refine ⟨fun _ => ⟨fun h0 => (by rw [hr] at h0; cases h0), fun j hj => ?_⟩, fun l h => by cases h⟩
            rw [hr] at hj
            rcases List.mem_cons.1 hj with rfl | hj
            · exact wpOp_mono (fun a' w' h => .inr ⟨trivial, h⟩) (h1 _ (List.mem_singleton.2 rfl))
            · exact wpOp_mono (fun a' w' h => .inr ⟨trivial, h⟩) (h2 _ hj)
        | some l =>
          cases l with
          | nil => simp [ptOkP] at hok
          | cons i is =>
            simp only [ptOkP, Bool.and_eq_true] at hok
            have h1 := (ihu n b (fuel + 1) (some [i]) listed a f w hf hd hok.1 (fun l hl j hj => by cases hl; rw [List.mem_singleton.1 hj]; exact hrs _ rfl _ (List.mem_cons_self ..)) h'.1 hL').2 _ rfl
            have h2 := (ihv n b (fuel + 1) (some is) listed a f w hf hd hok.2 (fun l hl j hj => by cases hl; exact hrs _ rfl _ (List.mem_cons_of_mem _ hj)) h'.2 hL').2 _ rfl
            refine ⟨fun h => (by cases h), fun l' hl j hj => ?_⟩
            cases hl
            rcases List.mem_cons.1 hj with rfl | hj
            · exact h1 _ (List.mem_singleton.2 rfl)
            · exact h2 _ hj

theorem held_of_z {all : Array Oper} {rk : List RIt} (hns : Region.noSelect all = true) {S : World → Prop} {K : Fr → World → Prop} (hK : ∀ a f w, Fits N ds a f → K f w → kont P N ds Rf rk .normal a w) :
    ∀ (pl : List (Nat × Bool)) (listed : Array Bool) (a : Act) (f : Fr) (w : World), Fits N ds a f → S w → planOk all pl listed = true → Dn all listed →
      xs P Rf.pan S K (planIz N all pl) f w → AnyC P all (fun _ => false) (kont P N ds Rf rk) pl.length S listed a w
  | [], listed, a, f, w, hf, _, hok, _, h => AnyC.nil (by simpa [planOk] using hok) (hK a f w hf h) 0
  | (i, true) :: pl, listed, a, f, w, hf, hb, hok, hd, h => by
    simp only [planOk, Bool.and_eq_true, decide_eq_true_eq] at hok
    obtain ⟨⟨⟨⟨hq, hi⟩, hr⟩, hfr⟩, hrest⟩ := hok
    simp only [planIz] at h
    have hoi : all[i]? = some (all.getD i default) := by simp [hi]
    generalize all.getD i default = oi at *
    have hr' : i ∈ Region.ready .any all listed := by simpa using hr
    by_cases had : (okD N oi.dst && isAddr oi) = true
    · have h' : xs P Rf.pan S K (.adr oi.dst oi.op oi.type :: planIz N all pl) f w := by
        unfold adrI at h; rw [if_pos had] at h; exact h
      rw [Bool.and_eq_true] at had
      obtain ⟨v, hy', hk'⟩ := adr_yields (P := P) (pn := Rf.pan) (K := xs P Rf.pan S K (planIz N all pl)) (b := w) (all := all) hf had.2 h'
      exact AnyC.lookP hoi hns (fun c a w hh => kont_put rk c _ _ _ _ (by first | assumption | exact had.1 | exact hI.2) hh) _ _ _ _ _ hd (Region.free_spec hoi hfr) hr' hy' hb
        (held_of_z hns hK pl _ _ _ _ (hf.put _ (okD_lt had.1) _) hb hrest (hd.next hr') hk')
    have h' : stepS P (xs P Rf.pan S K (planIz N all pl)) S (cI N all oi) f w := by
      unfold adrI at h; rw [if_neg had] at h; exact h
    obtain ⟨v, hdd, hy, hk⟩ := quiet_soundS hf hq h'
    exact AnyC.look hoi hns (fun _ _ _ _ _ e => by cases e) (fun c a w hh => kont_put rk c _ _ _ _ (by first | assumption | exact had.1 | exact hI.2) hh) _ _ _ _ _ hd (Region.free_spec hoi hfr) hr' hy hb
      (held_of_z hns hK pl _ _ _ _ (hf.put _ (okD_lt hdd) v) hb hrest (hd.next hr') hk)
  | (i, false) :: pl, listed, a, f, w, hf, hb, hok, hd, h => by
    simp only [planOk, Bool.and_eq_true, decide_eq_true_eq] at hok
    obtain ⟨⟨hi, hr⟩, hrest⟩ := hok
    have hoi : all[i]? = some (all.getD i default) := by simp [hi]
    have hrr : i ∈ Region.ready .any all listed := by rw [hr]; simp
    have h0 : xs P Rf.pan S K (cI N all (all.getD i default) :: planIz N all pl) f w := h
    refine ⟨fun h0 => (by rw [h0] at hr; cases hr), fun j hj => ?_⟩
    obtain rfl : j = i := by rw [hr] at hj; simpa using hj
    generalize all.getD j default = oi at hoi h0
    unfold wpOp
    simp only [hoi]
    have hstep : stepI P Rf.pan (fun f' w' => S w' ∧ xs P Rf.pan S K (planIz N all pl) f' w') (cI N all oi) w f w := by
      generalize hc : cI N all oi = ci at h0
      cases ci with
      | q i' => exact absurd hc (cI_ne_q _ _ _)
      | adr d o ty => exact absurd hc (cI_ne_adr _ _ _ _ _)
      | chk => exact h0
      | rb => exact absurd hc (cI_ne_rb _ _)
      | qx t i' => exact h0
      | chkx t => exact h0
      | mv d o => exact h0
      | pick d c a b => exact h0
      | nilc d y => exact h0
      | val d o ty => exact h0
      | eff d o ty => exact h0
      | call d g args => exact h0
      | callv d g args => exact h0
      | pnk o => exact h0
      | gd s bb d i' => exact h0
      | bad => exact h0
    have hs := cI_sound (Q := kont P N ds Rf rk) (K' := fun a' w' => ((false : Bool) = true ∧ ∃ S' : World → Prop, S' w' ∧ AnyC P all (fun _ => false) (kont P N ds Rf rk) pl.length S' (listed.setIfInBounds j true) a' w') ∨ (S w' ∧ AnyC P all (fun _ => false) (kont P N ds Rf rk) pl.length S (listed.setIfInBounds j true) a' w')) hf hstep (kont_pan rk hf)
      fun a' f' w' hf' hx => .inr ⟨hx.1, held_of_z hns hK pl _ _ _ _ hf' hx.1 hrest (hd.next hrr) hx.2⟩
    split
    · rename_i hw; rw [if_pos hw] at hs; exact .inl hs
    · rename_i hw; rw [if_neg hw] at hs; exact hs

theorem nilc_yieldsS {K : Fr → World → Prop} {all : Array Oper} {o : Oper} {a : Act} {f : Fr} {w : World} {S : World → Prop} (hf : Fits N ds a f) (ha : isNilc o = true) (h : stepS P K S (cI N all o) f w) :
    ∃ v, YieldsIf P all (fun _ => True) o v a ∧ K (updO f o.dst v) w := by
  unfold isNilc at ha
  rw [Bool.and_eq_true] at ha
  have hg : o.guard = none := by simpa using ha.1
  have hw : Region.wanted o (yielded all a.tmps) = true := by simp [Region.wanted, hg]
  have hh := ha.2
  have hev := hf.evF
  obtain ⟨dst, op, ty, pos, after, guard⟩ := o
  simp only at hg
  subst hg
  cases op <;> first | (cases hh; done) | skip
  rename_i y
  unfold cI at h
  split at h
  · simp only [rawI] at h
    obtain ⟨hn, hk⟩ := h
    refine ⟨ev f y, .inl ⟨hw, fun w' _ => ?_⟩, hk⟩
    rcases hn with ⟨p, hp⟩ | ⟨g, p, q, hp⟩ <;> simp only [execOp, hev, hp] <;> rfl
  · exact h.elim
theorem held_of_w {all : Array Oper} {rk : List RIt} (hns : Region.noSelect all = true) {K : Fr → World → Prop} (hK : ∀ a f w, Fits N ds a f → K f w → kont P N ds Rf rk .normal a w) :
    ∀ (pl : List (Nat × Bool)) (S : World → Prop) (listed : Array Bool) (a : Act) (f : Fr) (w : World), Fits N ds a f → S w → planOk all pl listed = true → Dn all listed →
      xs P Rf.pan S K (planIw N all pl) f w → AnyC P all (isCutW all) (kont P N ds Rf rk) pl.length S listed a w
  | [], S, listed, a, f, w, hf, _, hok, _, h => AnyC.nil (by simpa [planOk] using hok) (hK a f w hf h) 0
  | (i, true) :: pl, S, listed, a, f, w, hf, hb, hok, hd, h => by
    simp only [planOk, Bool.and_eq_true, decide_eq_true_eq] at hok
    obtain ⟨⟨⟨⟨hq, hi⟩, hr⟩, hfr⟩, hrest⟩ := hok
    simp only [planIw] at h
    have hoi : all[i]? = some (all.getD i default) := by simp [hi]
    generalize all.getD i default = oi at *
    have hr' : i ∈ Region.ready .any all listed := by simpa using hr
    by_cases had : (okD N oi.dst && (isAddr oi || isArith oi)) = true
    · have h' : xs P Rf.pan S K (.adr oi.dst oi.op oi.type :: planIw N all pl) f w := by
        unfold adrW at h; rw [if_pos had] at h; exact h
      rw [Bool.and_eq_true] at had
      obtain ⟨v, hy', hk'⟩ : ∃ v, YieldsIf P all (fun _ => True) oi v a ∧ xs P Rf.pan S K (planIw N all pl) (updO f oi.dst v) w := by
        rcases (Bool.or_eq_true _ _).mp had.2 with hA | hA
        · exact adr_yields (P := P) (pn := Rf.pan) (K := xs P Rf.pan S K (planIw N all pl)) (b := w) (all := all) hf hA h'
        · exact arith_yields (P := P) (pn := Rf.pan) (K := xs P Rf.pan S K (planIw N all pl)) (b := w) (all := all) hf hA h'
      exact AnyC.lookP hoi hns (fun c a w hh => kont_put rk c _ _ _ _ (by first | assumption | exact had.1 | exact hI.2) hh) _ _ _ _ _ hd (Region.free_spec hoi hfr) hr' hy' hb
        (held_of_w hns hK pl _ _ _ _ _ (hf.put _ (okD_lt had.1) _) hb hrest (hd.next hr') hk')
    have h' : stepS P (xs P Rf.pan S K (planIw N all pl)) S (cI N all oi) f w := by
      unfold adrW at h; rw [if_neg had] at h; exact h
    obtain ⟨v, hdd, hy, hk⟩ := quiet_soundS hf hq h'
    rw [Bool.and_eq_true, hdd] at had
    by_cases hp : isPure oi = true
    · obtain ⟨y, hraw, hg, hy'⟩ := pure_yields (P := P) (all := all) hp a
      have hI : cI N all oi = .mv oi.dst y ∧ okD N oi.dst = true := by
        unfold cI at h' ⊢
        by_cases hok : okD N oi.dst = true
        · rw [if_pos hok, hg]; exact ⟨hraw, hok⟩
        · rw [if_neg hok] at h'; exact h'.elim
      have hk' : xs P Rf.pan S K (planIw N all pl) (updO f oi.dst (a.eval y)) w := by
        rw [hI.1] at h'
        rw [hf.ev]; exact h'
      exact AnyC.lookP hoi hns (fun c a w hh => kont_put rk c _ _ _ _ hI.2 hh) _ _ _ _ _ hd (Region.free_spec hoi hfr) hr' hy' hb
        (held_of_w hns hK pl _ _ _ _ _ (hf.put _ (okD_lt hI.2) _) hb hrest (hd.next hr') hk')
    by_cases hni : isNilc oi = true
    · obtain ⟨v', hy', hk'⟩ := nilc_yieldsS (P := P) (all := all) hf hni h'
      exact AnyC.lookP hoi hns (fun c a w hh => kont_put rk c _ _ _ _ hdd hh) _ _ _ _ _ hd (Region.free_spec hoi hfr) hr' hy' hb
        (held_of_w hns hK pl _ _ _ _ _ (hf.put _ (okD_lt hdd) _) hb hrest (hd.next hr') hk')
    have hp2 : isPureW oi = false := by
      have hA : ¬ isAddr oi = true := fun e => had ⟨rfl, by rw [e]; rfl⟩
      have hB : ¬ isArith oi = true := fun e => had ⟨rfl, by rw [e]; exact Bool.or_true _⟩
      unfold isPureW isPure2
      simp only [Bool.not_eq_true] at hp hni hA hB
      rw [hp, hni, hA, hB]; rfl
    exact AnyC.look hoi hns (fun listed j hd hj hr e => ((hd.aloneW (by unfold isCutW at e; rw [Bool.and_eq_true] at e; exact e.2) hj hr (by simpa [hoi] using hp2)).symm)) (fun c a w hh => kont_put rk c _ _ _ _ hdd hh) _ _ _ _ _ hd (Region.free_spec hoi hfr) hr' hy hb
      (held_of_w hns hK pl _ _ _ _ _ (hf.put _ (okD_lt hdd) v) hb hrest (hd.next hr') hk)
  | (i, false) :: pl, S, listed, a, f, w, hf, hb, hok, hd, h => by
    simp only [planOk, Bool.and_eq_true, decide_eq_true_eq] at hok
    obtain ⟨⟨hi, hr⟩, hrest⟩ := hok
    have hoi : all[i]? = some (all.getD i default) := by simp [hi]
    have hrr : i ∈ Region.ready .any all listed := by rw [hr]; simp
    simp only [planIw] at h
    refine ⟨fun h0 => (by rw [h0] at hr; cases hr), fun j hj => ?_⟩
    obtain rfl : j = i := by rw [hr] at hj; simpa using hj
    generalize all.getD j default = oi at hoi h
    unfold wpOp
    simp only [hoi]
    by_cases hc : isCutW all j = true
    · rw [if_pos hc] at h
      have hstep : stepI P Rf.pan (fun f' w' => ∃ S' : World → Prop, S' w' ∧ xs P Rf.pan S' K (planIw N all pl) f' w') (cI N all oi) w f w := h
      have hs := cI_sound (Q := kont P N ds Rf rk) (K' := fun a' w' => (isCutW all j = true ∧ ∃ S' : World → Prop, S' w' ∧ AnyC P all (isCutW all) (kont P N ds Rf rk) pl.length S' (listed.setIfInBounds j true) a' w') ∨ (S w' ∧ AnyC P all (isCutW all) (kont P N ds Rf rk) pl.length S (listed.setIfInBounds j true) a' w')) hf hstep (kont_pan rk hf)
        fun a' f' w' hf' hx => by
          obtain ⟨S', hS', hx⟩ := hx
          exact .inl ⟨hc, S', hS', held_of_w hns hK pl _ _ _ _ _ hf' hS' hrest (hd.next hrr) hx⟩
      split
      · rename_i hw; rw [if_pos hw] at hs; exact .inl hs
      · rename_i hw; rw [if_neg hw] at hs; exact hs
    rw [if_neg hc] at h
    have hstep : stepI P Rf.pan (fun f' w' => S w' ∧ xs P Rf.pan S K (planIw N all pl) f' w') (cI N all oi) w f w := by
      generalize hc : cI N all oi = ci at h
      cases ci with
      | q i' => exact absurd hc (cI_ne_q _ _ _)
      | adr d o ty => exact absurd hc (cI_ne_adr _ _ _ _ _)
      | rb => exact absurd hc (cI_ne_rb _ _)
      | chk => exact h
      | qx t i' => exact h
      | chkx t => exact h
      | mv d o => exact h
      | pick d c a b => exact h
      | nilc d y => exact h
      | val d o ty => exact h
      | eff d o ty => exact h
      | call d g args => exact h
      | callv d g args => exact h
      | pnk o => exact h
      | gd s bb d i' => exact h
      | bad => exact h
    have hs := cI_sound (Q := kont P N ds Rf rk) (K' := fun a' w' => (isCutW all j = true ∧ ∃ S' : World → Prop, S' w' ∧ AnyC P all (isCutW all) (kont P N ds Rf rk) pl.length S' (listed.setIfInBounds j true) a' w') ∨ (S w' ∧ AnyC P all (isCutW all) (kont P N ds Rf rk) pl.length S (listed.setIfInBounds j true) a' w')) hf hstep (kont_pan rk hf)
      fun a' f' w' hf' hx => .inr ⟨hx.1, held_of_w hns hK pl _ _ _ _ _ hf' hx.1 hrest (hd.next hrr) hx.2⟩
    split
    · rename_i hw; rw [if_pos hw] at hs; exact .inl hs
    · rename_i hw; rw [if_neg hw] at hs; exact hs

theorem quiet_takeWhile (l : List Oper) : ∀ o ∈ l.take (headLen l), (rawI o).quiet = true := by
  induction l with
  | nil => simp
  | cons o l ih =>
    unfold headLen at *
    by_cases h : (rawI o).quiet = true
    · simp only [List.takeWhile_cons, h, if_true, List.length_cons, List.take_succ_cons, List.mem_cons]
      rintro o' (rfl | ho')
      · exact h
      · exact ih o' ho'
    · simp [h]

theorem sound (hm : P.follows .mixedOrders = true) : ∀ (n : Nat) (rl : List Oper) (all : Array Oper) (rk : List RIt) (b : World) (f : Fr) (w : World) (a : Act), Fits N ds a f →
    x P Rf n (rl.map (cI N all)) (rk.map (RIt.low N)) b f w → wpList P all (kont P N ds Rf rk) rl a w := by
  intro n
  induction n using Nat.strongRecOn with
  | _ n IH =>
  intro rl all rk b f w a hf h
  have IH0 : ∀ n', n' < n → ∀ (rk : List RIt) (b : World) (f : Fr) (w : World) (a : Act), Fits N ds a f → x P Rf n' [] (rk.map (RIt.low N)) b f w → kont P N ds Rf rk .normal a w :=
    fun n' hn' rk b f w a hf h => IH n' hn' [] #[] rk b f w a hf h
  cases n with
  | zero => exact h.elim
  | succ n =>
  cases rl with
  | cons o rl =>
    simp only [List.map_cons] at h
    have hstep : stepI P Rf.pan (x P Rf n (rl.map (cI N all)) (rk.map (RIt.low N)) b) (cI N all o) w f w := by
      generalize hc : cI N all o = ci at h
      cases ci with
      | q i' => exact absurd hc (cI_ne_q _ _ _)
      | chk => exact absurd hc (cI_ne_chk _ _)
      | rb => exact absurd hc (cI_ne_rb _ _)
      | adr d o ty => exact absurd hc (cI_ne_adr _ _ _ _ _)
      | qx t i' => exact absurd hc (cI_ne_qx _ _ _ _)
      | chkx t => exact absurd hc (cI_ne_chkx _ _ _)
      | mv d o => exact h
      | pick d c a b => exact h
      | nilc d y => exact h
      | val d o ty => exact h
      | eff d o ty => exact h
      | call d g args => exact h
      | callv d g args => exact h
      | pnk o => exact h
      | gd s bb d i' => exact h
      | bad => exact h
    have hsnd := cI_sound (Q := kont P N ds Rf rk) (K' := wpList P all (kont P N ds Rf rk) rl) hf hstep (kont_pan rk hf) (fun a' f' w' hf' hx => IH n (Nat.lt_succ_self n) rl all rk b f' w' a' hf' hx)
    unfold wpList
    split
    · rename_i hw; rw [if_pos hw] at hsnd; exact .inl hsnd
    · rename_i hw; rw [if_neg hw] at hsnd; exact hsnd
  | nil =>
    show kont P N ds Rf rk .normal a w
    have lt := Nat.lt_succ_self n
    cases rk with
    | nil => exact ⟨f, hf, h⟩
    | cons it rk =>
      cases it with
      | bl id => exact IH0 n lt rk _ _ _ _ hf h
      | sc => exact IH0 n lt rk _ _ _ _ hf h
      | lp J => exact ⟨f, hf, h⟩
      | c cc =>
        show cc.wp P (kont P N ds Rf rk) a w
        cases cc with
        | skip => exact wp_skip (IH0 n lt rk _ _ _ _ hf h)
        | label l => exact wp_label (IH0 n lt rk _ _ _ _ hf h)
        | ret => exact wp_ret (kont_ret rk a w ⟨f, hf, h⟩)
        | seq c1 c2 =>
          refine wp_seq ?_
          have := IH0 n lt (.c c1 :: .c c2 :: rk) _ _ _ _ hf h
          exact Go.wp_mono (this : c1.wp P (kont P N ds Rf (.c c2 :: rk)) a w) (fun e a w hq => hq)
        | cond c c1 c2 =>
          obtain ⟨t, ht, hk⟩ := h
          refine wp_cond (t := t) (by rw [hf.ev]; exact ht) ?_
          cases t
          · exact IH0 n lt (.c c2 :: rk) _ _ _ _ hf hk
          · exact IH0 n lt (.c c1 :: rk) _ _ _ _ hf hk
        | block id c =>
          refine wp_block ?_
          have := IH0 n lt (.c c :: .bl id :: rk) _ _ _ _ hf h
          exact Go.wp_mono (this : c.wp P (kont P N ds Rf (.bl id :: rk)) a w) (fun e a w hq => hq)
        | scope c =>
          refine wp_scope_straight ?_
          have := IH0 n lt (.c c :: .sc :: rk) _ _ _ _ hf h
          exact Go.wp_mono (this : c.wp P (kont P N ds Rf (.sc :: rk)) a w) (fun e a w hq => hq)
        | exit id =>
          have h' : (match popTo id (rk.map (RIt.low N)) with | some k' => x P Rf n [] k' w f w | none => False) := h
          cases hp : popTo id (rk.map (RIt.low N)) with
          | none => rw [hp] at h'; exact h'.elim
          | some k' =>
            rw [hp] at h'
            obtain ⟨rk', rfl, hh⟩ := kont_exit (P := P) (Rf := Rf) rk id k' hp
            exact wp_exit (hh a w (IH0 n lt rk' _ _ _ _ hf h'))
        | loop c =>
          obtain ⟨J, μ, h0, hr⟩ := h
          refine wp_loop (RQ N ds J) (fun a w => μ (fun t => a.tmps.getD t undef) w) ⟨f, hf, h0⟩ ?_
          rintro a' w' ⟨f', hf', hJ⟩
          have := IH0 n lt (.c c :: .lp (fun f2 w2 => J f2 w2 ∧ μ f2 w2 < μ f' w') :: rk) _ _ _ _ hf' (hr f' w' hJ)
          refine Go.wp_mono (this : c.wp P (kont P N ds Rf (.lp (fun f2 w2 => J f2 w2 ∧ μ f2 w2 < μ f' w') :: rk)) a' w') (fun e a2 w2 hq => ?_)
          cases e with
          | normal =>
            obtain ⟨f2, hf2, hJ2, hlt⟩ := hq
            refine ⟨⟨f2, hf2, hJ2⟩, ?_⟩
            rw [show (fun t => a2.tmps.getD t undef) = f2 from funext hf2.at_, show (fun t => a'.tmps.getD t undef) = f' from funext hf'.at_]
            exact hlt
          | _ => exact hq
        | region id ops draw =>
          cases draw with
          | false => exact wp_region_list (IH n lt ops.toList ops rk _ f w a hf h)
          | true =>
            have h' : x P Rf (n + 1) [] (.c (cDraw N ops) :: rk.map (RIt.low N)) b f w := h
            unfold cDraw at h'
            simp only at h'
            have hl : ops = ops.toList.toArray := by simp
            split at h'
            · split at h'
              · rename_i t heq
                unfold cTreeP at heq
                split at heq
                · rename_i pt _
                  split at heq
                  · rename_i hB
                    simp only [Bool.and_eq_true] at hB
                    injection heq with heq
                    subst heq
                    refine wp_region_any hm (AnyC.any (ct := fun _ => true) _ (fun _ => True) _ _ _ ?_)
                    exact (held_of_tp (P := P) (Rf := Rf) (N := N) (rk := rk) hB.1 pt n w.drew _ none _ a f w.drew hf (Dn.start _ _) hB.2.1 (fun l h => by cases h) h' (fun n' a' f' w' hn' hf' hx => IH0 n' (by omega) rk _ _ _ _ hf' hx)).1 rfl
                  · cases heq
                · cases heq
              · unfold cZ at h'
                split at h'
                · rename_i pl _
                  split at h'
                  · rename_i hB
                    simp only [Bool.and_eq_true, decide_eq_true_eq] at hB
                    obtain ⟨S, hS, h2⟩ := h'
                    refine wp_region_any hm (AnyC.any (ct := isCutW ops) _ S _ _ _ ?_)
                    have hh := held_of_w (P := P) (Rf := Rf) (N := N) (rk := rk) hB.1 (fun a' f' w' hf' hx => IH0 n (by omega) rk w' _ _ _ hf' hx) pl S _ a f w.drew hf hS hB.2.1 (Dn.start _ _) h2
                    rwa [hB.2.2] at hh
                  · exact h'.elim
                · exact h'.elim
            split at h'
            · rename_i hB
              simp only [Bool.and_eq_true, decide_eq_true_eq] at hB
              refine wp_region_still hm hB.2 ?_
              have hq : ∀ o ∈ ops.toList, (rawI o).quiet = true := by
                have := quiet_takeWhile ops.toList
                rwa [hB.1, ← Array.length_toList, List.take_length] at this
              refine still_of_x (Rf := Rf) (N := N) (tl := []) (k := rk.map (RIt.low N)) ops.toList hq n a f hf (by rw [List.append_nil]; exact h') ?_
              intro n' a' f' hn' hf' hx
              exact IH0 n' (by omega) rk _ _ _ _ hf' hx
            · split at h'
              · rename_i hB
                rw [hl]
                refine wp_region_still_tail (headLen ops.toList) hm (by rw [← hl]; exact hB) ?_
                rw [← hl]
                refine still_of_x (Rf := Rf) (N := N) (k := rk.map (RIt.low N)) _ (quiet_takeWhile ops.toList) n a f hf h' ?_
                intro n' a' f' hn' hf' hx
                exact IH n' (by omega) _ ops rk _ f' _ a' hf' hx
              · split at h'
                · rename_i pl _
                  split at h'
                  · rename_i hB
                    simp only [Bool.and_eq_true, decide_eq_true_eq] at hB
                    split at h'
                    · unfold planD at h'
                      split at h'
                      · rename_i et _
                        refine wp_region_any hm (AnyC.any (ct := isCut2 ops) _ (BelowE P et w.drew) _ _ _ ?_)
                        have hh := held_of_cx (P := P) (Rf := Rf) (N := N) (rk := rk) hB.1.1 et pl n w.drew _ a f w.drew hf (BelowE.refl _ _) hB.1.2.1 (Dn.start _ _) h' (fun n' a' f' w' hn' hf' ⟨b', hx⟩ => IH0 n' (by omega) rk b' _ _ _ hf' hx)
                        rwa [hB.1.2.2] at hh
                      · refine wp_region_any hm (AnyC.any (ct := isCut2 ops) _ (Below w.drew.heap.size w.drew) _ _ _ ?_)
                        have hh := held_of_c (P := P) (Rf := Rf) (N := N) (rk := rk) hB.1.1 pl n w.drew _ a f w.drew hf (Below.refl _ _) hB.1.2.1 (Dn.start _ _) h' (fun n' a' f' w' hn' hf' ⟨b', hx⟩ => IH0 n' (by omega) rk b' _ _ _ hf' hx)
                        rwa [hB.1.2.2] at hh
                    · split at h'
                      · obtain ⟨S, hS, h2⟩ := h'
                        refine wp_region_any hm (AnyC.any (ct := isCutW ops) _ S _ _ _ ?_)
                        have hh := held_of_w (P := P) (Rf := Rf) (N := N) (rk := rk) hB.1.1 (fun a' f' w' hf' hx => IH0 n (by omega) rk w' _ _ _ hf' hx) pl S _ a f w.drew hf hS hB.1.2.1 (Dn.start _ _) h2
                        rwa [hB.1.2.2] at hh
                      obtain ⟨S, hS, h2⟩ := h'
                      refine wp_region_any hm (AnyC.any (ct := fun _ => false) _ S _ _ _ ?_)
                      have hh := held_of_z (P := P) (Rf := Rf) (N := N) (rk := rk) hB.1.1 (fun a' f' w' hf' hx => IH0 n (by omega) rk w' _ _ _ hf' hx) pl _ a f w.drew hf hS hB.1.2.1 (Dn.start _ _) h2
                      rwa [hB.1.2.2] at hh
                  · exact h'.elim
                · unfold cTree at h'
                  split at h'
                  · rename_i pt _
                    split at h'
                    · rename_i hB
                      simp only [Bool.and_eq_true] at hB
                      refine wp_region_any hm (AnyC.any (ct := isCut ops) _ (Below w.drew.heap.size w.drew) _ _ _ ?_)
                      exact (held_of_t (P := P) (Rf := Rf) (N := N) (rk := rk) hB.1 pt n w.drew _ none _ a f w.drew hf (Below.refl _ _) (Dn.start _ _) hB.2.1 (fun l h => by cases h) h' (fun n' a' f' w' hn' hf' hx => IH0 n' (by omega) rk _ _ _ _ hf' hx)).1 rfl
                    · exact h'.elim
                  · exact h'.elim
        | goto _ => exact h.elim
        | rangeFunc g ps b1 b2 =>
          have h' : x P Rf (n + 1) [] (.c (if ps.toList.all (fun t => okD N (some t)) then .rf g ps.toList (cI' N b1) (cI' N b2) else .bad) :: rk.map (RIt.low N)) b f w := h
          split at h' <;> exact h'.elim
        | refuse _ => exact h.elim
end
end Go.Proofs.YtpinjiikiaakaaaDoor
