/-
  The executor of YtiabkafgmanhiaaDoorExec is enough for 'Calls': soundness. No program in sight.
-/
import Derived.Test.YtiabkafgmanhiaaDoorExec
namespace Go.Proofs.YtiabkafgmanhiaaDoor
set_option linter.unusedSimpArgs false
set_option linter.unusedVariables false
set_option linter.unusedSectionVars false
open Go.RowKit

/-! ## Raw stacks -/
inductive RIt where
  | c (c : Code)
  | bl (id : Nat)
  | lp (J : Fr → World → Prop)
  | sc
def RIt.low (N : Nat) : RIt → It
  | .c cc => .c (cC N cc)
  | .bl id => .bl id
  | .lp J => .lp J
  | .sc => .sc
def RQ (N : Nat) (Rf : Fr → World → Prop) (a : Act) (w : World) : Prop := ∃ f, Fits N a f ∧ Rf f w
def kont (P : Program) (N : Nat) (Rf : Fr → World → Prop) : List RIt → Exit → Act → World → Prop
  | [], .normal, a, w => RQ N Rf a w
  | [], .ret, a, w => RQ N Rf a w
  | [], _, _, _ => False
  | .c c :: k, e, a, w => Exit.then (c.wp P (kont P N Rf k)) (kont P N Rf k) e a w
  | .bl id :: k, e, a, w => Exit.inBlock id (kont P N Rf k) e a w
  | .lp J :: k, e, a, w => Exit.then (RQ N J) (kont P N Rf k) e a w
  | .sc :: k, e, a, w => Exit.noGoto (kont P N Rf k) e a w

section
variable {P : Program} {N : Nat} {Rf : Fr → World → Prop}
theorem kont_ret : ∀ (k : List RIt) (a : Act) (w : World), RQ N Rf a w → kont P N Rf k .ret a w
  | [], _, _, h => h
  | .c _ :: k, a, w, h => kont_ret k a w h
  | .bl _ :: k, a, w, h => kont_ret k a w h
  | .lp _ :: k, a, w, h => kont_ret k a w h
  | .sc :: k, a, w, h => kont_ret k a w h
theorem kont_panic : ∀ (k : List RIt) (ch : List PanicEntry) (a : Act) (w : World), ¬ kont P N Rf k (.panic ch) a w
  | [], _, _, _ => id
  | .c _ :: k, ch, a, w => kont_panic k ch a w
  | .bl _ :: k, ch, a, w => kont_panic k ch a w
  | .lp _ :: k, ch, a, w => kont_panic k ch a w
  | .sc :: k, ch, a, w => kont_panic k ch a w
theorem kont_exit : ∀ (k : List RIt) (id : Nat) (k' : List It), popTo id (k.map (RIt.low N)) = some k' →
    ∃ rk, k' = rk.map (RIt.low N) ∧ ∀ a w, kont P N Rf rk .normal a w → kont P N Rf k (.exit id) a w
  | [], _, _, h => by simp [popTo] at h
  | .c _ :: k, id, k', h => by
    obtain ⟨rk, e, hh⟩ := kont_exit k id k' (by simpa [popTo, RIt.low] using h)
    exact ⟨rk, e, fun a w hq => hh a w hq⟩
  | .lp _ :: k, id, k', h => by
    obtain ⟨rk, e, hh⟩ := kont_exit k id k' (by simpa [popTo, RIt.low] using h)
    exact ⟨rk, e, fun a w hq => hh a w hq⟩
  | .sc :: k, id, k', h => by
    obtain ⟨rk, e, hh⟩ := kont_exit k id k' (by simpa [popTo, RIt.low] using h)
    exact ⟨rk, e, fun a w hq => hh a w hq⟩
  | .bl j :: k, id, k', h => by
    by_cases hj : id = j
    · subst hj
      have e : k.map (RIt.low N) = k' := by simpa [popTo, RIt.low] using h
      exact ⟨k, e.symm, fun a w hq => by simpa [kont, Exit.inBlock] using hq⟩
    · obtain ⟨rk, e, hh⟩ := kont_exit k id k' (by simpa [popTo, RIt.low, hj] using h)
      exact ⟨rk, e, fun a w hq => by simpa [kont, Exit.inBlock, hj] using hh a w hq⟩

theorem okD_lt {d : Option Nat} (h : okD N d = true) : ∀ k, d = some k → k < N := by
  intro k hk; subst hk; simpa [okD] using h

/-! ## One instruction -/
theorem run_callFunc_ok {g : FuncId} (h : callOk P g = true) (args : Array Value) (w : World) : (callFunc g args).run P w = .ok (.enter g args) w := by
  unfold callOk at h
  cases hf : P.funcs[g]? with
  | none => simp [hf] at h
  | some fn =>
    simp only [hf, Bool.and_eq_true, Bool.not_eq_true'] at h
    obtain ⟨h1, h2⟩ := h
    have h1' : fn.name ≠ "runtime.NumGoroutine" := by simpa using h1
    have h3 : fn.body ≠ none := by cases hb : fn.body <;> simp [hb] at h2 ⊢
    simp [callFunc, program, Sem.run, hf, h1', h3, pure]

theorem exec_val {o : Oper} {s : Sem Value} {ρ : Operand → Value} (hq : (quietOp o.op).isSome = true) (hs : valOf ρ o.type o.op = some s) {w w' : World} {v : Value} (hr : s.run P w = .ok v w') :
    (execOp ρ o).run P w = .ok (.value v) w' ∨ ((execOp ρ o).run P w = .ok .skip w' ∧ v = undef) := by
  obtain ⟨dst, op, ty, pos, after, guard⟩ := o
  have key : ∀ (s' : Sem Value), some s' = some s → (do pure (Next.value (← s')) : Sem Next).run P w = .ok (.value v) w' := by
    intro s' e; cases e; simp [hr]
  cases op
  case call c =>
    obtain ⟨callee, args, argTypes⟩ := c
    cases callee with
    | value _ => simp [quietOp] at hq
    | invoke _ _ => simp [quietOp] at hq
    | builtin b =>
      cases b <;> first
        | (simp [quietOp] at hq; done)
        | (refine .inl ?_
           simp only [valOf] at hs
           simp only [execOp, resolve, invoke, builtin, Sem.run_bind, Sem.run_pure, Result.andThen_ok]
           simpa using key _ hs)
  case store t a x =>
    simp only [valOf, Option.some.injEq] at hs
    subst hs
    refine .inr ?_
    simp only [Sem.run_bind] at hr
    cases hst : (Instr.storeAt t (ρ a) (ρ x)).run P w with
    | ok _ w2 =>
      simp only [hst, Result.andThen_ok, Sem.run_pure, Result.ok.injEq] at hr
      exact ⟨by simp [execOp, hst, hr.2], hr.1.symm⟩
    | halt _ _ => simp [hst, Result.andThen] at hr
  case mapUpdate t m k x =>
    simp only [valOf, Option.some.injEq] at hs
    subst hs
    refine .inr ?_
    simp only [Sem.run_bind] at hr
    cases hst : (Instr.mapUpdate t (ρ m) (ρ k) (ρ x)).run P w with
    | ok _ w2 =>
      simp only [hst, Result.andThen_ok, Sem.run_pure, Result.ok.injEq] at hr
      exact ⟨by simp [execOp, hst, hr.2], hr.1.symm⟩
    | halt _ _ => simp [hst, Result.andThen] at hr
  case insert t m k x =>
    simp only [valOf, Option.some.injEq] at hs
    subst hs
    refine .inr ?_
    simp only [Sem.run_bind] at hr
    cases hst : (Instr.mapUpdate t (ρ m) (ρ k) (ρ x)).run P w with
    | ok _ w2 =>
      simp only [hst, Result.andThen_ok, Sem.run_pure, Result.ok.injEq] at hr
      exact ⟨by simp [execOp, hst, hr.2], hr.1.symm⟩
    | halt _ _ => simp [hst, Result.andThen] at hr
  all_goals first
    | (simp [quietOp] at hq; done)
    | (refine .inl ?_
       simp only [valOf] at hs
       simpa only [execOp] using key _ hs)

theorem upon_of {o : Oper} {a : Act} {K' : Act → World → Prop} {Q : Exit → Act → World → Prop} {w w' : World} {v : Value}
    (h : (execOp a.eval o).run P w = .ok (.value v) w' ∨ ((execOp a.eval o).run P w = .ok .skip w' ∧ v = undef)) (hk : K' (a.put o.dst v) w') : o.wp P a w K' Q := by
  unfold Oper.wp
  rcases h with h | ⟨h, rfl⟩ <;> rw [h] <;> exact hk

theorem call_wp {K : Fr → World → Prop} {g : FuncId} {vs : List Value} {o : Oper} {a : Act} {f : Fr} {w : World} {K' : Act → World → Prop} {Q : Exit → Act → World → Prop} (hf : Fits N a f) (hd : okD N o.dst = true)
    (he : (execOp a.eval o).run P w = (callFunc g vs.toArray).run P w) (h : CallX P K g vs f o.dst w) (hK : ∀ a f w, Fits N a f → K f w → K' a w) : o.wp P a w K' Q := by
  obtain ⟨hok, hc⟩ := h
  unfold Oper.wp
  rw [he, run_callFunc_ok hok, Oper.upon_enter]
  refine hc.mono ?_
  rintro e w' ⟨v, rfl, hk⟩
  exact hK _ _ _ (hf.put _ (okD_lt hd) v) hk

theorem stepI_sound {K : Fr → World → Prop} {o : Oper} {a : Act} {f : Fr} {w : World} {K' : Act → World → Prop} {Q : Exit → Act → World → Prop} (hf : Fits N a f) (hd : okD N o.dst = true)
    (h : stepI P K (rawI o) w f w) (hK : ∀ a f w, Fits N a f → K f w → K' a w) : o.wp P a w K' Q := by
  have hev := hf.evF
  have hput := fun v => hf.put o.dst (okD_lt hd) v
  obtain ⟨dst, op, ty, pos, after, guard⟩ := o
  have vals : ∀ (o' : Op), op = o' → (quietOp o').isSome = true → ValX P K o' ty w f dst w → Oper.wp P ⟨dst, op, ty, pos, after, guard⟩ a w K' Q := by
    intro o' eo hq hv
    subst eo
    unfold ValX at hv
    cases hs : valOf (ev f) ty op with
    | none => simp [hs] at hv
    | some s =>
      simp only [hs] at hv
      obtain ⟨v, hr, hk⟩ := hv
      refine upon_of (exec_val (o := ⟨dst, op, ty, pos, after, guard⟩) hq (by rw [hev]; exact hs) (hr w (Below.refl _ _))) (hK _ _ _ (hput v) hk)
  have effs : ∀ (o' : Op), op = o' → (quietOp o').isSome = true → EffX P K o' ty f dst w → Oper.wp P ⟨dst, op, ty, pos, after, guard⟩ a w K' Q := by
    intro o' eo hq hv
    subst eo
    unfold EffX at hv
    cases hs : valOf (ev f) ty op with
    | none => simp [hs] at hv
    | some s =>
      simp only [hs] at hv
      obtain ⟨v, w', hr, hk⟩ := hv
      exact upon_of (exec_val (o := ⟨dst, op, ty, pos, after, guard⟩) hq (by rw [hev]; exact hs) hr) (hK _ _ _ (hput v) hk)
  cases op
  case move y => exact upon_of (.inl (by simp [execOp, hev])) (hK _ _ _ (hput _) h)
  case assign y => exact upon_of (.inl (by simp [execOp, hev])) (hK _ _ _ (hput _) h)
  case pick c y z =>
    obtain ⟨t, ht, hk⟩ := h
    refine upon_of (v := if t then ev f y else ev f z) (w' := w) (.inl ?_) (hK _ _ _ (hput _) hk)
    simp only [execOp, hev, ht, asBool]
    cases t <;> simp
  case nilCheck y =>
    obtain ⟨hn, hk⟩ := h
    refine upon_of (v := ev f y) (w' := w) (.inl ?_) (hK _ _ _ (hput _) hk)
    rcases hn with ⟨p, hp⟩ | ⟨g, p, q, hp⟩ <;> simp only [execOp, hev, hp] <;> rfl
  case call c =>
    obtain ⟨callee, args, argTypes⟩ := c
    have gen : ∀ (g : Operand), callee = .value g → CallVX P K (ev f g) (args.toList.map (ev f)) f dst w → Oper.wp P ⟨dst, .call ⟨callee, args, argTypes⟩, ty, pos, after, guard⟩ a w K' Q := by
      intro g eg hv
      subst eg
      obtain ⟨g', first, cap, hg, hc⟩ := hv
      refine call_wp hf hd ?_ hc hK
      simp only [execOp, hev, resolve, Deferred.ofValue, hg, Sem.run_bind, Sem.run_pure, Result.andThen_ok, invoke]
      congr 3
      apply Array.ext'
      simp
    cases callee with
    | value g =>
      cases g with
      | func g =>
        refine call_wp hf hd ?_ h hK
        simp only [execOp, hev, ev, resolve, Deferred.ofValue, Sem.run_bind, Sem.run_pure, Result.andThen_ok, invoke]
        congr 3
        apply Array.ext'
        simp
      | tmp t => exact gen _ rfl h
      | const v => exact gen _ rfl h
      | global g => exact gen _ rfl h
    | invoke _ _ => exact h.elim
    | builtin b => cases b <;> first | exact vals _ rfl rfl h | exact effs _ rfl rfl h | exact h.elim
  all_goals first | exact vals _ rfl rfl h | exact effs _ rfl rfl h | exact h.elim

theorem wanted_gd {o : Oper} {all : Array Oper} {a : Act} {f : Fr} (hf : Fits N a f) {j s : Nat} {b : Bool} (hg : o.guard = some (j, b)) (hs : (all[j]?).bind (·.dst) = some s) :
    Region.wanted o (yielded all a.tmps) = (match f s with | .bool t => decide (t = b) | _ => false) := by
  simp only [Region.wanted, hg, hf.yield, hs]
  cases f s <;> simp
  rename_i t; cases t <;> cases b <;> rfl

/-- An instruction of a region, guard and all. -/
theorem cI_sound {K : Fr → World → Prop} {all : Array Oper} {o : Oper} {a : Act} {f : Fr} {w : World} {K' : Act → World → Prop} {Q : Exit → Act → World → Prop} (hf : Fits N a f)
    (h : stepI P K (cI N all o) w f w) (hK : ∀ a f w, Fits N a f → K f w → K' a w) :
    if Region.wanted o (yielded all a.tmps) = true then o.wp P a w K' Q else K' (a.put o.dst undef) w := by
  unfold cI at h
  by_cases hd : okD N o.dst = true
  · rw [if_pos hd] at h
    cases hg : o.guard with
    | none =>
      simp only [hg] at h
      rw [if_pos (by simp [Region.wanted, hg])]
      exact stepI_sound hf hd h hK
    | some jb =>
      obtain ⟨j, b⟩ := jb
      simp only [hg] at h
      cases hs : (all[j]?).bind (·.dst) with
      | none => simp only [hs, stepI] at h
      | some s =>
        simp only [hs, stepI] at h
        rw [wanted_gd hf hg hs]
        have hput := hf.put o.dst (okD_lt hd) undef
        cases hfs : f s <;> simp only [hfs] at h ⊢
        case bool t =>
          by_cases ht : t = b
          · rw [if_pos ht] at h; rw [if_pos (by simp [ht])]; exact stepI_sound hf hd h hK
          · rw [if_neg ht] at h; rw [if_neg (by simp [ht])]; exact hK _ _ _ hput h
        all_goals (rw [if_neg (by simp)]; exact hK _ _ _ hput h)
  · rw [if_neg hd] at h; exact h.elim

/-- A  quiet instruction: the value, in every world that keeps what lay in 'b'. -/
theorem quiet_sound {K : Fr → World → Prop} {all : Array Oper} {o : Oper} {a : Act} {f : Fr} {b w : World} (hf : Fits N a f) (hq : (rawI o).quiet = true)
    (h : stepI P K (cI N all o) b f w) :
    ∃ v, okD N o.dst = true ∧ YieldsIf P all (Below b.heap.size b) o v a ∧ K (updO f o.dst v) w := by
  unfold cI at h
  by_cases hd : okD N o.dst = true
  · rw [if_pos hd] at h
    have raw : stepI P K (rawI o) b f w → ∃ v, (∀ w', Below b.heap.size b w' → (execOp a.eval o).run P w' = .ok (.value v) w') ∧ K (updO f o.dst v) w := by
      clear h
      intro h
      have hev := hf.evF
      obtain ⟨dst, op, ty, pos, after, guard⟩ := o
      have vals : ∀ (o' : Op), op = o' → quietOp o' = some true → ValX P K o' ty b f dst w →
          ∃ v, (∀ w', Below b.heap.size b w' → (execOp a.eval ⟨dst, op, ty, pos, after, guard⟩).run P w' = .ok (.value v) w') ∧ K (updO f dst v) w := by
        intro o' eo hqo hv
        subst eo
        unfold ValX at hv
        cases hs : valOf (ev f) ty op with
        | none => simp [hs] at hv
        | some s =>
          simp only [hs] at hv
          obtain ⟨v, hr, hk⟩ := hv
          refine ⟨v, fun w' hw' => ?_, hk⟩
          rcases exec_val (o := ⟨dst, op, ty, pos, after, guard⟩) (ρ := a.eval) (by rw [hqo]; rfl) (by rw [hev]; exact hs) (hr w' hw') with h | ⟨h, _⟩
          · exact h
          · exfalso
            have : ∀ op', quietOp op' = some true → ∀ dst ty pos after guard, ∀ r, (execOp (ev f) ⟨dst, op', ty, pos, after, guard⟩).run P w' = .ok .skip r → False := by
              intro op' hq' dst ty pos after guard r hr'
              have fin : ∀ (s : Sem Value), (do pure (Next.value (← s)) : Sem Next).run P w' = .ok .skip r → False := by
                intro s hs
                simp only [Sem.run_bind] at hs
                cases hz : s.run P w' <;> simp [hz, Result.andThen] at hs
              cases op'
              case call c =>
                obtain ⟨callee, args, argTypes⟩ := c
                cases callee with
                | value _ => simp [quietOp] at hq'
                | invoke _ _ => simp [quietOp] at hq'
                | builtin bb =>
                  cases bb <;> first
                    | (simp [quietOp] at hq'; done)
                    | (simp only [execOp, resolve, invoke, builtin, Sem.run_bind, Sem.run_pure, Result.andThen_ok] at hr'
                       exact fin _ (by simp only [Sem.run_bind, Sem.run_pure]; exact hr'))
              all_goals first
                | (simp [quietOp] at hq'; done)
                | (simp only [execOp] at hr'; exact fin _ hr')
            rw [hev] at h
            exact this op hqo _ _ _ _ _ _ h
      cases op
      case move y => exact ⟨_, fun w' _ => by simp [execOp, hev], h⟩
      case assign y => exact ⟨_, fun w' _ => by simp [execOp, hev], h⟩
      case pick c y z =>
        obtain ⟨t, ht, hk⟩ := h
        exact ⟨_, fun w' _ => by simp only [execOp, hev, ht, asBool]; cases t <;> simp, hk⟩
      case nilCheck y =>
        obtain ⟨hn, hk⟩ := h
        refine ⟨ev f y, fun w' _ => ?_, hk⟩
        rcases hn with ⟨p, hp⟩ | ⟨g, p, q, hp⟩ <;> simp only [execOp, hev, hp] <;> rfl
      case call c =>
        obtain ⟨callee, args, argTypes⟩ := c
        cases callee with
        | value g => cases g <;> simp [rawI, I.quiet] at hq
        | invoke _ _ => exact h.elim
        | builtin bb => cases bb <;> first | exact vals _ rfl rfl h | (simp [rawI, quietOp, I.quiet] at hq; done) | exact h.elim
      all_goals first | exact vals _ rfl rfl h | (simp [rawI, quietOp, I.quiet] at hq; done) | exact h.elim
    cases hg : o.guard with
    | none =>
      simp only [hg] at h
      obtain ⟨v, h1, h2⟩ := raw h
      exact ⟨v, hd, .inl ⟨by simp [Region.wanted, hg], h1⟩, h2⟩
    | some jb =>
      obtain ⟨j, bb⟩ := jb
      simp only [hg] at h
      cases hs : (all[j]?).bind (·.dst) with
      | none => simp only [hs, stepI] at h
      | some s =>
        simp only [hs, stepI] at h
        have hw := wanted_gd hf hg hs
        cases hfs : f s <;> simp only [hfs] at h hw
        case bool t =>
          by_cases ht : t = bb
          · rw [if_pos ht] at h
            obtain ⟨v, h1, h2⟩ := raw h
            exact ⟨v, hd, .inl ⟨by rw [hw]; simp [ht], h1⟩, h2⟩
          · rw [if_neg ht] at h; exact ⟨undef, hd, .inr ⟨by rw [hw]; simp [ht], rfl⟩, h⟩
        all_goals exact ⟨undef, hd, .inr ⟨hw, rfl⟩, h⟩
  · rw [if_neg hd] at h; exact h.elim

theorem rawI_ne_q (o : Oper) (i : I) : rawI o ≠ .q i := by
  intro hc
  unfold rawI at hc
  split at hc <;> first | (cases hc; done) | skip
  split at hc <;> cases hc
theorem rawI_ne_chk (o : Oper) : rawI o ≠ .chk := by
  intro hc
  unfold rawI at hc
  split at hc <;> first | (cases hc; done) | skip
  split at hc <;> cases hc
theorem cI_ne_q (all : Array Oper) (o : Oper) (i : I) : cI N all o ≠ .q i := by
  intro hc
  unfold cI at hc
  split at hc
  · split at hc
    · exact rawI_ne_q _ _ hc
    · split at hc <;> cases hc
  · cases hc
theorem cI_ne_chk (all : Array Oper) (o : Oper) : cI N all o ≠ .chk := by
  intro hc
  unfold cI at hc
  split at hc
  · split at hc
    · exact rawI_ne_chk _ hc
    · split at hc <;> cases hc
  · cases hc

/-! ## Regions that draw -/
theorem still_of_x {all : Array Oper} {b : World} {k : List It} {tl : List I} {Lq : Act → Prop} (ol : List Oper) (hq : ∀ o ∈ ol, (rawI o).quiet = true) :
    ∀ (n : Nat) (a : Act) (f : Fr), Fits N a f → x P Rf n (ol.map (fun o => .q (cI N all o)) ++ tl) k b f b →
      (∀ n' a' f', n' ≤ n → Fits N a' f' → x P Rf n' tl k b f' b → Lq a') → wpStill P all b Lq ol a := by
  induction ol with
  | nil => exact fun n a f hf h hL => hL n a f (Nat.le_refl _) hf h
  | cons o ol ih =>
    intro n a f hf h hL
    cases n with
    | zero => exact h.elim
    | succ n =>
      simp only [List.map_cons, List.cons_append, x] at h
      obtain ⟨v, hd, hy, hk⟩ := quiet_sound hf (hq o (by simp)) h
      have hrec := ih (fun o' ho' => hq o' (by simp [ho'])) n _ _ (hf.put o.dst (okD_lt hd) v) hk (fun n' a' f' hn' => hL n' a' f' (by omega))
      unfold wpStill
      rcases hy with ⟨hw, hr⟩ | ⟨hw, rfl⟩
      · rw [if_pos hw, Oper.still, hr b (Below.refl _ _)]; exact ⟨rfl, hrec⟩
      · rw [if_neg (by simp [hw])]; exact hrec

theorem held_of_x {all : Array Oper} {b : World} {rk : List RIt} (hns : Region.noSelect all = true) :
    ∀ (pl : List (Nat × Bool)) (n : Nat) (listed : Array Bool) (a : Act) (f : Fr) (w : World), Fits N a f → Below b.heap.size b w → planOk all pl listed = true →
      x P Rf n (planI N all pl) (rk.map (RIt.low N)) b f w →
      (∀ n' a' f' w', n' ≤ n → Fits N a' f' → x P Rf n' [] (rk.map (RIt.low N)) b f' w' → kont P N Rf rk .normal a' w') →
      wpAnyH P .any all (kont P N Rf rk) (Below b.heap.size b) pl.length listed a w
  | [], n, listed, a, f, w, hf, _, hok, h, hL => wpAnyH_done (by simpa [planOk] using hok) (hL n a f w (Nat.le_refl _) hf h) 0
  | (i, true) :: pl, n, listed, a, f, w, hf, hb, hok, h, hL => by
    simp only [planOk, Bool.and_eq_true, decide_eq_true_eq] at hok
    obtain ⟨⟨⟨⟨hq, hi⟩, hr⟩, hfr⟩, hrest⟩ := hok
    cases n with
    | zero => exact h.elim
    | succ n =>
      simp only [planI, x] at h
      have hoi : all[i]? = some (all.getD i default) := by simp [hi]
      generalize all.getD i default = oi at *
      obtain ⟨v, hd, hy, hk⟩ := quiet_sound hf hq h
      exact wpAnyH_take hoi hns hfr hr (fun c a w hh => (kont_panic rk c _ _ hh).elim) hy hb
        (held_of_x hns pl n _ _ _ _ (hf.put _ (okD_lt hd) v) hb hrest hk fun n' a' f' w' hn' => hL n' a' f' w' (by omega))
  | (i, false) :: pl, n, listed, a, f, w, hf, hb, hok, h, hL => by
    simp only [planOk, Bool.and_eq_true, decide_eq_true_eq] at hok
    obtain ⟨⟨hi, hr⟩, hrest⟩ := hok
    cases n with
    | zero => exact h.elim
    | succ n =>
      have hoi : all[i]? = some (all.getD i default) := by simp [hi]
      simp only [planI] at h
      generalize all.getD i default = oi at *
      have hstep : stepI P (x P Rf n (.chk :: planI N all pl) (rk.map (RIt.low N)) b) (cI N all oi) w f w := by
        generalize hc : cI N all oi = ci at h
        cases ci with
        | q i' =>
          exact absurd hc (cI_ne_q _ _ _)
        | chk =>
          exact absurd hc (cI_ne_chk _ _)
        | mv d o => exact h
        | pick d c a b => exact h
        | nilc d y => exact h
        | val d o ty => exact h
        | eff d o ty => exact h
        | call d g args => exact h
        | callv d g args => exact h
        | gd s bb d i' => exact h
        | bad => exact h
      refine wpAnyH_all hr (by simp) fun j hj => ?_
      have hji : j = i := by simpa using hj
      subst hji
      unfold wpOp
      simp only [hoi]
      have hsnd := cI_sound (Q := kont P N Rf rk) (K' := fun a' w' => Below b.heap.size b w' ∧ wpAnyH P .any all (kont P N Rf rk) (Below b.heap.size b) pl.length (listed.setIfInBounds j true) a' w') hf hstep (by
        intro a' f' w' hf' hx
        cases n with
        | zero => exact hx.elim
        | succ n =>
          simp only [x] at hx
          exact ⟨hx.1, held_of_x hns pl n _ _ _ _ hf' hx.1 hrest hx.2 fun n' a'' f'' w'' hn' => hL n' a'' f'' w'' (by omega)⟩)
      split
      · rename_i hw; rw [if_pos hw] at hsnd; exact .inl hsnd
      · rename_i hw; rw [if_neg hw] at hsnd; exact hsnd

theorem held_of_t {all : Array Oper} {b : World} {rk : List RIt} (hns : Region.noSelect all = true) :
    ∀ (t : PT) (n : Nat) (fuel : Nat) (rs : Option (List Nat)) (listed : Array Bool) (a : Act) (f : Fr) (w : World), Fits N a f → Below b.heap.size b w → ptOk all t fuel rs listed = true →
      x P Rf n [] (.t b (lowT N all t) :: rk.map (RIt.low N)) b f w →
      (∀ n' a' f' w', n' ≤ n → Fits N a' f' → x P Rf n' [] (rk.map (RIt.low N)) w' f' w' → kont P N Rf rk .normal a' w') →
      (rs = none → wpAnyH P .any all (kont P N Rf rk) (Below b.heap.size b) fuel listed a w) ∧
      (∀ l, rs = some l → ∀ i ∈ l, wpOp P all (kont P N Rf rk) i (fun a' w' => Below b.heap.size b w' ∧ wpAnyH P .any all (kont P N Rf rk) (Below b.heap.size b) (fuel - 1) (listed.setIfInBounds i true) a' w') a w) := by
  intro t
  induction t with
  | nil =>
    intro n fuel rs listed a f w hf hb hok h hL
    cases rs with
    | some l => cases fuel <;> simp [ptOk] at hok
    | none =>
      refine ⟨fun _ => ?_, fun l h => by cases h⟩
      cases n with
      | zero => exact h.elim
      | succ n => exact wpAnyH_done (by cases fuel <;> simpa [ptOk] using hok) (hL n a f w (by omega) hf h) fuel
  | q i t ih =>
    intro n fuel rs listed a f w hf hb hok h hL
    cases fuel with
    | zero => cases rs <;> simp [ptOk] at hok
    | succ fuel =>
      cases rs with
      | some l => simp [ptOk] at hok
      | none =>
        refine ⟨fun _ => ?_, fun l h => by cases h⟩
        simp only [ptOk, Bool.and_eq_true, decide_eq_true_eq] at hok
        obtain ⟨⟨⟨⟨hq, hi⟩, hr⟩, hfr⟩, hrest⟩ := hok
        cases n with
        | zero => exact h.elim
        | succ n =>
          cases n with
          | zero => exact h.elim
          | succ n =>
            have h' : stepI P (x P Rf n [] (.t b (lowT N all t) :: rk.map (RIt.low N)) b) (cI N all (all.getD i default)) b f w := h
            have hoi : all[i]? = some (all.getD i default) := by simp [hi]
            generalize all.getD i default = oi at *
            obtain ⟨v, hd, hy, hk⟩ := quiet_sound hf hq h'
            exact wpAnyH_take hoi hns hfr hr (fun c a w hh => (kont_panic rk c _ _ hh).elim) hy hb
              ((ih n fuel none _ _ _ _ (hf.put _ (okD_lt hd) v) hb hrest hk fun n' a' f' w' hn' => hL n' a' f' w' (by omega)).1 rfl)
  | act i t ih =>
    intro n fuel rs listed a f w hf hb hok h hL
    have key : ∀ fuel', fuel = fuel' + 1 → i < all.size → ptOk all t fuel' none (listed.setIfInBounds i true) = true →
        wpOp P all (kont P N Rf rk) i (fun a' w' => Below b.heap.size b w' ∧ wpAnyH P .any all (kont P N Rf rk) (Below b.heap.size b) fuel' (listed.setIfInBounds i true) a' w') a w := by
      intro fuel' _ hi hrest
      cases n with
      | zero => exact h.elim
      | succ n =>
        cases n with
        | zero => exact h.elim
        | succ n =>
          have hoi : all[i]? = some (all.getD i default) := by simp [hi]
          have h' : x P Rf (n + 1) [cI N all (all.getD i default), .chk] (.t b (lowT N all t) :: rk.map (RIt.low N)) b f w := h
          generalize all.getD i default = oi at *
          have hstep : stepI P (x P Rf n [.chk] (.t b (lowT N all t) :: rk.map (RIt.low N)) b) (cI N all oi) w f w := by
            generalize hc : cI N all oi = ci at h'
            cases ci with
            | q i' => exact absurd hc (cI_ne_q _ _ _)
            | chk => exact absurd hc (cI_ne_chk _ _)
            | mv d o => exact h'
            | pick d c a b => exact h'
            | nilc d y => exact h'
            | val d o ty => exact h'
            | eff d o ty => exact h'
            | call d g args => exact h'
            | callv d g args => exact h'
            | gd s bb d i' => exact h'
            | bad => exact h'
          unfold wpOp
          simp only [hoi]
          have hsnd := cI_sound (Q := kont P N Rf rk) (K' := fun a' w' => Below b.heap.size b w' ∧ wpAnyH P .any all (kont P N Rf rk) (Below b.heap.size b) fuel' (listed.setIfInBounds i true) a' w') hf hstep (by
            intro a' f' w' hf' hx
            cases n with
            | zero => exact hx.elim
            | succ n =>
              have hx' : Below b.heap.size b w' ∧ x P Rf n [] (.t b (lowT N all t) :: rk.map (RIt.low N)) b f' w' := hx
              exact ⟨hx'.1, (ih n fuel' none _ _ _ _ hf' hx'.1 hrest hx'.2 fun n' a'' f'' w'' hn' => hL n' a'' f'' w'' (by omega)).1 rfl⟩)
          split
          · rename_i hw; rw [if_pos hw] at hsnd; exact .inl hsnd
          · rename_i hw; rw [if_neg hw] at hsnd; exact hsnd
    cases fuel with
    | zero => cases rs <;> simp [ptOk] at hok
    | succ fuel =>
      cases rs with
      | none =>
        simp only [ptOk, Bool.and_eq_true, decide_eq_true_eq] at hok
        obtain ⟨⟨hi, hr⟩, hrest⟩ := hok
        refine ⟨fun _ => wpAnyH_all hr (by simp) fun j hj => ?_, fun l h => by cases h⟩
        obtain rfl : j = i := by simpa using hj
        exact key fuel rfl hi hrest
      | some l =>
        simp only [ptOk, Bool.and_eq_true, decide_eq_true_eq] at hok
        obtain ⟨⟨hi, hr⟩, hrest⟩ := hok
        refine ⟨fun h => (by cases h), fun l' hl j hj => ?_⟩
        cases hl
        subst hr
        obtain rfl : j = i := by simpa using hj
        exact key fuel rfl hi hrest
  | two u v ihu ihv =>
    intro n fuel rs listed a f w hf hb hok h hL
    cases fuel with
    | zero => cases rs <;> simp [ptOk] at hok
    | succ fuel =>
      cases n with
      | zero => exact h.elim
      | succ n =>
        have h' : x P Rf n [] (.t b (lowT N all u) :: rk.map (RIt.low N)) b f w ∧ x P Rf n [] (.t b (lowT N all v) :: rk.map (RIt.low N)) b f w := h
        have hL' : ∀ n' a' f' w', n' ≤ n → Fits N a' f' → x P Rf n' [] (rk.map (RIt.low N)) w' f' w' → kont P N Rf rk .normal a' w' := fun n' a' f' w' hn' => hL n' a' f' w' (by omega)
        cases rs with
        | none =>
          cases hr : Region.ready .any all listed with
          | nil => simp [ptOk, hr] at hok
          | cons i is =>
            simp only [ptOk, hr, Bool.and_eq_true] at hok
            have h1 := (ihu n (fuel + 1) (some [i]) listed a f w hf hb hok.1 h'.1 hL').2 _ rfl
            have h2 := (ihv n (fuel + 1) (some is) listed a f w hf hb hok.2 h'.2 hL').2 _ rfl
            refine ⟨fun _ => wpAnyH_all hr (by simp) fun j hj => ?_, fun l h => by cases h⟩
            rcases List.mem_cons.1 hj with rfl | hj
            · exact h1 _ (List.mem_singleton.2 rfl)
            · exact h2 _ hj
        | some l =>
          cases l with
          | nil => simp [ptOk] at hok
          | cons i is =>
            simp only [ptOk, Bool.and_eq_true] at hok
            have h1 := (ihu n (fuel + 1) (some [i]) listed a f w hf hb hok.1 h'.1 hL').2 _ rfl
            have h2 := (ihv n (fuel + 1) (some is) listed a f w hf hb hok.2 h'.2 hL').2 _ rfl
            refine ⟨fun h => (by cases h), fun l' hl j hj => ?_⟩
            cases hl
            rcases List.mem_cons.1 hj with rfl | hj
            · exact h1 _ (List.mem_singleton.2 rfl)
            · exact h2 _ hj

/-! ## The whole -/
theorem quiet_takeWhile (l : List Oper) : ∀ o ∈ l.take (headLen l), (rawI o).quiet = true := by
  induction l with
  | nil => simp
  | cons o l ih =>
    unfold headLen at *
    by_cases h : (rawI o).quiet = true
    · simp only [List.takeWhile_cons, h, if_true, List.length_cons, List.take_succ_cons, List.mem_cons]
      rintro o' (rfl | ho')
      · exact h
      · exact ih o' ho'
    · simp [h]

theorem sound (hm : P.follows .mixedOrders = true) : ∀ (n : Nat) (rl : List Oper) (all : Array Oper) (rk : List RIt) (b : World) (f : Fr) (w : World) (a : Act), Fits N a f →
    x P Rf n (rl.map (cI N all)) (rk.map (RIt.low N)) b f w → wpList P all (kont P N Rf rk) rl a w := by
  intro n
  induction n using Nat.strongRecOn with
  | _ n IH =>
  intro rl all rk b f w a hf h
  have IH0 : ∀ n', n' < n → ∀ (rk : List RIt) (b : World) (f : Fr) (w : World) (a : Act), Fits N a f → x P Rf n' [] (rk.map (RIt.low N)) b f w → kont P N Rf rk .normal a w :=
    fun n' hn' rk b f w a hf h => IH n' hn' [] #[] rk b f w a hf h
  cases n with
  | zero => exact h.elim
  | succ n =>
  cases rl with
  | cons o rl =>
    simp only [List.map_cons] at h
    have hstep : stepI P (x P Rf n (rl.map (cI N all)) (rk.map (RIt.low N)) b) (cI N all o) w f w := by
      generalize hc : cI N all o = ci at h
      cases ci with
      | q i' => exact absurd hc (cI_ne_q _ _ _)
      | chk => exact absurd hc (cI_ne_chk _ _)
      | mv d o => exact h
      | pick d c a b => exact h
      | nilc d y => exact h
      | val d o ty => exact h
      | eff d o ty => exact h
      | call d g args => exact h
      | callv d g args => exact h
      | gd s bb d i' => exact h
      | bad => exact h
    have hsnd := cI_sound (Q := kont P N Rf rk) (K' := wpList P all (kont P N Rf rk) rl) hf hstep (fun a' f' w' hf' hx => IH n (Nat.lt_succ_self n) rl all rk b f' w' a' hf' hx)
    unfold wpList
    split
    · rename_i hw; rw [if_pos hw] at hsnd; exact .inl hsnd
    · rename_i hw; rw [if_neg hw] at hsnd; exact hsnd
  | nil =>
    show kont P N Rf rk .normal a w
    have lt := Nat.lt_succ_self n
    cases rk with
    | nil => exact ⟨f, hf, h⟩
    | cons it rk =>
      cases it with
      | bl id => exact IH0 n lt rk _ _ _ _ hf h
      | sc => exact IH0 n lt rk _ _ _ _ hf h
      | lp J => exact ⟨f, hf, h⟩
      | c cc =>
        show cc.wp P (kont P N Rf rk) a w
        cases cc with
        | skip => exact wp_skip (IH0 n lt rk _ _ _ _ hf h)
        | label l => exact wp_label (IH0 n lt rk _ _ _ _ hf h)
        | ret => exact wp_ret (kont_ret rk a w ⟨f, hf, h⟩)
        | seq c1 c2 =>
          refine wp_seq ?_
          have := IH0 n lt (.c c1 :: .c c2 :: rk) _ _ _ _ hf h
          exact Go.wp_mono (this : c1.wp P (kont P N Rf (.c c2 :: rk)) a w) (fun e a w hq => hq)
        | cond c c1 c2 =>
          obtain ⟨t, ht, hk⟩ := h
          refine wp_cond (t := t) (by rw [hf.ev]; exact ht) ?_
          cases t
          · exact IH0 n lt (.c c2 :: rk) _ _ _ _ hf hk
          · exact IH0 n lt (.c c1 :: rk) _ _ _ _ hf hk
        | block id c =>
          refine wp_block ?_
          have := IH0 n lt (.c c :: .bl id :: rk) _ _ _ _ hf h
          exact Go.wp_mono (this : c.wp P (kont P N Rf (.bl id :: rk)) a w) (fun e a w hq => hq)
        | scope c =>
          refine wp_scope_straight ?_
          have := IH0 n lt (.c c :: .sc :: rk) _ _ _ _ hf h
          exact Go.wp_mono (this : c.wp P (kont P N Rf (.sc :: rk)) a w) (fun e a w hq => hq)
        | exit id =>
          have h' : (match popTo id (rk.map (RIt.low N)) with | some k' => x P Rf n [] k' w f w | none => False) := h
          cases hp : popTo id (rk.map (RIt.low N)) with
          | none => rw [hp] at h'; exact h'.elim
          | some k' =>
            rw [hp] at h'
            obtain ⟨rk', rfl, hh⟩ := kont_exit (P := P) (Rf := Rf) rk id k' hp
            exact wp_exit (hh a w (IH0 n lt rk' _ _ _ _ hf h'))
        | loop c =>
          obtain ⟨J, μ, h0, hr⟩ := h
          refine wp_loop (RQ N J) (fun a w => μ (fun t => a.tmps.getD t undef) w) ⟨f, hf, h0⟩ ?_
          rintro a' w' ⟨f', hf', hJ⟩
          have := IH0 n lt (.c c :: .lp (fun f2 w2 => J f2 w2 ∧ μ f2 w2 < μ f' w') :: rk) _ _ _ _ hf' (hr f' w' hJ)
          refine Go.wp_mono (this : c.wp P (kont P N Rf (.lp (fun f2 w2 => J f2 w2 ∧ μ f2 w2 < μ f' w') :: rk)) a' w') (fun e a2 w2 hq => ?_)
          cases e with
          | normal =>
            obtain ⟨f2, hf2, hJ2, hlt⟩ := hq
            refine ⟨⟨f2, hf2, hJ2⟩, ?_⟩
            rw [show (fun t => a2.tmps.getD t undef) = f2 from funext hf2.at_, show (fun t => a'.tmps.getD t undef) = f' from funext hf'.at_]
            exact hlt
          | _ => exact hq
        | region id ops draw =>
          cases draw with
          | false => exact wp_region_list (IH n lt ops.toList ops rk _ f w a hf h)
          | true =>
            have h' : x P Rf (n + 1) [] (.c (cDraw N ops) :: rk.map (RIt.low N)) b f w := h
            unfold cDraw at h'
            simp only at h'
            have hl : ops = ops.toList.toArray := by simp
            split at h'
            · rename_i hB
              simp only [Bool.and_eq_true, decide_eq_true_eq] at hB
              refine wp_region_still hm hB.2 ?_
              have hq : ∀ o ∈ ops.toList, (rawI o).quiet = true := by
                have := quiet_takeWhile ops.toList
                rwa [hB.1, ← Array.length_toList, List.take_length] at this
              refine still_of_x (Rf := Rf) (N := N) (tl := []) (k := rk.map (RIt.low N)) ops.toList hq n a f hf (by rw [List.append_nil]; exact h') ?_
              intro n' a' f' hn' hf' hx
              exact IH0 n' (by omega) rk _ _ _ _ hf' hx
            · split at h'
              · rename_i hB
                rw [hl]
                refine wp_region_still_tail (headLen ops.toList) hm (by rw [← hl]; exact hB) ?_
                rw [← hl]
                refine still_of_x (Rf := Rf) (N := N) (k := rk.map (RIt.low N)) _ (quiet_takeWhile ops.toList) n a f hf h' ?_
                intro n' a' f' hn' hf' hx
                exact IH n' (by omega) _ ops rk _ f' _ a' hf' hx
              · split at h'
                · rename_i pl _
                  split at h'
                  · rename_i hB
                    simp only [Bool.and_eq_true, decide_eq_true_eq] at hB
                    split at h'
                    · obtain ⟨b0, hb0, h2⟩ := h'
                      refine wp_region_any hm (wpAny_of_held (S := Below b0.heap.size b0) _ _ _ _ ?_)
                      have hh := held_of_x (P := P) (Rf := Rf) (N := N) (b := b0) (rk := rk) hB.1 pl n _ a f w.drew hf hb0 hB.2.1 h2 (fun n' a' f' w' hn' hf' hx => IH0 n' (by omega) rk _ _ _ _ hf' hx)
                      rwa [hB.2.2] at hh
                    · refine wp_region_any hm (wpAny_of_held (S := Below w.drew.heap.size w.drew) _ _ _ _ ?_)
                      have hh := held_of_x (P := P) (Rf := Rf) (N := N) (b := w.drew) (rk := rk) hB.1 pl n _ a f w.drew hf (Below.refl _ _) hB.2.1 h' (fun n' a' f' w' hn' hf' hx => IH0 n' (by omega) rk _ _ _ _ hf' hx)
                      rwa [hB.2.2] at hh
                  · exact h'.elim
                · unfold cTree at h'
                  split at h'
                  · rename_i pt _
                    split at h'
                    · rename_i hB
                      simp only [Bool.and_eq_true] at hB
                      refine wp_region_any hm (wpAny_of_held (S := Below w.drew.heap.size w.drew) _ _ _ _ ?_)
                      exact (held_of_t (P := P) (Rf := Rf) (N := N) (b := w.drew) (rk := rk) hB.1 pt n _ none _ a f w.drew hf (Below.refl _ _) hB.2.1 h' (fun n' a' f' w' hn' hf' hx => IH0 n' (by omega) rk _ _ _ _ hf' hx)).1 rfl
                    · exact h'.elim
                  · exact h'.elim
        | goto _ => exact h.elim
        | rangeFunc _ _ _ _ => exact h.elim
        | refuse _ => exact h.elim
end
end Go.Proofs.YtiabkafgmanhiaaDoor
