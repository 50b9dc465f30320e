/-
  Laws of the executor of YtiabkafgmanhiaaDoorExec, one for each kind of instruction, as equations: for 'simp only'. No program in sight.
-/
import Derived.Test.YtiabkafgmanhiaaDoorSound
import Derived.Laws.Cells
namespace Go.Proofs.YtiabkafgmanhiaaDoor
set_option linter.unusedSimpArgs false
set_option linter.unusedVariables false
set_option linter.unusedSectionVars false
open Go.RowKit

/-! ## Types, as closed facts -/
section
variable (P : Program)
def tySize (t : TypeId) : Option Nat := (P.info? t).map (·.size)
def tyAgg (t : TypeId) : Option Bool := (P.underlying t).map fun | .struct _ | .array _ _ => true | _ => false
def tySl (t : TypeId) : Option Nat := match P.underlying t with | some (.slice e) => tySize P e | _ => none
def tyArr (t : TypeId) : Option (Nat × Nat) := match P.underlying t with | some (.array n e) => (tySize P e).map fun s => (n, s) | _ => none
def tyFld (s : TypeId) (k : Nat) : Option Nat := match P.underlying s with
  | some (.struct fs) => match (fs[k]? : Option Field) with
    | some f => match tySize P f.type with | some (_ + 1) => some f.offset | _ => none
    | none => none
  | _ => none
def tyZero (t : TypeId) : Option (List Value) := (P.info? t).bind fun i => i.zero.map fun v => v.cells.toList
end

/-! ## Frames -/
theorem updO_some (f : Fr) (d : Nat) (v : Value) : updO f (some d) v = upd f d v := rfl
theorem updO_none (f : Fr) (v : Value) : updO f none v = f := rfl
theorem upd_at (f : Fr) (d : Nat) (v : Value) (t : Nat) : upd f d v t = if t = d then v else f t := rfl
theorem ev_tmp (f : Fr) (t : Nat) : ev f (.tmp t) = f t := rfl
theorem ev_const (f : Fr) (v : Value) : ev f (.const v) = v := rfl
theorem ev_global (f : Fr) (g : Nat) : ev f (.global g) = .pointer (some ⟨g, 0, none⟩) := rfl
theorem ev_func (f : Fr) (g : Nat) : ev f (.func g) = .func (.func g) #[] #[] := rfl
def ofL (l : List Value) : Fr := fun t => l.getD t undef
theorem ofL_zero (v : Value) (l : List Value) : ofL (v :: l) 0 = v := rfl
theorem ofL_succ (v : Value) (l : List Value) (n : Nat) : ofL (v :: l) (n + 1) = ofL l n := rfl
theorem ofL_nil (n : Nat) : ofL [] n = undef := rfl

section
variable {P : Program} {R : Fr → World → Prop} {K : Fr → World → Prop}

/-! ## The executor's own steps -/
section
variable (n : Nat) (l : List I) (k : List It) (b : World) (f : Fr) (w : World)
theorem x_end : x P R (n + 1) [] [] b f w = R f w := propext Iff.rfl
theorem x_bl (id : Nat) : x P R (n + 1) [] (.bl id :: k) b f w = x P R n [] k w f w := propext Iff.rfl
theorem x_sc0 : x P R (n + 1) [] (.sc :: k) b f w = x P R n [] k w f w := propext Iff.rfl
theorem x_lp (J : Fr → World → Prop) : x P R (n + 1) [] (.lp J :: k) b f w = J f w := propext Iff.rfl
theorem x_sk : x P R (n + 1) [] (.c .sk :: k) b f w = x P R n [] k w f w := propext Iff.rfl
theorem x_sq (c d : C) : x P R (n + 1) [] (.c (.sq c d) :: k) b f w = x P R n [] (.c c :: .c d :: k) w f w := propext Iff.rfl
theorem x_op : x P R (n + 1) [] (.c (.op l) :: k) b f w = x P R n l k w f w := propext Iff.rfl
theorem x_drt (t : T) : x P R (n + 1) [] (.c (.drt t) :: k) b f w = x P R n [] (.t w.drew t :: k) w.drew f w.drew := propext Iff.rfl
theorem x_drz : x P R (n + 1) [] (.c (.drz l) :: k) b f w = ∃ b0 : World, Below b0.heap.size b0 w.drew ∧ x P R n l k b0 f w.drew := propext Iff.rfl
theorem x_t_nil (b0 : World) : x P R (n + 1) [] (.t b0 .nil :: k) b f w = x P R n [] k w f w := propext Iff.rfl
theorem x_t_q (b0 : World) (i : I) (t : T) : x P R (n + 1) [] (.t b0 (.q i t) :: k) b f w = x P R n [.q i] (.t b0 t :: k) b0 f w := propext Iff.rfl
theorem x_t_act (b0 : World) (i : I) (t : T) : x P R (n + 1) [] (.t b0 (.act i t) :: k) b f w = x P R n [i, .chk] (.t b0 t :: k) b0 f w := propext Iff.rfl
theorem x_t_two (b0 : World) (t u : T) : x P R (n + 1) [] (.t b0 (.two t u) :: k) b f w = (x P R n [] (.t b0 t :: k) b0 f w ∧ x P R n [] (.t b0 u :: k) b0 f w) := propext Iff.rfl
theorem x_dr : x P R (n + 1) [] (.c (.dr l) :: k) b f w = x P R n l k w.drew f w.drew := propext Iff.rfl
theorem x_cd (c : Operand) (c1 c2 : C) : x P R (n + 1) [] (.c (.cd c c1 c2) :: k) b f w = CondX (x P R n [] (.c c1 :: k) w) (x P R n [] (.c c2 :: k) w) (ev f c) f w := propext Iff.rfl
theorem x_blk (id : Nat) (c : C) : x P R (n + 1) [] (.c (.bl id c) :: k) b f w = x P R n [] (.c c :: .bl id :: k) w f w := propext Iff.rfl
theorem x_lo (c : C) : x P R (n + 1) [] (.c (.lo c) :: k) b f w = LoopX (x P R n) c k f w := propext Iff.rfl
theorem x_ex (id : Nat) : x P R (n + 1) [] (.c (.ex id) :: k) b f w = (match popTo id k with | some k' => x P R n [] k' w f w | none => False) := propext Iff.rfl
theorem x_scp (c : C) : x P R (n + 1) [] (.c (.sc c) :: k) b f w = x P R n [] (.c c :: .sc :: k) w f w := propext Iff.rfl
theorem x_rt : x P R (n + 1) [] (.c .rt :: k) b f w = R f w := propext Iff.rfl
theorem x_q (i : I) : x P R (n + 1) (.q i :: l) k b f w = stepI P (x P R n l k b) i b f w := propext Iff.rfl
theorem x_chk : x P R (n + 1) (.chk :: l) k b f w = (Below b.heap.size b w ∧ x P R n l k b f w) := propext Iff.rfl
theorem x_mv (d : Option Nat) (o : Operand) : x P R (n + 1) (.mv d o :: l) k b f w = x P R n l k b (updO f d (ev f o)) w := propext Iff.rfl
theorem x_pick (d : Option Nat) (c o p : Operand) : x P R (n + 1) (.pick d c o p :: l) k b f w = PickX (x P R n l k b) (ev f c) (ev f o) (ev f p) f d w := propext Iff.rfl
theorem x_nilc (d : Option Nat) (o : Operand) : x P R (n + 1) (.nilc d o :: l) k b f w = NilX (x P R n l k b) (ev f o) f d w := propext Iff.rfl
theorem x_val (d : Option Nat) (o : Op) (ty : TypeId) : x P R (n + 1) (.val d o ty :: l) k b f w = ValX P (x P R n l k b) o ty w f d w := propext Iff.rfl
theorem x_eff (d : Option Nat) (o : Op) (ty : TypeId) : x P R (n + 1) (.eff d o ty :: l) k b f w = EffX P (x P R n l k b) o ty f d w := propext Iff.rfl
theorem x_call (d : Option Nat) (g : FuncId) (args : List Operand) : x P R (n + 1) (.call d g args :: l) k b f w = CallX P (x P R n l k b) g (args.map (ev f)) f d w := propext Iff.rfl
theorem x_callv (d : Option Nat) (g : Operand) (args : List Operand) : x P R (n + 1) (.callv d g args :: l) k b f w = CallVX P (x P R n l k b) (ev f g) (args.map (ev f)) f d w := propext Iff.rfl
theorem x_gd (s : Nat) (bb : Bool) (d : Option Nat) (i : I) : x P R (n + 1) (.gd s bb d i :: l) k b f w = guardX P (x P R n l k b) (f s) bb d i w f w := propext Iff.rfl
end
theorem popTo_bl (id : Nat) (k : List It) : popTo id (.bl id :: k) = some k := by simp [popTo]
theorem popTo_bl' (id j : Nat) (k : List It) : popTo id (.bl j :: k) = if id = j then some k else popTo id k := by simp [popTo]
theorem popTo_c (id : Nat) (c : C) (k : List It) : popTo id (.c c :: k) = popTo id k := rfl
theorem popTo_lp (id : Nat) (J : Fr → World → Prop) (k : List It) : popTo id (.lp J :: k) = popTo id k := rfl
theorem popTo_sc (id : Nat) (k : List It) : popTo id (.sc :: k) = popTo id k := rfl

section
variable (d : Option Nat) (u : World) (f : Fr) (w : World)
theorem s_mv (o : Operand) : stepI P K (.mv d o) u f w = K (updO f d (ev f o)) w := propext Iff.rfl
theorem s_pick (c o p : Operand) : stepI P K (.pick d c o p) u f w = PickX K (ev f c) (ev f o) (ev f p) f d w := propext Iff.rfl
theorem s_nilc (o : Operand) : stepI P K (.nilc d o) u f w = NilX K (ev f o) f d w := propext Iff.rfl
theorem s_val (o : Op) (ty : TypeId) : stepI P K (.val d o ty) u f w = ValX P K o ty u f d w := propext Iff.rfl
theorem s_eff (o : Op) (ty : TypeId) : stepI P K (.eff d o ty) u f w = EffX P K o ty f d w := propext Iff.rfl
theorem s_call (g : FuncId) (args : List Operand) : stepI P K (.call d g args) u f w = CallX P K g (args.map (ev f)) f d w := propext Iff.rfl
theorem s_callv (g : Operand) (args : List Operand) : stepI P K (.callv d g args) u f w = CallVX P K (ev f g) (args.map (ev f)) f d w := propext Iff.rfl
theorem s_gd (s : Nat) (b : Bool) (i : I) : stepI P K (.gd s b d i) u f w = guardX P K (f s) b d i u f w := propext Iff.rfl
theorem g_tt (i : I) : guardX P K (.bool true) true d i u f w = stepI P K i u f w := propext Iff.rfl
theorem g_ff (i : I) : guardX P K (.bool false) false d i u f w = stepI P K i u f w := propext Iff.rfl
theorem g_tf (i : I) : guardX P K (.bool true) false d i u f w = K (updO f d undef) w := propext Iff.rfl
theorem g_ft (i : I) : guardX P K (.bool false) true d i u f w = K (updO f d undef) w := propext Iff.rfl
theorem g_undef (b : Bool) (i : I) : guardX P K undef b d i u f w = K (updO f d undef) w := propext Iff.rfl
theorem g_split {t b : Bool} {i : I} {d : Option Nat} {u : World} {f : Fr} {w : World} (h1 : t = true → guardX P K (.bool true) b d i u f w) (h2 : t = false → guardX P K (.bool false) b d i u f w) : guardX P K (.bool t) b d i u f w := by
  cases t
  · exact h2 rfl
  · exact h1 rfl
theorem pick_bool (t : Bool) (va vb : Value) : PickX K (.bool t) va vb f d w = K (updO f d (if t then va else vb)) w :=
  propext ⟨fun ⟨s, hs, h⟩ => by cases hs; exact h, fun h => ⟨t, rfl, h⟩⟩
theorem pick_true (va vb : Value) : PickX K (.bool true) va vb f d w = K (updO f d va) w := pick_bool d f w true va vb
theorem pick_false (va vb : Value) : PickX K (.bool false) va vb f d w = K (updO f d vb) w := pick_bool d f w false va vb
theorem nilc_ptr (a : Addr) : NilX K (.pointer (some a)) f d w = K (updO f d (.pointer (some a))) w :=
  propext ⟨fun h => h.2, fun h => ⟨.inl ⟨a, rfl⟩, h⟩⟩
theorem nilc_func (g : FuncId) (p q : Array Value) : NilX K (.func (.func g) p q) f d w = K (updO f d (.func (.func g) p q)) w :=
  propext ⟨fun h => h.2, fun h => ⟨.inr ⟨g, p, q, rfl⟩, h⟩⟩
end
section
variable {K1 K2 : Fr → World → Prop} (f : Fr) (w : World)
theorem cond_bool (t : Bool) : CondX K1 K2 (.bool t) f w = if t then K1 f w else K2 f w :=
  propext ⟨fun ⟨s, hs, h⟩ => by cases hs; exact h, fun h => ⟨t, rfl, h⟩⟩
theorem cond_true : CondX K1 K2 (.bool true) f w = K1 f w := by rw [cond_bool]; rfl
theorem cond_false : CondX K1 K2 (.bool false) f w = K2 f w := by rw [cond_bool]; rfl
theorem cond_split {t : Bool} {f : Fr} {w : World} (h1 : t = true → K1 f w) (h2 : t = false → K2 f w) : CondX K1 K2 (.bool t) f w := by
  cases t
  · exact ⟨false, rfl, h2 rfl⟩
  · exact ⟨true, rfl, h1 rfl⟩
theorem cond_dec {p : Prop} [Decidable p] {f : Fr} {w : World} (h1 : p → K1 f w) (h2 : ¬ p → K2 f w) : CondX K1 K2 (.bool (decide p)) f w :=
  cond_split (fun h => h1 (of_decide_eq_true h)) (fun h => h2 (of_decide_eq_false h))
end

/-! ## Loops, calls, the end -/
theorem loop_rule {X : List I → List It → World → Fr → World → Prop} {c : C} {k : List It} {f : Fr} {w : World} (I : Fr → World → Prop) (μ : Fr → World → Nat) (h0 : I f w)
    (h : ∀ f w, I f w → ∀ J : Fr → World → Prop, (∀ f' w', I f' w' → μ f' w' < μ f w → J f' w') → X [] (.c c :: .lp J :: k) w f w) : LoopX X c k f w :=
  ⟨I, μ, h0, fun f w hI => h f w hI _ fun _ _ h1 h2 => ⟨h1, h2⟩⟩

/-- What a caller is handed. -/
structure Cal (P : Program) (g : FuncId) (args : List Value) (w : World) (Rc : Value → World → Prop) : Prop where
  ok : callOk P g = true
  calls : Calls P g args.toArray w fun e w' => ∃ v, e = .returned v ∧ Rc v w'
theorem Cal.mono {g : FuncId} {args : List Value} {w : World} {Rc Rd : Value → World → Prop} (h : Cal P g args w Rc) (hr : ∀ v w', Rc v w' → Rd v w') : Cal P g args w Rd :=
  ⟨h.ok, h.calls.mono fun _ _ ⟨v, he, hv⟩ => ⟨v, he, hr _ _ hv⟩⟩
theorem call_of {g : FuncId} {args : List Value} {f : Fr} {d : Option Nat} {w : World} {Rc : Value → World → Prop} (hc : Cal P g args w Rc) (h : ∀ v w', Rc v w' → K (updO f d v) w') : CallX P K g args f d w :=
  ⟨hc.ok, hc.calls.mono fun _ _ ⟨v, he, hv⟩ => ⟨v, he, h v _ hv⟩⟩
theorem callv_func (h : FuncId) (first cap : Array Value) (args : List Value) (f : Fr) (d : Option Nat) (w : World) :
    CallVX P K (.func (.func h) first cap) args f d w = CallX P K h (first.toList ++ args ++ cap.toList) f d w :=
  propext ⟨fun ⟨_, _, _, he, hc⟩ => by cases he; exact hc, fun hc => ⟨_, _, _, rfl, hc⟩⟩

def FinX (P : Program) (rs : Array ResultVar) (Rc : Value → World → Prop) (f : Fr) (w : World) : Prop :=
  ∃ v, (∀ (fn : Func) (tmps : Array Value), fn.results = rs → (∀ t, tmps.getD t undef = f t) → (results fn tmps).run P w = .ok v w) ∧ Rc v w
theorem fin_1 {Rc : Value → World → Prop} {t : Nat} {f : Fr} {w : World} (h : Rc (f t) w) : FinX P #[.tmp t] Rc f w :=
  ⟨f t, fun fn tmps hr hf => by rw [results_tmp hr, hf], h⟩
theorem fin_0 {Rc : Value → World → Prop} {f : Fr} {w : World} (h : Rc (.tuple #[]) w) : FinX P #[] Rc f w :=
  ⟨_, fun _ _ hr _ => results_none hr _ _ _, h⟩
theorem fin_2 {Rc : Value → World → Prop} {t s : Nat} {f : Fr} {w : World} (h : Rc (.tuple #[f t, f s]) w) : FinX P #[.tmp t, .tmp s] Rc f w :=
  ⟨_, fun fn tmps hr hf => by rw [results_tmp2 hr, hf, hf], h⟩
theorem fin_3 {Rc : Value → World → Prop} {t s r : Nat} {f : Fr} {w : World} (h : Rc (.tuple #[f t, f s, f r]) w) : FinX P #[.tmp t, .tmp s, .tmp r] Rc f w :=
  ⟨_, fun fn tmps hr hf => by simp [results, hr, hf], h⟩
theorem fin_4 {Rc : Value → World → Prop} {t s r q : Nat} {f : Fr} {w : World} (h : Rc (.tuple #[f t, f s, f r, f q]) w) : FinX P #[.tmp t, .tmp s, .tmp r, .tmp q] Rc f w :=
  ⟨_, fun fn tmps hr hf => by simp [results, hr, hf], h⟩

/-- A function: by its executor's run. -/
theorem cal_of_x {g : FuncId} {fn : Func} {c : C} {args : List Value} {w : World} {Rc : Value → World → Prop} {N : Nat} {rs : Array ResultVar} (hm : P.follows .mixedOrders = true) (hf : P.funcs[g]? = some fn)
    (hN : fn.ntmps = N) (hrs : fn.results = rs) (hc : fn.body.map (cC N) = some c) (hok : callOk P g = true) (hsz : args.length ≤ N) (n : Nat)
    (h : ∀ Q : Value → World → Prop, (∀ v w', Rc v w' → Q v w') → x P (FinX P rs Q) n [] [.c c] w (ofL args) w) : Cal P g args w Rc := by
  replace h := h Rc fun _ _ h => h
  refine ⟨hok, ?_⟩
  cases hb : fn.body with
  | none => simp [hb] at hc
  | some cc =>
    simp only [hb, Option.map_some, Option.some.injEq] at hc
    subst hc
    have hfit : Fits N { tmps := args.toArray ++ Array.replicate (fn.ntmps - args.toArray.size) undef, defers := [] } (ofL args) := by
      refine ⟨rfl, by simp [hN]; omega, fun t => ?_⟩
      simp only [Array.getD_eq_getD_getElem?, ofL, List.getD_eq_getElem?_getD, Array.getElem?_append, List.size_toArray, List.getElem?_toArray]
      split
      · rfl
      · rename_i ht
        rw [List.getElem?_eq_none (by omega), Array.getElem?_replicate]
        split <;> rfl
    have hs := sound (Rf := FinX P rs Rc) (N := N) hm n [] #[] [.c cc] w (ofL args) w _ hfit h
    refine calls_of_wp hf hb (Go.wp_mono (hs : cc.wp P (kont P N (FinX P rs Rc) []) _ w) ?_)
    intro e a w' hq
    have key : RQ N (FinX P rs Rc) a w' → a.defers = [] ∧ ∃ v, (results fn a.tmps).run P w' = .ok v w' ∧ ∃ v', (Ending.returned v) = .returned v' ∧ Rc v' w' := by
      rintro ⟨f, hf', v, hv, hR⟩
      exact ⟨hf'.defers, v, hv fn a.tmps hrs hf'.at_, v, rfl, hR⟩
    cases e <;> first | exact key hq | exact hq.elim
end

/-! ## Values -/
section
variable {P : Program} {K : Fr → World → Prop} (u : World) (f : Fr) (d : Option Nat) (w : World) (ty : TypeId)
theorem val1_of {s : Sem Value} {v : Value} (h : ∀ w', Below u.heap.size u w' → s.run P w' = .ok v w') : Val1 P K s u f d w = K (updO f d v) w :=
  propext ⟨fun ⟨v', hv, hk⟩ => by
    have h1 := h u (Below.refl _ _)
    rw [hv u (Below.refl _ _)] at h1
    cases h1; exact hk, fun hk => ⟨v, h, hk⟩⟩
def binS (op : BinOp) (t : TypeId) (xo yo : Operand) (vx vy : Value) : Sem Value := do eqGuard op t xo yo vx vy; binOp op t vx vy
theorem v_bin (op : BinOp) (t : TypeId) (xo yo : Operand) (yt : TypeId) : ValX P K (.binOp op t xo yo yt) ty u f d w = Val1 P K (binS op t xo yo (ev f xo) (ev f yo)) u f d w := propext Iff.rfl
theorem v_load (t : TypeId) (o : Operand) : ValX P K (.load t o) ty u f d w = Val1 P K (Instr.loadAt t (ev f o)) u f d w := propext Iff.rfl
theorem v_fld (t : TypeId) (o : Operand) (k : Nat) : ValX P K (.fieldAddr t o k) ty u f d w = Val1 P K (Instr.fieldAt t (ev f o) k) u f d w := propext Iff.rfl
theorem v_field (t : TypeId) (o : Operand) (k : Nat) : ValX P K (.field t o k) ty u f d w = Val1 P K (Instr.field t (ev f o) k) u f d w := propext Iff.rfl
theorem v_idx (t : TypeId) (o i : Operand) : ValX P K (.indexAddr t o i) ty u f d w = Val1 P K (Instr.indexAt t (ev f o) (ev f i)) u f d w := propext Iff.rfl
theorem v_un (op : UnOp) (t : TypeId) (o : Operand) : ValX P K (.unOp op t o) ty u f d w = Val1 P K (Op.unary op (ev f o)) u f d w := propext Iff.rfl
theorem v_ext (o : Operand) (k : Nat) : ValX P K (.extract o k) ty u f d w = Val1 P K (Instr.extract (ev f o) k) u f d w := propext Iff.rfl
theorem v_len (t : TypeId) (o : Operand) : ValX P K (.call ⟨.builtin .len, #[o], #[t]⟩) ty u f d w = Val1 P K (Builtin.len_ #[t] ty #[ev f o]) u f d w := by simp [ValX, valOf]
theorem v_min (ts : Array TypeId) (o p : Operand) : ValX P K (.call ⟨.builtin .min, #[o, p], ts⟩) ty u f d w = Val1 P K (Builtin.min_ ts ty #[ev f o, ev f p]) u f d w := by simp [ValX, valOf]
theorem v_max (ts : Array TypeId) (o p : Operand) : ValX P K (.call ⟨.builtin .max, #[o, p], ts⟩) ty u f d w = Val1 P K (Builtin.max_ ts ty #[ev f o, ev f p]) u f d w := by simp [ValX, valOf]

section
variable (t : TypeId) (xo yo : Operand)
theorem bin_lss (k : IntKind) (a b : Int) : Val1 P K (binS .lss t xo yo (.int k a) (.int k b)) u f d w = K (updO f d (.bool (decide (a < b)))) w :=
  val1_of u f d w fun w' _ => by simp [binS, eqGuard, binOp, Op.intCmp]
theorem bin_leq (k : IntKind) (a b : Int) : Val1 P K (binS .leq t xo yo (.int k a) (.int k b)) u f d w = K (updO f d (.bool (decide (a ≤ b)))) w :=
  val1_of u f d w fun w' _ => by simp [binS, eqGuard, binOp, Op.intCmp]
theorem bin_gtr (k : IntKind) (a b : Int) : Val1 P K (binS .gtr t xo yo (.int k a) (.int k b)) u f d w = K (updO f d (.bool (decide (b < a)))) w :=
  val1_of u f d w fun w' _ => by simp [binS, eqGuard, binOp, Op.intCmp]
theorem bin_geq (k : IntKind) (a b : Int) : Val1 P K (binS .geq t xo yo (.int k a) (.int k b)) u f d w = K (updO f d (.bool (decide (b ≤ a)))) w :=
  val1_of u f d w fun w' _ => by simp [binS, eqGuard, binOp, Op.intCmp]
theorem bin_eql (k : IntKind) (a b : Int) : Val1 P K (binS .eql t xo yo (.int k a) (.int k b)) u f d w = K (updO f d (.bool (decide (a = b)))) w :=
  val1_of u f d w fun w' _ => by simp [binS, eqGuard, binOp, Op.intCmp]; rfl
theorem bin_neq (k : IntKind) (a b : Int) : Val1 P K (binS .neq t xo yo (.int k a) (.int k b)) u f d w = K (updO f d (.bool (decide (a ≠ b)))) w :=
  val1_of u f d w fun w' _ => by simp [binS, eqGuard, binOp, Op.intCmp]; by_cases h : a = b <;> simp [h]
theorem equalIn_bool (ht : P.underlying t = some .bool) (n : Nat) (a b : Bool) (w : World) : (Op.equalIn (n + 1) t (.bool a) (.bool b)).run P w = .ok (a == b) w := by
  simp [Op.equalIn, run_underlying ht]
theorem bin_eqb (ht : P.underlying t = some .bool) (a b : Bool) : Val1 P K (binS .eql t xo yo (.bool a) (.bool b)) u f d w = K (updO f d (.bool (a == b))) w :=
  val1_of u f d w fun w' _ => by
    simp only [binS, eqGuard, binOp]
    simp [Op.equal, Op.maxDepth, equalIn_bool t ht 9999]
theorem bin_neb (ht : P.underlying t = some .bool) (a b : Bool) : Val1 P K (binS .neq t xo yo (.bool a) (.bool b)) u f d w = K (updO f d (.bool (a != b))) w :=
  val1_of u f d w fun w' _ => by
    simp only [binS, eqGuard, binOp]
    simp [Op.equal, Op.maxDepth, equalIn_bool t ht 9999, bne]
theorem bin_add (a b : Int) (h0 : -9223372036854775808 ≤ a + b) (h1 : a + b ≤ 9223372036854775807) : Val1 P K (binS .add t xo yo (.int .i64 a) (.int .i64 b)) u f d w = K (updO f d (.int .i64 (a + b))) w :=
  val1_of u f d w fun w' _ => by simp [binS, eqGuard, binOp, Op.intArith, IntWalk.i64_in _ ⟨h0, h1⟩]
theorem bin_sub (a b : Int) (h0 : -9223372036854775808 ≤ a - b) (h1 : a - b ≤ 9223372036854775807) : Val1 P K (binS .sub t xo yo (.int .i64 a) (.int .i64 b)) u f d w = K (updO f d (.int .i64 (a - b))) w :=
  val1_of u f d w fun w' _ => by simp [binS, eqGuard, binOp, Op.intArith, IntWalk.i64_in _ ⟨h0, h1⟩]
theorem bin_mul (a b : Int) (h0 : -9223372036854775808 ≤ a * b) (h1 : a * b ≤ 9223372036854775807) : Val1 P K (binS .mul t xo yo (.int .i64 a) (.int .i64 b)) u f d w = K (updO f d (.int .i64 (a * b))) w :=
  val1_of u f d w fun w' _ => by simp [binS, eqGuard, binOp, Op.intArith, IntWalk.i64_in _ ⟨h0, h1⟩]
end
theorem un_not (b : Bool) : Val1 P K (Op.unary .not (.bool b)) u f d w = K (updO f d (.bool (!b))) w := val1_of u f d w fun _ _ => rfl
theorem ext_tuple (vs : Array Value) (k : Nat) (h : k < vs.size) : Val1 P K (Instr.extract (.tuple vs) k) u f d w = K (updO f d vs[k]) w :=
  val1_of u f d w fun w' _ => by simp [Instr.extract, h]
theorem len_sl (t : TypeId) (h : (tySl P t).isSome = true) (A : Option Addr) (n c : Nat) : Val1 P K (Builtin.len_ #[t] ty #[.slice A n c]) u f d w = K (updO f d (.int .i64 n)) w :=
  val1_of u f d w fun w' _ => by
    unfold tySl at h
    split at h
    · rename_i e he
      simp [Builtin.len_, run_underlying he, goInt]
    · cases h
theorem min_int (ts : Array TypeId) (k : IntKind) (a b : Int) : Val1 P K (Builtin.min_ ts ty #[.int k a, .int k b]) u f d w = K (updO f d (.int k (min a b))) w :=
  val1_of u f d w fun w' _ => by simp [Builtin.min_, Builtin.min2]; split <;> omega
theorem max_int (ts : Array TypeId) (k : IntKind) (a b : Int) : Val1 P K (Builtin.max_ ts ty #[.int k a, .int k b]) u f d w = K (updO f d (.int k (max a b))) w :=
  val1_of u f d w fun w' _ => by simp [Builtin.max_, Builtin.max2]; split <;> omega

/-! ## Addresses and loads -/
def eA (A : Option Addr) (k : Nat) : Addr := (A.getD default).add k
theorem eA_some (a : Addr) (k : Nat) : eA (some a) k = a.add k := rfl
theorem add_add (a : Addr) (i j : Nat) : (a.add i).add j = a.add (i + j) := by
  unfold Addr.add
  by_cases hi : i = 0 <;> by_cases hj : j = 0 <;> simp [hi, hj, Nat.add_assoc]
theorem eA_add (A : Option Addr) (i j : Nat) : (eA A i).add j = eA A (i + j) := add_add _ _ _
theorem idx_sl (t : TypeId) (h : (tySl P t).isSome = true) (A : Option Addr) (hA : A.isSome = true) (n c : Nat) (k : IntKind) (i : Int) (h0 : 0 ≤ i) (h1 : i < n) :
    Val1 P K (Instr.indexAt t (.slice A n c) (.int k i)) u f d w = K (updO f d (.pointer (some (eA A (i.toNat * (tySl P t).getD 0))))) w :=
  val1_of u f d w fun w' _ => by
    unfold tySl at h ⊢
    split at h
    · rename_i e he
      cases A with
      | none => cases hA
      | some a =>
        unfold tySize at h ⊢
        cases hi : P.info? e with
        | none => simp [hi] at h
        | some ie =>
          simp [Instr.indexAt, asIntOf, run_underlying he, h0, h1, sizeOf, typeInfo, hi, eA]
    · cases h
theorem idx_arr (t : TypeId) (h : (tyArr P t).isSome = true) (a : Addr) (k : IntKind) (i : Int) (h0 : 0 ≤ i) (h1 : i < ((tyArr P t).getD (0, 0)).1) :
    Val1 P K (Instr.indexAt t (.pointer (some a)) (.int k i)) u f d w = K (updO f d (.pointer (some (a.add (i.toNat * ((tyArr P t).getD (0, 0)).2))))) w :=
  val1_of u f d w fun w' _ => by
    cases hu : P.underlying t with
    | none => simp [tyArr, hu] at h
    | some de =>
      cases de <;> first | (simp [tyArr, hu] at h; done) | skip
      rename_i len e
      cases hi : P.info? e with
      | none => simp [tyArr, hu, tySize, hi] at h
      | some ie =>
        have hh : tyArr P t = some (len, ie.size) := by simp [tyArr, hu, tySize, hi]
        rw [hh] at h1 ⊢
        simp only [Option.getD_some] at h1 ⊢
        simp [Instr.indexAt, asIntOf, run_underlying hu, h0, h1, sizeOf, typeInfo, hi, Instr.sureAddr]
theorem fld_ptr (t : TypeId) (k : Nat) (h : (tyFld P t k).isSome = true) (a : Addr) : Val1 P K (Instr.fieldAt t (.pointer (some a)) k) u f d w = K (updO f d (.pointer (some (a.add ((tyFld P t k).getD 0))))) w :=
  val1_of u f d w fun w' _ => by
    unfold tyFld at h ⊢
    split at h
    · rename_i fs he
      cases hk : fs[k]? with
      | none => simp [hk] at h
      | some fl =>
        simp only [hk] at h ⊢
        unfold tySize at h ⊢
        cases hi : P.info? fl.type with
        | none => simp [hi] at h
        | some ie =>
          simp only [hi, Option.map_some] at h ⊢
          cases hz : ie.size with
          | zero => simp [hz] at h
          | succ m => simp [Instr.fieldAt, run_underlying he, hk, Instr.sureAddr, fieldPlace, sizeOf, typeInfo, hi, hz]
    · cases h

def LoadX (K : Fr → World → Prop) (o : Option Value) (f : Fr) (d : Option Nat) (w : World) : Prop := ∃ v, o = some v ∧ K (updO f d v) w
theorem load_some (v : Value) : LoadX K (some v) f d w = K (updO f d v) w := propext ⟨fun ⟨_, h, hk⟩ => by cases h; exact hk, fun h => ⟨v, rfl, h⟩⟩
theorem below_cell {u w' : World} (h : Below u.heap.size u w') {a : Addr} {v : Value} (hc : u.cell? a = some v) : w'.cell? a = some v :=
  (h.cell (World.block_lt_of_cell? u a hc)).trans hc
/-- A load of one cell: what it reads is asked of the world. -/
theorem load_one_of {t : TypeId} (h : tyAgg P t = some false) {a : Addr} {v : Value} (hc : u.cell? a = some v) : Val1 P K (Instr.loadAt t (.pointer (some a))) u f d w = K (updO f d v) w :=
  val1_of u f d w fun w' hw' => by
    have hc' := below_cell hw' hc
    unfold tyAgg at h
    cases hu : P.underlying t with
    | none => simp [hu] at h
    | some de =>
      simp only [hu, Option.map_some, Option.some.injEq] at h
      cases de <;> simp at h <;> simp [Instr.loadAt, Instr.sureAddr, loadVar, isAgg, run_underlying hu, hc']
theorem load_one {t : TypeId} (h : tyAgg P t = some false) (a : Addr) (hx : LoadX K (u.cell? a) f d w) : Val1 P K (Instr.loadAt t (.pointer (some a))) u f d w := by
  obtain ⟨v, hv, hk⟩ := hx
  rw [load_one_of u f d w h hv]; exact hk
end
attribute [push_cast] x_drt x_drz x_t_nil x_t_q x_t_act updO_some updO_none upd_at ev_tmp ev_const ev_global ev_func ofL_zero ofL_succ ofL_nil x_end x_bl x_sc0 x_lp x_sk x_sq x_op x_dr x_lo x_ex x_scp x_rt x_q x_chk x_mv x_pick x_nilc x_val x_eff x_call x_callv x_gd popTo_c popTo_lp popTo_sc s_mv s_pick s_nilc s_val s_eff s_call s_callv s_gd g_tt g_ff g_tf g_ft g_undef pick_true pick_false nilc_ptr nilc_func cond_true cond_false callv_func v_bin v_load popTo_bl popTo_bl' v_fld v_field v_idx v_un v_ext v_len v_min v_max bin_lss bin_leq bin_gtr bin_geq bin_eql bin_neq bin_add bin_sub bin_mul un_not ext_tuple min_int max_int eA_add load_some
attribute [push_cast] Int.ofNat_lt Int.ofNat_le decide_true decide_false Int.toNat_natCast Nat.mul_one ne_eq not_true_eq_false not_false_eq_true Bool.not_true Bool.not_false beq_self_eq_true Bool.false_eq_true
end Go.Proofs.YtiabkafgmanhiaaDoor
