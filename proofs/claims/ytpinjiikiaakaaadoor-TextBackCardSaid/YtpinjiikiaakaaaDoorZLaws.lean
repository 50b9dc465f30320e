/-
  Laws of the executor of YtpinjiikiaakaaaDoorExec, one for each kind of instruction, as equations: for 'simp only'. No program in sight.
  How plain data lie in memory: rows of integers, rows of structs of integers. No program in sight.
  Laws of the executor for what makes or writes memory: new blocks, appends to rows of one's own, stores. No program in sight.
-/
import Derived.Test.YtpinjiikiaakaaaDoorZSound
import Derived.Laws.Cells
import Derived.Maps.AppendAt
import Derived.Laws.OwnMore
import Derived.OwnWalk
namespace Go.Proofs.YtpinjiikiaakaaaDoor
set_option linter.unusedSimpArgs false
set_option linter.unusedVariables false
set_option linter.unusedSectionVars false
section
open Go.RowKit

section
variable (P : Program)
def tySize (t : TypeId) : Option Nat := (P.info? t).map (·.size)
def tyAgg (t : TypeId) : Option Bool := (P.underlying t).map fun | .struct _ | .array _ _ => true | _ => false
def tySl (t : TypeId) : Option Nat := match P.underlying t with | some (.slice e) => tySize P e | _ => none
def tyArr (t : TypeId) : Option (Nat × Nat) := match P.underlying t with | some (.array n e) => (tySize P e).map fun s => (n, s) | _ => none
def tyFld (s : TypeId) (k : Nat) : Option Nat := match P.underlying s with
  | some (.struct fs) => match (fs[k]? : Option Field) with
    | some f => match tySize P f.type with | some (_ + 1) => some f.offset | _ => none
    | none => none
  | _ => none
end

theorem updO_some (f : Fr) (d : Nat) (v : Value) : updO f (some d) v = upd f d v := rfl
theorem updO_none (f : Fr) (v : Value) : updO f none v = f := rfl
theorem upd_at (f : Fr) (d : Nat) (v : Value) (t : Nat) : upd f d v t = if t = d then v else f t := rfl
theorem ev_tmp (f : Fr) (t : Nat) : ev f (.tmp t) = f t := rfl
theorem ev_const (f : Fr) (v : Value) : ev f (.const v) = v := rfl
theorem ev_global (f : Fr) (g : Nat) : ev f (.global g) = .pointer (some ⟨g, 0, none⟩) := rfl
theorem ev_func (f : Fr) (g : Nat) : ev f (.func g) = .func (.func g) #[] #[] := rfl
def ofL (l : List Value) : Fr := fun t => l.getD t undef
theorem ofL_zero (v : Value) (l : List Value) : ofL (v :: l) 0 = v := rfl
theorem ofL_succ (v : Value) (l : List Value) (n : Nat) : ofL (v :: l) (n + 1) = ofL l n := rfl
theorem ofL_nil (n : Nat) : ofL [] n = undef := rfl

section
variable {P : Program} {R : Rx} {K : Fr → World → Prop} {pn : List PanicEntry → World → Prop}

section
variable (n : Nat) (l : List I) (k : List It) (b : World) (f : Fr) (w : World)
theorem x_end : x P R (n + 1) [] [] b f w = R.ret f w := propext Iff.rfl
theorem x_bl (id : Nat) : x P R (n + 1) [] (.bl id :: k) b f w = x P R n [] k w f w := propext Iff.rfl
theorem x_sc0 : x P R (n + 1) [] (.sc :: k) b f w = x P R n [] k w f w := propext Iff.rfl
theorem x_lp (J : Fr → World → Prop) : x P R (n + 1) [] (.lp J :: k) b f w = J f w := propext Iff.rfl
theorem x_sk : x P R (n + 1) [] (.c .sk :: k) b f w = x P R n [] k w f w := propext Iff.rfl
theorem x_sq (c d : C) : x P R (n + 1) [] (.c (.sq c d) :: k) b f w = x P R n [] (.c c :: .c d :: k) w f w := propext Iff.rfl
theorem x_op : x P R (n + 1) [] (.c (.op l) :: k) b f w = x P R n l k w f w := propext Iff.rfl
theorem x_drt (t : T) : x P R (n + 1) [] (.c (.drt t) :: k) b f w = x P R n [] (.t w.drew t :: k) w.drew f w.drew := propext Iff.rfl
theorem x_drz : x P R (n + 1) [] (.c (.drz l) :: k) b f w = ∃ S : World → Prop, S w.drew ∧ xs P R.pan S (fun f' w' => x P R n [] k w' f' w') l f w.drew := propext Iff.rfl
theorem x_t_nil (b0 : World) : x P R (n + 1) [] (.t b0 .nil :: k) b f w = x P R n [] k w f w := propext Iff.rfl
theorem x_t_q (b0 : World) (i : I) (t : T) : x P R (n + 1) [] (.t b0 (.q i t) :: k) b f w = x P R n [.q i] (.t b0 t :: k) b0 f w := propext Iff.rfl
theorem x_t_act (b0 : World) (i : I) (t : T) : x P R (n + 1) [] (.t b0 (.act i t) :: k) b f w = x P R n [i, .chk] (.t b0 t :: k) b0 f w := propext Iff.rfl
theorem x_t_cut (b0 : World) (i : I) (t : T) : x P R (n + 1) [] (.t b0 (.cut i t) :: k) b f w = x P R n [i] (.tn t :: k) b0 f w := propext Iff.rfl
theorem x_tn (t : T) : x P R (n + 1) [] (.tn t :: k) b f w = x P R n [] (.t w t :: k) w f w := propext Iff.rfl
theorem x_t_two (b0 : World) (t u : T) : x P R (n + 1) [] (.t b0 (.two t u) :: k) b f w = (x P R n [] (.t b0 t :: k) b0 f w ∧ x P R n [] (.t b0 u :: k) b0 f w) := propext Iff.rfl
theorem x_dr : x P R (n + 1) [] (.c (.dr l) :: k) b f w = x P R n l k w.drew f w.drew := propext Iff.rfl
theorem x_cd (c : Operand) (c1 c2 : C) : x P R (n + 1) [] (.c (.cd c c1 c2) :: k) b f w = CondX (x P R n [] (.c c1 :: k) w) (x P R n [] (.c c2 :: k) w) (ev f c) f w := propext Iff.rfl
theorem x_blk (id : Nat) (c : C) : x P R (n + 1) [] (.c (.bl id c) :: k) b f w = x P R n [] (.c c :: .bl id :: k) w f w := propext Iff.rfl
theorem x_lo (c : C) : x P R (n + 1) [] (.c (.lo c) :: k) b f w = LoopX (x P R n) c k f w := propext Iff.rfl
theorem x_ex (id : Nat) : x P R (n + 1) [] (.c (.ex id) :: k) b f w = (match popTo id k with | some k' => x P R n [] k' w f w | none => False) := propext Iff.rfl
theorem x_scp (c : C) : x P R (n + 1) [] (.c (.sc c) :: k) b f w = x P R n [] (.c c :: .sc :: k) w f w := propext Iff.rfl
theorem x_rt : x P R (n + 1) [] (.c .rt :: k) b f w = R.ret f w := propext Iff.rfl
theorem x_q (i : I) : x P R (n + 1) (.q i :: l) k b f w = stepI P R.pan (x P R n l k b) i b f w := propext Iff.rfl
theorem x_chk : x P R (n + 1) (.chk :: l) k b f w = (Below b.heap.size b w ∧ x P R n l k b f w) := propext Iff.rfl
theorem x_mv (d : Option Nat) (o : Operand) : x P R (n + 1) (.mv d o :: l) k b f w = x P R n l k b (updO f d (ev f o)) w := propext Iff.rfl
theorem x_rb : x P R (n + 1) (.rb :: l) k b f w = x P R n l k w f w := propext Iff.rfl
theorem x_pick (d : Option Nat) (c o p : Operand) : x P R (n + 1) (.pick d c o p :: l) k b f w = PickX (x P R n l k b) (ev f c) (ev f o) (ev f p) f d w := propext Iff.rfl
theorem x_nilc (d : Option Nat) (o : Operand) : x P R (n + 1) (.nilc d o :: l) k b f w = NilX (x P R n l k b) (ev f o) f d w := propext Iff.rfl
theorem x_val (d : Option Nat) (o : Op) (ty : TypeId) : x P R (n + 1) (.val d o ty :: l) k b f w = ValX P (x P R n l k b) o ty w f d w := propext Iff.rfl
theorem x_eff (d : Option Nat) (o : Op) (ty : TypeId) : x P R (n + 1) (.eff d o ty :: l) k b f w = EffX P (x P R n l k b) o ty f d w := propext Iff.rfl
theorem x_qx (t : TypeId) (i : I) : x P R (n + 1) (.qx t i :: l) k b f w = stepE P (x P R n l k b) t i b f w := propext Iff.rfl
theorem x_chkx (t : TypeId) : x P R (n + 1) (.chkx t :: l) k b f w = (BelowE P t b w ∧ x P R n l k b f w) := propext Iff.rfl
theorem x_adr (d : Option Nat) (o : Op) (ty : TypeId) : x P R (n + 1) (.adr d o ty :: l) k b f w = AdrX P (x P R n l k b) o ty f d w := propext Iff.rfl
theorem x_call (d : Option Nat) (g : FuncId) (args : List Operand) : x P R (n + 1) (.call d g args :: l) k b f w = CallX P R.pan (x P R n l k b) g (args.map (ev f)) f d w := propext Iff.rfl
theorem x_pnk (o : Operand) : x P R (n + 1) (.pnk o :: l) k b f w = PnkX R.pan (ev f o) w := propext Iff.rfl
theorem x_callv (d : Option Nat) (g : Operand) (args : List Operand) : x P R (n + 1) (.callv d g args :: l) k b f w = CallVX P R.pan (x P R n l k b) (ev f g) (args.map (ev f)) f d w := propext Iff.rfl
theorem x_gd (s : Nat) (bb : Bool) (d : Option Nat) (i : I) : x P R (n + 1) (.gd s bb d i :: l) k b f w = guardX P R.pan (x P R n l k b) (f s) bb d i w f w := propext Iff.rfl
end
section
variable (S : World → Prop) (K : Fr → World → Prop) (l : List I) (f : Fr) (w : World) (d : Option Nat)
theorem xs_nil : xs P pn S K [] f w = K f w := propext Iff.rfl
theorem xs_q (i : I) : xs P pn S K (.q i :: l) f w = stepS P (xs P pn S K l) S i f w := propext Iff.rfl
theorem xs_adr (o : Op) (ty : TypeId) : xs P pn S K (.adr d o ty :: l) f w = AdrX P (xs P pn S K l) o ty f d w := propext Iff.rfl
theorem xs_rb (i : I) : xs P pn S K (.rb :: i :: l) f w = stepI P pn (fun f' w' => ∃ S' : World → Prop, S' w' ∧ xs P pn S' K l f' w') i w f w := propext Iff.rfl
theorem xs_mv (o : Operand) : xs P pn S K (.mv d o :: l) f w = (S w ∧ xs P pn S K l (updO f d (ev f o)) w) := propext Iff.rfl
theorem xs_call (g : FuncId) (args : List Operand) : xs P pn S K (.call d g args :: l) f w = CallX P pn (fun f' w' => S w' ∧ xs P pn S K l f' w') g (args.map (ev f)) f d w := propext Iff.rfl
theorem xs_callv (g : Operand) (args : List Operand) : xs P pn S K (.callv d g args :: l) f w = CallVX P pn (fun f' w' => S w' ∧ xs P pn S K l f' w') (ev f g) (args.map (ev f)) f d w := propext Iff.rfl
theorem xs_eff (o : Op) (ty : TypeId) : xs P pn S K (.eff d o ty :: l) f w = EffX P (fun f' w' => S w' ∧ xs P pn S K l f' w') o ty f d w := propext Iff.rfl
theorem xs_gd (s : Nat) (b : Bool) (i : I) : xs P pn S K (.gd s b d i :: l) f w = guardX P pn (fun f' w' => S w' ∧ xs P pn S K l f' w') (f s) b d i w f w := propext Iff.rfl
theorem ss_mv (o : Operand) : stepS P K S (.mv d o) f w = K (updO f d (ev f o)) w := propext Iff.rfl
theorem ss_pick (c o p : Operand) : stepS P K S (.pick d c o p) f w = PickX K (ev f c) (ev f o) (ev f p) f d w := propext Iff.rfl
theorem ss_nilc (o : Operand) : stepS P K S (.nilc d o) f w = NilX K (ev f o) f d w := propext Iff.rfl
theorem ss_val (o : Op) (ty : TypeId) : stepS P K S (.val d o ty) f w = ValXS P K S o ty f d w := propext Iff.rfl
theorem vs_load (t : TypeId) (a : Operand) (ty : TypeId) : ValXS P K S (.load t a) ty f d w = ValS P K S (Instr.loadAt t (ev f a)) f d w := propext Iff.rfl
end
theorem popTo_bl (id : Nat) (k : List It) : popTo id (.bl id :: k) = some k := by simp [popTo]
theorem popTo_bl' (id j : Nat) (k : List It) : popTo id (.bl j :: k) = if id = j then some k else popTo id k := by simp [popTo]
theorem popTo_c (id : Nat) (c : C) (k : List It) : popTo id (.c c :: k) = popTo id k := rfl
theorem popTo_lp (id : Nat) (J : Fr → World → Prop) (k : List It) : popTo id (.lp J :: k) = popTo id k := rfl
theorem popTo_sc (id : Nat) (k : List It) : popTo id (.sc :: k) = popTo id k := rfl

section
variable (d : Option Nat) (u : World) (f : Fr) (w : World)
theorem s_mv (o : Operand) : stepI P pn K (.mv d o) u f w = K (updO f d (ev f o)) w := propext Iff.rfl
theorem s_pick (c o p : Operand) : stepI P pn K (.pick d c o p) u f w = PickX K (ev f c) (ev f o) (ev f p) f d w := propext Iff.rfl
theorem s_adr (o : Op) (ty : TypeId) : stepI P pn K (.adr d o ty) u f w = AdrX P K o ty f d w := propext Iff.rfl
theorem s_nilc (o : Operand) : stepI P pn K (.nilc d o) u f w = NilX K (ev f o) f d w := propext Iff.rfl
theorem s_val (o : Op) (ty : TypeId) : stepI P pn K (.val d o ty) u f w = ValX P K o ty u f d w := propext Iff.rfl
theorem s_eff (o : Op) (ty : TypeId) : stepI P pn K (.eff d o ty) u f w = EffX P K o ty f d w := propext Iff.rfl
theorem s_call (g : FuncId) (args : List Operand) : stepI P pn K (.call d g args) u f w = CallX P pn K g (args.map (ev f)) f d w := propext Iff.rfl
theorem s_callv (g : Operand) (args : List Operand) : stepI P pn K (.callv d g args) u f w = CallVX P pn K (ev f g) (args.map (ev f)) f d w := propext Iff.rfl
theorem s_gd (s : Nat) (b : Bool) (i : I) : stepI P pn K (.gd s b d i) u f w = guardX P pn K (f s) b d i u f w := propext Iff.rfl
theorem g_tt (i : I) : guardX P pn K (.bool true) true d i u f w = stepI P pn K i u f w := propext Iff.rfl
theorem g_ff (i : I) : guardX P pn K (.bool false) false d i u f w = stepI P pn K i u f w := propext Iff.rfl
theorem g_tf (i : I) : guardX P pn K (.bool true) false d i u f w = K (updO f d undef) w := propext Iff.rfl
theorem g_ft (i : I) : guardX P pn K (.bool false) true d i u f w = K (updO f d undef) w := propext Iff.rfl
theorem g_undef (b : Bool) (i : I) : guardX P pn K undef b d i u f w = K (updO f d undef) w := propext Iff.rfl
theorem pick_bool (t : Bool) (va vb : Value) : PickX K (.bool t) va vb f d w = K (updO f d (if t then va else vb)) w :=
  propext ⟨fun ⟨s, hs, h⟩ => by cases hs; exact h, fun h => ⟨t, rfl, h⟩⟩
theorem pick_true (va vb : Value) : PickX K (.bool true) va vb f d w = K (updO f d va) w := pick_bool d f w true va vb
theorem pick_false (va vb : Value) : PickX K (.bool false) va vb f d w = K (updO f d vb) w := pick_bool d f w false va vb
theorem nilc_ptr (a : Addr) : NilX K (.pointer (some a)) f d w = K (updO f d (.pointer (some a))) w :=
  propext ⟨fun h => h.2, fun h => ⟨.inl ⟨a, rfl⟩, h⟩⟩
theorem nilc_func (g : FuncId) (p q : Array Value) : NilX K (.func (.func g) p q) f d w = K (updO f d (.func (.func g) p q)) w :=
  propext ⟨fun h => h.2, fun h => ⟨.inr ⟨g, p, q, rfl⟩, h⟩⟩
end
section
variable {K1 K2 : Fr → World → Prop} (f : Fr) (w : World)
theorem cond_bool (t : Bool) : CondX K1 K2 (.bool t) f w = if t then K1 f w else K2 f w :=
  propext ⟨fun ⟨s, hs, h⟩ => by cases hs; exact h, fun h => ⟨t, rfl, h⟩⟩
theorem cond_true : CondX K1 K2 (.bool true) f w = K1 f w := by rw [cond_bool]; rfl
theorem cond_false : CondX K1 K2 (.bool false) f w = K2 f w := by rw [cond_bool]; rfl
end

theorem loop_rule {X : List I → List It → World → Fr → World → Prop} {c : C} {k : List It} {f : Fr} {w : World} (I : Fr → World → Prop) (μ : Fr → World → Nat) (h0 : I f w)
    (h : ∀ f w, I f w → ∀ J : Fr → World → Prop, (∀ f' w', I f' w' → μ f' w' < μ f w → J f' w') → X [] (.c c :: .lp J :: k) w f w) : LoopX X c k f w :=
  ⟨I, μ, h0, fun f w hI => h f w hI _ fun _ _ h1 h2 => ⟨h1, h2⟩⟩

/-- What a caller is handed. -/
structure Cal (P : Program) (g : FuncId) (args : List Value) (w : World) (Rc : Value → World → Prop) : Prop where
  ok : callOk P g = true
  calls : Calls P g args.toArray w fun e w' => ∃ v, e = .returned v ∧ Rc v w'
theorem Cal.mono {g : FuncId} {args : List Value} {w : World} {Rc Rd : Value → World → Prop} (h : Cal P g args w Rc) (hr : ∀ v w', Rc v w' → Rd v w') : Cal P g args w Rd :=
  ⟨h.ok, h.calls.mono fun _ _ ⟨v, he, hv⟩ => ⟨v, he, hr _ _ hv⟩⟩
theorem call_of {g : FuncId} {args : List Value} {f : Fr} {d : Option Nat} {w : World} {Rc : Value → World → Prop} (hc : Cal P g args w Rc) (h : ∀ v w', Rc v w' → K (updO f d v) w') : CallX P pn K g args f d w :=
  ⟨hc.ok, hc.calls.mono fun _ _ ⟨v, he, hv⟩ => .inl ⟨v, he, h v _ hv⟩⟩
/-- .. where it may panic. -/
structure Cal2 (P : Program) (g : FuncId) (args : List Value) (w : World) (Rc : Value → World → Prop) (Rp : List PanicEntry → World → Prop) : Prop where
  ok : callOk P g = true
  calls : Calls P g args.toArray w fun e w' => (∃ v, e = .returned v ∧ Rc v w') ∨ ∃ ch, e = .panicked ch ∧ Rp ch w'
theorem Cal2.mono {g : FuncId} {args : List Value} {w : World} {Rc Rd : Value → World → Prop} {Rp Rq : List PanicEntry → World → Prop} (h : Cal2 P g args w Rc Rp) (hr : ∀ v w', Rc v w' → Rd v w') (hp : ∀ c w', Rp c w' → Rq c w') : Cal2 P g args w Rd Rq :=
  ⟨h.ok, h.calls.mono fun _ _ h => h.elim (fun ⟨v, he, hv⟩ => .inl ⟨v, he, hr _ _ hv⟩) fun ⟨c, he, hv⟩ => .inr ⟨c, he, hp _ _ hv⟩⟩
theorem call2_of {g : FuncId} {args : List Value} {f : Fr} {d : Option Nat} {w : World} {Rc : Value → World → Prop} {Rp : List PanicEntry → World → Prop} (hc : Cal2 P g args w Rc Rp) (hp : ∀ c w', Rp c w' → pn c w') (h : ∀ v w', Rc v w' → K (updO f d v) w') : CallX P pn K g args f d w :=
  ⟨hc.ok, hc.calls.mono fun _ _ hh => hh.elim (fun ⟨v, he, hv⟩ => .inl ⟨v, he, h v _ hv⟩) fun ⟨c, he, hv⟩ => .inr ⟨c, he, hp _ _ hv⟩⟩
theorem callv_func (h : FuncId) (first cap : Array Value) (args : List Value) (f : Fr) (d : Option Nat) (w : World) :
    CallVX P pn K (.func (.func h) first cap) args f d w = CallX P pn K h (first.toList ++ args ++ cap.toList) f d w :=
  propext ⟨fun ⟨_, _, _, he, hc⟩ => by cases he; exact hc, fun hc => ⟨_, _, _, rfl, hc⟩⟩

def FinX (P : Program) (rs : Array ResultVar) (Rc : Value → World → Prop) (f : Fr) (w : World) : Prop :=
  ∃ v, (∀ (fn : Func) (tmps : Array Value), fn.results = rs → (∀ t, tmps.getD t undef = f t) → (results fn tmps).run P w = .ok v w) ∧ Rc v w
theorem fin_1 {Rc : Value → World → Prop} {t : Nat} {f : Fr} {w : World} (h : Rc (f t) w) : FinX P #[.tmp t] Rc f w :=
  ⟨f t, fun fn tmps hr hf => by rw [results_tmp hr, hf], h⟩
theorem fin_0 {Rc : Value → World → Prop} {f : Fr} {w : World} (h : Rc (.tuple #[]) w) : FinX P #[] Rc f w :=
  ⟨_, fun _ _ hr _ => results_none hr _ _ _, h⟩
theorem fin_2 {Rc : Value → World → Prop} {t s : Nat} {f : Fr} {w : World} (h : Rc (.tuple #[f t, f s]) w) : FinX P #[.tmp t, .tmp s] Rc f w :=
  ⟨_, fun fn tmps hr hf => by rw [results_tmp2 hr, hf, hf], h⟩
/-- Nothing deferred, nothing fixed. -/
def noD : Dx := ⟨[], fun _ => undef⟩
/-- A function: by its executor's run. -/
theorem cal_of_x {g : FuncId} {fn : Func} {c : C} {args : List Value} {w : World} {Rc : Value → World → Prop} {N : Nat} {rs : Array ResultVar} (hm : P.follows .mixedOrders = true) (hf : P.funcs[g]? = some fn)
    (hN : fn.ntmps = N) (hrs : fn.results = rs) (hc : fn.body.map (cC ⟨N, 0⟩) = some c) (hok : callOk P g = true) (hsz : args.length ≤ N) (n : Nat)
    (h : ∀ Q : Value → World → Prop, (∀ v w', Rc v w' → Q v w') → x P (FinX P rs Q) n [] [.c c] w (ofL args) w) : Cal P g args w Rc := by
  replace h := h Rc fun _ _ h => h
  refine ⟨hok, ?_⟩
  cases hb : fn.body with
  | none => simp [hb] at hc
  | some cc =>
    simp only [hb, Option.map_some, Option.some.injEq] at hc
    subst hc
    have hfit : Fits ⟨N, 0⟩ noD { tmps := args.toArray ++ Array.replicate (fn.ntmps - args.toArray.size) undef, defers := [] } (ofL args) := by
      refine ⟨rfl, by simp [hN]; omega, fun t ht => absurd ht (Nat.not_lt_zero _), fun t => ?_⟩
      simp only [Array.getD_eq_getD_getElem?, ofL, List.getD_eq_getElem?_getD, Array.getElem?_append, List.size_toArray, List.getElem?_toArray]
      split
      · rfl
      · rename_i ht
        rw [List.getElem?_eq_none (by omega), Array.getElem?_replicate]
        split <;> rfl
    have hs := sound (Rf := FinX P rs Rc) (N := ⟨N, 0⟩) hm n [] #[] [.c cc] w (ofL args) w _ hfit h
    refine calls_of_wp hf hb (Go.wp_mono (hs : cc.wp P (kont P ⟨N, 0⟩ noD (FinX P rs Rc) []) _ w) ?_)
    intro e a w' hq
    have key : RQ ⟨N, 0⟩ noD (FinX P rs Rc) a w' → a.defers = [] ∧ ∃ v, (results fn a.tmps).run P w' = .ok v w' ∧ ∃ v', (Ending.returned v) = .returned v' ∧ Rc v' w' := by
      rintro ⟨f, hf', v, hv, hR⟩
      exact ⟨hf'.defers, v, hv fn a.tmps hrs hf'.at_, v, rfl, hR⟩
    cases e <;> first | exact key hq | exact hq.elim | exact hq.2.elim
/-- .. that may panic. -/
theorem cal2_of_x {g : FuncId} {fn : Func} {c : C} {args : List Value} {w : World} {Rc : Value → World → Prop} {Rp : List PanicEntry → World → Prop} {N : Nat} {rs : Array ResultVar} (hm : P.follows .mixedOrders = true) (hf : P.funcs[g]? = some fn)
    (hN : fn.ntmps = N) (hrs : fn.results = rs) (hc : fn.body.map (cC ⟨N, 0⟩) = some c) (hok : callOk P g = true) (hsz : args.length ≤ N) (n : Nat)
    (h : ∀ (Q : Value → World → Prop) (Qp : List PanicEntry → World → Prop), (∀ v w', Rc v w' → Q v w') → (∀ c w', Rp c w' → Qp c w') → x P ⟨FinX P rs Q, Qp⟩ n [] [.c c] w (ofL args) w) : Cal2 P g args w Rc Rp := by
  replace h := h Rc Rp (fun _ _ h => h) (fun _ _ h => h)
  refine ⟨hok, ?_⟩
  cases hb : fn.body with
  | none => simp [hb] at hc
  | some cc =>
    simp only [hb, Option.map_some, Option.some.injEq] at hc
    subst hc
    have hfit : Fits ⟨N, 0⟩ noD { tmps := args.toArray ++ Array.replicate (fn.ntmps - args.toArray.size) undef, defers := [] } (ofL args) := by
      refine ⟨rfl, by simp [hN]; omega, fun t ht => absurd ht (Nat.not_lt_zero _), fun t => ?_⟩
      simp only [Array.getD_eq_getD_getElem?, ofL, List.getD_eq_getElem?_getD, Array.getElem?_append, List.size_toArray, List.getElem?_toArray]
      split
      · rfl
      · rename_i ht
        rw [List.getElem?_eq_none (by omega), Array.getElem?_replicate]
        split <;> rfl
    have hs := sound (Rf := ⟨FinX P rs Rc, Rp⟩) (N := ⟨N, 0⟩) hm n [] #[] [.c cc] w (ofL args) w _ hfit h
    refine calls_of_wp hf hb (Go.wp_mono (hs : cc.wp P (kont P ⟨N, 0⟩ noD ⟨FinX P rs Rc, Rp⟩ []) _ w) ?_)
    intro e a w' hq
    have key : RQ ⟨N, 0⟩ noD (FinX P rs Rc) a w' → a.defers = [] ∧ ∃ v, (results fn a.tmps).run P w' = .ok v w' ∧ ((∃ v', (Ending.returned v) = .returned v' ∧ Rc v' w') ∨ ∃ ch, (Ending.returned v) = .panicked ch ∧ Rp ch w') := by
      rintro ⟨f, hf', v, hv, hR⟩
      exact ⟨hf'.defers, v, hv fn a.tmps hrs hf'.at_, .inl ⟨v, rfl, hR⟩⟩
    cases e <;> first | exact key hq | exact hq.elim | exact ⟨hq.1.1, .inr ⟨_, rfl, hq.2⟩⟩
end

section
variable {P : Program} {K : Fr → World → Prop} (u : World) (f : Fr) (d : Option Nat) (w : World) (ty : TypeId)
theorem val1_of {s : Sem Value} {v : Value} (h : ∀ w', Below u.heap.size u w' → s.run P w' = .ok v w') : Val1 P K s u f d w = K (updO f d v) w :=
  propext ⟨fun ⟨v', hv, hk⟩ => by
    have h1 := h u (Below.refl _ _)
    rw [hv u (Below.refl _ _)] at h1
    cases h1; exact hk, fun hk => ⟨v, h, hk⟩⟩
def binS (op : BinOp) (t : TypeId) (xo yo : Operand) (vx vy : Value) : Sem Value := do eqGuard op t xo yo vx vy; binOp op t vx vy
theorem vs_bin (S : World → Prop) (op : BinOp) (xt : TypeId) (a c : Operand) (q : TypeId) : ValXS P K S (.binOp op xt a c q) ty f d w = ValS P K S (binS op xt a c (ev f a) (ev f c)) f d w := propext Iff.rfl
theorem vs_len (S : World → Prop) (a : Operand) (t : TypeId) : ValXS P K S (.call ⟨.builtin .len, #[a], #[t]⟩) ty f d w = ValS P K S (Builtin.len_ #[t] ty #[ev f a]) f d w := by simp [ValXS, valOf]
theorem v_bin (op : BinOp) (t : TypeId) (xo yo : Operand) (yt : TypeId) : ValX P K (.binOp op t xo yo yt) ty u f d w = Val1 P K (binS op t xo yo (ev f xo) (ev f yo)) u f d w := propext Iff.rfl
theorem v_load (t : TypeId) (o : Operand) : ValX P K (.load t o) ty u f d w = Val1 P K (Instr.loadAt t (ev f o)) u f d w := propext Iff.rfl
theorem v_fld (t : TypeId) (o : Operand) (k : Nat) : ValX P K (.fieldAddr t o k) ty u f d w = Val1 P K (Instr.fieldAt t (ev f o) k) u f d w := propext Iff.rfl
theorem v_field (t : TypeId) (o : Operand) (k : Nat) : ValX P K (.field t o k) ty u f d w = Val1 P K (Instr.field t (ev f o) k) u f d w := propext Iff.rfl
theorem v_mkif (t : TypeId) (o : Operand) : ValX P K (.makeInterface t o) ty u f d w = Val1 P K (Instr.makeInterface t (ev f o)) u f d w := propext Iff.rfl
theorem v_idx (t : TypeId) (o i : Operand) : ValX P K (.indexAddr t o i) ty u f d w = Val1 P K (Instr.indexAt t (ev f o) (ev f i)) u f d w := propext Iff.rfl
theorem v_un (op : UnOp) (t : TypeId) (o : Operand) : ValX P K (.unOp op t o) ty u f d w = Val1 P K (Op.unary op (ev f o)) u f d w := propext Iff.rfl
theorem v_ext (o : Operand) (k : Nat) : ValX P K (.extract o k) ty u f d w = Val1 P K (Instr.extract (ev f o) k) u f d w := propext Iff.rfl
theorem v_len (t : TypeId) (o : Operand) : ValX P K (.call ⟨.builtin .len, #[o], #[t]⟩) ty u f d w = Val1 P K (Builtin.len_ #[t] ty #[ev f o]) u f d w := by simp [ValX, valOf]
theorem v_min (ts : Array TypeId) (o p : Operand) : ValX P K (.call ⟨.builtin .min, #[o, p], ts⟩) ty u f d w = Val1 P K (Builtin.min_ ts ty #[ev f o, ev f p]) u f d w := by simp [ValX, valOf]
theorem v_max (ts : Array TypeId) (o p : Operand) : ValX P K (.call ⟨.builtin .max, #[o, p], ts⟩) ty u f d w = Val1 P K (Builtin.max_ ts ty #[ev f o, ev f p]) u f d w := by simp [ValX, valOf]

section
variable (t : TypeId) (xo yo : Operand)
theorem bin_lss (k : IntKind) (a b : Int) : Val1 P K (binS .lss t xo yo (.int k a) (.int k b)) u f d w = K (updO f d (.bool (decide (a < b)))) w :=
  val1_of u f d w fun w' _ => by simp [binS, eqGuard, binOp, Op.intCmp]
theorem bin_leq (k : IntKind) (a b : Int) : Val1 P K (binS .leq t xo yo (.int k a) (.int k b)) u f d w = K (updO f d (.bool (decide (a ≤ b)))) w :=
  val1_of u f d w fun w' _ => by simp [binS, eqGuard, binOp, Op.intCmp]
theorem bin_gtr (k : IntKind) (a b : Int) : Val1 P K (binS .gtr t xo yo (.int k a) (.int k b)) u f d w = K (updO f d (.bool (decide (b < a)))) w :=
  val1_of u f d w fun w' _ => by simp [binS, eqGuard, binOp, Op.intCmp]
theorem bin_geq (k : IntKind) (a b : Int) : Val1 P K (binS .geq t xo yo (.int k a) (.int k b)) u f d w = K (updO f d (.bool (decide (b ≤ a)))) w :=
  val1_of u f d w fun w' _ => by simp [binS, eqGuard, binOp, Op.intCmp]
theorem bin_eql (k : IntKind) (a b : Int) : Val1 P K (binS .eql t xo yo (.int k a) (.int k b)) u f d w = K (updO f d (.bool (decide (a = b)))) w :=
  val1_of u f d w fun w' _ => by simp [binS, eqGuard, binOp, Op.intCmp]; rfl
theorem bin_neq (k : IntKind) (a b : Int) : Val1 P K (binS .neq t xo yo (.int k a) (.int k b)) u f d w = K (updO f d (.bool (decide (a ≠ b)))) w :=
  val1_of u f d w fun w' _ => by simp [binS, eqGuard, binOp, Op.intCmp]; by_cases h : a = b <;> simp [h]
theorem equalIn_bool (ht : P.underlying t = some .bool) (n : Nat) (a b : Bool) (w : World) : (Op.equalIn (n + 1) t (.bool a) (.bool b)).run P w = .ok (a == b) w := by
  simp [Op.equalIn, run_underlying ht]
theorem bin_eqb (ht : P.underlying t = some .bool) (a b : Bool) : Val1 P K (binS .eql t xo yo (.bool a) (.bool b)) u f d w = K (updO f d (.bool (a == b))) w :=
  val1_of u f d w fun w' _ => by
    simp only [binS, eqGuard, binOp]
    simp [Op.equal, Op.maxDepth, equalIn_bool t ht 9999]
theorem bin_neb (ht : P.underlying t = some .bool) (a b : Bool) : Val1 P K (binS .neq t xo yo (.bool a) (.bool b)) u f d w = K (updO f d (.bool (a != b))) w :=
  val1_of u f d w fun w' _ => by
    simp only [binS, eqGuard, binOp]
    simp [Op.equal, Op.maxDepth, equalIn_bool t ht 9999, bne]
theorem bin_add (a b : Int) (h0 : -9223372036854775808 ≤ a + b) (h1 : a + b ≤ 9223372036854775807) : Val1 P K (binS .add t xo yo (.int .i64 a) (.int .i64 b)) u f d w = K (updO f d (.int .i64 (a + b))) w :=
  val1_of u f d w fun w' _ => by simp [binS, eqGuard, binOp, Op.intArith, IntWalk.i64_in _ ⟨h0, h1⟩]
theorem bin_sub (a b : Int) (h0 : -9223372036854775808 ≤ a - b) (h1 : a - b ≤ 9223372036854775807) : Val1 P K (binS .sub t xo yo (.int .i64 a) (.int .i64 b)) u f d w = K (updO f d (.int .i64 (a - b))) w :=
  val1_of u f d w fun w' _ => by simp [binS, eqGuard, binOp, Op.intArith, IntWalk.i64_in _ ⟨h0, h1⟩]
theorem bin_mul (a b : Int) (h0 : -9223372036854775808 ≤ a * b) (h1 : a * b ≤ 9223372036854775807) : Val1 P K (binS .mul t xo yo (.int .i64 a) (.int .i64 b)) u f d w = K (updO f d (.int .i64 (a * b))) w :=
  val1_of u f d w fun w' _ => by simp [binS, eqGuard, binOp, Op.intArith, IntWalk.i64_in _ ⟨h0, h1⟩]
end
theorem un_not (b : Bool) : Val1 P K (Op.unary .not (.bool b)) u f d w = K (updO f d (.bool (!b))) w := val1_of u f d w fun _ _ => rfl
theorem ext_tuple (vs : Array Value) (k : Nat) (h : k < vs.size) : Val1 P K (Instr.extract (.tuple vs) k) u f d w = K (updO f d vs[k]) w :=
  val1_of u f d w fun w' _ => by simp [Instr.extract, h]
theorem len_sl (t : TypeId) (h : (tySl P t).isSome = true) (A : Option Addr) (n c : Nat) : Val1 P K (Builtin.len_ #[t] ty #[.slice A n c]) u f d w = K (updO f d (.int .i64 n)) w :=
  val1_of u f d w fun w' _ => by
    unfold tySl at h
    split at h
    · rename_i e he
      simp [Builtin.len_, run_underlying he, goInt]
    · cases h
theorem min_int (ts : Array TypeId) (k : IntKind) (a b : Int) : Val1 P K (Builtin.min_ ts ty #[.int k a, .int k b]) u f d w = K (updO f d (.int k (min a b))) w :=
  val1_of u f d w fun w' _ => by simp [Builtin.min_, Builtin.min2]; split <;> omega
theorem max_int (ts : Array TypeId) (k : IntKind) (a b : Int) : Val1 P K (Builtin.max_ ts ty #[.int k a, .int k b]) u f d w = K (updO f d (.int k (max a b))) w :=
  val1_of u f d w fun w' _ => by simp [Builtin.max_, Builtin.max2]; split <;> omega

def eA (A : Option Addr) (k : Nat) : Addr := (A.getD default).add k
theorem eA_some (a : Addr) (k : Nat) : eA (some a) k = a.add k := rfl
theorem add_add (a : Addr) (i j : Nat) : (a.add i).add j = a.add (i + j) := by
  unfold Addr.add
  by_cases hi : i = 0 <;> by_cases hj : j = 0 <;> simp [hi, hj, Nat.add_assoc]
theorem eA_add (A : Option Addr) (i j : Nat) : (eA A i).add j = eA A (i + j) := add_add _ _ _
theorem idx_sl (t : TypeId) (h : (tySl P t).isSome = true) (A : Option Addr) (hA : A.isSome = true) (n c : Nat) (k : IntKind) (i : Int) (h0 : 0 ≤ i) (h1 : i < n) :
    Val1 P K (Instr.indexAt t (.slice A n c) (.int k i)) u f d w = K (updO f d (.pointer (some (eA A (i.toNat * (tySl P t).getD 0))))) w :=
  val1_of u f d w fun w' _ => by
    unfold tySl at h ⊢
    split at h
    · rename_i e he
      cases A with
      | none => cases hA
      | some a =>
        unfold tySize at h ⊢
        cases hi : P.info? e with
        | none => simp [hi] at h
        | some ie =>
          simp [Instr.indexAt, asIntOf, run_underlying he, h0, h1, sizeOf, typeInfo, hi, eA]
    · cases h
theorem idx_arr (t : TypeId) (h : (tyArr P t).isSome = true) (a : Addr) (k : IntKind) (i : Int) (h0 : 0 ≤ i) (h1 : i < ((tyArr P t).getD (0, 0)).1) :
    Val1 P K (Instr.indexAt t (.pointer (some a)) (.int k i)) u f d w = K (updO f d (.pointer (some (a.add (i.toNat * ((tyArr P t).getD (0, 0)).2))))) w :=
  val1_of u f d w fun w' _ => by
    cases hu : P.underlying t with
    | none => simp [tyArr, hu] at h
    | some de =>
      cases de <;> first | (simp [tyArr, hu] at h; done) | skip
      rename_i len e
      cases hi : P.info? e with
      | none => simp [tyArr, hu, tySize, hi] at h
      | some ie =>
        have hh : tyArr P t = some (len, ie.size) := by simp [tyArr, hu, tySize, hi]
        rw [hh] at h1 ⊢
        simp only [Option.getD_some] at h1 ⊢
        simp [Instr.indexAt, asIntOf, run_underlying hu, h0, h1, sizeOf, typeInfo, hi, Instr.sureAddr]
theorem fld_ptr (t : TypeId) (k : Nat) (h : (tyFld P t k).isSome = true) (a : Addr) : Val1 P K (Instr.fieldAt t (.pointer (some a)) k) u f d w = K (updO f d (.pointer (some (a.add ((tyFld P t k).getD 0))))) w :=
  val1_of u f d w fun w' _ => by
    unfold tyFld at h ⊢
    split at h
    · rename_i fs he
      cases hk : fs[k]? with
      | none => simp [hk] at h
      | some fl =>
        simp only [hk] at h ⊢
        unfold tySize at h ⊢
        cases hi : P.info? fl.type with
        | none => simp [hi] at h
        | some ie =>
          simp only [hi, Option.map_some] at h ⊢
          cases hz : ie.size with
          | zero => simp [hz] at h
          | succ m => simp [Instr.fieldAt, run_underlying he, hk, Instr.sureAddr, fieldPlace, sizeOf, typeInfo, hi, hz]
    · cases h

theorem e_mv (t : TypeId) (d : Option Nat) (o : Operand) (u : World) : stepE P K t (.mv d o) u f w = K (updO f d (ev f o)) w := propext Iff.rfl
theorem e_nilc (t : TypeId) (d : Option Nat) (o : Operand) (u : World) : stepE P K t (.nilc d o) u f w = NilX K (ev f o) f d w := propext Iff.rfl
theorem e_val (t : TypeId) (d : Option Nat) (o : Op) (ty : TypeId) (u : World) : stepE P K t (.val d o ty) u f w = ValXE P K t o ty u f d w := propext Iff.rfl
theorem e_load (t : TypeId) (ty t2 : TypeId) (o : Operand) (u : World) : ValXE P K t (.load t2 o) ty u f d w = ValE P K t (Instr.loadAt t2 (ev f o)) u f d w := propext Iff.rfl
def ValA (P : Program) (K : Fr → World → Prop) (s : Sem Value) (f : Fr) (d : Option Nat) (w : World) : Prop := ∃ v, (∀ w', s.run P w' = .ok v w') ∧ K (updO f d v) w
theorem valA_of {s : Sem Value} {v : Value} (h : ∀ w', s.run P w' = .ok v w') : ValA P K s f d w = K (updO f d v) w :=
  propext ⟨fun ⟨v', hv, hk⟩ => by have := (hv w).symm.trans (h w); cases this; exact hk, fun hk => ⟨v, h, hk⟩⟩
theorem a_bld (t : TypeId) (parts : Array (Nat × Operand)) : AdrX P K (.build t parts) ty f d w = ValA P K (Instr.build t (parts.map fun (i, x) => (i, ev f x))) f d w := propext Iff.rfl
theorem a_bin (op : BinOp) (t : TypeId) (xo yo : Operand) (yt : TypeId) : AdrX P K (.binOp op t xo yo yt) ty f d w = ValA P K (binS op t xo yo (ev f xo) (ev f yo)) f d w := propext Iff.rfl
theorem binA_add (t : TypeId) (xo yo : Operand) (a b : Int) (h0 : -9223372036854775808 ≤ a + b) (h1 : a + b ≤ 9223372036854775807) : ValA P K (binS .add t xo yo (.int .i64 a) (.int .i64 b)) f d w = K (updO f d (.int .i64 (a + b))) w :=
  valA_of f d w fun w' => by simp [binS, eqGuard, binOp, Op.intArith, IntWalk.i64_in _ ⟨h0, h1⟩]
theorem binA_sub (t : TypeId) (xo yo : Operand) (a b : Int) (h0 : -9223372036854775808 ≤ a - b) (h1 : a - b ≤ 9223372036854775807) : ValA P K (binS .sub t xo yo (.int .i64 a) (.int .i64 b)) f d w = K (updO f d (.int .i64 (a - b))) w :=
  valA_of f d w fun w' => by simp [binS, eqGuard, binOp, Op.intArith, IntWalk.i64_in _ ⟨h0, h1⟩]
theorem a_fld (t : TypeId) (o : Operand) (k : Nat) : AdrX P K (.fieldAddr t o k) ty f d w = ValA P K (Instr.fieldAt t (ev f o) k) f d w := propext Iff.rfl
theorem a_idx (t : TypeId) (o i : Operand) : AdrX P K (.indexAddr t o i) ty f d w = ValA P K (Instr.indexAt t (ev f o) (ev f i)) f d w := propext Iff.rfl
theorem idx_slA (t : TypeId) (h : (tySl P t).isSome = true) (A : Option Addr) (hA : A.isSome = true) (n c : Nat) (k : IntKind) (i : Int) (h0 : 0 ≤ i) (h1 : i < n) :
    ValA P K (Instr.indexAt t (.slice A n c) (.int k i)) f d w = K (updO f d (.pointer (some (eA A (i.toNat * (tySl P t).getD 0))))) w :=
  valA_of f d w fun w' => by
    unfold tySl at h ⊢
    split at h
    · rename_i e he
      cases A with
      | none => cases hA
      | some a =>
        unfold tySize at h ⊢
        cases hi : P.info? e with
        | none => simp [hi] at h
        | some ie =>
          simp [Instr.indexAt, asIntOf, run_underlying he, h0, h1, sizeOf, typeInfo, hi, eA]
    · cases h
theorem idx_arrA (t : TypeId) (h : (tyArr P t).isSome = true) (a : Addr) (k : IntKind) (i : Int) (h0 : 0 ≤ i) (h1 : i < ((tyArr P t).getD (0, 0)).1) :
    ValA P K (Instr.indexAt t (.pointer (some a)) (.int k i)) f d w = K (updO f d (.pointer (some (a.add (i.toNat * ((tyArr P t).getD (0, 0)).2))))) w :=
  valA_of f d w fun w' => by
    cases hu : P.underlying t with
    | none => simp [tyArr, hu] at h
    | some de =>
      cases de <;> first | (simp [tyArr, hu] at h; done) | skip
      rename_i len e
      cases hi : P.info? e with
      | none => simp [tyArr, hu, tySize, hi] at h
      | some ie =>
        have hh : tyArr P t = some (len, ie.size) := by simp [tyArr, hu, tySize, hi]
        rw [hh] at h1 ⊢
        simp only [Option.getD_some] at h1 ⊢
        simp [Instr.indexAt, asIntOf, run_underlying hu, h0, h1, sizeOf, typeInfo, hi, Instr.sureAddr]
theorem fld_ptrA (t : TypeId) (k : Nat) (h : (tyFld P t k).isSome = true) (a : Addr) : ValA P K (Instr.fieldAt t (.pointer (some a)) k) f d w = K (updO f d (.pointer (some (a.add ((tyFld P t k).getD 0))))) w :=
  valA_of f d w fun w' => by
    unfold tyFld at h ⊢
    split at h
    · rename_i fs he
      cases hk : fs[k]? with
      | none => simp [hk] at h
      | some fl =>
        simp only [hk] at h ⊢
        unfold tySize at h ⊢
        cases hi : P.info? fl.type with
        | none => simp [hi] at h
        | some ie =>
          simp only [hi, Option.map_some] at h ⊢
          cases hz : ie.size with
          | zero => simp [hz] at h
          | succ m => simp [Instr.fieldAt, run_underlying he, hk, Instr.sureAddr, fieldPlace, sizeOf, typeInfo, hi, hz]
    · cases h

def LoadX (K : Fr → World → Prop) (o : Option Value) (f : Fr) (d : Option Nat) (w : World) : Prop := ∃ v, o = some v ∧ K (updO f d v) w
theorem load_some (v : Value) : LoadX K (some v) f d w = K (updO f d v) w := propext ⟨fun ⟨_, h, hk⟩ => by cases h; exact hk, fun h => ⟨v, rfl, h⟩⟩
theorem below_cell {u w' : World} (h : Below u.heap.size u w') {a : Addr} {v : Value} (hc : u.cell? a = some v) : w'.cell? a = some v :=
  (h.cell (World.block_lt_of_cell? u a hc)).trans hc
/-- A load of one cell: what it reads is asked of the world. -/
theorem load_one_of {t : TypeId} (h : tyAgg P t = some false) {a : Addr} {v : Value} (hc : u.cell? a = some v) : Val1 P K (Instr.loadAt t (.pointer (some a))) u f d w = K (updO f d v) w :=
  val1_of u f d w fun w' hw' => by
    have hc' := below_cell hw' hc
    unfold tyAgg at h
    cases hu : P.underlying t with
    | none => simp [hu] at h
    | some de =>
      simp only [hu, Option.map_some, Option.some.injEq] at h
      cases de <;> simp at h <;> simp [Instr.loadAt, Instr.sureAddr, loadVar, isAgg, run_underlying hu, hc']
end
attribute [push_cast] x_pnk v_mkif xs_nil xs_q xs_adr xs_rb xs_mv xs_call xs_callv xs_eff xs_gd ss_mv ss_pick ss_nilc ss_val vs_load vs_bin vs_len s_adr a_bld x_qx x_chkx e_mv e_nilc e_val e_load x_adr a_fld a_idx a_bin binA_add binA_sub x_rb x_t_cut x_tn x_drt x_drz x_t_nil x_t_q x_t_act updO_some updO_none upd_at ev_tmp ev_const ev_global ev_func ofL_zero ofL_succ ofL_nil x_end x_bl x_sc0 x_lp x_sk x_sq x_op x_dr x_lo x_ex x_scp x_rt x_q x_chk x_mv x_pick x_nilc x_val x_eff x_call x_callv x_gd popTo_c popTo_lp popTo_sc s_mv s_pick s_nilc s_val s_eff s_call s_callv s_gd g_tt g_ff g_tf g_ft g_undef pick_true pick_false nilc_ptr nilc_func cond_true cond_false callv_func v_bin v_load popTo_bl popTo_bl' v_fld v_field v_idx v_un v_ext v_len v_min v_max bin_lss bin_leq bin_gtr bin_geq bin_eql bin_neq bin_add bin_sub bin_mul un_not ext_tuple min_int max_int eA_add load_some
attribute [push_cast] Int.ofNat_lt Int.ofNat_le decide_true decide_false Int.toNat_natCast Nat.mul_one ne_eq not_true_eq_false not_false_eq_true Bool.not_true Bool.not_false beq_self_eq_true Bool.false_eq_true
end

section
open Go.RowKit

theorem eA_block (A : Option Addr) (k : Nat) : (eA A k).block = (A.getD default).block := by unfold eA Addr.add; split <;> rfl

/-- The same memory: some draws apart. -/
structure Same (w w' : World) : Prop where
  heap : w'.heap = w.heap
  os : w'.os = w.os
  tape : w'.tape = w.tape
  output : w'.output = w.output
theorem Same.refl (w : World) : Same w w := ⟨rfl, rfl, rfl, rfl⟩
theorem Same.trans {a b c : World} (h : Same a b) (k : Same b c) : Same a c := ⟨k.heap.trans h.heap, k.os.trans h.os, k.tape.trans h.tape, k.output.trans h.output⟩
theorem Same.drew {a b : World} (h : Same a b) : Same a b.drew := ⟨h.heap, h.os, h.tape, h.output⟩
theorem Same.below {a b : World} (h : Same a b) (B : Nat) : Below B a b := ⟨h.os, h.tape, h.output, by rw [h.heap]; exact Nat.le_refl _, fun k _ => by rw [h.heap]⟩

/-- A row of integers that can be read in 'w', in a block that 'ok' lets. -/
structure Ints (ok : Nat → Prop) (w : World) (A : Option Addr) (l : List Int) : Prop where
  isSome : 0 < l.length → A.isSome = true
  block : 0 < l.length → ok (A.getD default).block
  cell : ∀ i, i < l.length → w.cell? (eA A i) = some (.int .i64 (l.getD i 0))
section
variable {P : Program} {K : Fr → World → Prop} {u : World} {f : Fr} {d : Option Nat} {w : World} {ok ok' : Nat → Prop} {A : Option Addr} {l : List Int}
theorem Ints.ld (h : Ints ok u A l) {t : TypeId} (ht : tyAgg P t = some false) (i : Nat) (hi : i < l.length) :
    Val1 P K (Instr.loadAt t (.pointer (some (eA A i)))) u f d w = K (updO f d (.int .i64 (l.getD i 0))) w := load_one_of u f d w ht (h.cell i hi)
theorem Ints.nil (ok : Nat → Prop) (w : World) (A : Option Addr) : Ints ok w A [] := ⟨fun h => absurd h (by simp), fun h => absurd h (by simp), fun i h => absurd h (by simp)⟩
theorem Ints.mono (h : Ints ok u A l) (hk : ∀ b, ok b → ok' b) : Ints ok' u A l := ⟨h.isSome, fun hl => hk _ (h.block hl), h.cell⟩
theorem Ints.keep (h : Ints ok u A l) (hk : ∀ b, ok b → w.heap[b]? = u.heap[b]?) : Ints ok w A l :=
  ⟨h.isSome, h.block, fun i hi => by
    rw [← h.cell i hi]
    exact World.cell?_of_block (by rw [eA_block]; exact hk _ (h.block (by omega)))⟩
theorem Ints.below {B : Nat} (h : Ints (· < B) u A l) (hb : Below B u w) : Ints (· < B) w A l := h.keep fun b hlt => hb.block b hlt
theorem Ints.same (h : Ints ok u A l) (k : Same u w) : Ints ok w A l := h.keep fun b _ => by rw [k.heap]
theorem Ints.drew (h : Ints ok u A l) : Ints ok u.drew A l := h.keep fun _ _ => rfl
end

structure Arr where
  frm : Int
  evt : Int
  to_ : Int
  deriving DecidableEq
instance : Inhabited Arr := ⟨⟨0, 0, 0⟩⟩
def Arr.cell (a : Arr) (j : Nat) : Int := if j = 0 then a.frm else if j = 1 then a.evt else a.to_
/-- A row of arrows. -/
structure Arrs (ok : Nat → Prop) (w : World) (A : Option Addr) (l : List Arr) : Prop where
  isSome : 0 < l.length → A.isSome = true
  block : 0 < l.length → ok (A.getD default).block
  cell : ∀ i, i < l.length → ∀ j, j < 3 → w.cell? (eA A (i * 3 + j)) = some (.int .i64 ((l.getD i default).cell j))
section
variable {P : Program} {K : Fr → World → Prop} {u : World} {f : Fr} {d : Option Nat} {w : World} {ok ok' : Nat → Prop} {A : Option Addr} {l : List Arr}
theorem Arrs.ld0 (h : Arrs ok u A l) {t : TypeId} (ht : tyAgg P t = some false) (i : Nat) (hi : i < l.length) :
    Val1 P K (Instr.loadAt t (.pointer (some (eA A (i * 3))))) u f d w = K (updO f d (.int .i64 (l.getD i default).frm)) w := load_one_of u f d w ht (h.cell i hi 0 (by decide))
theorem Arrs.ld1 (h : Arrs ok u A l) {t : TypeId} (ht : tyAgg P t = some false) (i : Nat) (hi : i < l.length) :
    Val1 P K (Instr.loadAt t (.pointer (some (eA A (i * 3 + 1))))) u f d w = K (updO f d (.int .i64 (l.getD i default).evt)) w := load_one_of u f d w ht (h.cell i hi 1 (by decide))
theorem Arrs.ld2 (h : Arrs ok u A l) {t : TypeId} (ht : tyAgg P t = some false) (i : Nat) (hi : i < l.length) :
    Val1 P K (Instr.loadAt t (.pointer (some (eA A (i * 3 + 2))))) u f d w = K (updO f d (.int .i64 (l.getD i default).to_)) w := load_one_of u f d w ht (h.cell i hi 2 (by decide))
theorem Arrs.nil (ok : Nat → Prop) (w : World) (A : Option Addr) : Arrs ok w A [] := ⟨fun h => absurd h (by simp), fun h => absurd h (by simp), fun i h => absurd h (by simp)⟩
theorem Arrs.mono (h : Arrs ok u A l) (hk : ∀ b, ok b → ok' b) : Arrs ok' u A l := ⟨h.isSome, fun hl => hk _ (h.block hl), h.cell⟩
theorem Arrs.keep (h : Arrs ok u A l) (hk : ∀ b, ok b → w.heap[b]? = u.heap[b]?) : Arrs ok w A l :=
  ⟨h.isSome, h.block, fun i hi j hj => by
    rw [← h.cell i hi j hj]
    exact World.cell?_of_block (by rw [eA_block]; exact hk _ (h.block (by omega)))⟩
theorem Arrs.below {B : Nat} (h : Arrs (· < B) u A l) (hb : Below B u w) : Arrs (· < B) w A l := h.keep fun b hlt => hb.block b hlt
theorem Arrs.same (h : Arrs ok u A l) (k : Same u w) : Arrs ok w A l := h.keep fun b _ => by rw [k.heap]
theorem Arrs.drew (h : Arrs ok u A l) : Arrs ok u.drew A l := h.keep fun _ _ => rfl
end

structure Mach where
  states : Int
  events : Int
  starts : List Int
  arrows : List Arr
  ends : List Int
  deriving DecidableEq
def I64 (x : Int) : Prop := -9223372036854775808 ≤ x ∧ x ≤ 9223372036854775807
/-- What every machine that comes in keeps to. -/
structure Mach.Fits (m : Mach) : Prop where
  states : I64 m.states
  events : I64 m.events
  starts : ∀ x ∈ m.starts, I64 x
  ends : ∀ x ∈ m.ends, I64 x
  arrows : ∀ a ∈ m.arrows, I64 a.frm ∧ I64 a.evt ∧ I64 a.to_
  lenS : m.starts.length ≤ 17592186043904
  lenE : m.ends.length ≤ 17592186043904
  lenA : m.arrows.length ≤ 17592186043904
/-- The value of a machine. -/
structure MV where
  As : Option Addr
  cs : Nat
  Aa : Option Addr
  ca : Nat
  Ae : Option Addr
  ce : Nat
abbrev MV.cells (a : MV) (m : Mach) : List Value := [.int .i64 m.states, .int .i64 m.events, .slice a.As m.starts.length a.cs, .slice a.Aa m.arrows.length a.ca, .slice a.Ae m.ends.length a.ce]
abbrev MV.val (a : MV) (m : Mach) : Value := .agg (a.cells m).toArray
structure IsM (ok : Nat → Prop) (w : World) (a : MV) (m : Mach) : Prop where
  starts : Ints ok w a.As m.starts
  arrows : Arrs ok w a.Aa m.arrows
  ends : Ints ok w a.Ae m.ends
section
variable {u w : World} {ok ok' : Nat → Prop} {a : MV} {m : Mach}
theorem IsM.mono (h : IsM ok u a m) (hk : ∀ b, ok b → ok' b) : IsM ok' u a m := ⟨h.starts.mono hk, h.arrows.mono hk, h.ends.mono hk⟩
theorem IsM.keep (h : IsM ok u a m) (hk : ∀ b, ok b → w.heap[b]? = u.heap[b]?) : IsM ok w a m := ⟨h.starts.keep hk, h.arrows.keep hk, h.ends.keep hk⟩
theorem IsM.below {B : Nat} (h : IsM (· < B) u a m) (hb : Below B u w) : IsM (· < B) w a m := h.keep fun b hlt => hb.block b hlt
theorem IsM.same (h : IsM ok u a m) (k : Same u w) : IsM ok w a m := h.keep fun b _ => by rw [k.heap]
end
end

section
open Go.RowKit

structure SlT (P : Program) (t e sz bytes : Nat) : Prop where
  under : P.underlying t = some (.slice e)
  info : (P.info? e).map (fun i => (i.zero.map (·.cells.size), i.size, i.bytes)) = some (some sz, sz, bytes)
  pos : 0 < sz
theorem SlT.get {P : Program} {t e sz bytes : Nat} (h : SlT P t e sz bytes) : ∃ i z, P.info? e = some i ∧ i.zero = some z ∧ i.size = sz ∧ i.bytes = bytes ∧ z.cells.size = sz := by
  have := h.info
  cases hi : P.info? e with
  | none => simp [hi] at this
  | some i =>
    simp only [hi, Option.map_some, Option.some.injEq, Prod.mk.injEq] at this
    obtain ⟨hz, hs, hb⟩ := this
    cases hz' : i.zero with
    | none => simp [hz'] at hz
    | some z => exact ⟨i, z, rfl, hz', hs, hb, by simpa [hz'] using hz⟩

theorem addr_add (g j k : Nat) : (⟨g, j, none⟩ : Addr).add k = ⟨g, j + k, none⟩ := by
  unfold Addr.add; split <;> simp_all
theorem eA_zero (g k : Nat) : eA (some ⟨g, 0, none⟩) k = ⟨g, k, none⟩ := by rw [eA_some, addr_add, Nat.zero_add]

def Blk (w : World) (g : Nat) (t : TypeId) (cs : List Value) : Prop := w.heap[g]? = some (.cells cs.toArray t (0, 0))
section
variable {P : Program} {K : Fr → World → Prop} {w w' u : World} {g : Nat} {t : TypeId} {cs : List Value} {f : Fr} {d : Option Nat}
theorem Blk.lt (h : Blk w g t cs) : g < w.heap.size := by
  rcases Nat.lt_or_ge g w.heap.size with hlt | hge
  · exact hlt
  · unfold Blk at h; rw [Array.getElem?_eq_none hge] at h; cases h
theorem Blk.cell (h : Blk w g t cs) (i : Nat) : w.cell? ⟨g, i, none⟩ = cs[i]? := by rw [cell_of_row w g i cs.toArray t (0, 0) h]; simp
theorem Blk.frozen (h : Blk w g t cs) (i : Nat) : w.frozen? ⟨g, i, none⟩ = false := frozen_of_row w g i cs.toArray t h
theorem Blk.new (w : World) (t : TypeId) (cs : List Value) : Blk (w.alloc (.cells cs.toArray t)) w.heap.size t cs := heap_alloc_new w _
theorem Blk.keep (h : Blk w g t cs) (hk : w'.heap[g]? = w.heap[g]?) : Blk w' g t cs := hk.trans h
theorem Blk.same (h : Blk w g t cs) (hk : Same w w') : Blk w' g t cs := h.keep (by rw [hk.heap])
theorem Blk.drew (h : Blk w g t cs) : Blk w.drew g t cs := h
theorem Blk.alloc (h : Blk w g t cs) (o : Obj) : Blk (w.alloc o) g t cs := (Below.heap_alloc w o g h.lt).trans h
theorem Blk.set (h : Blk w g t cs) (i : Nat) (v : Value) : Blk (w.setCell ⟨g, i, none⟩ v) g t (cs.set i v) := by
  unfold Blk at h ⊢
  simp [World.setCell, Array.getElem?_modify, h]
theorem Blk.far (h : Blk w g t cs) {p : Addr} (hp : g ≠ p.block) (v : Value) : Blk (w.setCell p v) g t cs := (Below.heap_setCell w p v g hp).trans h
theorem Blk.below {B : Nat} (h : Blk w g t cs) (hb : Below B w w') (hg : g < B) : Blk w' g t cs := (hb.block g hg).trans h
theorem Blk.grown {row : Option Nat} (h : Blk w g t cs) (hb : w.grownBy w' row) (hg : some g ≠ row) : Blk w' g t cs := (hb.block g h.lt hg).trans h
theorem Blk.ld (h : Blk u g t cs) {ty : TypeId} (ht : tyAgg P ty = some false) (j : Nat) (hj : j < cs.length) :
    Val1 P K (Instr.loadAt ty (.pointer (some ⟨g, j, none⟩))) u f d w = K (updO f d (cs.getD j undef)) w :=
  load_one_of u f d w ht (by rw [h.cell]; simp [hj])
theorem load_agg_of {ty : TypeId} (h : tyAgg P ty = some true) {n : Nat} (hs : tySize P ty = some n) {a : Addr} {vs : List Value} (hl : vs.length = n) (hc : ∀ j v, vs[j]? = some v → u.cell? (a.add j) = some v) :
    Val1 P K (Instr.loadAt ty (.pointer (some a))) u f d w = K (updO f d (.agg vs.toArray)) w :=
  val1_of u f d w fun w' hw' => by
    unfold tyAgg at h
    unfold tySize at hs
    cases hu : P.underlying ty with
    | none => simp [hu] at h
    | some de =>
      cases hi : P.info? ty with
      | none => simp [hi] at hs
      | some ie =>
        simp only [hi, Option.map_some, Option.some.injEq] at hs
        simp only [hu, Option.map_some, Option.some.injEq] at h
        have hr := run_loadCells_list (P := P) w' a vs (fun j v hv => below_cell hw' (hc j v hv))
        cases de <;> simp at h <;> simp [Instr.loadAt, Instr.sureAddr, loadVar, isAgg, run_underlying hu, sizeOf, typeInfo, hi, hs, ← hl, hr]
/-- A whole variable of several cells. -/
theorem Blk.ldAll (h : Blk u g t cs) {ty : TypeId} (ht : tyAgg P ty = some true) (hs : tySize P ty = some cs.length) :
    Val1 P K (Instr.loadAt ty (.pointer (some ⟨g, 0, none⟩))) u f d w = K (updO f d (.agg cs.toArray)) w :=
  load_agg_of ht hs rfl fun j v hv => by rw [addr_add, Nat.zero_add, h.cell, hv]
end

section
variable {P : Program} {K : Fr → World → Prop} {f : Fr} {d : Option Nat} {w : World}
theorem eff1_of {s : Sem Value} {v : Value} {w' : World} (h : s.run P w = .ok v w') : Eff1 P K s f d w = K (updO f d v) w' :=
  propext ⟨fun ⟨v', w2, hv, hk⟩ => by rw [h] at hv; cases hv; exact hk, fun hk => ⟨v, w', h, hk⟩⟩
section
variable (ty : TypeId)
theorem e_box (t : TypeId) (o : Operand) : EffX P K (.box t o) ty f d w = Eff1 P K (Instr.box t (ev f o)) f d w := propext Iff.rfl
theorem e_alloc (t : TypeId) : EffX P K (.alloc t) ty f d w = Eff1 P K (Instr.alloc t true (.tuple #[])) f d w := propext Iff.rfl
theorem e_store (t : TypeId) (a v : Operand) : EffX P K (.store t a v) ty f d w = Eff1 P K (do Instr.storeAt t (ev f a) (ev f v); pure undef) f d w := propext Iff.rfl
theorem e_bsl0 (t : TypeId) : EffX P K (.buildSlice t 0 #[]) ty f d w = Eff1 P K (Instr.buildSlice t 0 #[]) f d w := by simp [EffX, valOf]
theorem e_bsl1 (t : TypeId) (o : Operand) : EffX P K (.buildSlice t 1 #[(0, o)]) ty f d w = Eff1 P K (Instr.buildSlice t 1 #[(0, ev f o)]) f d w := by simp [EffX, valOf]
theorem e_bsl2 (t : TypeId) (o p : Operand) : EffX P K (.buildSlice t 2 #[(0, o), (1, p)]) ty f d w = Eff1 P K (Instr.buildSlice t 2 #[(0, ev f o), (1, ev f p)]) f d w := by simp [EffX, valOf]
theorem e_bsl3 (t : TypeId) (o p q : Operand) : EffX P K (.buildSlice t 3 #[(0, o), (1, p), (2, q)]) ty f d w = Eff1 P K (Instr.buildSlice t 3 #[(0, ev f o), (1, ev f p), (2, ev f q)]) f d w := by simp [EffX, valOf]
theorem e_app (t t' : TypeId) (o p : Operand) : EffX P K (.call ⟨.builtin .append, #[o, p], #[t, t']⟩) ty f d w = Eff1 P K (Builtin.append_ #[t, t'] ty #[ev f o, ev f p]) f d w := by simp [EffX, valOf]
end
theorem box_eq (t : TypeId) (v : Value) : Eff1 P K (Instr.box t v) f d w = K (updO f d (.pointer (some ⟨w.heap.size, 0, none⟩))) (w.alloc (.cells v.cells t)) :=
  eff1_of (by simp [Instr.box, newVar, newRow])
theorem alloc_eq (t : TypeId) (z : Value) (h : (P.info? t).map (·.zero) = some (some z)) : Eff1 P K (Instr.alloc t true (.tuple #[])) f d w = K (updO f d (.pointer (some ⟨w.heap.size, 0, none⟩))) (w.alloc (.cells z.cells t)) :=
  eff1_of (by
    cases hi : P.info? t with
    | none => simp [hi] at h
    | some i =>
      simp only [hi, Option.map_some, Option.some.injEq] at h
      simp [Instr.alloc, zeroValue, typeInfo, hi, h, newVar, newRow])

theorem foldl_set (l : List Value) : ∀ (k : Nat) (acc : Array Value), k + l.length = acc.size →
    ((l.zipIdx k).foldl (fun cs (p : Value × Nat) => cs.setIfInBounds (0 + p.2) p.1) acc).toList = acc.toList.take k ++ l := by
  induction l with
  | nil => intro k acc h; simp at h; subst h; simp [List.take_of_length_le]
  | cons v l ih =>
    intro k acc h
    simp only [List.zipIdx_cons, List.foldl_cons, Nat.zero_add]
    simp only [List.length_cons] at h
    have := ih (k + 1) (acc.setIfInBounds k v) (by simp; omega)
    simp only [Nat.zero_add] at this
    rw [this]
    have hk : k < acc.toList.length := by simp; omega
    rw [Array.toList_setIfInBounds, List.take_succ_eq_append_getElem (by simpa using hk)]
    simp [List.take_set_of_le]
theorem fill_one (size : Nat) (zs : Array Value) (v : Value) (h1 : zs.size = size) (h2 : v.cells.size = size) : Instr.fill (fun i => some (i * size, size)) zs [(0, v)] = some v.cells := by
  simp only [Instr.fill, Nat.zero_mul, Nat.zero_add, h1, h2, Nat.lt_irrefl, ne_eq, not_true_eq_false, decide_false, Bool.or_self, Bool.false_eq_true, if_false, gt_iff_lt, or_self]
  congr 1
  apply Array.ext'
  have := foldl_set v.cells.toList 0 zs (by simp [h1, h2])
  simp only [Nat.zero_add, List.take_zero, List.nil_append] at this
  rw [← Array.foldl_toList]
  simpa [Array.toList_zipIdx] using this
theorem bsl1_eq {t e sz bytes : Nat} (hT : SlT P t e sz bytes) (v : Value) (hv : v.cells.size = sz) (hsz : sz ≤ 1000) :
    Eff1 P K (Instr.buildSlice t 1 #[(0, v)]) f d w = K (updO f d (.slice (some ⟨w.heap.size, 0, none⟩) 1 1)) (w.alloc (.cells v.cells e)) := by
  obtain ⟨i, z, hi, hz, hs, hb, hc⟩ := hT.get
  have hp := hT.pos
  refine eff1_of ?_
  have hf := fill_one sz ((Array.range (1 * sz)).map (z.cells[· % z.cells.size]!)) v (by simp) hv
  simp only [Nat.one_mul] at hf
  have h0 : sz ≠ 0 := by omega
  simp only [Instr.buildSlice, run_underlying hT.under, sizeOf, typeInfo, Sem.run_bind, Result.andThen_ok]
  simp [hi, hs, zeroValue, typeInfo, hz, h0, newRow, show ¬ 2 ^ 24 < sz by omega, hf]
theorem bsl0_eq {t e sz bytes : Nat} (hT : SlT P t e sz bytes) :
    Eff1 P K (Instr.buildSlice t 0 #[]) f d w = K (updO f d (.slice (some ⟨w.heap.size, 0, none⟩) 0 0)) (w.alloc (.cells #[] e)) := by
  obtain ⟨i, z, hi, hz, hs, hb, hc⟩ := hT.get
  refine eff1_of ?_
  simp [Instr.buildSlice, run_underlying hT.under, sizeOf, typeInfo, hi, Instr.fill, newRow, show (Array.range 0) = #[] from rfl]
end

/-- The cells that a slice shows. -/
structure Rd (w : World) (A : Option Addr) (xs : List Value) : Prop where
  isSome : 0 < xs.length → A.isSome = true
  cell : ∀ j v, xs[j]? = some v → w.cell? (eA A j) = some v
theorem Rd.nil (w : World) (A : Option Addr) : Rd w A [] := ⟨fun h => absurd h (by simp), fun j v h => by simp at h⟩

structure Own (B e sz : Nat) (w : World) (A : Option Addr) (c n : Nat) (xs : List Value) : Prop where
  own : w.ownsRow B e sz (.slice A n c) n xs
structure Grew (w w' : World) (A : Option Addr) : Prop where
  by_ : w.grownBy w' (A.map (·.block))
section
variable {B e sz : Nat} {w w' : World} {A : Option Addr} {c n : Nat} {xs : List Value}
theorem Own.nil (B e sz : Nat) (w : World) : Own B e sz w none 0 0 [] := ⟨World.ownsRow_nil _ _ _ _⟩
theorem Own.form (h : Own B e sz w A c n xs) : (A = none ∧ n = 0 ∧ c = 0 ∧ xs = []) ∨ ∃ g, A = some ⟨g, 0, none⟩ ∧ B ≤ g ∧ g < w.heap.size := by
  obtain ⟨hl, hh⟩ := h.own
  rcases hh with ⟨h1, h2⟩ | ⟨g, cap, cur, h1, hb, hg, _⟩
  · injection h1 with h3 h4 h5
    subst h2
    exact .inl ⟨h3, rfl, h5, List.eq_nil_of_length_eq_zero (by simpa using hl)⟩
  · injection h1 with h3 h4 h5
    exact .inr ⟨g, h3, hb, (Array.getElem?_eq_some_iff.1 hg).1⟩
theorem Own.length (h : Own B e sz w A c n xs) : xs.length = n * sz := h.own.1
theorem Own.isSome (h : Own B e sz w A c n xs) (hn : 0 < n) : A.isSome = true := by
  rcases h.form with ⟨_, h2, _⟩ | ⟨g, rfl, _⟩
  · omega
  · rfl
theorem Own.block (h : Own B e sz w A c n xs) (hn : A.isSome = true) : B ≤ (A.getD default).block ∧ (A.getD default).block < w.heap.size := by
  rcases h.form with ⟨rfl, _⟩ | ⟨g, rfl, h1, h2⟩
  · cases hn
  · exact ⟨h1, h2⟩
theorem Own.rd (h : Own B e sz w A c n xs) (_hs : 0 < sz) : Rd w A xs := by
  refine ⟨fun hl => h.isSome (by have := h.length; rcases Nat.eq_zero_or_pos n with h0 | h0; · subst h0; omega
                                 · exact h0), fun j v hv => ?_⟩
  rcases h.form with ⟨_, _, _, rfl⟩ | ⟨g, rfl, _, _⟩
  · simp at hv
  · rw [eA_zero]
    have := h.own.cells (g := g) rfl j v hv
    rwa [addr_add, Nat.zero_add] at this
theorem Own.grew (h : Own B e sz w A c n xs) {A2 : Option Addr} (hg : Grew w w' A2) (hne : A = none ∨ A.map (·.block) ≠ A2.map (·.block)) : Own B e sz w' A c n xs :=
  ⟨h.own.kept hg.by_ (by cases A <;> simp_all [Value.ownBlock])⟩
theorem Own.alloc (h : Own B e sz w A c n xs) (o : Obj) : Own B e sz (w.alloc o) A c n xs := ⟨h.own.alloc o⟩
theorem Own.same (h : Own B e sz w A c n xs) (hs : Same w w') : Own B e sz w' A c n xs := by
  obtain ⟨h1, h2⟩ := h.own
  refine ⟨h1, ?_⟩
  rcases h2 with h2 | ⟨g, cap, cur, hv, hb, hg, r⟩
  · exact .inl h2
  · exact .inr ⟨g, cap, cur, hv, hb, by rw [hs.heap]; exact hg, r⟩
theorem Own.keep (h : Own B e sz w A c n xs) (hk : ∀ g, A.map (·.block) = some g → w'.heap[g]? = w.heap[g]?) : Own B e sz w' A c n xs := by
  obtain ⟨h1, h2⟩ := h.own
  refine ⟨h1, ?_⟩
  rcases h2 with h2 | ⟨g, cap, cur, hv, hb, hg, r⟩
  · exact .inl h2
  · injection hv with h3 h4 h5
    exact .inr ⟨g, cap, cur, by rw [h3, h5], hb, by rw [hk g (by rw [h3]; rfl)]; exact hg, r⟩
theorem Own.below {B' : Nat} (h : Own B e sz w A c n xs) (hb : Below B' w w') (hB : w.heap.size ≤ B') : Own B e sz w' A c n xs :=
  h.keep fun g hg => hb.block g (by
    rcases h.form with ⟨rfl, _⟩ | ⟨g', rfl, _, h2⟩
    · cases hg
    · injection hg with hg; simp at hg; omega)
theorem Own.base {B' : Nat} (h : Own B e sz w A c n xs) (hB : B' ≤ B) : Own B' e sz w A c n xs := by
  obtain ⟨h1, h2⟩ := h.own
  refine ⟨h1, ?_⟩
  rcases h2 with h2 | ⟨g, cap, cur, hv, hb, r⟩
  · exact .inl h2
  · exact .inr ⟨g, cap, cur, hv, by omega, r⟩
theorem Own.ne_blk {g : Nat} {t : TypeId} {cs : List Value} (h : Own B e sz w A c n xs) (hg : Blk w g t cs) (hne : e ≠ t) : A.map (·.block) ≠ some g := by
  obtain ⟨_, h2⟩ := h.own
  rcases h2 with ⟨h2, _⟩ | ⟨g', cap, cur, hv, hb, hh, r⟩
  · injection h2 with h3; subst h3; simp
  · injection hv with h3
    subst h3
    simp only [Option.map_some, ne_eq, Option.some.injEq]
    rintro rfl
    unfold Blk at hg
    rw [hh] at hg
    injection hg with hg
    injection hg with _ ht
    exact hne ht
theorem Grew.below {B' : Nat} {w0 : World} (hg : Grew w w' A) (hb : Below B' w0 w) (hB : B' ≤ w.heap.size) (hA : ∀ a, A = some a → B' ≤ a.block) : Below B' w0 w' :=
  hb.grown hg.by_ hB (fun k hk => by cases A with
    | none => cases hk
    | some a => injection hk with hk; have := hA a rfl; simp at hk; omega)
theorem Own.geB (h : Own B e sz w A c n xs) : ∀ a, A = some a → B ≤ a.block := by
  rintro a rfl
  rcases h.form with ⟨h0, _⟩ | ⟨g, h0, hb, _⟩
  · cases h0
  · injection h0 with h0; subst h0; exact hb
end

section
variable {P : Program} {K : Fr → World → Prop} {f : Fr} {d : Option Nat} {w : World} {B e sz bytes t : Nat} {A A2 : Option Addr} {c n m c2 : Nat} {xs news : List Value}
theorem append_own (hT : SlT P t e sz bytes) (ty : TypeId) (h : Own B e sz w A c n xs) (hs : Rd w A2 news) (hl : news.length = m * sz) (h1 : ∀ u ∈ news, u.oneCell' = true)
    (hb : (n + m) * bytes ≤ 140737488355328) (h63 : n + m ≤ 9223372036854775807) (hB : B ≤ w.heap.size)
    (hk : ∀ A' c' w', Own B e sz w' A' c' (n + m) (xs ++ news) → Grew w w' A → (A'.map (·.block) = A.map (·.block) ∨ A'.map (·.block) = some w.heap.size) → (0 < m → A'.isSome = true) → w.heap.size ≤ w'.heap.size → K (updO f d (.slice A' (n + m) c')) w') :
    Eff1 P K (Builtin.append_ #[t, t] ty #[.slice A n c, .slice A2 m c2]) f d w := by
  obtain ⟨i, z, hi, hz, hsz, hby, hc⟩ := hT.get
  have hp := hT.pos
  have h63' : n + m ≤ maxLen := by unfold maxLen; omega
  have fin : ∀ v' w', (Builtin.append_ #[t, t] ty #[.slice A n c, .slice A2 m c2]).run P w = .ok v' w' → w'.ownsRow B e sz v' (n + m) (xs ++ news) → w.grownBy w' (Value.ownBlock (.slice A n c)) →
      (v'.ownBlock = Value.ownBlock (.slice A n c) ∨ v'.ownBlock = some w.heap.size) → Eff1 P K (Builtin.append_ #[t, t] ty #[.slice A n c, .slice A2 m c2]) f d w := by
    intro v' w' hr ho hg ha
    have hob : Value.ownBlock (.slice A n c) = A.map (·.block) := by cases A <;> rfl
    rw [hob] at hg ha
    rcases ho.2 with ⟨rfl, h0⟩ | ⟨g, cap, cur, rfl, hb2, hg2, hr2⟩
    · refine ⟨_, w', hr, ?_⟩
      have := hk none 0 w' ⟨by rw [h0]; rw [h0] at ho; exact ho⟩ ⟨hg⟩ ha (fun hm => by omega) hg.size
      rwa [h0] at this
    · exact ⟨_, w', hr, hk _ cap w' ⟨ho⟩ ⟨hg⟩ ha (fun _ => rfl) hg.size⟩
  cases hA2 : A2 with
  | some ad =>
    subst hA2
    obtain ⟨v', w', hr, ho, hg, _, ha⟩ := run_append_own_at (P := P) w B t ty e i z sz bytes hT.under hi hz hsz hby hc hp (.slice A n c) n xs h.own ad m c2 news hl (fun j u hu => hs.cell j u hu) h1 h63' hb hB
    exact fin v' w' hr ho hg ha
  | none =>
    subst hA2
    have hm : news = [] := by
      cases hn : news with
      | nil => rfl
      | cons a l => have := hs.isSome (by rw [hn]; simp); cases this
    subst hm
    have hm0 : m = 0 := by
      rcases Nat.eq_zero_or_pos m with h0 | h0
      · exact h0
      · have := Nat.mul_pos h0 hp; simp only [List.length_nil] at hl; omega
    subst hm0
    have hr : (Builtin.append_ #[t, t] ty #[.slice A n c, .slice none 0 c2]).run P w = .ok (.slice A n c) w := by
      rcases h.form with ⟨rfl, rfl, rfl, rfl⟩ | ⟨g, rfl, _, _⟩
      · simp [Builtin.append_, run_underlying hT.under, sizeOf, typeInfo, hi, Builtin.lenOf, Builtin.firstCells]
      · have hnc : n ≤ c := by
          rcases h.own.2 with ⟨h2, _⟩ | ⟨g', cap, cur, hv, hb2, hh, hnc, _⟩
          · cases h2
          · injection hv with _ _ h5; omega
        simp [Builtin.append_, run_underlying hT.under, sizeOf, typeInfo, hi, Builtin.lenOf, Builtin.firstCells, hnc, storeCells]
    exact fin _ w hr (by simpa using h.own) (World.grownBy.refl w _) (.inl rfl)
/-- A slice of several elements that has just been laid. -/
theorem rd_new (w : World) (cs : List Value) (e : TypeId) : Rd (w.alloc (.cells cs.toArray e)) (some ⟨w.heap.size, 0, none⟩) cs :=
  ⟨fun _ => rfl, fun j v hv => by rw [eA_zero, (Blk.new w e cs).cell, hv]⟩
end
attribute [push_cast] e_box e_alloc e_store e_bsl0 e_bsl1 e_bsl2 e_bsl3 e_app addr_add
end
end Go.Proofs.YtpinjiikiaakaaaDoor
