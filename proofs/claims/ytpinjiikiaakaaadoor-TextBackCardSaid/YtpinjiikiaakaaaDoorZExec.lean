/-
  A small executor over the model's code: a reading of a function's body as lists of plain instructions, a function that says what is left to be shown along them, and the theorem that this suffices for 'Calls'. No program in sight.
-/
import Derived.WalkKit
import Derived.StillTail
import Derived.OrdersHeld
import Derived.Deep.Draws
namespace Go.Proofs.YtpinjiikiaakaaaDoor
set_option linter.unusedSimpArgs false
set_option linter.unusedVariables false
set_option linter.unusedSectionVars false
open Go.RowKit

abbrev Fr := Nat → Value
def upd (f : Fr) (d : Nat) (v : Value) : Fr := fun t => if t = d then v else f t
def updO (f : Fr) (d : Option Nat) (v : Value) : Fr := match d with | some d => upd f d v | none => f
def ev (f : Fr) : Operand → Value
  | .tmp t => f t
  | .const v => v
  | .global g => .pointer (some ⟨g, 0, none⟩)
  | .func g => .func (.func g) #[] #[]

/-- How many variables a frame has; those below 'lo' are never written. -/
structure NT where
  n : Nat
  lo : Nat
instance (k : Nat) : OfNat NT k := ⟨⟨k, 0⟩⟩
/-- What is deferred, and what the variables hold that are never written. -/
structure Dx where
  ds : List Deferred
  low : Fr
structure Fits (N : NT) (ds : Dx) (a : Act) (f : Fr) : Prop where
  defers : a.defers = ds.ds
  size : a.tmps.size = N.n
  low : ∀ t, t < N.lo → f t = ds.low t
  at_ : ∀ t, a.tmps.getD t undef = f t

theorem Fits.ev {N : NT} {ds : Dx} {a : Act} {f : Fr} (h : Fits N ds a f) (x : Operand) : a.eval x = ev f x := by
  cases x <;> simp [Act.eval, Go.Proofs.YtpinjiikiaakaaaDoor.ev, h.at_]
theorem Fits.evF {N : NT} {ds : Dx} {a : Act} {f : Fr} (h : Fits N ds a f) : a.eval = Go.Proofs.YtpinjiikiaakaaaDoor.ev f := funext h.ev
theorem Fits.put {N : NT} {ds : Dx} {a : Act} {f : Fr} (h : Fits N ds a f) (d : Option Nat) (hd : ∀ k, d = some k → k < N.n ∧ N.lo ≤ k) (v : Value) : Fits N ds (a.put d v) (updO f d v) := by
  cases d with
  | none => exact h
  | some k =>
    have hk' := hd k rfl
    refine ⟨h.defers, by simp [Act.put, h.size], fun t ht => ?_, fun t => ?_⟩
    · simp only [updO, upd]
      rw [if_neg (by omega)]
      exact h.low t ht
    have hk := hk'.1
    simp only [Act.put, updO, upd]
    by_cases e : t = k
    · subst e; simp [h.size, hk]
    · rw [if_neg e, ← h.at_ t]
      simp only [Array.getD_eq_getD_getElem?, Array.getElem?_setIfInBounds]
      rw [if_neg (fun h => e h.symm)]
theorem Fits.yield {N : NT} {ds : Dx} {a : Act} {f : Fr} (h : Fits N ds a f) (ops : Array Oper) (j : Nat) :
    yielded ops a.tmps j = match (ops[j]?).bind (·.dst) with | some s => (match f s with | .bool b => some b | _ => none) | none => none := by
  unfold yielded
  cases hd : (ops[j]?).bind (·.dst) with
  | none => simp
  | some s =>
    have ha := h.at_ s
    simp only [Option.bind_some]
    cases hs : a.tmps[s]? with
    | none =>
      simp only [Array.getD_eq_getD_getElem?, hs, Option.getD_none] at ha
      rw [← ha]; simp [undef]
    | some v =>
      simp only [Array.getD_eq_getD_getElem?, hs, Option.getD_some] at ha
      rw [← ha]; cases v <;> rfl

inductive I where
  | mv (d : Option Nat) (x : Operand)
  | pick (d : Option Nat) (c a b : Operand)
  | nilc (d : Option Nat) (x : Operand)
  | val (d : Option Nat) (o : Op) (ty : TypeId)
  | eff (d : Option Nat) (o : Op) (ty : TypeId)
  | adr (d : Option Nat) (o : Op) (ty : TypeId)
  | call (d : Option Nat) (g : FuncId) (args : List Operand)
  | callv (d : Option Nat) (g : Operand) (args : List Operand)
  | pnk (o : Operand)
  | gd (s : Nat) (b : Bool) (d : Option Nat) (i : I)
  | q (i : I)
  | chk
  | qx (t : TypeId) (i : I)
  | chkx (t : TypeId)
  | rb
  | bad

/-- What an operation that hands back a value runs. -/
def valOf (ρ : Operand → Value) (ty : TypeId) : Op → Option (Sem Value)
  | .binOp op xType x y _ => some (do eqGuard op xType x y (ρ x) (ρ y); binOp op xType (ρ x) (ρ y))
  | .unOp op _ x => some (Op.unary op (ρ x))
  | .load t a => some (Instr.loadAt t (ρ a))
  | .fieldAddr s x f => some (Instr.fieldAt s (ρ x) f)
  | .field t x f => some (Instr.field t (ρ x) f)
  | .indexAddr t x ix => some (Instr.indexAt t (ρ x) (ρ ix))
  | .index t x ix => some (Instr.index t (ρ x) (ρ ix))
  | .slice t x lo hi mx => some (Instr.sliceAt t (ρ x) (lo.map ρ) (hi.map ρ) (mx.map ρ))
  | .build t parts => some (Instr.build t (parts.map fun (i, x) => (i, ρ x)))
  | .extract t ix => some (Instr.extract (ρ t) ix)
  | .makeInterface t x => some (Instr.makeInterface t (ρ x))
  | .makeFunc fn first captured => some (Instr.makeFunc fn (first.map ρ) (captured.map ρ))
  | .convert src dst x => some (convert src dst (ρ x))
  | .lookup t x ix ok => some (Instr.lookup t (ρ x) (ρ ix) ok)
  | .alloc e => some (Instr.alloc e true (.tuple #[]))
  | .box e x => some (Instr.box e (ρ x))
  | .buildSlice t len parts => some (Instr.buildSlice t len (parts.map fun (i, x) => (i, ρ x)))
  | .makeSlice t l c => some (Instr.makeSlice t (ρ l) (ρ c))
  | .makeMap t r => some (Instr.makeMap t (r.map ρ))
  | .store t a x => some (do Instr.storeAt t (ρ a) (ρ x); pure undef)
  | .mapUpdate t m k x | .insert t m k x => some (do Instr.mapUpdate t (ρ m) (ρ k) (ρ x); pure undef)
  | .call { callee := .builtin .len, args, argTypes } => some (Builtin.len_ argTypes ty (args.map ρ))
  | .call { callee := .builtin .min, args, argTypes } => some (Builtin.min_ argTypes ty (args.map ρ))
  | .call { callee := .builtin .max, args, argTypes } => some (Builtin.max_ argTypes ty (args.map ρ))
  | .call { callee := .builtin .append, args, argTypes } => some (Builtin.append_ argTypes ty (args.map ρ))
  | .call { callee := .builtin .copy, args, argTypes } => some (Builtin.copy_ argTypes ty (args.map ρ))
  | _ => none

/-- Its kind: true: it leaves every world as it is. -/
def quietOp : Op → Option Bool
  | .binOp .. | .unOp .. | .load .. | .fieldAddr .. | .field .. | .indexAddr .. | .index .. | .slice .. | .build .. | .extract .. | .makeFunc .. | .makeInterface .. | .lookup .. => some true
  | .call { callee := .builtin .len, .. } | .call { callee := .builtin .min, .. } | .call { callee := .builtin .max, .. } => some true
  | .convert .. | .alloc _ | .box .. | .buildSlice .. | .makeSlice .. | .makeMap .. | .store .. | .mapUpdate .. | .insert .. => some false
  | .call { callee := .builtin .append, .. } | .call { callee := .builtin .copy, .. } => some false
  | _ => none

def okD (N : NT) (d : Option Nat) : Bool := match d with | some k => decide (k < N.n) && decide (N.lo ≤ k) | none => true

def rawI (o : Oper) : I :=
  match o.op with
  | .move x | .assign x => .mv o.dst x
  | .pick c a b => .pick o.dst c a b
  | .nilCheck x => .nilc o.dst x
  | .call { callee := .value (.func g), args, .. } => .call o.dst g args.toList
  | .call { callee := .value g, args, .. } => .callv o.dst g args.toList
  | .panic x => .pnk x
  | op => match quietOp op with
    | some true => .val o.dst op o.type
    | some false => .eff o.dst op o.type
    | none => .bad
def cI (N : NT) (all : Array Oper) (o : Oper) : I :=
  if okD N o.dst then
    match o.guard with
    | none => rawI o
    | some (j, b) => match (all[j]?).bind (·.dst) with
      | some s => .gd s b o.dst (rawI o)
      | none => .bad
  else .bad

def I.quiet : I → Bool
  | .mv .. | .pick .. | .nilc .. | .val .. => true
  | .gd _ _ _ i => i.quiet
  | _ => false

/-- What a region that draws goes through where what acts may come up in more than one order. -/
inductive T where
  | nil
  | q (i : I) (t : T)
  | act (i : I) (t : T)
  | cut (i : I) (t : T)
  | two (a b : T)
inductive PT where
  | nil
  | q (i : Nat) (t : PT)
  | act (i : Nat) (t : PT)
  | two (a b : PT)
def PT.leaves : PT → Nat
  | .nil => 1
  | .q _ t => t.leaves
  | .act _ t => t.leaves
  | .two a b => a.leaves + b.leaves

inductive C where
  | sk
  | sq (a b : C)
  | op (l : List I)
  | dr (l : List I)
  | drt (t : T)
  | drz (l : List I)
  | cd (c : Operand) (a b : C)
  | bl (id : Nat) (c : C)
  | lo (c : C)
  | ex (id : Nat)
  | sc (c : C)
  | rt
  | rf (g : Operand) (ps : List Nat) (a b : C)
  | bad

/-- The order in which a region that draws is gone through: whatever only looks is taken as soon as it may come up; what acts is carried out where nothing else may come up. -/
def plan (ops : Array Oper) : Nat → Array Bool → Option (List (Nat × Bool))
  | 0, listed => if (Region.ready .any ops listed).isEmpty then some [] else none
  | fuel + 1, listed =>
    let rs := Region.ready .any ops listed
    match rs.find? (fun i => (rawI (ops.getD i default)).quiet && Region.free .any ops listed i) with
    | some i => (plan ops fuel (listed.setIfInBounds i true)).map ((i, true) :: ·)
    | none => match rs with
      | [i] => (plan ops fuel (listed.setIfInBounds i true)).map ((i, false) :: ·)
      | _ => none
/-- Does it hold at each step? -/
def planOk (ops : Array Oper) : List (Nat × Bool) → Array Bool → Bool
  | [], listed => (Region.ready .any ops listed).isEmpty
  | (i, true) :: l, listed => (rawI (ops.getD i default)).quiet && decide (i < ops.size) && (Region.ready .any ops listed).contains i && Region.free .any ops listed i && planOk ops l (listed.setIfInBounds i true)
  | (i, false) :: l, listed => decide (i < ops.size) && decide (Region.ready .any ops listed = [i]) && planOk ops l (listed.setIfInBounds i true)
/-- What an operation waits for; all that it waits for, at length; whether it comes up last. -/
def depsOf (ops : Array Oper) (k : Nat) : List Nat := match ops[k]? with
  | some o => (o.after.toList.filter fun e => Region.binds .any e).map (·.on)
  | none => []
def cover (ops : Array Oper) : Nat → List Nat → List Nat
  | 0, l => l
  | n + 1, l => cover ops n ((l ++ l.flatMap (depsOf ops)).eraseDups)
/-- Does it look at no memory at all? Does an operation come up at one place alone among the others (but for these)? Does it write? -/
def isPure (o : Oper) : Bool := o.guard.isNone && match o.op with | .move _ | .assign _ => true | _ => false
def cutOk (ops : Array Oper) (j : Nat) : Bool := (List.range ops.size).all fun k => k == j || isPure (ops.getD k default) || (cover ops 12 (depsOf ops j)).contains k || (cover ops 12 (depsOf ops k)).contains j
def isWrite (o : Oper) : Bool := match o.op with
  | .store .. | .mapUpdate .. | .insert .. => true
  | .call { callee := .builtin .append, .. } | .call { callee := .builtin .copy, .. } => true
  | _ => false
def isCut (ops : Array Oper) (j : Nat) : Bool := isWrite (ops.getD j default) && cutOk ops j
/-- Does it tell an address, or that one is there: from no memory? -/
def isAddr (o : Oper) : Bool := o.guard.isNone && match o.op with | .fieldAddr .. | .indexAddr .. => true | _ => false
def isNilc (o : Oper) : Bool := o.guard.isNone && match o.op with | .nilCheck _ => true | _ => false
def isPure2 (o : Oper) : Bool := isPure o || (isAddr o || isNilc o)
def cutOk2 (ops : Array Oper) (j : Nat) : Bool := (List.range ops.size).all fun k => k == j || isPure2 (ops.getD k default) || (cover ops 12 (depsOf ops j)).contains k || (cover ops 12 (depsOf ops k)).contains j
def isCallV (o : Oper) : Bool := match o.op with | .call { callee := .value _, .. } => true | _ => false
/-- A call behind which nothing comes up any more. -/
def lastOk (ops : Array Oper) (j : Nat) : Bool := isCallV (ops.getD j default) && (List.range ops.size).all fun k => k == j || (cover ops 12 (depsOf ops j)).contains k
def isCut2 (ops : Array Oper) (j : Nat) : Bool := (isWrite (ops.getD j default) || lastOk ops j) && cutOk2 ops j
def adrI (N : NT) (ops : Array Oper) (o : Oper) : I := if okD N o.dst && isAddr o then .adr o.dst o.op o.type else .q (cI N ops o)
def planIz (N : NT) (ops : Array Oper) : List (Nat × Bool) → List I
  | [] => []
  | (i, true) :: l => adrI N ops (ops.getD i default) :: planIz N ops l
  | (i, false) :: l => cI N ops (ops.getD i default) :: planIz N ops l
/-- Arithmetic looks at no memory. -/
def isArith (o : Oper) : Bool := o.guard.isNone && match o.op with
  | .binOp op _ _ _ _ => op == .add || op == .sub
  | _ => false
def isPureW (o : Oper) : Bool := isPure2 o || isArith o
def cutOkW (ops : Array Oper) (j : Nat) : Bool := (List.range ops.size).all fun k => k == j || isPureW (ops.getD k default) || (cover ops 12 (depsOf ops j)).contains k || (cover ops 12 (depsOf ops k)).contains j
def isCutW (ops : Array Oper) (j : Nat) : Bool := (isWrite (ops.getD j default) || lastOk ops j) && cutOkW ops j
def adrW (N : NT) (ops : Array Oper) (o : Oper) : I := if okD N o.dst && (isAddr o || isArith o) then .adr o.dst o.op o.type else .q (cI N ops o)
/-- .. where what comes up at one place alone may change what holds. -/
def planIw (N : NT) (ops : Array Oper) : List (Nat × Bool) → List I
  | [] => []
  | (i, true) :: l => adrW N ops (ops.getD i default) :: planIw N ops l
  | (i, false) :: l => if isCutW ops i then .rb :: cI N ops (ops.getD i default) :: planIw N ops l else cI N ops (ops.getD i default) :: planIw N ops l
/-- A plan, carried out: behind what writes and comes up at one place alone, what looks looks anew. -/
def planIc (N : NT) (ops : Array Oper) : List (Nat × Bool) → List I
  | [] => []
  | (i, true) :: l => adrI N ops (ops.getD i default) :: planIc N ops l
  | (i, false) :: l => cI N ops (ops.getD i default) :: (if isCut2 ops i then .rb else .chk) :: planIc N ops l
def planCut (ops : Array Oper) (l : List (Nat × Bool)) : Bool := l.all fun p => !p.2 || !isCut ops p.1
def storesCut (ops : Array Oper) : Bool := (List.range ops.size).all fun i => match (ops.getD i default).op with | .store .. => isCut ops i | _ => true
def storesCut2 (ops : Array Oper) : Bool := (List.range ops.size).all fun i => match (ops.getD i default).op with | .store .. => isCutW ops i | _ => quietOp (ops.getD i default).op == some true || isPure (ops.getD i default) || isNilc (ops.getD i default)
def planT (ops : Array Oper) : Nat → Array Bool → Option PT
  | 0, listed => if (Region.ready .any ops listed).isEmpty then some .nil else none
  | fuel + 1, listed =>
    let rs := Region.ready .any ops listed
    match rs.find? (fun i => (rawI (ops.getD i default)).quiet && Region.free .any ops listed i) with
    | some i => (planT ops fuel (listed.setIfInBounds i true)).map (.q i)
    | none =>
      let one := fun i => (planT ops fuel (listed.setIfInBounds i true)).map (PT.act i)
      match rs.getLast? with
      | none => none
      | some z => rs.dropLast.foldr (fun i acc => match one i, acc with | some a, some b => some (.two a b) | _, _ => none) (one z)
def ptOk (ops : Array Oper) : PT → Nat → Option (List Nat) → Array Bool → Bool
  | .nil, _, none, listed => (Region.ready .any ops listed).isEmpty
  | .q i t, n + 1, none, listed => (rawI (ops.getD i default)).quiet && decide (i < ops.size) && (Region.ready .any ops listed).contains i && Region.free .any ops listed i && ptOk ops t n none (listed.setIfInBounds i true)
  | .act i t, n + 1, none, listed => decide (i < ops.size) && decide (Region.ready .any ops listed = [i]) && ptOk ops t n none (listed.setIfInBounds i true)
  | .act i t, n + 1, some rs, listed => decide (i < ops.size) && decide (rs = [i]) && ptOk ops t n none (listed.setIfInBounds i true)
  | .two a b, n + 1, none, listed => match Region.ready .any ops listed with
    | i :: rs => ptOk ops a (n + 1) (some [i]) listed && ptOk ops b (n + 1) (some rs) listed
    | [] => false
  | .two a b, n + 1, some rs, listed => match rs with
    | i :: rs' => ptOk ops a (n + 1) (some [i]) listed && ptOk ops b (n + 1) (some rs') listed
    | [] => false
  | _, _, _, _ => false
def lowT (N : NT) (ops : Array Oper) : PT → T
  | .nil => .nil
  | .q i t => .q (cI N ops (ops.getD i default)) (lowT N ops t)
  | .act i t => if isCut ops i then .cut (cI N ops (ops.getD i default)) (lowT N ops t) else .act (cI N ops (ops.getD i default)) (lowT N ops t)
  | .two a b => .two (lowT N ops a) (lowT N ops b)
def cTree (N : NT) (ops : Array Oper) : C :=
  match planT ops ops.size (Array.replicate ops.size false) with
  | some t => if Region.noSelect ops && (ptOk ops t ops.size none (Array.replicate ops.size false) && decide (t.leaves ≤ 24)) then .drt (lowT N ops t) else .bad
  | none => .bad
/-- A call with a variable, beside a look by way of it, in an order that is left open: whatever looks at memory is then taken as an act. -/
def defBy (ops : Array Oper) (x : Operand) : Option Oper := match x with
  | .tmp s => ops.toList.find? (fun o => o.dst == some s)
  | _ => none
def rootOf (ops : Array Oper) : Nat → Operand → Option Nat
  | 0, _ => none
  | n + 1, x => match defBy ops x with
    | some o => match o.op with
      | .move (.tmp s) | .assign (.tmp s) => some s
      | .nilCheck y => rootOf ops n y
      | .fieldAddr _ y _ => rootOf ops n y
      | .indexAddr _ y _ => rootOf ops n y
      | _ => none
    | none => none
def sharesPtr (ops : Array Oper) : Bool := (List.range ops.size).any fun c => match (ops.getD c default).op with
  | .call { callee := .value (.func _), args, .. } => match (args[0]?).bind (rootOf ops 6) with
    | some s => (List.range ops.size).any fun l => match (ops.getD l default).op with
      | .load _ a => (rootOf ops 6 a == some s) && !(cover ops 12 (depsOf ops c)).contains l && !(cover ops 12 (depsOf ops l)).contains c
      | _ => false
    | none => false
  | _ => false
def isBld (o : Oper) : Bool := o.guard.isNone && match o.op with | .build .. => true | _ => false
def isPure3 (o : Oper) : Bool := isPure2 o || isBld o
def adrT (N : NT) (ops : Array Oper) (o : Oper) : I := if okD N o.dst && (isAddr o || isBld o) then .adr o.dst o.op o.type else cI N ops o
def planTP (ops : Array Oper) : Nat → Array Bool → Option PT
  | 0, listed => if (Region.ready .any ops listed).isEmpty then some .nil else none
  | fuel + 1, listed =>
    let rs := Region.ready .any ops listed
    match rs.find? (fun i => isPure3 (ops.getD i default) && Region.free .any ops listed i) with
    | some i => (planTP ops fuel (listed.setIfInBounds i true)).map (.q i)
    | none =>
      let one := fun i => (planTP ops fuel (listed.setIfInBounds i true)).map (PT.act i)
      match rs.getLast? with
      | none => none
      | some z => rs.dropLast.foldr (fun i acc => match one i, acc with | some a, some b => some (.two a b) | _, _ => none) (one z)
def ptOkP (ops : Array Oper) : PT → Nat → Option (List Nat) → Array Bool → Bool
  | .nil, _, none, listed => (Region.ready .any ops listed).isEmpty
  | .q i t, n + 1, none, listed => isPure3 (ops.getD i default) && decide (i < ops.size) && (Region.ready .any ops listed).contains i && Region.free .any ops listed i && ptOkP ops t n none (listed.setIfInBounds i true)
  | .act i t, n + 1, none, listed => decide (i < ops.size) && decide (Region.ready .any ops listed = [i]) && ptOkP ops t n none (listed.setIfInBounds i true)
  | .act i t, n + 1, some rs, listed => decide (i < ops.size) && decide (rs = [i]) && ptOkP ops t n none (listed.setIfInBounds i true)
  | .two a b, n + 1, none, listed => match Region.ready .any ops listed with
    | i :: rs => ptOkP ops a (n + 1) (some [i]) listed && ptOkP ops b (n + 1) (some rs) listed
    | [] => false
  | .two a b, n + 1, some rs, listed => match rs with
    | i :: rs' => ptOkP ops a (n + 1) (some [i]) listed && ptOkP ops b (n + 1) (some rs') listed
    | [] => false
  | _, _, _, _ => false
def lowTP (N : NT) (ops : Array Oper) : PT → T
  | .nil => .nil
  | .q i t => .q (adrT N ops (ops.getD i default)) (lowTP N ops t)
  | .act i t => .cut (cI N ops (ops.getD i default)) (lowTP N ops t)
  | .two a b => .two (lowTP N ops a) (lowTP N ops b)
def cTreeP (N : NT) (ops : Array Oper) : C :=
  match planTP ops ops.size (Array.replicate ops.size false) with
  | some t => if Region.noSelect ops && (ptOkP ops t ops.size none (Array.replicate ops.size false) && decide (t.leaves ≤ 24)) then .drt (lowTP N ops t) else .bad
  | none => .bad
def headLen (ops : List Oper) : Nat := (ops.takeWhile fun o => (rawI o).quiet).length
/-- An append to a row that lies in a row, where other looks may come up behind it: the type of such rows. -/
def oddOf (ops : Array Oper) : Option TypeId :=
  let at_ := fun (x : Operand) => match x with | .tmp s => ops.toList.find? (fun o => o.dst == some s) | _ => none
  (List.range ops.size).findSome? fun j => match (ops.getD j default).op with
    | .call { callee := .builtin .append, args, argTypes } => if isCut2 ops j then none else match (args[0]?).bind at_ with
      | some o => match o.op with
        | .load _ x => match at_ x with
          | some o2 => match o2.op with
            | .indexAddr _ _ _ => argTypes[0]?
            | _ => none
          | none => none
        | _ => none
      | none => none
    | _ => none
def planIx (N : NT) (t : TypeId) (ops : Array Oper) : List (Nat × Bool) → List I
  | [] => []
  | (i, true) :: l => (if okD N (ops.getD i default).dst && isAddr (ops.getD i default) then .adr (ops.getD i default).dst (ops.getD i default).op (ops.getD i default).type else .qx t (cI N ops (ops.getD i default))) :: planIx N t ops l
  | (i, false) :: l => cI N ops (ops.getD i default) :: (if isCut2 ops i then .rb else .chkx t) :: planIx N t ops l
def planD (N : NT) (ops : Array Oper) (l : List (Nat × Bool)) : C := match oddOf ops with
  | some t => .dr (planIx N t ops l)
  | none => .dr (planIc N ops l)
/-- A plan for an invariant that the prover chooses. -/
def cZ (N : NT) (ops : Array Oper) : C :=
  match plan ops ops.size (Array.replicate ops.size false) with
  | some l => if Region.noSelect ops && (planOk ops l (Array.replicate ops.size false) && decide (l.length = ops.size)) then .drz (planIw N ops l) else .bad
  | none => .bad
def cDraw (N : NT) (ops : Array Oper) : C :=
  if sharesPtr ops then (match cTreeP N ops with | .drt t => .drt t | _ => cZ N ops) else
  let n := headLen ops.toList
  if n = ops.size && Region.lexB .any ops then .dr (ops.toList.map fun o => .q (cI N ops o))
  else if Region.lexTailB .any ops n then .dr (((ops.toList.take n).map fun o => .q (cI N ops o)) ++ (ops.toList.drop n).map (cI N ops))
  else match plan ops ops.size (Array.replicate ops.size false) with
    | some l => if Region.noSelect ops && (planOk ops l (Array.replicate ops.size false) && decide (l.length = ops.size)) && planCut ops l then (if storesCut ops then planD N ops l else if storesCut2 ops then .drz (planIw N ops l) else .drz (planIz N ops l)) else .bad
    | none => cTree N ops

/-- A region that draws, within a round. -/
def noDefer (ops : Array Oper) : Bool := ops.toList.all fun o => match o.op with | .defer _ => false | _ => true
def cDrawI (N : NT) (ops : Array Oper) : C :=
  let n := headLen ops.toList
  if n = ops.size && Region.lexB .any ops && noDefer ops then .dr (ops.toList.map fun o => .q (cI N ops o))
  else if Region.lexTailB .any ops n && noDefer ops then .dr (((ops.toList.take n).map fun o => .q (cI N ops o)) ++ (ops.toList.drop n).map (cI N ops))
  else if noDefer ops then cTreeP N ops else .bad
/-- Code within a round of a range over a function. -/
def cI' (N : NT) : Code → C
  | .skip => .sk
  | .label _ => .sk
  | .seq a b => .sq (cI' N a) (cI' N b)
  | .region _ ops false => .op (ops.toList.map (cI N ops))
  | .region _ ops true => cDrawI N ops
  | .cond c a b => .cd c (cI' N a) (cI' N b)
  | .block id c => .bl id (cI' N c)
  | .loop c => .lo (cI' N c)
  | .exit id => .ex id
  | .ret => .rt
  | _ => .bad
def cC (N : NT) : Code → C
  | .skip => .sk
  | .label _ => .sk
  | .seq a b => .sq (cC N a) (cC N b)
  | .region _ ops false => .op (ops.toList.map (cI N ops))
  | .region _ ops true => cDraw N ops
  | .cond c a b => .cd c (cC N a) (cC N b)
  | .block id c => .bl id (cC N c)
  | .loop c => .lo (cC N c)
  | .exit id => .ex id
  | .scope c => .sc (cC N c)
  | .ret => .rt
  | .rangeFunc g ps a b => if ps.toList.all (fun t => okD N (some t)) then .rf g ps.toList (cI' N a) (cI' N b) else .bad
  | _ => .bad

section
variable (P : Program)

def callOk (g : FuncId) : Bool := match P.funcs[g]? with
  | some fn => !(fn.name == "runtime.NumGoroutine") && fn.body.isSome
  | none => false

def Val1 (K : Fr → World → Prop) (s : Sem Value) (u : World) (f : Fr) (d : Option Nat) (w : World) : Prop :=
  ∃ v, (∀ w', Below u.heap.size u w' → s.run P w' = .ok v w') ∧ K (updO f d v) w
def ValX (K : Fr → World → Prop) (o : Op) (ty : TypeId) (u : World) (f : Fr) (d : Option Nat) (w : World) : Prop :=
  match valOf (ev f) ty o with
  | some s => Val1 P K s u f d w
  | none => False
def Eff1 (K : Fr → World → Prop) (s : Sem Value) (f : Fr) (d : Option Nat) (w : World) : Prop :=
  ∃ v w', s.run P w = .ok v w' ∧ K (updO f d v) w'
def EffX (K : Fr → World → Prop) (o : Op) (ty : TypeId) (f : Fr) (d : Option Nat) (w : World) : Prop :=
  match valOf (ev f) ty o with
  | some s => Eff1 P K s f d w
  | none => False
/-- All blocks that lay in 'u' lie on, but rows of the type t. -/
structure BelowE (t : TypeId) (u w : World) : Prop where
  size : u.heap.size ≤ w.heap.size
  block : ∀ k, k < u.heap.size → (∀ e cs r, P.underlying t = some (.slice e) → u.heap[k]? ≠ some (.cells cs e r)) → w.heap[k]? = u.heap[k]?
def ValE (K : Fr → World → Prop) (t : TypeId) (s : Sem Value) (u : World) (f : Fr) (d : Option Nat) (w : World) : Prop :=
  ∃ v, (∀ w', BelowE P t u w' → s.run P w' = .ok v w') ∧ K (updO f d v) w
def ValXE (K : Fr → World → Prop) (t : TypeId) (o : Op) (ty : TypeId) (u : World) (f : Fr) (d : Option Nat) (w : World) : Prop :=
  match valOf (ev f) ty o with
  | some s => ValE P K t s u f d w
  | none => False
/-- What holds in all worlds of which S is so. -/
def ValS (K : Fr → World → Prop) (S : World → Prop) (s : Sem Value) (f : Fr) (d : Option Nat) (w : World) : Prop :=
  ∃ v, (∀ w', S w' → s.run P w' = .ok v w') ∧ K (updO f d v) w
def ValXS (K : Fr → World → Prop) (S : World → Prop) (o : Op) (ty : TypeId) (f : Fr) (d : Option Nat) (w : World) : Prop :=
  match valOf (ev f) ty o with
  | some s => ValS P K S s f d w
  | none => False
def AdrX (K : Fr → World → Prop) (o : Op) (ty : TypeId) (f : Fr) (d : Option Nat) (w : World) : Prop :=
  match valOf (ev f) ty o with
  | some s => ∃ v, (∀ w', s.run P w' = .ok v w') ∧ K (updO f d v) w
  | none => False
def PickX (K : Fr → World → Prop) (v va vb : Value) (f : Fr) (d : Option Nat) (w : World) : Prop :=
  ∃ t, v = .bool t ∧ K (updO f d (if t then va else vb)) w
def NilX (K : Fr → World → Prop) (v : Value) (f : Fr) (d : Option Nat) (w : World) : Prop :=
  ((∃ a, v = .pointer (some a)) ∨ ∃ g p q, v = .func (.func g) p q) ∧ K (updO f d v) w
def CallX (pn : List PanicEntry → World → Prop) (K : Fr → World → Prop) (g : FuncId) (args : List Value) (f : Fr) (d : Option Nat) (w : World) : Prop :=
  callOk P g = true ∧ Calls P g args.toArray w fun e w' => (∃ v, e = .returned v ∧ K (updO f d v) w') ∨ ∃ ch, e = .panicked ch ∧ pn ch w'
def CallVX (pn : List PanicEntry → World → Prop) (K : Fr → World → Prop) (g : Value) (args : List Value) (f : Fr) (d : Option Nat) (w : World) : Prop :=
  ∃ h first cap, g = .func (.func h) first cap ∧ CallX P pn K h (first.toList ++ args ++ cap.toList) f d w

def PnkX (pn : List PanicEntry → World → Prop) (v : Value) (w : World) : Prop := (∃ t y, v = .iface t y) ∧ pn [{ v, recovered := false }] w

def stepI (pn : List PanicEntry → World → Prop) (K : Fr → World → Prop) : I → World → Fr → World → Prop
  | .mv d o, _, f, w => K (updO f d (ev f o)) w
  | .pick d c a b, _, f, w => PickX K (ev f c) (ev f a) (ev f b) f d w
  | .nilc d o, _, f, w => NilX K (ev f o) f d w
  | .val d o ty, u, f, w => ValX P K o ty u f d w
  | .eff d o ty, _, f, w => EffX P K o ty f d w
  | .adr d o ty, _, f, w => AdrX P K o ty f d w
  | .call d g args, _, f, w => CallX P pn K g (args.map (ev f)) f d w
  | .callv d g args, _, f, w => CallVX P pn K (ev f g) (args.map (ev f)) f d w
  | .pnk o, _, f, w => PnkX pn (ev f o) w
  | .gd s b d i, u, f, w => match f s with
    | .bool t => if t = b then stepI pn K i u f w else K (updO f d undef) w
    | _ => K (updO f d undef) w
  | .q _, _, _, _ => False
  | .chk, _, _, _ => False
  | .qx _ _, _, _, _ => False
  | .chkx _, _, _, _ => False
  | .rb, _, _, _ => False
  | .bad, _, _, _ => False
def stepE (K : Fr → World → Prop) (t : TypeId) : I → World → Fr → World → Prop
  | .mv d o, _, f, w => K (updO f d (ev f o)) w
  | .pick d c a b, _, f, w => PickX K (ev f c) (ev f a) (ev f b) f d w
  | .nilc d o, _, f, w => NilX K (ev f o) f d w
  | .val d o ty, u, f, w => ValXE P K t o ty u f d w
  | _, _, _, _ => False
def stepS (K : Fr → World → Prop) (S : World → Prop) : I → Fr → World → Prop
  | .mv d o, f, w => K (updO f d (ev f o)) w
  | .pick d c a b, f, w => PickX K (ev f c) (ev f a) (ev f b) f d w
  | .nilc d o, f, w => NilX K (ev f o) f d w
  | .val d o ty, f, w => ValXS P K S o ty f d w
  | _, _, _ => False
/-- A planned region, where of all worlds in between S is so. -/
def xs (pn : List PanicEntry → World → Prop) : (World → Prop) → (Fr → World → Prop) → List I → Fr → World → Prop
  | _, K, [], f, w => K f w
  | S, K, .q i :: l, f, w => stepS P (xs pn S K l) S i f w
  | S, K, .adr d o ty :: l, f, w => AdrX P (xs pn S K l) o ty f d w
  | _, K, .rb :: i :: l, f, w => stepI P pn (fun f' w' => ∃ S' : World → Prop, S' w' ∧ xs pn S' K l f' w') i w f w
  | S, K, i :: l, f, w => stepI P pn (fun f' w' => S w' ∧ xs pn S K l f' w') i w f w
def guardX (pn : List PanicEntry → World → Prop) (K : Fr → World → Prop) (v : Value) (b : Bool) (d : Option Nat) (i : I) (u : World) (f : Fr) (w : World) : Prop :=
  match v with
  | .bool t => if t = b then stepI P pn K i u f w else K (updO f d undef) w
  | _ => K (updO f d undef) w
/-- What is to be shown where a function returns, and where it panics. -/
structure Rx where
  ret : Fr → World → Prop
  pan : List PanicEntry → World → Prop
instance : Coe (Fr → World → Prop) Rx := ⟨fun r => ⟨r, fun _ _ => False⟩⟩
inductive It where
  | c (c : C)
  | bl (id : Nat)
  | lp (J : Fr → World → Prop)
  | sc
  | t (b : World) (t : T)
  | tn (t : T)
def popTo (id : Nat) : List It → Option (List It)
  | [] => none
  | .bl j :: k => if id = j then some k else popTo id k
  | _ :: k => popTo id k
def LoopX (X : List I → List It → World → Fr → World → Prop) (c : C) (k : List It) (f : Fr) (w : World) : Prop :=
  ∃ (I : Fr → World → Prop) (μ : Fr → World → Nat), I f w ∧ ∀ f w, I f w → X [] (.c c :: .lp (fun f' w' => I f' w' ∧ μ f' w' < μ f w) :: k) w f w
def CondX (K1 K2 : Fr → World → Prop) (v : Value) (f : Fr) (w : World) : Prop :=
  ∃ t, v = .bool t ∧ if t then K1 f w else K2 f w
def x (R : Rx) : Nat → List I → List It → World → Fr → World → Prop
  | 0, _, _, _, _, _ => False
  | _ + 1, [], [], _, f, w => R.ret f w
  | n + 1, [], .bl _ :: k, _, f, w => x R n [] k w f w
  | n + 1, [], .sc :: k, _, f, w => x R n [] k w f w
  | _ + 1, [], .lp J :: _, _, f, w => J f w
  | n + 1, [], .t b0 t :: k, _, f, w => match t with
    | .nil => x R n [] k w f w
    | .q i t => x R n [.q i] (.t b0 t :: k) b0 f w
    | .act i t => x R n [i, .chk] (.t b0 t :: k) b0 f w
    | .cut i t => x R n [i] (.tn t :: k) b0 f w
    | .two t u => x R n [] (.t b0 t :: k) b0 f w ∧ x R n [] (.t b0 u :: k) b0 f w
  | n + 1, [], .tn t :: k, _, f, w => x R n [] (.t w t :: k) w f w
  | n + 1, [], .c c :: k, _, f, w => match c with
    | .sk => x R n [] k w f w
    | .sq a b => x R n [] (.c a :: .c b :: k) w f w
    | .op l => x R n l k w f w
    | .dr l => x R n l k w.drew f w.drew
    | .drt t => x R n [] (.t w.drew t :: k) w.drew f w.drew
    | .drz l => ∃ S : World → Prop, S w.drew ∧ xs P R.pan S (fun f' w' => x R n [] k w' f' w') l f w.drew
    | .cd c a b => CondX (x R n [] (.c a :: k) w) (x R n [] (.c b :: k) w) (ev f c) f w
    | .bl id c => x R n [] (.c c :: .bl id :: k) w f w
    | .lo c => LoopX (x R n) c k f w
    | .ex id => match popTo id k with
      | some k' => x R n [] k' w f w
      | none => False
    | .sc c => x R n [] (.c c :: .sc :: k) w f w
    | .rt => R.ret f w
    | .rf _ _ _ _ => False
    | .bad => False
  | n + 1, .q i :: l, k, b, f, w => stepI P R.pan (x R n l k b) i b f w
  | n + 1, .chk :: l, k, b, f, w => Below b.heap.size b w ∧ x R n l k b f w
  | n + 1, .qx t i :: l, k, b, f, w => stepE P (x R n l k b) t i b f w
  | n + 1, .chkx t :: l, k, b, f, w => BelowE P t b w ∧ x R n l k b f w
  | n + 1, .rb :: l, k, _, f, w => x R n l k w f w
  | n + 1, i :: l, k, b, f, w => stepI P R.pan (x R n l k b) i w f w
end
end Go.Proofs.YtpinjiikiaakaaaDoor
