/- A part of the proof. -/
import Derived.WalkKit
import Derived.StillTail
import Derived.OrdersHeld
import Derived.Deep.Draws
namespace Go.Proofs.YtcefeihlkpmejaaGreatDoor
set_option linter.unusedSimpArgs false
set_option linter.unusedVariables false
set_option linter.unusedSectionVars false
open Go.RowKit
abbrev Fr:=Nat→Value
def UQ(f:Fr)(d:Nat)(v:Value):Fr:=fun t=>if t=d then v else f t
def ai(f:Fr)(d:Option Nat)(v:Value):Fr:=match d with|some d=>UQ f d v|none=>f
def ev(f:Fr):Operand→Value
 | .tmp t=>f t
 | .const v=>v
 | .global g=>.pointer (some ⟨g,0,none⟩)
 | .func g=>.func (.func g) #[] #[]
structure NT where
 n:Nat
 lo:Nat
instance (k:Nat):OfNat NT k:=⟨⟨k,0⟩⟩
structure Dx where
 ds:List Deferred
 low:Fr
structure Fits(N:NT)(ds:Dx)(a:Act)(f:Fr):Prop where
 defers:a.defers=ds.ds
 size:a.tmps.size=N.n
 low:∀t,t<N.lo→f t=ds.low t
 at_:∀t,a.tmps.getD t undef=f t
theorem Fits.ev{N:NT}{ds:Dx}{a:Act}{f:Fr}(h:Fits N ds a f)(x:Operand):a.eval x=ev f x:=by
 cases x<;>simp[Act.eval,Go.Proofs.YtcefeihlkpmejaaGreatDoor.ev,h.at_]
theorem Fits.MA{N:NT}{ds:Dx}{a:Act}{f:Fr}(h:Fits N ds a f):a.eval=Go.Proofs.YtcefeihlkpmejaaGreatDoor.ev f:=funext h.ev
theorem Fits.put{N:NT}{ds:Dx}{a:Act}{f:Fr}(h:Fits N ds a f)(d:Option Nat)(hd:∀k,d=some k→k<N.n∧N.lo≤k)(v:Value):Fits N ds (a.put d v) (ai f d v):=by
 cases d with
 |none=>exact h
 |some k=>
  have om:=hd k rfl
  refine⟨h.defers,by simp[Act.put,h.size],fun t ht=>?_,fun t=>?_⟩
  ·simp only[ai,UQ]
   rw[if_neg (by omega)]
   exact h.low t ht
  have hk:=om.1
  simp only[Act.put,ai,UQ]
  by_cases e:t=k
  ·subst e;simp[h.size,hk]
  ·rw[if_neg e,←h.at_ t]
   simp only[Array.getD_eq_getD_getElem?,Array.getElem?_setIfInBounds]
   rw[if_neg (fun h=>e h.symm)]
theorem Fits.yield{N:NT}{ds:Dx}{a:Act}{f:Fr}(h:Fits N ds a f)(ops:Array Oper)(j:Nat):
  yielded ops a.tmps j=match(ops[j]?).bind (·.dst)with|some s=>(match f s with| .bool b=>some b|_=>none)|none=>none:=by
 unfold yielded
 cases hd:(ops[j]?).bind (·.dst)with
 |none=>simp
 |some s=>
  have ha:=h.at_ s
  simp only[Option.bind_some]
  cases hs:a.tmps[s]?with
  |none=>
   simp only[Array.getD_eq_getD_getElem?,hs,Option.getD_none]at ha
   rw[←ha];simp[undef]
  |some v=>
   simp only[Array.getD_eq_getD_getElem?,hs,Option.getD_some]at ha
   rw[←ha];cases v<;>rfl
inductive I where
 |mv (d:Option Nat) (x:Operand)
 |pick (d:Option Nat) (c a b:Operand)
 |aZ (d:Option Nat) (x:Operand)
 |val (d:Option Nat) (o:Op) (ty:TypeId)
 |aG (d:Option Nat) (o:Op) (ty:TypeId)
 |bF (d:Option Nat) (o:Op) (ty:TypeId)
 |call (d:Option Nat) (g:FuncId) (args:List Operand)
 |ep (d:Option Nat) (g:Operand) (args:List Operand)
 |Cm (o:Operand)
 |gd (s:Nat) (b:Bool) (d:Option Nat) (i:I)
 |q (i:I)
 |eI
 |qx (t:TypeId) (i:I)
 |lr (t:TypeId)
 |rb
 |bad
def valOf(ρ:Operand→Value)(ty:TypeId):Op→Option (Sem Value)
 | .binOp op UR x y _=>some (do eqGuard op UR x y (ρ x) (ρ y);binOp op UR (ρ x) (ρ y))
 | .unOp op _ x=>some (Op.unary op (ρ x))
 | .load t a=>some (Instr.loadAt t (ρ a))
 | .fieldAddr s x f=>some (Instr.fieldAt s (ρ x) f)
 | .field t x f=>some (Instr.field t (ρ x) f)
 | .indexAddr t x ix=>some (Instr.indexAt t (ρ x) (ρ ix))
 | .index t x ix=>some (Instr.index t (ρ x) (ρ ix))
 | .slice t x lo hi mx=>some (Instr.sliceAt t (ρ x) (lo.map ρ) (hi.map ρ) (mx.map ρ))
 | .build t parts=>some (Instr.build t (parts.map fun(i,x)=>(i,ρ x)))
 | .extract t ix=>some (Instr.extract (ρ t) ix)
 | .makeInterface t x=>some (Instr.makeInterface t (ρ x))
 | .makeFunc fn first captured=>some (Instr.makeFunc fn (first.map ρ) (captured.map ρ))
 | .convert src dst x=>some (convert src dst (ρ x))
 | .lookup t x ix ok=>some (Instr.lookup t (ρ x) (ρ ix) ok)
 | .alloc e=>some (Instr.alloc e true (.tuple #[]))
 | .box e x=>some (Instr.box e (ρ x))
 | .buildSlice t len parts=>some (Instr.buildSlice t len (parts.map fun(i,x)=>(i,ρ x)))
 | .makeSlice t l c=>some (Instr.makeSlice t (ρ l) (ρ c))
 | .makeMap t r=>some (Instr.makeMap t (r.map ρ))
 | .store t a x=>some (do Instr.storeAt t (ρ a) (ρ x);pure undef)
 | .mapUpdate t m k x| .insert t m k x=>some (do Instr.mapUpdate t (ρ m) (ρ k) (ρ x);pure undef)
 | .call {callee:= .builtin .len,args,argTypes}=>some (Builtin.len_ argTypes ty (args.map ρ))
 | .call {callee:= .builtin .min,args,argTypes}=>some (Builtin.min_ argTypes ty (args.map ρ))
 | .call {callee:= .builtin .max,args,argTypes}=>some (Builtin.max_ argTypes ty (args.map ρ))
 | .call {callee:= .builtin .append,args,argTypes}=>some (Builtin.append_ argTypes ty (args.map ρ))
 | .call {callee:= .builtin .copy,args,argTypes}=>some (Builtin.copy_ argTypes ty (args.map ρ))
 |_=>none
def bD:Op→Option Bool
 | .binOp .. | .unOp .. | .load .. | .fieldAddr .. | .field .. | .indexAddr .. | .index .. | .slice .. | .build .. | .extract .. | .makeFunc .. | .makeInterface .. | .lookup .. =>some true
 | .call {callee:= .builtin .len,..}| .call {callee:= .builtin .min,..}| .call {callee:= .builtin .max,..}=>some true
 | .convert .. | .alloc _| .box .. | .buildSlice .. | .makeSlice .. | .makeMap .. | .store .. | .mapUpdate .. | .insert .. =>some false
 | .call {callee:= .builtin .append,..}| .call {callee:= .builtin .copy,..}=>some false
 |_=>none
def uf(N:NT)(d:Option Nat):Bool:=match d with|some k=>decide (k<N.n)&&decide (N.lo≤k)|none=>true
def dK(o:Oper):I:=
 match o.op with
 | .move x| .assign x=>.mv o.dst x
 | .pick c a b=>.pick o.dst c a b
 | .nilCheck x=>.aZ o.dst x
 | .call {callee:= .value (.func g),args,..}=>.call o.dst g args.toList
 | .call {callee:= .value g,args,..}=>.ep o.dst g args.toList
 | .panic x=>.Cm x
 |op=>match bD op with
  |some true=>.val o.dst op o.type
  |some false=>.aG o.dst op o.type
  |none=>.bad
def cI(N:NT)(all:Array Oper)(o:Oper):I:=
 if uf N o.dst then
  match o.guard with
  |none=>dK o
  |some (j,b)=>match(all[j]?).bind (·.dst)with
   |some s=>.gd s b o.dst (dK o)
   |none=>.bad
 else .bad
def I.quiet:I→Bool
 | .mv .. | .pick .. | .aZ .. | .val .. =>true
 | .gd _ _ _ i=>i.quiet
 |_=>false
inductive T where
 |nil
 |q (i:I) (t:T)
 |act (i:I) (t:T)
 |cut (i:I) (t:T)
 |two (a b:T)
inductive PT where
 |nil
 |q (i:Nat) (t:PT)
 |act (i:Nat) (t:PT)
 |two (a b:PT)
def PT.leaves:PT→Nat
 | .nil=>1
 | .q _ t=>t.leaves
 | .act _ t=>t.leaves
 | .two a b=>a.leaves+b.leaves
inductive C where
 |sk
 |sq (a b:C)
 |op (l:List I)
 |dr (l:List I)
 |Kx (t:T)
 |Hm (l:List I)
 |cd (c:Operand) (a b:C)
 |bl (id:Nat) (c:C)
 |lo (c:C)
 |ex (id:Nat)
 |sc (c:C)
 |rt
 |rf (g:Operand) (ps:List Nat) (a b:C)
 |bad
def Rh(ops:Array Oper):Nat→Array Bool→Option (List (Nat×Bool))
 |0,listed=>if(Region.ready .any ops listed).isEmpty then some []else none
 |fuel+1,listed=>
  let rs:=Region.ready .any ops listed
  match rs.find? (fun i=>(dK (ops.getD i default)).quiet&&Region.free .any ops listed i)with
  |some i=>(Rh ops fuel (listed.setIfInBounds i true)).map ((i,true)::·)
  |none=>match rs with
   |[i]=>(Rh ops fuel (listed.setIfInBounds i true)).map ((i,false)::·)
   |_=>none
def eu(ops:Array Oper):List (Nat×Bool)→Array Bool→Bool
 |[],listed=>(Region.ready .any ops listed).isEmpty
 |(i,true):: l,listed=>(dK (ops.getD i default)).quiet&&decide (i<ops.size)&&(Region.ready .any ops listed).contains i&&Region.free .any ops listed i&&eu ops l (listed.setIfInBounds i true)
 |(i,false):: l,listed=>decide (i<ops.size)&&decide (Region.ready .any ops listed=[i])&&eu ops l (listed.setIfInBounds i true)
def ic(ops:Array Oper)(k:Nat):List Nat:=match ops[k]?with
 |some o=>(o.after.toList.filter fun e=>Region.binds .any e).map (·.on)
 |none=>[]
def cover(ops:Array Oper):Nat→List Nat→List Nat
 |0,l=>l
 |n+1,l=>cover ops n ((l++l.flatMap (ic ops)).eraseDups)
def ly(o:Oper):Bool:=o.guard.isNone&&match o.op with| .move _| .assign _=>true|_=>false
def US(ops:Array Oper)(j:Nat):Bool:=(List.range ops.size).all fun k=>k==j||ly (ops.getD k default)||(cover ops 12 (ic ops j)).contains k||(cover ops 12 (ic ops k)).contains j
def DN(o:Oper):Bool:=match o.op with
 | .store .. | .mapUpdate .. | .insert .. =>true
 | .call {callee:= .builtin .append,..}| .call {callee:= .builtin .copy,..}=>true
 |_=>false
def fE(ops:Array Oper)(j:Nat):Bool:=DN (ops.getD j default)&&US ops j
def fY(o:Oper):Bool:=o.guard.isNone&&match o.op with| .fieldAddr .. | .indexAddr .. =>true|_=>false
def jX(o:Oper):Bool:=o.guard.isNone&&match o.op with| .nilCheck _=>true|_=>false
def jy(o:Oper):Bool:=ly o||(fY o||jX o)
def MT(ops:Array Oper)(j:Nat):Bool:=(List.range ops.size).all fun k=>k==j||jy (ops.getD k default)||(cover ops 12 (ic ops j)).contains k||(cover ops 12 (ic ops k)).contains j
def Ri(o:Oper):Bool:=match o.op with| .call {callee:= .value _,..}=>true|_=>false
def MU(ops:Array Oper)(j:Nat):Bool:=Ri (ops.getD j default)&&(List.range ops.size).all fun k=>k==j||(cover ops 12 (ic ops j)).contains k
def dY(ops:Array Oper)(j:Nat):Bool:=(DN (ops.getD j default)||MU ops j)&&MT ops j
def Ky(N:NT)(ops:Array Oper)(o:Oper):I:=if uf N o.dst&&fY o then .bF o.dst o.op o.type else .q (cI N ops o)
def nJ(N:NT)(ops:Array Oper):List (Nat×Bool)→List I
 |[]=>[]
 |(i,true):: l=>Ky N ops (ops.getD i default):: nJ N ops l
 |(i,false):: l=>cI N ops (ops.getD i default):: nJ N ops l
def tf(o:Oper):Bool:=o.guard.isNone&&match o.op with
 | .binOp op _ _ _ _=>op== .add||op== .sub
 | .extract _ _=>true
 |_=>false
def zL(o:Oper):Bool:=jy o||tf o
def MW(ops:Array Oper)(j:Nat):Bool:=(List.range ops.size).all fun k=>k==j||zL (ops.getD k default)||(cover ops 12 (ic ops j)).contains k||(cover ops 12 (ic ops k)).contains j
def iY(ops:Array Oper)(j:Nat):Bool:=(DN (ops.getD j default)||MU ops j)&&MW ops j
def VU(N:NT)(ops:Array Oper)(o:Oper):I:=if uf N o.dst&&(fY o||tf o)then .bF o.dst o.op o.type else .q (cI N ops o)
def fI(N:NT)(ops:Array Oper):List (Nat×Bool)→List I
 |[]=>[]
 |(i,true):: l=>VU N ops (ops.getD i default):: fI N ops l
 |(i,false):: l=>if iY ops i then .rb :: cI N ops (ops.getD i default):: fI N ops l else cI N ops (ops.getD i default):: fI N ops l
def nK(N:NT)(ops:Array Oper):List (Nat×Bool)→List I
 |[]=>[]
 |(i,true):: l=>Ky N ops (ops.getD i default):: nK N ops l
 |(i,false):: l=>cI N ops (ops.getD i default)::(if dY ops i then .rb else .eI):: nK N ops l
def Rj(ops:Array Oper)(l:List (Nat×Bool)):Bool:=l.all fun p=> !p.2|| !fE ops p.1
def Kz(ops:Array Oper):Bool:=(List.range ops.size).all fun i=>match(ops.getD i default).op with| .store .. =>fE ops i|_=>true
def Hn(ops:Array Oper):Bool:=(List.range ops.size).all fun i=>match(ops.getD i default).op with| .store .. =>iY ops i|_=>true
def MX(ops:Array Oper):Nat→Array Bool→Option PT
 |0,listed=>if(Region.ready .any ops listed).isEmpty then some .nil else none
 |fuel+1,listed=>
  let rs:=Region.ready .any ops listed
  match rs.find? (fun i=>(dK (ops.getD i default)).quiet&&Region.free .any ops listed i)with
  |some i=>(MX ops fuel (listed.setIfInBounds i true)).map (.q i)
  |none=>
   let one:=fun i=>(MX ops fuel (listed.setIfInBounds i true)).map (PT.act i)
   match rs.getLast? with
   |none=>none
   |some z=>rs.dropLast.foldr (fun i acc=>match one i,acc with|some a,some b=>some (.two a b)|_,_=>none) (one z)
def lA(ops:Array Oper):PT→Nat→Option (List Nat)→Array Bool→Bool
 | .nil,_,none,listed=>(Region.ready .any ops listed).isEmpty
 | .q i t,n+1,none,listed=>(dK (ops.getD i default)).quiet&&decide (i<ops.size)&&(Region.ready .any ops listed).contains i&&Region.free .any ops listed i&&lA ops t n none (listed.setIfInBounds i true)
 | .act i t,n+1,none,listed=>decide (i<ops.size)&&decide (Region.ready .any ops listed=[i])&&lA ops t n none (listed.setIfInBounds i true)
 | .act i t,n+1,some rs,listed=>decide (i<ops.size)&&decide (rs=[i])&&lA ops t n none (listed.setIfInBounds i true)
 | .two a b,n+1,none,listed=>match Region.ready .any ops listed with
   |i :: rs=>lA ops a (n+1) (some [i]) listed&&lA ops b (n+1) (some rs) listed
   |[]=>false
 | .two a b,n+1,some rs,listed=>match rs with
   |i :: rs'=>lA ops a (n+1) (some [i]) listed&&lA ops b (n+1) (some rs') listed
   |[]=>false
 |_,_,_,_=>false
def pF(N:NT)(ops:Array Oper):PT→T
 | .nil=>.nil
 | .q i t=>.q (cI N ops (ops.getD i default)) (pF N ops t)
 | .act i t=>if fE ops i then .cut (cI N ops (ops.getD i default)) (pF N ops t)else .act (cI N ops (ops.getD i default)) (pF N ops t)
 | .two a b=>.two (pF N ops a) (pF N ops b)
def UT(N:NT)(ops:Array Oper):C:=
 match MX ops ops.size (Array.replicate ops.size false)with
 |some t=>if Region.noSelect ops&&(lA ops t ops.size none (Array.replicate ops.size false)&&decide (t.leaves≤24))then .Kx (pF N ops t)else .bad
 |none=>.bad
def aau(ops:Array Oper)(x:Operand):Option Oper:=match x with
 | .tmp s=>ops.toList.find? (fun o=>o.dst==some s)
 |_=>none
def rootOf(ops:Array Oper):Nat→Operand→Option Nat
 |0,_=>none
 |n+1,x=>match aau ops x with
  |some o=>match o.op with
   | .move (.tmp s)| .assign (.tmp s)=>some s
   | .nilCheck y=>rootOf ops n y
   | .fieldAddr _ y _=>rootOf ops n y
   | .indexAddr _ y _=>rootOf ops n y
   |_=>none
  |none=>none
def KA(ops:Array Oper):Bool:=(List.range ops.size).any fun c=>match(ops.getD c default).op with
 | .call {callee:= .value (.func _),args,..}=>match(args[0]?).bind (rootOf ops 6)with
   |some s=>(List.range ops.size).any fun l=>match(ops.getD l default).op with
    | .load _ a=>(rootOf ops 6 a==some s)&& !(cover ops 12 (ic ops c)).contains l&& !(cover ops 12 (ic ops l)).contains c
    |_=>false
   |none=>false
 |_=>false
def E4(o:Oper):Bool:=o.guard.isNone&&match o.op with| .build .. =>true|_=>false
def zM(o:Oper):Bool:=jy o||E4 o
def KB(N:NT)(ops:Array Oper)(o:Oper):I:=if uf N o.dst&&(fY o||E4 o)then .bF o.dst o.op o.type else cI N ops o
def Ho(ops:Array Oper):Nat→Array Bool→Option PT
 |0,listed=>if(Region.ready .any ops listed).isEmpty then some .nil else none
 |fuel+1,listed=>
  let rs:=Region.ready .any ops listed
  match rs.find? (fun i=>zM (ops.getD i default)&&Region.free .any ops listed i)with
  |some i=>(Ho ops fuel (listed.setIfInBounds i true)).map (.q i)
  |none=>
   let one:=fun i=>(Ho ops fuel (listed.setIfInBounds i true)).map (PT.act i)
   match rs.getLast? with
   |none=>none
   |some z=>rs.dropLast.foldr (fun i acc=>match one i,acc with|some a,some b=>some (.two a b)|_,_=>none) (one z)
def fg(ops:Array Oper):PT→Nat→Option (List Nat)→Array Bool→Bool
 | .nil,_,none,listed=>(Region.ready .any ops listed).isEmpty
 | .q i t,n+1,none,listed=>zM (ops.getD i default)&&decide (i<ops.size)&&(Region.ready .any ops listed).contains i&&Region.free .any ops listed i&&fg ops t n none (listed.setIfInBounds i true)
 | .act i t,n+1,none,listed=>decide (i<ops.size)&&decide (Region.ready .any ops listed=[i])&&fg ops t n none (listed.setIfInBounds i true)
 | .act i t,n+1,some rs,listed=>decide (i<ops.size)&&decide (rs=[i])&&fg ops t n none (listed.setIfInBounds i true)
 | .two a b,n+1,none,listed=>match Region.ready .any ops listed with
   |i :: rs=>fg ops a (n+1) (some [i]) listed&&fg ops b (n+1) (some rs) listed
   |[]=>false
 | .two a b,n+1,some rs,listed=>match rs with
   |i :: rs'=>fg ops a (n+1) (some [i]) listed&&fg ops b (n+1) (some rs') listed
   |[]=>false
 |_,_,_,_=>false
def qD(N:NT)(ops:Array Oper):PT→T
 | .nil=>.nil
 | .q i t=>.q (KB N ops (ops.getD i default)) (qD N ops t)
 | .act i t=>.cut (cI N ops (ops.getD i default)) (qD N ops t)
 | .two a b=>.two (qD N ops a) (qD N ops b)
def DO(N:NT)(ops:Array Oper):C:=
 match Ho ops ops.size (Array.replicate ops.size false)with
 |some t=>if Region.noSelect ops&&(fg ops t ops.size none (Array.replicate ops.size false)&&decide (t.leaves≤24))then .Kx (qD N ops t)else .bad
 |none=>.bad
def vN(ops:List Oper):Nat:=(ops.takeWhile fun o=>(dK o).quiet).length
def aav(ops:Array Oper):Option TypeId:=
 let at_:=fun(x:Operand)=>match x with| .tmp s=>ops.toList.find? (fun o=>o.dst==some s)|_=>none
 (List.range ops.size).findSome? fun j=>match(ops.getD j default).op with
  | .call {callee:= .builtin .append,args,argTypes}=>if dY ops j then none else match(args[0]?).bind at_ with
    |some o=>match o.op with
     | .load _ x=>match at_ x with
       |some o2=>match o2.op with
        | .indexAddr _ _ _=>argTypes[0]?
        |_=>none
       |none=>none
     |_=>none
    |none=>none
  |_=>none
def nL(N:NT)(t:TypeId)(ops:Array Oper):List (Nat×Bool)→List I
 |[]=>[]
 |(i,true):: l=>(if uf N (ops.getD i default).dst&&fY (ops.getD i default)then .bF (ops.getD i default).dst (ops.getD i default).op (ops.getD i default).type else .qx t (cI N ops (ops.getD i default))):: nL N t ops l
 |(i,false):: l=>cI N ops (ops.getD i default)::(if dY ops i then .rb else .lr t):: nL N t ops l
def UU(N:NT)(ops:Array Oper)(l:List (Nat×Bool)):C:=match aav ops with
 |some t=>.dr (nL N t ops l)
 |none=>.dr (nK N ops l)
def cZ(N:NT)(ops:Array Oper):C:=
 match Rh ops ops.size (Array.replicate ops.size false)with
 |some l=>if Region.noSelect ops&&(eu ops l (Array.replicate ops.size false)&&decide (l.length=ops.size))then .Hm (fI N ops l)else .bad
 |none=>.bad
def MY:C→Bool
 | .bad=>true
 |_=>false
def MZ(N:NT)(ops:Array Oper):C:=
 if KA ops&& !(MY (DO N ops)&&MY (cZ N ops))then(match DO N ops with| .Kx t=>.Kx t|_=>cZ N ops)else
 let n:=vN ops.toList
 if n=ops.size&&Region.lexB .any ops then .dr (ops.toList.map fun o=>.q (cI N ops o))
 else if Region.lexTailB .any ops n then .dr (((ops.toList.take n).map fun o=>.q (cI N ops o))++(ops.toList.drop n).map (cI N ops))
 else match Rh ops ops.size (Array.replicate ops.size false)with
  |some l=>if Region.noSelect ops&&(eu ops l (Array.replicate ops.size false)&&decide (l.length=ops.size))&&Rj ops l then(if Kz ops then UU N ops l else if Hn ops then .Hm (fI N ops l)else .Hm (nJ N ops l))else .bad
  |none=>UT N ops
def DP(ops:Array Oper):Bool:=ops.toList.all fun o=>match o.op with| .defer _=>false|_=>true
def VV(N:NT)(ops:Array Oper):C:=
 let n:=vN ops.toList
 if n=ops.size&&Region.lexB .any ops&&DP ops then .dr (ops.toList.map fun o=>.q (cI N ops o))
 else if Region.lexTailB .any ops n&&DP ops then .dr (((ops.toList.take n).map fun o=>.q (cI N ops o))++(ops.toList.drop n).map (cI N ops))
 else if DP ops then DO N ops else .bad
def QM(N:NT):Code→C
 | .skip=>.sk
 | .label _=>.sk
 | .seq a b=>.sq (QM N a) (QM N b)
 | .region _ ops false=>.op (ops.toList.map (cI N ops))
 | .region _ ops true=>VV N ops
 | .cond c a b=>.cd c (QM N a) (QM N b)
 | .block id c=>.bl id (QM N c)
 | .loop c=>.lo (QM N c)
 | .exit id=>.ex id
 | .ret=>.rt
 |_=>.bad
def cC(N:NT):Code→C
 | .skip=>.sk
 | .label _=>.sk
 | .seq a b=>.sq (cC N a) (cC N b)
 | .region _ ops false=>.op (ops.toList.map (cI N ops))
 | .region _ ops true=>MZ N ops
 | .cond c a b=>.cd c (cC N a) (cC N b)
 | .block id c=>.bl id (cC N c)
 | .loop c=>.lo (cC N c)
 | .exit id=>.ex id
 | .scope c=>.sc (cC N c)
 | .ret=>.rt
 | .rangeFunc g ps a b=>if ps.toList.all (fun t=>uf N (some t))then .rf g ps.toList (QM N a) (QM N b)else .bad
 |_=>.bad
section
variable (P:Program)
def db(g:FuncId):Bool:=match P.funcs[g]?with
 |some fn=> !(fn.name== "runtime.NumGoroutine")&&fn.body.isSome
 |none=>false
def aq(K:Fr→World→Prop)(s:Sem Value)(u:World)(f:Fr)(d:Option Nat)(w:World):Prop:=
 ∃v,(∀w',Below u.heap.size u w'→s.run P w'= .ok v w')∧K (ai f d v) w
def gU(K:Fr→World→Prop)(o:Op)(ty:TypeId)(u:World)(f:Fr)(d:Option Nat)(w:World):Prop:=
 match valOf (ev f) ty o with
 |some s=>aq P K s u f d w
 |none=>False
def cG(K:Fr→World→Prop)(s:Sem Value)(f:Fr)(d:Option Nat)(w:World):Prop:=
 ∃v w',s.run P w= .ok v w'∧K (ai f d v) w'
def fZ(K:Fr→World→Prop)(o:Op)(ty:TypeId)(f:Fr)(d:Option Nat)(w:World):Prop:=
 match valOf (ev f) ty o with
 |some s=>cG P K s f d w
 |none=>False
structure dy(t:TypeId)(u w:World):Prop where
 size:u.heap.size≤w.heap.size
 block:∀k,k<u.heap.size→(∀e cs r,P.underlying t=some (.slice e)→u.heap[k]?≠some (.cells cs e r))→w.heap[k]? =u.heap[k]?
def Rk(K:Fr→World→Prop)(t:TypeId)(s:Sem Value)(u:World)(f:Fr)(d:Option Nat)(w:World):Prop:=
 ∃v,(∀w',dy P t u w'→s.run P w'= .ok v w')∧K (ai f d v) w
def CZ(K:Fr→World→Prop)(t:TypeId)(o:Op)(ty:TypeId)(u:World)(f:Fr)(d:Option Nat)(w:World):Prop:=
 match valOf (ev f) ty o with
 |some s=>Rk P K t s u f d w
 |none=>False
def Hp(K:Fr→World→Prop)(S:World→Prop)(s:Sem Value)(f:Fr)(d:Option Nat)(w:World):Prop:=
 ∃v,(∀w',S w'→s.run P w'= .ok v w')∧K (ai f d v) w
def qE(K:Fr→World→Prop)(S:World→Prop)(o:Op)(ty:TypeId)(f:Fr)(d:Option Nat)(w:World):Prop:=
 match valOf (ev f) ty o with
 |some s=>Hp P K S s f d w
 |none=>False
def Ah(K:Fr→World→Prop)(o:Op)(ty:TypeId)(f:Fr)(d:Option Nat)(w:World):Prop:=
 match valOf (ev f) ty o with
 |some s=>∃v,(∀w',s.run P w'= .ok v w')∧K (ai f d v) w
 |none=>False
def yA(K:Fr→World→Prop)(v va vb:Value)(f:Fr)(d:Option Nat)(w:World):Prop:=
 ∃t,v= .bool t∧K (ai f d (if t then va else vb)) w
def E5(K:Fr→World→Prop)(v:Value)(f:Fr)(d:Option Nat)(w:World):Prop:=
 ((∃a,v= .pointer (some a))∨∃g p q,v= .func (.func g) p q)∧K (ai f d v) w
def vO(pn:List PanicEntry→World→Prop)(K:Fr→World→Prop)(g:FuncId)(args:List Value)(f:Fr)(d:Option Nat)(w:World):Prop:=
 db P g=true∧Calls P g args.toArray w fun e w'=>(∃v,e= .returned v∧K (ai f d v) w')∨∃ch,e= .panicked ch∧pn ch w'
def Ai(pn:List PanicEntry→World→Prop)(K:Fr→World→Prop)(g:Value)(args:List Value)(f:Fr)(d:Option Nat)(w:World):Prop:=
 ∃h first cap,g= .func (.func h) first cap∧vO P pn K h (first.toList++args++cap.toList) f d w
def aaw(pn:List PanicEntry→World→Prop)(v:Value)(w:World):Prop:=(∃t y,v= .iface t y)∧pn [{v,recovered:=false}] w
def bT(pn:List PanicEntry→World→Prop)(K:Fr→World→Prop):I→World→Fr→World→Prop
 | .mv d o,_,f,w=>K (ai f d (ev f o)) w
 | .pick d c a b,_,f,w=>yA K (ev f c) (ev f a) (ev f b) f d w
 | .aZ d o,_,f,w=>E5 K (ev f o) f d w
 | .val d o ty,u,f,w=>gU P K o ty u f d w
 | .aG d o ty,_,f,w=>fZ P K o ty f d w
 | .bF d o ty,_,f,w=>Ah P K o ty f d w
 | .call d g args,_,f,w=>vO P pn K g (args.map (ev f)) f d w
 | .ep d g args,_,f,w=>Ai P pn K (ev f g) (args.map (ev f)) f d w
 | .Cm o,_,f,w=>aaw pn (ev f o) w
 | .gd s b d i,u,f,w=>match f s with
   | .bool t=>if t=b then bT pn K i u f w else K (ai f d undef) w
   |_=>K (ai f d undef) w
 | .q _,_,_,_=>False
 | .eI,_,_,_=>False
 | .qx _ _,_,_,_=>False
 | .lr _,_,_,_=>False
 | .rb,_,_,_=>False
 | .bad,_,_,_=>False
def mT(K:Fr→World→Prop)(t:TypeId):I→World→Fr→World→Prop
 | .mv d o,_,f,w=>K (ai f d (ev f o)) w
 | .pick d c a b,_,f,w=>yA K (ev f c) (ev f a) (ev f b) f d w
 | .aZ d o,_,f,w=>E5 K (ev f o) f d w
 | .val d o ty,u,f,w=>CZ P K t o ty u f d w
 |_,_,_,_=>False
def lC(K:Fr→World→Prop)(S:World→Prop):I→Fr→World→Prop
 | .mv d o,f,w=>K (ai f d (ev f o)) w
 | .pick d c a b,f,w=>yA K (ev f c) (ev f a) (ev f b) f d w
 | .aZ d o,f,w=>E5 K (ev f o) f d w
 | .val d o ty,f,w=>qE P K S o ty f d w
 |_,_,_=>False
def xs(pn:List PanicEntry→World→Prop):(World→Prop)→(Fr→World→Prop)→List I→Fr→World→Prop
 |_,K,[],f,w=>K f w
 |S,K,.q i :: l,f,w=>lC P (xs pn S K l) S i f w
 |S,K,.bF d o ty :: l,f,w=>Ah P (xs pn S K l) o ty f d w
 |_,K,.rb :: i :: l,f,w=>bT P pn (fun f' w'=>∃S':World→Prop,S' w'∧xs pn S' K l f' w') i w f w
 |S,K,i :: l,f,w=>bT P pn (fun f' w'=>S w'∧xs pn S K l f' w') i w f w
def uH(pn:List PanicEntry→World→Prop)(K:Fr→World→Prop)(v:Value)(b:Bool)(d:Option Nat)(i:I)(u:World)(f:Fr)(w:World):Prop:=
 match v with
 | .bool t=>if t=b then bT P pn K i u f w else K (ai f d undef) w
 |_=>K (ai f d undef) w
structure Rx where
 ret:Fr→World→Prop
 ou:List PanicEntry→World→Prop
instance:Coe (Fr→World→Prop) Rx:=⟨fun r=>⟨r,fun _ _=>False⟩⟩
inductive It where
 |c (c:C)
 |bl (id:Nat)
 |lp (J:Fr→World→Prop)
 |sc
 |t (b:World) (t:T)
 |tn (t:T)
def di(id:Nat):List It→Option (List It)
 |[]=>none
 | .bl j :: k=>if id=j then some k else di id k
 |_ :: k=>di id k
def Je(X:List I→List It→World→Fr→World→Prop)(c:C)(k:List It)(f:Fr)(w:World):Prop:=
 ∃(I:Fr→World→Prop) (μ:Fr→World→Nat),I f w∧∀f w,I f w→X [] (.c c :: .lp (fun f' w'=>I f' w'∧μ f' w'<μ f w):: k) w f w
def E6(K1 K2:Fr→World→Prop)(v:Value)(f:Fr)(w:World):Prop:=
 ∃t,v= .bool t∧if t then K1 f w else K2 f w
def x(R:Rx):Nat→List I→List It→World→Fr→World→Prop
 |0,_,_,_,_,_=>False
 |_+1,[],[],_,f,w=>R.ret f w
 |n+1,[],.bl _ :: k,_,f,w=>x R n [] k w f w
 |n+1,[],.sc :: k,_,f,w=>x R n [] k w f w
 |_+1,[],.lp J :: _,_,f,w=>J f w
 |n+1,[],.t b0 t :: k,_,f,w=>match t with
  | .nil=>x R n [] k w f w
  | .q i t=>x R n [.q i] (.t b0 t :: k) b0 f w
  | .act i t=>x R n [i,.eI] (.t b0 t :: k) b0 f w
  | .cut i t=>x R n [i] (.tn t :: k) b0 f w
  | .two t u=>x R n [] (.t b0 t :: k) b0 f w∧x R n [] (.t b0 u :: k) b0 f w
 |n+1,[],.tn t :: k,_,f,w=>x R n [] (.t w t :: k) w f w
 |n+1,[],.c c :: k,_,f,w=>match c with
  | .sk=>x R n [] k w f w
  | .sq a b=>x R n [] (.c a :: .c b :: k) w f w
  | .op l=>x R n l k w f w
  | .dr l=>x R n l k w.drew f w.drew
  | .Kx t=>x R n [] (.t w.drew t :: k) w.drew f w.drew
  | .Hm l=>∃S:World→Prop,S w.drew∧xs P R.ou S (fun f' w'=>x R n [] k w' f' w') l f w.drew
  | .cd c a b=>E6 (x R n [] (.c a :: k) w) (x R n [] (.c b :: k) w) (ev f c) f w
  | .bl id c=>x R n [] (.c c :: .bl id :: k) w f w
  | .lo c=>Je (x R n) c k f w
  | .ex id=>match di id k with
    |some k'=>x R n [] k' w f w
    |none=>False
  | .sc c=>x R n [] (.c c :: .sc :: k) w f w
  | .rt=>R.ret f w
  | .rf _ _ _ _=>False
  | .bad=>False
 |n+1,.q i :: l,k,b,f,w=>bT P R.ou (x R n l k b) i b f w
 |n+1,.eI :: l,k,b,f,w=>Below b.heap.size b w∧x R n l k b f w
 |n+1,.qx t i :: l,k,b,f,w=>mT P (x R n l k b) t i b f w
 |n+1,.lr t :: l,k,b,f,w=>dy P t b w∧x R n l k b f w
 |n+1,.rb :: l,k,_,f,w=>x R n l k w f w
 |n+1,i :: l,k,b,f,w=>bT P R.ou (x R n l k b) i w f w
end
end Go.Proofs.YtcefeihlkpmejaaGreatDoor
