/- A part of the proof. -/
import Derived.Test.YtcefeihlkpmejaaGreatDoorYSound
import Derived.Laws.Cells
import Derived.Maps.AppendAt
import Derived.Laws.OwnMore
import Derived.OwnWalk
namespace Go.Proofs.YtcefeihlkpmejaaGreatDoor
set_option linter.unusedSimpArgs false
set_option linter.unusedVariables false
set_option linter.unusedSectionVars false
section
open Go.RowKit
section
variable (P:Program)
def aL(t:TypeId):Option Nat:=(P.info? t).map (·.size)
def aR(t:TypeId):Option Bool:=(P.underlying t).map fun| .struct _| .array _ _=>true|_=>false
def qO(t:TypeId):Option Nat:=match P.underlying t with|some (.slice e)=>aL P e|_=>none
def fF(t:TypeId):Option (Nat×Nat):=match P.underlying t with|some (.array n e)=>(aL P e).map fun s=>(n,s)|_=>none
def bw(s:TypeId)(k:Nat):Option Nat:=match P.underlying s with
 |some (.struct fs)=>match(fs[k]? :Option Field)with
  |some f=>match aL P f.type with|some (_+1)=>some f.offset|_=>none
  |none=>none
 |_=>none
end
theorem KH(f:Fr)(d:Nat)(v:Value):ai f (some d) v=UQ f d v:=rfl
theorem KI(f:Fr)(v:Value):ai f none v=f:=rfl
theorem VZ(f:Fr)(d:Nat)(v:Value)(t:Nat):UQ f d v t=if t=d then v else f t:=rfl
theorem V0(f:Fr)(t:Nat):ev f (.tmp t)=f t:=rfl
theorem M5(f:Fr)(v:Value):ev f (.const v)=v:=rfl
theorem KJ(f:Fr)(g:Nat):ev f (.global g)= .pointer (some ⟨g,0,none⟩):=rfl
theorem Ro(f:Fr)(g:Nat):ev f (.func g)= .func (.func g) #[] #[]:=rfl
def xn(l:List Value):Fr:=fun t=>l.getD t undef
theorem M6(v:Value)(l:List Value):xn (v :: l) 0=v:=rfl
theorem M7(v:Value)(l:List Value)(n:Nat):xn (v :: l) (n+1)=xn l n:=rfl
theorem Rq(n:Nat):xn [] n=undef:=rfl
section
variable {P:Program} {R:Rx} {K:Fr→World→Prop} {pn:List PanicEntry→World→Prop}
section
variable (n:Nat) (l:List I) (k:List It) (b:World) (f:Fr) (w:World)
theorem aaC:x P R (n+1) [] [] b f w=R.ret f w:=propext Iff.rfl
theorem afN(id:Nat):x P R (n+1) [] (.bl id :: k) b f w=x P R n [] k w f w:=propext Iff.rfl
theorem afO(J:Fr→World→Prop):x P R (n+1) [] (.lp J :: k) b f w=J f w:=propext Iff.rfl
theorem afP:x P R (n+1) [] (.c .sk :: k) b f w=x P R n [] k w f w:=propext Iff.rfl
theorem Rr(c d:C):x P R (n+1) [] (.c (.sq c d):: k) b f w=x P R n [] (.c c :: .c d :: k) w f w:=propext Iff.rfl
theorem afQ:x P R (n+1) [] (.c (.op l):: k) b f w=x P R n l k w f w:=propext Iff.rfl
theorem aaD(t:T):x P R (n+1) [] (.c (.Kx t):: k) b f w=x P R n [] (.t w.drew t :: k) w.drew f w.drew:=propext Iff.rfl
theorem aaE:x P R (n+1) [] (.c (.Hm l):: k) b f w=∃S:World→Prop,S w.drew∧xs P R.ou S (fun f' w'=>x P R n [] k w' f' w') l f w.drew:=propext Iff.rfl
theorem Rs(b0:World):x P R (n+1) [] (.t b0 .nil :: k) b f w=x P R n [] k w f w:=propext Iff.rfl
theorem aaF(b0:World)(i:I)(t:T):x P R (n+1) [] (.t b0 (.q i t):: k) b f w=x P R n [.q i] (.t b0 t :: k) b0 f w:=propext Iff.rfl
theorem Rt(b0:World)(i:I)(t:T):x P R (n+1) [] (.t b0 (.act i t):: k) b f w=x P R n [i,.eI] (.t b0 t :: k) b0 f w:=propext Iff.rfl
theorem Ru(b0:World)(i:I)(t:T):x P R (n+1) [] (.t b0 (.cut i t):: k) b f w=x P R n [i] (.tn t :: k) b0 f w:=propext Iff.rfl
theorem afR(t:T):x P R (n+1) [] (.tn t :: k) b f w=x P R n [] (.t w t :: k) w f w:=propext Iff.rfl
theorem tj(b0:World)(t u:T):x P R (n+1) [] (.t b0 (.two t u):: k) b f w=(x P R n [] (.t b0 t :: k) b0 f w∧x P R n [] (.t b0 u :: k) b0 f w):=propext Iff.rfl
theorem afS:x P R (n+1) [] (.c (.dr l):: k) b f w=x P R n l k w.drew f w.drew:=propext Iff.rfl
@[push_cast] theorem al9 (c:Operand) (c1 c2:C):x P R (n+1) [] (.c (.cd c c1 c2):: k) b f w=E6 (x P R n [] (.c c1 :: k) w) (x P R n [] (.c c2 :: k) w) (ev f c) f w:=propext Iff.rfl
theorem aa(id:Nat)(c:C):x P R (n+1) [] (.c (.bl id c):: k) b f w=x P R n [] (.c c :: .bl id :: k) w f w:=propext Iff.rfl
theorem afT(c:C):x P R (n+1) [] (.c (.lo c):: k) b f w=Je (x P R n) c k f w:=propext Iff.rfl
theorem afU(id:Nat):x P R (n+1) [] (.c (.ex id):: k) b f w=(match di id k with|some k'=>x P R n [] k' w f w|none=>False):=propext Iff.rfl
theorem aaG(c:C):x P R (n+1) [] (.c (.sc c):: k) b f w=x P R n [] (.c c :: .sc :: k) w f w:=propext Iff.rfl
theorem afV:x P R (n+1) [] (.c .rt :: k) b f w=R.ret f w:=propext Iff.rfl
theorem x_q(i:I):x P R (n+1) (.q i :: l) k b f w=bT P R.ou (x P R n l k b) i b f w:=propext Iff.rfl
theorem aaH:x P R (n+1) (.eI :: l) k b f w=(Below b.heap.size b w∧x P R n l k b f w):=propext Iff.rfl
theorem afW(d:Option Nat)(o:Operand):x P R (n+1) (.mv d o :: l) k b f w=x P R n l k b (ai f d (ev f o)) w:=propext Iff.rfl
theorem afX:x P R (n+1) (.rb :: l) k b f w=x P R n l k w f w:=propext Iff.rfl
theorem V1(d:Option Nat)(c o p:Operand):x P R (n+1) (.pick d c o p :: l) k b f w=yA (x P R n l k b) (ev f c) (ev f o) (ev f p) f d w:=propext Iff.rfl
theorem V2(d:Option Nat)(o:Operand):x P R (n+1) (.aZ d o :: l) k b f w=E5 (x P R n l k b) (ev f o) f d w:=propext Iff.rfl
theorem aaI(d:Option Nat)(o:Op)(ty:TypeId):x P R (n+1) (.val d o ty :: l) k b f w=gU P (x P R n l k b) o ty w f d w:=propext Iff.rfl
theorem aaJ(d:Option Nat)(o:Op)(ty:TypeId):x P R (n+1) (.aG d o ty :: l) k b f w=fZ P (x P R n l k b) o ty f d w:=propext Iff.rfl
theorem afY(t:TypeId)(i:I):x P R (n+1) (.qx t i :: l) k b f w=mT P (x P R n l k b) t i b f w:=propext Iff.rfl
theorem V3(t:TypeId):x P R (n+1) (.lr t :: l) k b f w=(dy P t b w∧x P R n l k b f w):=propext Iff.rfl
theorem aaK(d:Option Nat)(o:Op)(ty:TypeId):x P R (n+1) (.bF d o ty :: l) k b f w=Ah P (x P R n l k b) o ty f d w:=propext Iff.rfl
theorem V4(d:Option Nat)(g:FuncId)(args:List Operand):x P R (n+1) (.call d g args :: l) k b f w=vO P R.ou (x P R n l k b) g (args.map (ev f)) f d w:=propext Iff.rfl
theorem aaL(o:Operand):x P R (n+1) (.Cm o :: l) k b f w=aaw R.ou (ev f o) w:=propext Iff.rfl
theorem Rv(d:Option Nat)(g:Operand)(args:List Operand):x P R (n+1) (.ep d g args :: l) k b f w=Ai P R.ou (x P R n l k b) (ev f g) (args.map (ev f)) f d w:=propext Iff.rfl
theorem afZ(s:Nat)(bb:Bool)(d:Option Nat)(i:I):x P R (n+1) (.gd s bb d i :: l) k b f w=uH P R.ou (x P R n l k b) (f s) bb d i w f w:=propext Iff.rfl
end
section
variable (S:World→Prop) (K:Fr→World→Prop) (l:List I) (f:Fr) (w:World) (d:Option Nat)
theorem V5:xs P pn S K [] f w=K f w:=propext Iff.rfl
theorem af0(i:I):xs P pn S K (.q i :: l) f w=lC P (xs P pn S K l) S i f w:=propext Iff.rfl
theorem V6(o:Op)(ty:TypeId):xs P pn S K (.bF d o ty :: l) f w=Ah P (xs P pn S K l) o ty f d w:=propext Iff.rfl
theorem aaM(i:I):xs P pn S K (.rb :: i :: l) f w=bT P pn (fun f' w'=>∃S':World→Prop,S' w'∧xs P pn S' K l f' w') i w f w:=propext Iff.rfl
theorem Ry(g:FuncId)(args:List Operand):xs P pn S K (.call d g args :: l) f w=vO P pn (fun f' w'=>S w'∧xs P pn S K l f' w') g (args.map (ev f)) f d w:=propext Iff.rfl
theorem V7(o:Op)(ty:TypeId):xs P pn S K (.aG d o ty :: l) f w=fZ P (fun f' w'=>S w'∧xs P pn S K l f' w') o ty f d w:=propext Iff.rfl
theorem aaN(o:Operand):lC P K S (.mv d o) f w=K (ai f d (ev f o)) w:=propext Iff.rfl
theorem Rz(o:Operand):lC P K S (.aZ d o) f w=E5 K (ev f o) f d w:=propext Iff.rfl
theorem V8(o:Op)(ty:TypeId):lC P K S (.val d o ty) f w=qE P K S o ty f d w:=propext Iff.rfl
theorem RA(t:TypeId)(a:Operand)(ty:TypeId):qE P K S (.load t a) ty f d w=Hp P K S (Instr.loadAt t (ev f a)) f d w:=propext Iff.rfl
end
theorem M8(id:Nat)(k:List It):di id (.bl id :: k)=some k:=by simp[di]
theorem KK(id j:Nat)(k:List It):di id (.bl j :: k)=if id=j then some k else di id k:=by simp[di]
theorem RB(id:Nat)(c:C)(k:List It):di id (.c c :: k)=di id k:=rfl
theorem M9(id:Nat)(J:Fr→World→Prop)(k:List It):di id (.lp J :: k)=di id k:=rfl
theorem Na(id:Nat)(k:List It):di id (.sc :: k)=di id k:=rfl
section
variable (d:Option Nat) (u:World) (f:Fr) (w:World)
theorem af1(o:Operand):bT P pn K (.mv d o) u f w=K (ai f d (ev f o)) w:=propext Iff.rfl
theorem V9(c o p:Operand):bT P pn K (.pick d c o p) u f w=yA K (ev f c) (ev f o) (ev f p) f d w:=propext Iff.rfl
theorem Wa(o:Operand):bT P pn K (.aZ d o) u f w=E5 K (ev f o) f d w:=propext Iff.rfl
theorem aaO(o:Op)(ty:TypeId):bT P pn K (.val d o ty) u f w=gU P K o ty u f d w:=propext Iff.rfl
theorem aaP(o:Op)(ty:TypeId):bT P pn K (.aG d o ty) u f w=fZ P K o ty f d w:=propext Iff.rfl
theorem Wb(g:FuncId)(args:List Operand):bT P pn K (.call d g args) u f w=vO P pn K g (args.map (ev f)) f d w:=propext Iff.rfl
theorem RC(g:Operand)(args:List Operand):bT P pn K (.ep d g args) u f w=Ai P pn K (ev f g) (args.map (ev f)) f d w:=propext Iff.rfl
theorem af2(s:Nat)(b:Bool)(i:I):bT P pn K (.gd s b d i) u f w=uH P pn K (f s) b d i u f w:=propext Iff.rfl
theorem af3(i:I):uH P pn K (.bool true) true d i u f w=bT P pn K i u f w:=propext Iff.rfl
theorem af4(i:I):uH P pn K (.bool false) false d i u f w=bT P pn K i u f w:=propext Iff.rfl
theorem af5(i:I):uH P pn K (.bool true) false d i u f w=K (ai f d undef) w:=propext Iff.rfl
theorem af6(i:I):uH P pn K (.bool false) true d i u f w=K (ai f d undef) w:=propext Iff.rfl
theorem RD(b:Bool)(i:I):uH P pn K undef b d i u f w=K (ai f d undef) w:=propext Iff.rfl
theorem C2(t:Bool)(va vb:Value):yA K (.bool t) va vb f d w=K (ai f d (if t then va else vb)) w:=
 propext ⟨fun⟨s,hs,h⟩=>by cases hs;exact h,fun h=>⟨t,rfl,h⟩⟩
theorem KL(va vb:Value):yA K (.bool true) va vb f d w=K (ai f d va) w:=C2 d f w true va vb
theorem Hw(va vb:Value):yA K (.bool false) va vb f d w=K (ai f d vb) w:=C2 d f w false va vb
theorem Nb(a:Addr):E5 K (.pointer (some a)) f d w=K (ai f d (.pointer (some a))) w:=
 propext ⟨fun h=>h.2,fun h=>⟨.inl ⟨a,rfl⟩,h⟩⟩
end
section
variable {K1 K2:Fr→World→Prop} (f:Fr) (w:World)
theorem C3(t:Bool):E6 K1 K2 (.bool t) f w=if t then K1 f w else K2 f w:=
 propext ⟨fun⟨s,hs,h⟩=>by cases hs;exact h,fun h=>⟨t,rfl,h⟩⟩
theorem cond_true:E6 K1 K2 (.bool true) f w=K1 f w:=by rw[C3];rfl
theorem cond_false:E6 K1 K2 (.bool false) f w=K2 f w:=by rw[C3];rfl
end
theorem ax{X:List I→List It→World→Fr→World→Prop}{c:C}{k:List It}{f:Fr}{w:World}(I:Fr→World→Prop)(μ:Fr→World→Nat)(h0:I f w)
  (h:∀f w,I f w→∀J:Fr→World→Prop,(∀f' w',I f' w'→μ f' w'<μ f w→J f' w')→X [] (.c c :: .lp J :: k) w f w):Je X c k f w:=
 ⟨I,μ,h0,fun f w hI=>h f w hI _ fun _ _ h1 h2=>⟨h1,h2⟩⟩
structure dw(P:Program)(g:FuncId)(args:List Value)(w:World)(Rc:Value→World→Prop):Prop where
 ok:db P g=true
 calls:Calls P g args.toArray w fun e w'=>∃v,e= .returned v∧Rc v w'
theorem dw.mono{g:FuncId}{args:List Value}{w:World}{Rc Rd:Value→World→Prop}(h:dw P g args w Rc)(hr:∀v w',Rc v w'→Rd v w'):dw P g args w Rd:=
 ⟨h.ok,h.calls.mono fun _ _ ⟨v,he,hv⟩=>⟨v,he,hr _ _ hv⟩⟩
theorem ah{g:FuncId}{args:List Value}{f:Fr}{d:Option Nat}{w:World}{Rc:Value→World→Prop}(hc:dw P g args w Rc)(h:∀v w',Rc v w'→K (ai f d v) w'):vO P pn K g args f d w:=
 ⟨hc.ok,hc.calls.mono fun _ _ ⟨v,he,hv⟩=>.inl ⟨v,he,h v _ hv⟩⟩
structure mO(P:Program)(g:FuncId)(args:List Value)(w:World)(Rc:Value→World→Prop)(Rp:List PanicEntry→World→Prop):Prop where
 ok:db P g=true
 calls:Calls P g args.toArray w fun e w'=>(∃v,e= .returned v∧Rc v w')∨∃ch,e= .panicked ch∧Rp ch w'
theorem aT{g:FuncId}{args:List Value}{f:Fr}{d:Option Nat}{w:World}{Rc:Value→World→Prop}{Rp:List PanicEntry→World→Prop}(hc:mO P g args w Rc Rp)(hp:∀c w',Rp c w'→pn c w')(h:∀v w',Rc v w'→K (ai f d v) w'):vO P pn K g args f d w:=
 ⟨hc.ok,hc.calls.mono fun _ _ hh=>hh.elim (fun⟨v,he,hv⟩=>.inl ⟨v,he,h v _ hv⟩) fun⟨c,he,hv⟩=>.inr ⟨c,he,hp _ _ hv⟩⟩
theorem lH(h:FuncId)(first cap:Array Value)(args:List Value)(f:Fr)(d:Option Nat)(w:World):
  Ai P pn K (.func (.func h) first cap) args f d w=vO P pn K h (first.toList++args++cap.toList) f d w:=
 propext ⟨fun⟨_,_,_,he,hc⟩=>by cases he;exact hc,fun hc=>⟨_,_,_,rfl,hc⟩⟩
def iM(P:Program)(rs:Array ResultVar)(Rc:Value→World→Prop)(f:Fr)(w:World):Prop:=
 ∃v,(∀(fn:Func) (tmps:Array Value),fn.results=rs→(∀t,tmps.getD t undef=f t)→(results fn tmps).run P w= .ok v w)∧Rc v w
theorem aF{Rc:Value→World→Prop}{t:Nat}{f:Fr}{w:World}(h:Rc (f t) w):iM P #[.tmp t] Rc f w:=
 ⟨f t,fun fn tmps hr hf=>by rw[results_tmp hr,hf],h⟩
theorem qH{Rc:Value→World→Prop}{f:Fr}{w:World}(h:Rc (.tuple #[]) w):iM P #[] Rc f w:=
 ⟨_,fun _ _ hr _=>results_none hr _ _ _,h⟩
theorem mV{Rc:Value→World→Prop}{t s:Nat}{f:Fr}{w:World}(h:Rc (.tuple #[f t,f s]) w):iM P #[.tmp t,.tmp s] Rc f w:=
 ⟨_,fun fn tmps hr hf=>by rw[results_tmp2 hr,hf,hf],h⟩
theorem E9{Rc:Value→World→Prop}{t s r:Nat}{f:Fr}{w:World}(h:Rc (.tuple #[f t,f s,f r]) w):iM P #[.tmp t,.tmp s,.tmp r] Rc f w:=
 ⟨_,fun fn tmps hr hf=>by simp[results,hr,hf],h⟩
theorem Fa{Rc:Value→World→Prop}{t s r q:Nat}{f:Fr}{w:World}(h:Rc (.tuple #[f t,f s,f r,f q]) w):iM P #[.tmp t,.tmp s,.tmp r,.tmp q] Rc f w:=
 ⟨_,fun fn tmps hr hf=>by simp[results,hr,hf],h⟩
def KM:Dx:=⟨[],fun _=>undef⟩
theorem Nc{g:FuncId}{fn:Func}{c:C}{args:List Value}{w:World}{Rc:Value→World→Prop}{N:Nat}{rs:Array ResultVar}(hm:P.follows .mixedOrders=true)(hf:P.funcs[g]? =some fn)
  (hN:fn.ntmps=N)(Ht:fn.results=rs)(hc:fn.body.map (cC ⟨N,0⟩)=some c)(cL:db P g=true)(kq:args.length≤N)(n:Nat)
  (h:∀Q:Value→World→Prop,(∀v w',Rc v w'→Q v w')→x P (iM P rs Q) n [] [.c c] w (xn args) w):dw P g args w Rc:=by
 replace h:=h Rc fun _ _ h=>h
 refine⟨cL,?_⟩
 cases hb:fn.body with
 |none=>simp[hb]at hc
 |some cc=>
  simp only[hb,Option.map_some,Option.some.injEq]at hc
  subst hc
  have KN:Fits ⟨N,0⟩ KM {tmps:=args.toArray++Array.replicate (fn.ntmps-args.toArray.size) undef,defers:=[]} (xn args):=by
   refine⟨rfl,by simp[hN];omega,fun t ht=>absurd ht (Nat.not_lt_zero _),fun t=>?_⟩
   simp only[Array.getD_eq_getD_getElem?,xn,List.getD_eq_getElem?_getD,Array.getElem?_append,List.size_toArray,List.getElem?_toArray]
   split
   ·rfl
   ·rename_i ht
    rw[List.getElem?_eq_none (by omega),Array.getElem?_replicate]
    split<;>rfl
  have hs:=sound (Rf:=iM P rs Rc) (N:=⟨N,0⟩) hm n [] #[] [.c cc] w (xn args) w _ KN h
  refine calls_of_wp hf hb (Go.wp_mono (hs:cc.wp P (bR P ⟨N,0⟩ KM (iM P rs Rc) []) _ w) ?_)
  intro e a w' hq
  have key:RQ ⟨N,0⟩ KM (iM P rs Rc) a w'→a.defers=[]∧∃v,(results fn a.tmps).run P w'= .ok v w'∧∃v',(Ending.returned v)= .returned v'∧Rc v' w':=by
   rintro⟨f,fO,v,hv,hR⟩
   exact⟨fO.defers,v,hv fn a.tmps Ht fO.at_,v,rfl,hR⟩
  cases e<;>first|exact key hq|exact hq.elim|exact hq.2.elim
abbrev bI(P:Program)(N:Nat)(rs:Array ResultVar)(c:C)(g:FuncId):Prop:=∀{args:List Value} {w:World} {Rc:Value→World→Prop},args.length≤N→∀n:Nat,(∀Q:Value→World→Prop,(∀v w',Rc v w'→Q v w')→x P (iM P rs Q) n [] [.c c] w (xn args) w)→dw P g args w Rc
theorem bL{g:FuncId}{fn:Func}{c:C}{N:Nat}{rs:Array ResultVar}(hm:P.follows .mixedOrders=true)(hf:P.funcs[g]? =some fn)(hN:fn.ntmps=N)(Ht:fn.results=rs)(hc:fn.body.map (cC ⟨N,0⟩)=some c)(cL:db P g=true):bI P N rs c g:=
 fun kq n h=>Nc hm hf hN Ht hc cL kq n h
theorem eR{g:FuncId}{fn:Func}{c:C}{args:List Value}{w:World}{Rc:Value→World→Prop}{Rp:List PanicEntry→World→Prop}{N:Nat}{rs:Array ResultVar}(hm:P.follows .mixedOrders=true)(hf:P.funcs[g]? =some fn)
  (hN:fn.ntmps=N)(Ht:fn.results=rs)(hc:fn.body.map (cC ⟨N,0⟩)=some c)(cL:db P g=true)(kq:args.length≤N)(n:Nat)
  (h:∀(Q:Value→World→Prop) (Qp:List PanicEntry→World→Prop),(∀v w',Rc v w'→Q v w')→(∀c w',Rp c w'→Qp c w')→x P ⟨iM P rs Q,Qp⟩ n [] [.c c] w (xn args) w):mO P g args w Rc Rp:=by
 replace h:=h Rc Rp (fun _ _ h=>h) (fun _ _ h=>h)
 refine⟨cL,?_⟩
 cases hb:fn.body with
 |none=>simp[hb]at hc
 |some cc=>
  simp only[hb,Option.map_some,Option.some.injEq]at hc
  subst hc
  have KN:Fits ⟨N,0⟩ KM {tmps:=args.toArray++Array.replicate (fn.ntmps-args.toArray.size) undef,defers:=[]} (xn args):=by
   refine⟨rfl,by simp[hN];omega,fun t ht=>absurd ht (Nat.not_lt_zero _),fun t=>?_⟩
   simp only[Array.getD_eq_getD_getElem?,xn,List.getD_eq_getElem?_getD,Array.getElem?_append,List.size_toArray,List.getElem?_toArray]
   split
   ·rfl
   ·rename_i ht
    rw[List.getElem?_eq_none (by omega),Array.getElem?_replicate]
    split<;>rfl
  have hs:=sound (Rf:=⟨iM P rs Rc,Rp⟩) (N:=⟨N,0⟩) hm n [] #[] [.c cc] w (xn args) w _ KN h
  refine calls_of_wp hf hb (Go.wp_mono (hs:cc.wp P (bR P ⟨N,0⟩ KM ⟨iM P rs Rc,Rp⟩ []) _ w) ?_)
  intro e a w' hq
  have key:RQ ⟨N,0⟩ KM (iM P rs Rc) a w'→a.defers=[]∧∃v,(results fn a.tmps).run P w'= .ok v w'∧((∃v',(Ending.returned v)= .returned v'∧Rc v' w')∨∃ch,(Ending.returned v)= .panicked ch∧Rp ch w'):=by
   rintro⟨f,fO,v,hv,hR⟩
   exact⟨fO.defers,v,hv fn a.tmps Ht fO.at_,.inl ⟨v,rfl,hR⟩⟩
  cases e<;>first|exact key hq|exact hq.elim|exact⟨hq.1.1,.inr ⟨_,rfl,hq.2⟩⟩
end
section
variable {P:Program} {K:Fr→World→Prop} (u:World) (f:Fr) (d:Option Nat) (w:World) (ty:TypeId)
theorem aM{s:Sem Value}{v:Value}(h:∀w',Below u.heap.size u w'→s.run P w'= .ok v w'):aq P K s u f d w=K (ai f d v) w:=
 propext ⟨fun⟨v',hv,hk⟩=>by
  have h1:=h u (Below.refl _ _)
  rw[hv u (Below.refl _ _)]at h1
  cases h1;exact hk,fun hk=>⟨v,h,hk⟩⟩
def bW(op:BinOp)(t:TypeId)(xo yo:Operand)(vx vy:Value):Sem Value:=do eqGuard op t xo yo vx vy;binOp op t vx vy
theorem Wc(S:World→Prop)(op:BinOp)(xt:TypeId)(a c:Operand)(q:TypeId):qE P K S (.binOp op xt a c q) ty f d w=Hp P K S (bW op xt a c (ev f a) (ev f c)) f d w:=propext Iff.rfl
theorem Wd(S:World→Prop)(a:Operand)(t:TypeId):qE P K S (.call ⟨.builtin .len, #[a], #[t]⟩) ty f d w=Hp P K S (Builtin.len_ #[t] ty #[ev f a]) f d w:=by simp[qE,valOf]
theorem aaQ(op:BinOp)(t:TypeId)(xo yo:Operand)(yt:TypeId):gU P K (.binOp op t xo yo yt) ty u f d w=aq P K (bW op t xo yo (ev f xo) (ev f yo)) u f d w:=propext Iff.rfl
theorem We(t:TypeId)(o:Operand):gU P K (.load t o) ty u f d w=aq P K (Instr.loadAt t (ev f o)) u f d w:=propext Iff.rfl
theorem aaR(t:TypeId)(o:Operand)(k:Nat):gU P K (.fieldAddr t o k) ty u f d w=aq P K (Instr.fieldAt t (ev f o) k) u f d w:=propext Iff.rfl
theorem RE(t:TypeId)(o:Operand)(k:Nat):gU P K (.field t o k) ty u f d w=aq P K (Instr.field t (ev f o) k) u f d w:=propext Iff.rfl
theorem Wf(t:TypeId)(o:Operand):gU P K (.makeInterface t o) ty u f d w=aq P K (Instr.makeInterface t (ev f o)) u f d w:=propext Iff.rfl
theorem aaS(t:TypeId)(o i:Operand):gU P K (.indexAddr t o i) ty u f d w=aq P K (Instr.indexAt t (ev f o) (ev f i)) u f d w:=propext Iff.rfl
theorem af7(op:UnOp)(t:TypeId)(o:Operand):gU P K (.unOp op t o) ty u f d w=aq P K (Op.unary op (ev f o)) u f d w:=propext Iff.rfl
theorem aaT(o:Operand)(k:Nat):gU P K (.extract o k) ty u f d w=aq P K (Instr.extract (ev f o) k) u f d w:=propext Iff.rfl
theorem aaU(t:TypeId)(o:Operand):gU P K (.call ⟨.builtin .len, #[o], #[t]⟩) ty u f d w=aq P K (Builtin.len_ #[t] ty #[ev f o]) u f d w:=by simp[gU,valOf]
theorem aaV(ts:Array TypeId)(o p:Operand):gU P K (.call ⟨.builtin .min, #[o,p],ts⟩) ty u f d w=aq P K (Builtin.min_ ts ty #[ev f o,ev f p]) u f d w:=by simp[gU,valOf]
theorem aaW(ts:Array TypeId)(o p:Operand):gU P K (.call ⟨.builtin .max, #[o,p],ts⟩) ty u f d w=aq P K (Builtin.max_ ts ty #[ev f o,ev f p]) u f d w:=by simp[gU,valOf]
section
variable (t:TypeId) (xo yo:Operand)
theorem RF(k:IntKind)(a b:Int):aq P K (bW .lss t xo yo (.int k a) (.int k b)) u f d w=K (ai f d (.bool (decide (a<b)))) w:=
 aM u f d w fun w' _=>by simp[bW,eqGuard,binOp,Op.intCmp]
theorem RG(k:IntKind)(a b:Int):aq P K (bW .leq t xo yo (.int k a) (.int k b)) u f d w=K (ai f d (.bool (decide (a≤b)))) w:=
 aM u f d w fun w' _=>by simp[bW,eqGuard,binOp,Op.intCmp]
theorem Ji(k:IntKind)(a b:Int):aq P K (bW .gtr t xo yo (.int k a) (.int k b)) u f d w=K (ai f d (.bool (decide (b<a)))) w:=
 aM u f d w fun w' _=>by simp[bW,eqGuard,binOp,Op.intCmp]
theorem RH(k:IntKind)(a b:Int):aq P K (bW .geq t xo yo (.int k a) (.int k b)) u f d w=K (ai f d (.bool (decide (b≤a)))) w:=
 aM u f d w fun w' _=>by simp[bW,eqGuard,binOp,Op.intCmp]
theorem RI(k:IntKind)(a b:Int):aq P K (bW .eql t xo yo (.int k a) (.int k b)) u f d w=K (ai f d (.bool (decide (a=b)))) w:=
 aM u f d w fun w' _=>by simp[bW,eqGuard,binOp,Op.intCmp];rfl
theorem RJ(k:IntKind)(a b:Int):aq P K (bW .neq t xo yo (.int k a) (.int k b)) u f d w=K (ai f d (.bool (decide (a≠b)))) w:=
 aM u f d w fun w' _=>by simp[bW,eqGuard,binOp,Op.intCmp];by_cases h:a=b<;>simp[h]
theorem RL(a b:Int)(h0: -9223372036854775808≤a+b)(h1:a+b≤9223372036854775807):aq P K (bW .add t xo yo (.int .i64 a) (.int .i64 b)) u f d w=K (ai f d (.int .i64 (a+b))) w:=
 aM u f d w fun w' _=>by simp[bW,eqGuard,binOp,Op.intArith,IntWalk.i64_in _ ⟨h0,h1⟩]
theorem RM(a b:Int)(h0: -9223372036854775808≤a-b)(h1:a-b≤9223372036854775807):aq P K (bW .sub t xo yo (.int .i64 a) (.int .i64 b)) u f d w=K (ai f d (.int .i64 (a-b))) w:=
 aM u f d w fun w' _=>by simp[bW,eqGuard,binOp,Op.intArith,IntWalk.i64_in _ ⟨h0,h1⟩]
theorem RN(a b:Int)(h0: -9223372036854775808≤a*b)(h1:a*b≤9223372036854775807):aq P K (bW .mul t xo yo (.int .i64 a) (.int .i64 b)) u f d w=K (ai f d (.int .i64 (a*b))) w:=
 aM u f d w fun w' _=>by simp[bW,eqGuard,binOp,Op.intArith,IntWalk.i64_in _ ⟨h0,h1⟩]
end
theorem Wg(b:Bool):aq P K (Op.unary .not (.bool b)) u f d w=K (ai f d (.bool (!b))) w:=aM u f d w fun _ _=>rfl
theorem eS(vs:Array Value)(k:Nat)(h:k<vs.size):aq P K (Instr.extract (.tuple vs) k) u f d w=K (ai f d vs[k]) w:=
 aM u f d w fun w' _=>by simp[Instr.extract,h]
theorem nM(t:TypeId)(h:(qO P t).isSome=true)(A:Option Addr)(n c:Nat):aq P K (Builtin.len_ #[t] ty #[.slice A n c]) u f d w=K (ai f d (.int .i64 n)) w:=
 aM u f d w fun w' _=>by
  unfold qO at h
  split at h
  ·rename_i e he
   simp[Builtin.len_,run_underlying he,goInt]
  ·cases h
theorem RO(ts:Array TypeId)(k:IntKind)(a b:Int):aq P K (Builtin.min_ ts ty #[.int k a,.int k b]) u f d w=K (ai f d (.int k (min a b))) w:=
 aM u f d w fun w' _=>by simp[Builtin.min_,Builtin.min2];split<;>omega
theorem RP(ts:Array TypeId)(k:IntKind)(a b:Int):aq P K (Builtin.max_ ts ty #[.int k a,.int k b]) u f d w=K (ai f d (.int k (max a b))) w:=
 aM u f d w fun w' _=>by simp[Builtin.max_,Builtin.max2];split<;>omega
def eA(A:Option Addr)(k:Nat):Addr:=(A.getD default).add k
theorem tm(a:Addr)(k:Nat):eA (some a) k=a.add k:=rfl
theorem add_add(a:Addr)(i j:Nat):(a.add i).add j=a.add (i+j):=by
 unfold Addr.add
 by_cases hi:i=0<;>by_cases hj:j=0<;>simp[hi,hj,Nat.add_assoc]
theorem Wh(A:Option Addr)(i j:Nat):(eA A i).add j=eA A (i+j):=add_add _ _ _
theorem uI(t:TypeId)(h:(qO P t).isSome=true)(A:Option Addr)(hA:A.isSome=true)(n c:Nat)(k:IntKind)(i:Int)(h0:0≤i)(h1:i<n):
  aq P K (Instr.indexAt t (.slice A n c) (.int k i)) u f d w=K (ai f d (.pointer (some (eA A (i.toNat*(qO P t).getD 0))))) w:=
 aM u f d w fun w' _=>by
  unfold qO at h ⊢
  split at h
  ·rename_i e he
   cases A with
   |none=>cases hA
   |some a=>
    unfold aL at h ⊢
    cases hi:P.info? e with
    |none=>simp[hi]at h
    |some ie=>
     simp[Instr.indexAt,asIntOf,run_underlying he,h0,h1,sizeOf,typeInfo,hi,eA]
  ·cases h
theorem tp(t:TypeId)(h:(fF P t).isSome=true)(a:Addr)(k:IntKind)(i:Int)(h0:0≤i)(h1:i<((fF P t).getD (0,0)).1):
  aq P K (Instr.indexAt t (.pointer (some a)) (.int k i)) u f d w=K (ai f d (.pointer (some (a.add (i.toNat*((fF P t).getD (0,0)).2))))) w:=
 aM u f d w fun w' _=>by
  cases hu:P.underlying t with
  |none=>simp[fF,hu]at h
  |some de=>
   cases de<;>first|(simp[fF,hu]at h;done)|skip
   rename_i len e
   cases hi:P.info? e with
   |none=>simp[fF,hu,aL,hi]at h
   |some ie=>
    have hh:fF P t=some (len,ie.size):=by simp[fF,hu,aL,hi]
    rw[hh]at h1 ⊢
    simp only[Option.getD_some]at h1 ⊢
    simp[Instr.indexAt,asIntOf,run_underlying hu,h0,h1,sizeOf,typeInfo,hi,Instr.sureAddr]
theorem aQ(t:TypeId)(k:Nat)(h:(bw P t k).isSome=true)(a:Addr):aq P K (Instr.fieldAt t (.pointer (some a)) k) u f d w=K (ai f d (.pointer (some (a.add ((bw P t k).getD 0))))) w:=
 aM u f d w fun w' _=>by
  unfold bw at h ⊢
  split at h
  ·rename_i fs he
   cases hk:fs[k]?with
   |none=>simp[hk]at h
   |some fl=>
    simp only[hk]at h ⊢
    unfold aL at h ⊢
    cases hi:P.info? fl.type with
    |none=>simp[hi]at h
    |some ie=>
     simp only[hi,Option.map_some]at h ⊢
     cases hz:ie.size with
     |zero=>simp[hz]at h
     |succ m=>simp[Instr.fieldAt,run_underlying he,hk,Instr.sureAddr,fieldPlace,sizeOf,typeInfo,hi,hz]
  ·cases h
theorem af8(t:TypeId)(d:Option Nat)(o:Operand)(u:World):mT P K t (.mv d o) u f w=K (ai f d (ev f o)) w:=propext Iff.rfl
theorem Wi(t:TypeId)(d:Option Nat)(o:Operand)(u:World):mT P K t (.aZ d o) u f w=E5 K (ev f o) f d w:=propext Iff.rfl
theorem aaX(t:TypeId)(d:Option Nat)(o:Op)(ty:TypeId)(u:World):mT P K t (.val d o ty) u f w=CZ P K t o ty u f d w:=propext Iff.rfl
theorem Wj(t:TypeId)(ty t2:TypeId)(o:Operand)(u:World):CZ P K t (.load t2 o) ty u f d w=Rk P K t (Instr.loadAt t2 (ev f o)) u f d w:=propext Iff.rfl
theorem Hx{et t e:TypeId}(hT:P.underlying et=some (.slice e))(h:aR P t=some false){a:Addr}{v:Value}{cs:Array Value}{t2:TypeId}{r:Nat×Nat}(hb:u.heap[a.block]? =some (.cells cs t2 r))(hc:u.cell? a=some v)(cY:t2≠e):Rk P K et (Instr.loadAt t (.pointer (some a))) u f d w=K (ai f d v) w:=by
 have hr:∀w',dy P et u w'→(Instr.loadAt t (.pointer (some a))).run P w'= .ok v w':=fun w' DR=>by
  have aI:=World.block_lt_of_cell? u a hc
  have hc':w'.cell? a=some v:=by
   rw[←hc]
   refine World.cell?_of_block (DR.block _ aI fun e' Wl r' he hx=>cY ?_)
   rw[hT]at he
   injection he with he
   injection he with he
   rw[hb]at hx
   injection hx with hx
   injection hx with _ hx
   rw[hx,he]
  unfold aR at h
  cases hu:P.underlying t with
  |none=>simp[hu]at h
  |some de=>
   simp only[hu,Option.map_some,Option.some.injEq]at h
   cases de<;>simp at h<;>simp[Instr.loadAt,Instr.sureAddr,loadVar,isAgg,run_underlying hu,hc']
 exact propext ⟨fun⟨v',hv,hk⟩=>by have:=(hv u ⟨Nat.le_refl _,fun _ _ _=>rfl⟩).symm.trans (hr u ⟨Nat.le_refl _,fun _ _ _=>rfl⟩);cases this;exact hk,fun hk=>⟨v,hr,hk⟩⟩
def dD(P:Program)(K:Fr→World→Prop)(s:Sem Value)(f:Fr)(d:Option Nat)(w:World):Prop:=∃v,(∀w',s.run P w'= .ok v w')∧K (ai f d v) w
theorem zN{s:Sem Value}{v:Value}(h:∀w',s.run P w'= .ok v w'):dD P K s f d w=K (ai f d v) w:=
 propext ⟨fun⟨v',hv,hk⟩=>by have:=(hv w).symm.trans (h w);cases this;exact hk,fun hk=>⟨v,h,hk⟩⟩
theorem aaY(op:BinOp)(t:TypeId)(xo yo:Operand)(yt:TypeId):Ah P K (.binOp op t xo yo yt) ty f d w=dD P K (bW op t xo yo (ev f xo) (ev f yo)) f d w:=propext Iff.rfl
theorem Nd(t:TypeId)(xo yo:Operand)(a b:Int)(h0: -9223372036854775808≤a-b)(h1:a-b≤9223372036854775807):dD P K (bW .sub t xo yo (.int .i64 a) (.int .i64 b)) f d w=K (ai f d (.int .i64 (a-b))) w:=
 zN f d w fun w'=>by simp[bW,eqGuard,binOp,Op.intArith,IntWalk.i64_in _ ⟨h0,h1⟩]
theorem aeX(o:Operand)(k:Nat):Ah P K (.extract o k) ty f d w=dD P K (Instr.extract (ev f o) k) f d w:=propext Iff.rfl
theorem ad2(a b c:Value):dD P K (Instr.extract (.tuple #[a,b,c]) 0) f d w=K (ai f d a) w:=zN f d w fun w'=>by simp[Instr.extract]
theorem ad7(a b c:Value):dD P K (Instr.extract (.tuple #[a,b,c]) 1) f d w=K (ai f d b) w:=zN f d w fun w'=>by simp[Instr.extract]
theorem ad8(a b c:Value):dD P K (Instr.extract (.tuple #[a,b,c]) 2) f d w=K (ai f d c) w:=zN f d w fun w'=>by simp[Instr.extract]
theorem aaZ(t:TypeId)(o:Operand)(k:Nat):Ah P K (.fieldAddr t o k) ty f d w=dD P K (Instr.fieldAt t (ev f o) k) f d w:=propext Iff.rfl
theorem aa0(t:TypeId)(o i:Operand):Ah P K (.indexAddr t o i) ty f d w=dD P K (Instr.indexAt t (ev f o) (ev f i)) f d w:=propext Iff.rfl
theorem zO(t:TypeId)(h:(qO P t).isSome=true)(A:Option Addr)(hA:A.isSome=true)(n c:Nat)(k:IntKind)(i:Int)(h0:0≤i)(h1:i<n):
  dD P K (Instr.indexAt t (.slice A n c) (.int k i)) f d w=K (ai f d (.pointer (some (eA A (i.toNat*(qO P t).getD 0))))) w:=
 zN f d w fun w'=>by
  unfold qO at h ⊢
  split at h
  ·rename_i e he
   cases A with
   |none=>cases hA
   |some a=>
    unfold aL at h ⊢
    cases hi:P.info? e with
    |none=>simp[hi]at h
    |some ie=>
     simp[Instr.indexAt,asIntOf,run_underlying he,h0,h1,sizeOf,typeInfo,hi,eA]
  ·cases h
theorem Ao(t:TypeId)(h:(fF P t).isSome=true)(a:Addr)(k:IntKind)(i:Int)(h0:0≤i)(h1:i<((fF P t).getD (0,0)).1):
  dD P K (Instr.indexAt t (.pointer (some a)) (.int k i)) f d w=K (ai f d (.pointer (some (a.add (i.toNat*((fF P t).getD (0,0)).2))))) w:=
 zN f d w fun w'=>by
  cases hu:P.underlying t with
  |none=>simp[fF,hu]at h
  |some de=>
   cases de<;>first|(simp[fF,hu]at h;done)|skip
   rename_i len e
   cases hi:P.info? e with
   |none=>simp[fF,hu,aL,hi]at h
   |some ie=>
    have hh:fF P t=some (len,ie.size):=by simp[fF,hu,aL,hi]
    rw[hh]at h1 ⊢
    simp only[Option.getD_some]at h1 ⊢
    simp[Instr.indexAt,asIntOf,run_underlying hu,h0,h1,sizeOf,typeInfo,hi,Instr.sureAddr]
theorem a7(t:TypeId)(k:Nat)(h:(bw P t k).isSome=true)(a:Addr):dD P K (Instr.fieldAt t (.pointer (some a)) k) f d w=K (ai f d (.pointer (some (a.add ((bw P t k).getD 0))))) w:=
 zN f d w fun w'=>by
  unfold bw at h ⊢
  split at h
  ·rename_i fs he
   cases hk:fs[k]?with
   |none=>simp[hk]at h
   |some fl=>
    simp only[hk]at h ⊢
    unfold aL at h ⊢
    cases hi:P.info? fl.type with
    |none=>simp[hi]at h
    |some ie=>
     simp only[hi,Option.map_some]at h ⊢
     cases hz:ie.size with
     |zero=>simp[hz]at h
     |succ m=>simp[Instr.fieldAt,run_underlying he,hk,Instr.sureAddr,fieldPlace,sizeOf,typeInfo,hi,hz]
  ·cases h
theorem Ar{u w':World}(h:Below u.heap.size u w'){a:Addr}{v:Value}(hc:u.cell? a=some v):w'.cell? a=some v:=
 (h.cell (World.block_lt_of_cell? u a hc)).trans hc
theorem eG{t:TypeId}(h:aR P t=some false){a:Addr}{v:Value}(hc:u.cell? a=some v):aq P K (Instr.loadAt t (.pointer (some a))) u f d w=K (ai f d v) w:=
 aM u f d w fun w' DR=>by
  have hc':=Ar DR hc
  unfold aR at h
  cases hu:P.underlying t with
  |none=>simp[hu]at h
  |some de=>
   simp only[hu,Option.map_some,Option.some.injEq]at h
   cases de<;>simp at h<;>simp[Instr.loadAt,Instr.sureAddr,loadVar,isAgg,run_underlying hu,hc']
end
attribute [push_cast] aaL Wf V5 af0 V6 aaM Ry V7 aaN Rz V8 RA Wc Wd afY V3 af8 Wi aaX Wj aaK aaZ aa0 aaY Nd afX Ru afR aaD aaE Rs aaF Rt KH KI VZ V0 M5 KJ Ro M6 M7 Rq aaC afN afO afP Rr afQ afS afT afU aaG afV x_q aaH afW V1 V2 aaI aaJ V4 Rv afZ RB M9 Na af1 V9 Wa aaO aaP Wb RC af2 af3 af4 af5 af6 RD KL Hw Nb cond_true cond_false lH aaQ We M8 KK aaR RE aaS af7 aaT aaU aaV aaW RF RG Ji RH RI RJ RL RM RN Wg eS RO RP Wh
attribute [push_cast] Int.ofNat_lt Int.ofNat_le decide_true decide_false Int.toNat_natCast Nat.mul_one ne_eq not_true_eq_false not_false_eq_true Bool.not_true Bool.not_false beq_self_eq_true Bool.false_eq_true
end
section
open Go.RowKit
theorem oz(A:Option Addr)(k:Nat):(eA A k).block=(A.getD default).block:=by unfold eA Addr.add;split<;>rfl
structure Same(w w':World):Prop where
 heap:w'.heap=w.heap
 os:w'.os=w.os
 tape:w'.tape=w.tape
 output:w'.output=w.output
theorem Same.refl(w:World):Same w w:=⟨rfl,rfl,rfl,rfl⟩
theorem Same.trans{a b c:World}(h:Same a b)(k:Same b c):Same a c:=⟨k.heap.trans h.heap,k.os.trans h.os,k.tape.trans h.tape,k.output.trans h.output⟩
theorem Same.drew{a b:World}(h:Same a b):Same a b.drew:=⟨h.heap,h.os,h.tape,h.output⟩
theorem Same.below{a b:World}(h:Same a b)(B:Nat):Below B a b:=⟨h.os,h.tape,h.output,by rw[h.heap];exact Nat.le_refl _,fun k _=>by rw[h.heap]⟩
structure Ints(ok:Nat→Prop)(w:World)(A:Option Addr)(l:List Int):Prop where
 isSome:0<l.length→A.isSome=true
 block:0<l.length→ok (A.getD default).block
 cell:∀i,i<l.length→w.cell? (eA A i)=some (.int .i64 (l.getD i 0))
section
variable {P:Program} {K:Fr→World→Prop} {u:World} {f:Fr} {d:Option Nat} {w:World} {ok vJ:Nat→Prop} {A:Option Addr} {l:List Int}
theorem Ints.ld(h:Ints ok u A l){t:TypeId}(ht:aR P t=some false)(i:Nat)(hi:i<l.length):
  aq P K (Instr.loadAt t (.pointer (some (eA A i)))) u f d w=K (ai f d (.int .i64 (l.getD i 0))) w:=eG u f d w ht (h.cell i hi)
theorem Ints.nil(ok:Nat→Prop)(w:World)(A:Option Addr):Ints ok w A []:=⟨fun h=>absurd h (by simp),fun h=>absurd h (by simp),fun i h=>absurd h (by simp)⟩
theorem Ints.mono(h:Ints ok u A l)(hk:∀b,ok b→vJ b):Ints vJ u A l:=⟨h.isSome,fun hl=>hk _ (h.block hl),h.cell⟩
theorem Ints.keep(h:Ints ok u A l)(hk:∀b,ok b→w.heap[b]? =u.heap[b]?):Ints ok w A l:=
 ⟨h.isSome,h.block,fun i hi=>by
  rw[←h.cell i hi]
  exact World.cell?_of_block (by rw[oz];exact hk _ (h.block (by omega)))⟩
theorem Ints.below{B:Nat}(h:Ints (·<B) u A l)(hb:Below B u w):Ints (·<B) w A l:=h.keep fun b aI=>hb.block b aI
theorem Ints.same(h:Ints ok u A l)(k:Same u w):Ints ok w A l:=h.keep fun b _=>by rw[k.heap]
end
structure cH where
 bK:Int
 dI:Int
 dt:Int
 deriving DecidableEq
instance:Inhabited cH:=⟨⟨0,0,0⟩⟩
def cH.cell(a:cH)(j:Nat):Int:=if j=0 then a.bK else if j=1 then a.dI else a.dt
structure il(ok:Nat→Prop)(w:World)(A:Option Addr)(l:List cH):Prop where
 isSome:0<l.length→A.isSome=true
 block:0<l.length→ok (A.getD default).block
 cell:∀i,i<l.length→∀j,j<3→w.cell? (eA A (i*3+j))=some (.int .i64 ((l.getD i default).cell j))
section
variable {P:Program} {K:Fr→World→Prop} {u:World} {f:Fr} {d:Option Nat} {w:World} {ok vJ:Nat→Prop} {A:Option Addr} {l:List cH}
theorem il.Nf(h:il ok u A l){t:TypeId}(ht:aR P t=some false)(i:Nat)(hi:i<l.length):
  aq P K (Instr.loadAt t (.pointer (some (eA A (i*3))))) u f d w=K (ai f d (.int .i64 (l.getD i default).bK)) w:=eG u f d w ht (h.cell i hi 0 (by decide))
theorem il.ld1(h:il ok u A l){t:TypeId}(ht:aR P t=some false)(i:Nat)(hi:i<l.length):
  aq P K (Instr.loadAt t (.pointer (some (eA A (i*3+1))))) u f d w=K (ai f d (.int .i64 (l.getD i default).dI)) w:=eG u f d w ht (h.cell i hi 1 (by decide))
theorem il.nil(ok:Nat→Prop)(w:World)(A:Option Addr):il ok w A []:=⟨fun h=>absurd h (by simp),fun h=>absurd h (by simp),fun i h=>absurd h (by simp)⟩
theorem il.mono(h:il ok u A l)(hk:∀b,ok b→vJ b):il vJ u A l:=⟨h.isSome,fun hl=>hk _ (h.block hl),h.cell⟩
theorem il.keep(h:il ok u A l)(hk:∀b,ok b→w.heap[b]? =u.heap[b]?):il ok w A l:=
 ⟨h.isSome,h.block,fun i hi j hj=>by
  rw[←h.cell i hi j hj]
  exact World.cell?_of_block (by rw[oz];exact hk _ (h.block (by omega)))⟩
theorem il.below{B:Nat}(h:il (·<B) u A l)(hb:Below B u w):il (·<B) w A l:=h.keep fun b aI=>hb.block b aI
theorem il.same(h:il ok u A l)(k:Same u w):il ok w A l:=h.keep fun b _=>by rw[k.heap]
end
structure aN where
 aj:Int
 events:Int
 aB:List Int
 ag:List cH
 ends:List Int
 deriving DecidableEq
def ug(x:Int):Prop:= -9223372036854775808≤x∧x≤9223372036854775807
structure aN.Fits(m:aN):Prop where
 aj:ug m.aj
 events:ug m.events
 aB:∀x∈m.aB,ug x
 ends:∀x∈m.ends,ug x
 ag:∀a∈m.ag,ug a.bK∧ug a.dI∧ug a.dt
 Wm:m.aB.length≤17592186043904
 aga:m.ends.length≤17592186043904
 amb:m.ag.length≤17592186043904
structure MV where
 As:Option Addr
 cs:Nat
 Aa:Option Addr
 ca:Nat
 Ae:Option Addr
 ce:Nat
abbrev MV.cells(a:MV)(m:aN):List Value:=[.int .i64 m.aj,.int .i64 m.events,.slice a.As m.aB.length a.cs,.slice a.Aa m.ag.length a.ca,.slice a.Ae m.ends.length a.ce]
abbrev MV.val(a:MV)(m:aN):Value:= .agg (a.cells m).toArray
structure zj(ok:Nat→Prop)(w:World)(a:MV)(m:aN):Prop where
 aB:Ints ok w a.As m.aB
 ag:il ok w a.Aa m.ag
 ends:Ints ok w a.Ae m.ends
section
variable {u w:World} {ok vJ:Nat→Prop} {a:MV} {m:aN}
theorem zj.mono(h:zj ok u a m)(hk:∀b,ok b→vJ b):zj vJ u a m:=⟨h.aB.mono hk,h.ag.mono hk,h.ends.mono hk⟩
theorem zj.keep(h:zj ok u a m)(hk:∀b,ok b→w.heap[b]? =u.heap[b]?):zj ok w a m:=⟨h.aB.keep hk,h.ag.keep hk,h.ends.keep hk⟩
theorem zj.below{B:Nat}(h:zj (·<B) u a m)(hb:Below B u w):zj (·<B) w a m:=h.keep fun b aI=>hb.block b aI
theorem zj.same(h:zj ok u a m)(k:Same u w):zj ok w a m:=h.keep fun b _=>by rw[k.heap]
end
end
section
open Go.RowKit
structure uJ(P:Program)(t e sz bytes:Nat):Prop where
 under:P.underlying t=some (.slice e)
 info:(P.info? e).map (fun i=>(i.zero.map (·.cells.size),i.size,i.bytes))=some (some sz,sz,bytes)
 pos:0<sz
theorem uJ.get{P:Program}{t e sz bytes:Nat}(h:uJ P t e sz bytes):∃i z,P.info? e=some i∧i.zero=some z∧i.size=sz∧i.bytes=bytes∧z.cells.size=sz:=by
 have:=h.info
 cases hi:P.info? e with
 |none=>simp[hi]at this
 |some i=>
  simp only[hi,Option.map_some,Option.some.injEq,Prod.mk.injEq]at this
  obtain⟨hz,hs,hb⟩:=this
  cases Cw:i.zero with
  |none=>simp[Cw]at hz
  |some z=>exact⟨i,z,rfl,Cw,hs,hb,by simpa[Cw]using hz⟩
theorem addr_add(g j k:Nat):(⟨g,j,none⟩:Addr).add k=⟨g,j+k,none⟩:=by
 unfold Addr.add;split<;>simp_all
theorem jz(g k:Nat):eA (some ⟨g,0,none⟩) k=⟨g,k,none⟩:=by rw[tm,addr_add,Nat.zero_add]
def aE(w:World)(g:Nat)(t:TypeId)(cs:List Value):Prop:=w.heap[g]? =some (.cells cs.toArray t (0,0))
section
variable {P:Program} {K:Fr→World→Prop} {w w' u:World} {g:Nat} {t:TypeId} {cs:List Value} {f:Fr} {d:Option Nat}
theorem aE.lt(h:aE w g t cs):g<w.heap.size:=by
 rcases Nat.lt_or_ge g w.heap.size with aI|Hy
 ·exact aI
 ·unfold aE at h;rw[Array.getElem?_eq_none Hy]at h;cases h
theorem aE.cell(h:aE w g t cs)(i:Nat):w.cell? ⟨g,i,none⟩=cs[i]? :=by rw[cell_of_row w g i cs.toArray t (0,0) h];simp
theorem aE.frozen(h:aE w g t cs)(i:Nat):w.frozen? ⟨g,i,none⟩=false:=frozen_of_row w g i cs.toArray t h
theorem aE.new(w:World)(t:TypeId)(cs:List Value):aE (w.alloc (.cells cs.toArray t)) w.heap.size t cs:=heap_alloc_new w _
theorem aE.keep(h:aE w g t cs)(hk:w'.heap[g]? =w.heap[g]?):aE w' g t cs:=hk.trans h
theorem aE.same(h:aE w g t cs)(hk:Same w w'):aE w' g t cs:=h.keep (by rw[hk.heap])
theorem aE.drew(h:aE w g t cs):aE w.drew g t cs:=h
theorem aE.alloc(h:aE w g t cs)(o:Obj):aE (w.alloc o) g t cs:=(Below.heap_alloc w o g h.lt).trans h
theorem aE.set(h:aE w g t cs)(i:Nat)(v:Value):aE (w.setCell ⟨g,i,none⟩ v) g t (cs.set i v):=by
 unfold aE at h ⊢
 simp[World.setCell,Array.getElem?_modify,h]
theorem aE.below{B:Nat}(h:aE w g t cs)(hb:Below B w w')(hg:g<B):aE w' g t cs:=(hb.block g hg).trans h
theorem aE.grown{row:Option Nat}(h:aE w g t cs)(hb:w.grownBy w' row)(hg:some g≠row):aE w' g t cs:=(hb.block g h.lt hg).trans h
theorem aE.ld(h:aE u g t cs){ty:TypeId}(ht:aR P ty=some false)(j:Nat)(hj:j<cs.length):
  aq P K (Instr.loadAt ty (.pointer (some ⟨g,j,none⟩))) u f d w=K (ai f d (cs.getD j undef)) w:=
 eG u f d w ht (by rw[h.cell];simp[hj])
theorem mW{ty:TypeId}(h:aR P ty=some true){n:Nat}(hs:aL P ty=some n){a:Addr}{vs:List Value}(hl:vs.length=n)(hc:∀j v,vs[j]? =some v→u.cell? (a.add j)=some v):
  aq P K (Instr.loadAt ty (.pointer (some a))) u f d w=K (ai f d (.agg vs.toArray)) w:=
 aM u f d w fun w' DR=>by
  unfold aR at h
  unfold aL at hs
  cases hu:P.underlying ty with
  |none=>simp[hu]at h
  |some de=>
   cases hi:P.info? ty with
   |none=>simp[hi]at hs
   |some ie=>
    simp only[hi,Option.map_some,Option.some.injEq]at hs
    simp only[hu,Option.map_some,Option.some.injEq]at h
    have hr:=run_loadCells_list (P:=P) w' a vs (fun j v hv=>Ar DR (hc j v hv))
    cases de<;>simp at h<;>simp[Instr.loadAt,Instr.sureAddr,loadVar,isAgg,run_underlying hu,sizeOf,typeInfo,hi,hs,←hl,hr]
theorem aE.dC(h:aE u g t cs){ty:TypeId}(ht:aR P ty=some true)(hs:aL P ty=some cs.length):
  aq P K (Instr.loadAt ty (.pointer (some ⟨g,0,none⟩))) u f d w=K (ai f d (.agg cs.toArray)) w:=
 mW ht hs rfl fun j v hv=>by rw[addr_add,Nat.zero_add,h.cell,hv]
end
section
variable {P:Program} {K:Fr→World→Prop} {f:Fr} {d:Option Nat} {w:World}
theorem fa{s:Sem Value}{v:Value}{w':World}(h:s.run P w= .ok v w'):cG P K s f d w=K (ai f d v) w':=
 propext ⟨fun⟨v',w2,hv,hk⟩=>by rw[h]at hv;cases hv;exact hk,fun hk=>⟨v,w',h,hk⟩⟩
section
variable (ty:TypeId)
theorem aa1(t:TypeId)(o:Operand):fZ P K (.box t o) ty f d w=cG P K (Instr.box t (ev f o)) f d w:=propext Iff.rfl
theorem RR(t:TypeId):fZ P K (.alloc t) ty f d w=cG P K (Instr.alloc t true (.tuple #[])) f d w:=propext Iff.rfl
theorem RS(t:TypeId)(a v:Operand):fZ P K (.store t a v) ty f d w=cG P K (do Instr.storeAt t (ev f a) (ev f v);pure undef) f d w:=propext Iff.rfl
theorem Wn(t:TypeId):fZ P K (.buildSlice t 0 #[]) ty f d w=cG P K (Instr.buildSlice t 0 #[]) f d w:=by simp[fZ,valOf]
theorem Wo(t:TypeId)(o:Operand):fZ P K (.buildSlice t 1 #[(0,o)]) ty f d w=cG P K (Instr.buildSlice t 1 #[(0,ev f o)]) f d w:=by simp[fZ,valOf]
theorem Wp(t:TypeId)(o p:Operand):fZ P K (.buildSlice t 2 #[(0,o),(1,p)]) ty f d w=cG P K (Instr.buildSlice t 2 #[(0,ev f o),(1,ev f p)]) f d w:=by simp[fZ,valOf]
theorem Wq(t:TypeId)(o p q:Operand):fZ P K (.buildSlice t 3 #[(0,o),(1,p),(2,q)]) ty f d w=cG P K (Instr.buildSlice t 3 #[(0,ev f o),(1,ev f p),(2,ev f q)]) f d w:=by simp[fZ,valOf]
theorem aa2(t t':TypeId)(o p:Operand):fZ P K (.call ⟨.builtin .append, #[o,p], #[t,t']⟩) ty f d w=cG P K (Builtin.append_ #[t,t'] ty #[ev f o,ev f p]) f d w:=by simp[fZ,valOf]
end
theorem Hz(t:TypeId)(v:Value):cG P K (Instr.box t v) f d w=K (ai f d (.pointer (some ⟨w.heap.size,0,none⟩))) (w.alloc (.cells v.cells t)):=
 fa (by simp[Instr.box,newVar,newRow])
theorem alloc_eq(t:TypeId)(z:Value)(h:(P.info? t).map (·.zero)=some (some z)):cG P K (Instr.alloc t true (.tuple #[])) f d w=K (ai f d (.pointer (some ⟨w.heap.size,0,none⟩))) (w.alloc (.cells z.cells t)):=
 fa (by
  cases hi:P.info? t with
  |none=>simp[hi]at h
  |some i=>
   simp only[hi,Option.map_some,Option.some.injEq]at h
   simp[Instr.alloc,zeroValue,typeInfo,hi,h,newVar,newRow])
theorem KO(l:List Value):∀(k:Nat) (acc:Array Value),k+l.length=acc.size→
  ((l.zipIdx k).foldl (fun cs (p:Value×Nat)=>cs.setIfInBounds (0+p.2) p.1) acc).toList=acc.toList.take k++l:=by
 induction l with
 |nil=>intro k acc h;simp at h;subst h;simp[List.take_of_length_le]
 |cons v l ih=>
  intro k acc h
  simp only[List.zipIdx_cons,List.foldl_cons,Nat.zero_add]
  simp only[List.length_cons]at h
  have:=ih (k+1) (acc.setIfInBounds k v) (by simp;omega)
  simp only[Nat.zero_add]at this
  rw[this]
  have hk:k<acc.toList.length:=by simp;omega
  rw[Array.toList_setIfInBounds,List.take_succ_eq_append_getElem (by simpa using hk)]
  simp[List.take_set_of_le]
theorem Ng(size:Nat)(zs:Array Value)(v:Value)(h1:zs.size=size)(h2:v.cells.size=size):Instr.fill (fun i=>some (i*size,size)) zs [(0,v)]=some v.cells:=by
 simp only[Instr.fill,Nat.zero_mul,Nat.zero_add,h1,h2,Nat.lt_irrefl,ne_eq,not_true_eq_false,decide_false,Bool.or_self,Bool.false_eq_true,if_false,gt_iff_lt,or_self]
 congr 1
 apply Array.ext'
 have:=KO v.cells.toList 0 zs (by simp[h1,h2])
 simp only[Nat.zero_add,List.take_zero,List.nil_append]at this
 rw[←Array.foldl_toList]
 simpa[Array.toList_zipIdx]using this
theorem zP{t e sz bytes:Nat}(hT:uJ P t e sz bytes)(v:Value)(hv:v.cells.size=sz)(kq:sz≤1000):
  cG P K (Instr.buildSlice t 1 #[(0,v)]) f d w=K (ai f d (.slice (some ⟨w.heap.size,0,none⟩) 1 1)) (w.alloc (.cells v.cells e)):=by
 obtain⟨i,z,hi,hz,hs,hb,hc⟩:=hT.get
 have hp:=hT.pos
 refine fa ?_
 have hf:=Ng sz ((Array.range (1*sz)).map (z.cells[·%z.cells.size]!)) v (by simp) hv
 simp only[Nat.one_mul]at hf
 have h0:sz≠0:=by omega
 simp only[Instr.buildSlice,run_underlying hT.under,sizeOf,typeInfo,Sem.run_bind,Result.andThen_ok]
 simp[hi,hs,zeroValue,typeInfo,hz,h0,newRow,show¬2^24<sz by omega,hf]
theorem RT{t e sz bytes:Nat}(hT:uJ P t e sz bytes):
  cG P K (Instr.buildSlice t 0 #[]) f d w=K (ai f d (.slice (some ⟨w.heap.size,0,none⟩) 0 0)) (w.alloc (.cells #[] e)):=by
 obtain⟨i,z,hi,hz,hs,hb,hc⟩:=hT.get
 refine fa ?_
 simp[Instr.buildSlice,run_underlying hT.under,sizeOf,typeInfo,hi,Instr.fill,newRow,show(Array.range 0)= #[] from rfl]
end
structure Rd(w:World)(A:Option Addr)(xs:List Value):Prop where
 isSome:0<xs.length→A.isSome=true
 cell:∀j v,xs[j]? =some v→w.cell? (eA A j)=some v
structure Own(B e sz:Nat)(w:World)(A:Option Addr)(c n:Nat)(xs:List Value):Prop where
 own:w.ownsRow B e sz (.slice A n c) n xs
structure bJ(w w':World)(A:Option Addr):Prop where
 aJ:w.grownBy w' (A.map (·.block))
section
variable {B e sz:Nat} {w w':World} {A:Option Addr} {c n:Nat} {xs:List Value}
theorem Own.nil(B e sz:Nat)(w:World):Own B e sz w none 0 0 []:=⟨World.ownsRow_nil _ _ _ _⟩
theorem Own.form(h:Own B e sz w A c n xs):(A=none∧n=0∧c=0∧xs=[])∨∃g,A=some ⟨g,0,none⟩∧B≤g∧g<w.heap.size:=by
 obtain⟨hl,hh⟩:=h.own
 rcases hh with⟨h1,h2⟩|⟨g,cap,cur,h1,hb,hg,_⟩
 ·injection h1 with h3 h4 h5
  subst h2
  exact .inl ⟨h3,rfl,h5,List.eq_nil_of_length_eq_zero (by simpa using hl)⟩
 ·injection h1 with h3 h4 h5
  exact .inr ⟨g,h3,hb,(Array.getElem?_eq_some_iff.1 hg).1⟩
theorem Own.length(h:Own B e sz w A c n xs):xs.length=n*sz:=h.own.1
theorem Own.isSome(h:Own B e sz w A c n xs)(hn:0<n):A.isSome=true:=by
 rcases h.form with⟨_,h2,_⟩|⟨g,rfl,_⟩
 ·omega
 ·rfl
theorem Own.block(h:Own B e sz w A c n xs)(hn:A.isSome=true):B≤(A.getD default).block∧(A.getD default).block<w.heap.size:=by
 rcases h.form with⟨rfl,_⟩|⟨g,rfl,h1,h2⟩
 ·cases hn
 ·exact⟨h1,h2⟩
theorem Own.rd(h:Own B e sz w A c n xs)(_hs:0<sz):Rd w A xs:=by
 refine⟨fun hl=>h.isSome (by have:=h.length;rcases Nat.eq_zero_or_pos n with h0|h0;·subst h0;omega
                             ·exact h0),fun j v hv=>?_⟩
 rcases h.form with⟨_,_,_,rfl⟩|⟨g,rfl,_,_⟩
 ·simp at hv
 ·rw[jz]
  have:=h.own.cells (g:=g) rfl j v hv
  rwa [addr_add,Nat.zero_add]at this
theorem Own.bQ(h:Own B e sz w A c n xs){A2:Option Addr}(hg:bJ w w' A2)(cY:A=none∨A.map (·.block)≠A2.map (·.block)):Own B e sz w' A c n xs:=
 ⟨h.own.kept hg.aJ (by cases A<;>simp_all[Value.ownBlock])⟩
theorem Own.alloc(h:Own B e sz w A c n xs)(o:Obj):Own B e sz (w.alloc o) A c n xs:=⟨h.own.alloc o⟩
theorem Own.same(h:Own B e sz w A c n xs)(hs:Same w w'):Own B e sz w' A c n xs:=by
 obtain⟨h1,h2⟩:=h.own
 refine⟨h1,?_⟩
 rcases h2 with h2|⟨g,cap,cur,hv,hb,hg,r⟩
 ·exact .inl h2
 ·exact .inr ⟨g,cap,cur,hv,hb,by rw[hs.heap];exact hg,r⟩
theorem Own.keep(h:Own B e sz w A c n xs)(hk:∀g,A.map (·.block)=some g→w'.heap[g]? =w.heap[g]?):Own B e sz w' A c n xs:=by
 obtain⟨h1,h2⟩:=h.own
 refine⟨h1,?_⟩
 rcases h2 with h2|⟨g,cap,cur,hv,hb,hg,r⟩
 ·exact .inl h2
 ·injection hv with h3 h4 h5
  exact .inr ⟨g,cap,cur,by rw[h3,h5],hb,by rw[hk g (by rw[h3];rfl)];exact hg,r⟩
theorem Own.below{B':Nat}(h:Own B e sz w A c n xs)(hb:Below B' w w')(hB:w.heap.size≤B'):Own B e sz w' A c n xs:=
 h.keep fun g hg=>hb.block g (by
  rcases h.form with⟨rfl,_⟩|⟨g',rfl,_,h2⟩
  ·cases hg
  ·injection hg with hg;simp at hg;omega)
theorem Own.base{B':Nat}(h:Own B e sz w A c n xs)(hB:B'≤B):Own B' e sz w A c n xs:=by
 obtain⟨h1,h2⟩:=h.own
 refine⟨h1,?_⟩
 rcases h2 with h2|⟨g,cap,cur,hv,hb,r⟩
 ·exact .inl h2
 ·exact .inr ⟨g,cap,cur,hv,by omega,r⟩
theorem Own.bG{g:Nat}{t:TypeId}{cs:List Value}(h:Own B e sz w A c n xs)(hg:aE w g t cs)(cY:e≠t):A.map (·.block)≠some g:=by
 obtain⟨_,h2⟩:=h.own
 rcases h2 with⟨h2,_⟩|⟨g',cap,cur,hv,hb,hh,r⟩
 ·injection h2 with h3;subst h3;simp
 ·injection hv with h3
  subst h3
  simp only[Option.map_some,ne_eq,Option.some.injEq]
  rintro rfl
  unfold aE at hg
  rw[hh]at hg
  injection hg with hg
  injection hg with _ ht
  exact cY ht
theorem bJ.below{B':Nat}{w0:World}(hg:bJ w w' A)(hb:Below B' w0 w)(hB:B'≤w.heap.size)(hA:∀a,A=some a→B'≤a.block):Below B' w0 w':=
 hb.grown hg.aJ hB (fun k hk=>by cases A with
  |none=>cases hk
  |some a=>injection hk with hk;have:=hA a rfl;simp at hk;omega)
theorem Own.uh(h:Own B e sz w A c n xs):∀a,A=some a→B≤a.block:=by
 rintro a rfl
 rcases h.form with⟨h0,_⟩|⟨g,h0,hb,_⟩
 ·cases h0
 ·injection h0 with h0;subst h0;exact hb
end
section
variable {P:Program} {K:Fr→World→Prop} {f:Fr} {d:Option Nat} {w:World} {B e sz bytes t:Nat} {A A2:Option Addr} {c n m c2:Nat} {xs news:List Value}
theorem pH(hT:uJ P t e sz bytes)(ty:TypeId)(h:Own B e sz w A c n xs)(hs:Rd w A2 news)(hl:news.length=m*sz)(h1:∀u∈news,u.oneCell'=true)
  (hb:(n+m)*bytes≤140737488355328)(ZF:n+m≤9223372036854775807)(hB:B≤w.heap.size)
  (hk:∀A' c' w',Own B e sz w' A' c' (n+m) (xs++news)→bJ w w' A→(A'.map (·.block)=A.map (·.block)∨A'.map (·.block)=some w.heap.size)→(0<m→A'.isSome=true)→w.heap.size≤w'.heap.size→K (ai f d (.slice A' (n+m) c')) w'):
  cG P K (Builtin.append_ #[t,t] ty #[.slice A n c,.slice A2 m c2]) f d w:=by
 obtain⟨i,z,hi,hz,kq,hby,hc⟩:=hT.get
 have hp:=hT.pos
 have agc:n+m≤maxLen:=by unfold maxLen;omega
 have fin:∀v' w',(Builtin.append_ #[t,t] ty #[.slice A n c,.slice A2 m c2]).run P w= .ok v' w'→w'.ownsRow B e sz v' (n+m) (xs++news)→w.grownBy w' (Value.ownBlock (.slice A n c))→
   (v'.ownBlock=Value.ownBlock (.slice A n c)∨v'.ownBlock=some w.heap.size)→cG P K (Builtin.append_ #[t,t] ty #[.slice A n c,.slice A2 m c2]) f d w:=by
  intro v' w' hr ho hg ha
  have hob:Value.ownBlock (.slice A n c)=A.map (·.block):=by cases A<;>rfl
  rw[hob]at hg ha
  rcases ho.2 with⟨rfl,h0⟩|⟨g,cap,cur,rfl,Wr,MD,xp⟩
  ·refine⟨_,w',hr,?_⟩
   have:=hk none 0 w' ⟨by rw[h0];rw[h0]at ho;exact ho⟩ ⟨hg⟩ ha (fun hm=>by omega) hg.size
   rwa [h0]at this
  ·exact⟨_,w',hr,hk _ cap w' ⟨ho⟩ ⟨hg⟩ ha (fun _=>rfl) hg.size⟩
 cases hA2:A2 with
 |some ad=>
  subst hA2
  obtain⟨v',w',hr,ho,hg,_,ha⟩:=run_append_own_at (P:=P) w B t ty e i z sz bytes hT.under hi hz kq hby hc hp (.slice A n c) n xs h.own ad m c2 news hl (fun j u hu=>hs.cell j u hu) h1 agc hb hB
  exact fin v' w' hr ho hg ha
 |none=>
  subst hA2
  have hm:news=[]:=by
   cases hn:news with
   |nil=>rfl
   |cons a l=>have:=hs.isSome (by rw[hn];simp);cases this
  subst hm
  have hm0:m=0:=by
   rcases Nat.eq_zero_or_pos m with h0|h0
   ·exact h0
   ·have:=Nat.mul_pos h0 hp;simp only[List.length_nil]at hl;omega
  subst hm0
  have hr:(Builtin.append_ #[t,t] ty #[.slice A n c,.slice none 0 c2]).run P w= .ok (.slice A n c) w:=by
   rcases h.form with⟨rfl,rfl,rfl,rfl⟩|⟨g,rfl,_,_⟩
   ·simp[Builtin.append_,run_underlying hT.under,sizeOf,typeInfo,hi,Builtin.lenOf,Builtin.firstCells]
   ·have Ws:n≤c:=by
     rcases h.own.2 with⟨h2,_⟩|⟨g',cap,cur,hv,Wr,hh,Ws,_⟩
     ·cases h2
     ·injection hv with _ _ h5;omega
    simp[Builtin.append_,run_underlying hT.under,sizeOf,typeInfo,hi,Builtin.lenOf,Builtin.firstCells,Ws,storeCells]
  exact fin _ w hr (by simpa using h.own) (World.grownBy.refl w _) (.inl rfl)
theorem HA(w:World)(cs:List Value)(e:TypeId):Rd (w.alloc (.cells cs.toArray e)) (some ⟨w.heap.size,0,none⟩) cs:=
 ⟨fun _=>rfl,fun j v hv=>by rw[jz,(aE.new w e cs).cell,hv]⟩
end
attribute [push_cast] aa1 RR RS Wn Wo Wp Wq aa2 addr_add
end
section
open Go.RowKit
structure ff(B g:Nat)(w w':World):Prop where
 os:w'.os=w.os
 tape:w'.tape=w.tape
 output:w'.output=w.output
 size:w.heap.size≤w'.heap.size
 block:∀k,k<B→k≠g→w'.heap[k]? =w.heap[k]?
theorem ff.trans{B g:Nat}{w1 w2 w3:World}(h:ff B g w1 w2)(h':ff B g w2 w3):ff B g w1 w3:=⟨h'.os.trans h.os,h'.tape.trans h.tape,h'.output.trans h.output,Nat.le_trans h.size h'.size,fun k hk hg=>(h'.block k hk hg).trans (h.block k hk hg)⟩
theorem ff.of{B B' g:Nat}{w w':World}(h:Below B' w w')(hB:B≤B'):ff B g w w':=⟨h.os,h.tape,h.output,h.size,fun k hk _=>h.block k (by omega)⟩
theorem ff.mono{B B' g:Nat}{w w':World}(h:ff B' g w w')(hB:B≤B'):ff B g w w':=⟨h.os,h.tape,h.output,h.size,fun k hk hg=>h.block k (by omega) hg⟩
theorem ff.cell{B g:Nat}{w w':World}(h:bJ w w' (some ⟨g,0,none⟩))(hB:B≤w.heap.size):ff B g w w':=⟨h.aJ.os,h.aJ.tape,h.aJ.output,h.aJ.size,fun k hk hg=>h.aJ.block k (by omega) (by simpa using hg)⟩
theorem ff.below{B g:Nat}{w w':World}(h:ff B g w w')(hg:B≤g):Below B w w':=⟨h.os,h.tape,h.output,h.size,fun k hk=>h.block k hk (by omega)⟩
theorem ff.bQ{B g:Nat}{w w':World}{A:Option Addr}(h:bJ w w' A)(hA:∀a,A=some a→B≤a.block)(hB:B≤w.heap.size):ff B g w w':=
 ⟨h.aJ.os,h.aJ.tape,h.aJ.output,h.aJ.size,fun k hk _=>h.aJ.block k (by omega) (by
  cases A with
  |none=>simp
  |some a=>have:=hA a rfl;simp;omega)⟩
theorem aE.but{B g b t:Nat}{cs:List Value}{w w':World}(h:aE w b t cs)(hb:ff B g w w')(h1:b<B)(h2:b≠g):aE w' b t cs:=(hb.block b h1 h2).trans h
end
attribute [push_cast] List.map_cons List.map_nil Int.lt_irrefl
end Go.Proofs.YtcefeihlkpmejaaGreatDoor
