/- A part of the proof. -/
import Derived.Test.YtcefeihlkpmejaaGreatDoorYM9
import Derived.Test.YtcefeihlkpmejaaGreatDoorYIr
import Derived.KernelRfl
import Derived.RangeFuncNested
import Derived.RangeFuncBox
import Derived.RangeFuncBound
import Derived.RangeFuncCalls
import Derived.RangeFuncLeaves
import Derived.Shelf.Abstract
import Derived.WalkKit
import Derived.OwnWalkIn
import Derived.TacticsInMore
import Derived.LoopNIn
import Derived.LoopIn
import Derived.ChangeKeysEq
import Derived.Maps.Keyed
import Derived.DeepKeys4
import Derived.Laws.StructEq
import Derived.Carry
import Derived.Test.YtcefeihlkpmejaaGreatDoorYTy
import Derived.Shelf.Slices.Reverse
import Derived.Lib.OwnBridge
namespace Go.Proofs.YtcefeihlkpmejaaGreatDoor
set_option linter.unusedSimpArgs false
set_option linter.unusedVariables false
set_option linter.unusedSectionVars false
section
open Go.RowKit
def setCells(ws:List Nat):List Value:=ws.map fun(x:Nat)=>.int .u64 (x:Int)
abbrev xZ(ws:List Nat):Value:= .agg (setCells ws).toArray
def Words(ws:List Nat):Prop:=ws.length=4∧∀i,ws.getD i 0<2^64
def aV(ws:List Nat)(n:Nat):Bool:=(ws.getD (n/64) 0).testBit (n%64)
def fK(ws:List Nat)(n:Nat):List Nat:=ws.set (n/64) (ws.getD (n/64) 0|||2^(n%64))
theorem br(ws:List Nat):(setCells ws).length=ws.length:=by simp[setCells]
theorem Words.add{ws:List Nat}(h:Words ws){n:Nat}(hn:n<256):Words (fK ws n):=by
 refine⟨by simp[fK,h.1],fun i=>?_⟩
 unfold fK
 rw[wv _ _ _ _ _ (by rw[h.1];omega)]
 split
 ·exact Nat.or_lt_two_pow (h.2 _) (Nat.pow_lt_pow_right (by decide) (Nat.mod_lt _ (by decide)))
 ·exact h.2 i
theorem eK{ws:List Nat}(h:Words ws){n:Nat}(hn:n<256)(k:Nat):aV (fK ws n) k=(aV ws k||decide (k=n)):=by
 unfold aV fK
 rw[wv _ _ _ _ _ (by rw[h.1];omega)]
 split
 ·rename_i e
  rw[Nat.testBit_or,Nat.testBit_two_pow,e]
  congr 1
  exact decide_eq_decide.2 ⟨fun h=>by omega,fun h=>by omega⟩
 ·rename_i e
  have:¬k=n:=fun h=>e (by rw[h])
  simp[this]
theorem Bj(n:Nat):aV [0,0,0,0] n=false:=by
 unfold aV
 have:([0,0,0,0]:List Nat).getD (n/64) 0=0:=by
  match n/64 with
  |0=>rfl
  |1=>rfl
  |2=>rfl
  |3=>rfl
  |k+4=>simp[List.getD_eq_getElem?_getD]
 rw[this,Nat.zero_testBit]
section
variable {P:Program} {K:Fr→World→Prop} {u w w':World} {f:Fr} {d:Option Nat} {g t ty:Nat} {ws:List Nat}
theorem aE.word(h:aE u g t (setCells ws))(hw:Words ws)(ht:aR P ty=some false)(j:Nat)(hj:j<4):
  aq P K (Instr.loadAt ty (.pointer (some ⟨g,j,none⟩))) u f d w=K (ai f d (.int .u64 (ws.getD j 0:Nat))) w:=by
 have hl:j<(setCells ws).length:=by rw[br,hw.1];exact hj
 have:=h.ld (P:=P) (K:=K) (f:=f) (d:=d) (w:=w) ht j hl
 have e:(setCells ws).getD j undef= .int .u64 ((ws.getD j 0:Nat):Int):=getD_map _ _ _ _ _ (by rw[hw.1];exact hj)
 rw[e]at this
 exact this
theorem aE.uu(h:aE u g t (setCells ws))(hw:Words ws)(ht:aR P ty=some false)(j:Nat)(hj:j<4){x:Nat}(hx:ws.getD j 0=x):
  aq P K (Instr.loadAt ty (.pointer (some ⟨g,j,none⟩))) u f d w=K (ai f d (.int .u64 x)) w:=hx▸h.word hw ht j hj
theorem aE.cM(h:aE u g t (setCells ws))(hw:Words ws)(ht:aR P ty=some true)(hs:aL P ty=some 4):aq P K (Instr.loadAt ty (.pointer (some ⟨g,0,none⟩))) u f d w=K (ai f d (xZ ws)) w:=
 h.dC ht (by rw[br,hw.1];exact hs)
end
theorem x6:aL Tryz.prog 105=some 1:=by kernel_rfl
theorem zU(ws:List Nat)(hw:Words ws)(n:Nat)(hn:n<256)(w:World):
  dw Tryz.prog 68 [xZ ws,.int .i64 n] w fun v w'=>v= .bool (aV ws n)∧Below w.heap.size w w':=by
 refine tV (by simp) 100000 fun Q hQ=>?_
 simp(disch:=omega)only[push_cast,aa,↓reduceIte,Nat.reduceEqDiff,Int.reduceEq,mZ]
 refine au (aO _ (setCells ws)) ?_
 intro w1 k1 b1 z1
 have hd:n/64<4:=by omega
 have hm:n%64<64:=Nat.mod_lt _ (by decide)
 have hx:=hw.2 (n/64)
 have hs:ws.getD (n/64) 0>>>(n%64)<2^64:=Nat.lt_of_le_of_lt (Nat.shiftRight_le _ _) hx
 have r:decide (((ws.getD (n/64) 0>>>(n%64)&&&1:Nat):Int)=1)=aV ws n:=by
  unfold aV Nat.testBit
  rw[Nat.and_comm 1]
  have:ws.getD (n/64) 0>>>(n%64)&&&1<2:=Nat.and_lt_two_pow (n:=1) _ (by decide)
  generalize ws.getD (n/64) 0>>>(n%64)&&&1=z at*
  match z,this with
  |0,_=>rfl
  |1,_=>rfl
 generalize hq:n/64=q at*
 generalize hr:n%64=s at*
 generalize hv:ws.getD q 0=v at*
 generalize hy:v>>>s=y at*
 generalize hz:y&&&1=z at*
 have r':decide (z=1)=aV ws n:=by rw[←r];exact decide_eq_decide.2 (by omega)
 simp(disch:=omega)only[push_cast,aa,↓reduceIte,Nat.reduceEqDiff,Int.reduceEq,Bc hq (by omega),Bd hr,Oe hy hm,K4 hz hs,Int.natCast_nonneg,k1.uu hw dR q hd hv]
 exact aF (hQ _ _ ⟨(by simp only[push_cast,↓reduceIte,Nat.reduceEqDiff,Int.reduceEq,r,r']),b1⟩)
theorem D9{ws:List Nat}(hw:Words ws)(n:Nat)(hn:n<256){w:World}{g:Nat}(hk:aE w g 107 (setCells ws)):
  dw Tryz.prog 69 [.pointer (some ⟨g,0,none⟩),.int .i64 n] w fun v w'=>v= .tuple #[]∧aE w' g 107 (setCells (fK ws n))∧bJ w w' (some ⟨g,0,none⟩)∧w'.heap.size=w.heap.size:=by
 refine tW (by simp) 100000 fun Q hQ=>?_
 have hd:n/64<4:=by omega
 have hm:n%64<64:=Nat.mod_lt _ (by decide)
 have hx:=hw.2 (n/64)
 have hy:2^(n%64)<2^64:=Nat.pow_lt_pow_right (by decide) hm
 have e:(setCells ws).set (n/64) (.int .u64 ((ws.getD (n/64) 0|||2^(n%64):Nat):Int))=setCells (fK ws n):=by simp[setCells,fK,List.map_set]
 generalize hq:n/64=q at*
 generalize hr:n%64=s at*
 generalize hv:ws.getD q 0=v at*
 generalize hp:2^s=y at*
 generalize hz:v|||y=z at*
 have QR:=hk.drew
 simp(disch:=omega)only[push_cast,aa,↓reduceIte,Nat.reduceEqDiff,Int.reduceEq,na,Bc hq (by omega),Bd hr,K5 hp hm,Jr hz hx hy,Int.natCast_nonneg,QR.uu hw dR q hd hv]
 refine ft QR x6 q (by rw[br,hw.1];exact hd) _ _ ?_
 intro w2 k2 g2 z2
 simp(disch:=omega)only[push_cast,aa,↓reduceIte,Nat.reduceEqDiff,Int.reduceEq]
 rw[e]at k2
 exact qH (hQ _ _ ⟨rfl,k2,⟨⟨g2.aJ.os,g2.aJ.tape,g2.aJ.output,g2.aJ.size,g2.aJ.block⟩⟩,z2⟩)
theorem zk{P:Program}{Rc:Value→World→Prop}{a t t' g:Nat}{cs:List Value}{f:Fr}{w:World}(hk:aE w g t' cs)(ht:aR P t=some true)(hs:aL P t=some cs.length)
  (hf:f a= .pointer (some ⟨g,0,none⟩))(h:Rc (.agg cs.toArray) w):iM P #[.cell a t] Rc f w:=by
 refine⟨.agg cs.toArray,fun fn tmps hr fO=>?_,h⟩
 have e:tmps.getD a undef= .pointer (some ⟨g,0,none⟩):=by rw[fO,hf]
 have e2:tmps[a]?.getD undef= .pointer (some ⟨g,0,none⟩):=by simpa using e
 unfold aR at ht
 unfold aL at hs
 cases hu:P.underlying t with
 |none=>simp[hu]at ht
 |some de=>
  cases hi:P.info? t with
  |none=>simp[hi]at hs
  |some ie=>
   simp only[hi,Option.map_some,Option.some.injEq]at hs
   simp only[hu,Option.map_some,Option.some.injEq]at ht
   have eM:=run_loadCells_list (P:=P) w ⟨g,0,none⟩ cs (fun j v hv=>by rw[addr_add,Nat.zero_add,hk.cell,hv])
   cases de<;>simp at ht<;>simp[results,hr,e2,asAddr,loadVar,isAgg,run_underlying hu,sizeOf,typeInfo,hi,hs,eM]
theorem Bk{w:World}{A:Option Addr}{l:List Int}(h:Ints (·<w.heap.size) w A l)(c:Nat)(hl:l.length≤17592186043904)(hr:∀x∈l,0≤x∧x<256):
  dw Tryz.prog 57 [.slice A l.length c] w fun v w'=>∃ws,v=xZ ws∧Words ws∧(∀n:Nat,n<256→aV ws n=decide ((n:Int)∈l))∧Below w.heap.size w w':=by
 refine AD (by simp) 100000 fun Q hQ=>?_
 simp(disch:=omega)only[push_cast,aa,↓reduceIte,Nat.reduceEqDiff,Int.reduceEq,vV]
 refine au (cs:=setCells [0,0,0,0]) cB ?_
 intro w1 k1 b1 z1
 simp(disch:=omega)only[push_cast,aa,↓reduceIte,Nat.reduceEqDiff,Int.reduceEq]
 refine au (cs:=setCells [0,0,0,0]) cB ?_
 intro w2 k2 b2 z2
 have U2:=k1.below b2 (by omega)
 have bb:Below w.heap.size w w2:=b1.trans (b2.mono b1.size)
 simp(disch:=omega)only[push_cast,aa,↓reduceIte,Nat.reduceEqDiff,Int.reduceEq]
 refine ax (fun f w'=>∃k:Nat,∃ws,k≤l.length∧f 2= .pointer (some ⟨w.heap.size,0,none⟩)∧f 3= .pointer (some ⟨w1.heap.size,0,none⟩)∧f 6= .slice A l.length c∧f 7= .int .i64 l.length∧f 8= .int .i64 k∧
   Words ws∧(∀n:Nat,n<256→aV ws n=decide ((n:Int)∈l.take k))∧aE w' w1.heap.size 107 (setCells ws)∧aE w' w.heap.size 107 (setCells [0,0,0,0])∧Below w.heap.size w w')
  (fun f _=>l.length-(intOf (f 8)).toNat) ⟨0,[0,0,0,0],Nat.zero_le _,rfl,rfl,rfl,rfl,rfl,⟨rfl,fun i=>by match i with|0=>decide|1=>decide|2=>decide|3=>decide|j+4=>simp[List.getD_eq_getElem?_getD]⟩,fun n _=>by simp[Bj],k2,U2,bb⟩ ?_
 rintro f w3 ⟨k,ws,hk,h2,h3,h6,h7,h8,hw,hs,kk,kr,b3⟩ J hJ
 have hI:=h.below b3
 by_cases aI:k<l.length
 ·have hA:=h.isSome (by omega)
  have hx:=hr _ (bY l 0 k aI)
  have pD:=bS l 0 k aI
  generalize hy:l.getD k 0=y at*
  obtain⟨n,rfl⟩:∃n:Nat,y=n:=⟨y.toNat,by omega⟩
  have hn:n<256:=by omega
  simp(disch:=omega)only[push_cast,aa,↓reduceIte,Nat.reduceEqDiff,Int.reduceEq,lL,h2,h3,h6,h7,h8,aI,hI.ld ak,hy,List.map_cons,List.map_nil]
  refine ah (D9 hw n hn kk) ?_
  rintro v w4 ⟨rfl,k4,g4,z4⟩
  have b4:=g4.below b3 b3.size (by intro a ha;injection ha with ha;subst ha;show w.heap.size≤w1.heap.size;omega)
  have kr4:=kr.grown g4.aJ (by simp;omega)
  simp(disch:=omega)only[push_cast,aa,↓reduceIte,Nat.reduceEqDiff,Int.reduceEq,h8]
  exact hJ _ _ ⟨k+1,_,aI,(by simp only[push_cast,↓reduceIte,Nat.reduceEqDiff,Int.reduceEq,h2]),(by simp only[push_cast,↓reduceIte,Nat.reduceEqDiff,Int.reduceEq,h3]),(by simp only[push_cast,↓reduceIte,Nat.reduceEqDiff,Int.reduceEq,h6]),(by simp only[push_cast,↓reduceIte,Nat.reduceEqDiff,Int.reduceEq,h7]),(by simp only[push_cast,↓reduceIte,Nat.reduceEqDiff,Int.reduceEq]),hw.add hn,fun m hm=>by
   rw[eK hw hn,hs m hm,pD]
   by_cases e:m=n
   ·subst e;simp
   ·have e':¬((m:Int)=(n:Int)):=by omega
    simp[e,e'],k4,kr4,b4⟩ (by simp only[push_cast,↓reduceIte,Nat.reduceEqDiff,h8,intOf];omega)
 ·obtain rfl:k=l.length:=by omega
  rw[List.take_length]at hs
  simp(disch:=omega)only[push_cast,aa,↓reduceIte,Nat.reduceEqDiff,Int.reduceEq,lL,h2,h3,h6,h7,h8,Nat.lt_irrefl,kk.cM hw al aw]
  have e4:aL Tryz.prog 107=some (setCells ws).length:=by rw[br,hw.1];exact aw
  refine aC kr e4 (by rw[br,br,hw.1];rfl) (by simp[setCells,Value.oneCell']) ?_
  intro w4 k4 g4 z4
  simp(disch:=omega)only[push_cast,aa,↓reduceIte,Nat.reduceEqDiff,Int.reduceEq]
  exact zk k4 al e4 (by simp only[push_cast,↓reduceIte,Nat.reduceEqDiff,Int.reduceEq,h2]) (hQ _ _ ⟨ws,rfl,hw,hs,g4.below b3 b3.size (by intro a ha;injection ha with ha;subst ha;exact Nat.le_refl _)⟩)
end
section
open Go.RowKit
def ae(l:List Int):List Nat:=l.foldr (fun x ws=>if 0≤x∧x<256 then fK ws x.toNat else ws) [0,0,0,0]
abbrev bC(l:List Int):Value:=xZ (ae l)
theorem WU:Words [0,0,0,0]:=⟨rfl,fun i=>by match i with|0=>decide|1=>decide|2=>decide|3=>decide|j+4=>simp[List.getD_eq_getElem?_getD]⟩
theorem af:∀l:List Int,Words (ae l)
 |[]=>WU
 |x :: l=>by
  have ih:=af l
  show Words (if 0≤x∧x<256 then fK (ae l) x.toNat else ae l)
  split
  ·exact ih.add (by omega)
  ·exact ih
theorem bh:∀(l:List Int) (n:Nat),n<256→aV (ae l) n=decide ((n:Int)∈l)
 |[],n,_=>by rw[show ae []=[0,0,0,0] from rfl,Bj];simp
 |x :: l,n,hn=>by
  have ih:=bh l n hn
  show aV (if 0≤x∧x<256 then fK (ae l) x.toNat else ae l) n=_
  split
  ·rename_i h
   rw[eK (af l) (by omega),ih]
   by_cases e:n=x.toNat
   ·have q:(n:Int)=x:=by omega
    rw[decide_eq_true e,Bool.or_true]
    exact(decide_eq_true (q▸List.mem_cons_self ..)).symm
   ·have:¬(n:Int)=x:=by omega
    simp[e,this]
  ·rename_i h
   have:¬(n:Int)=x:=by omega
   rw[ih];simp[this]
theorem Dc{ws ws':List Nat}(h:Words ws)(h':Words ws')(he:∀n,n<256→aV ws n=aV ws' n):ws=ws':=by
 refine wu 0 (h.1.trans h'.1.symm) fun k hk=>?_
 rw[h.1]at hk
 refine Nat.eq_of_testBit_eq fun i=>?_
 by_cases hi:i<64
 ·have:=he (64*k+i) (by omega)
  unfold aV at this
  rwa [show(64*k+i)/64=k by omega,show(64*k+i)%64=i by omega]at this
 ·have p:2^64≤2^i:=Nat.pow_le_pow_right (by decide) (by omega)
  rw[Nat.testBit_lt_two_pow (Nat.lt_of_lt_of_le (h.2 k) p),Nat.testBit_lt_two_pow (Nat.lt_of_lt_of_le (h'.2 k) p)]
theorem wK{ws:List Nat}(h:Words ws){l:List Int}(he:∀n:Nat,n<256→aV ws n=decide ((n:Int)∈l)):ws=ae l:=
 Dc h (af l) fun n hn=>by rw[he n hn,bh l n hn]
theorem nx{l l':List Int}(h:∀x:Int,0≤x→x<256→(x∈l↔x∈l')):ae l=ae l':=
 Dc (af l) (af l') fun n hn=>by
  rw[bh l n hn,bh l' n hn]
  exact decide_eq_decide.2 (h n (by omega) (by omega))
theorem ny{l l':List Int}(h:ae l=ae l'){x:Int}(h0:0≤x)(h1:x<256):x∈l↔x∈l':=by
 have e1:=bh l x.toNat (by omega)
 have e2:=bh l' x.toNat (by omega)
 rw[h]at e1
 rw[show((x.toNat:Nat):Int)=x by omega]at e1 e2
 rw[e1]at e2
 exact decide_eq_decide.1 e2
def Small(l:List Int):Prop:=∀x∈l,0≤x∧x<256
theorem FD{l l':List Int}(hl:aW l)(Fx:aW l')(h:Small l)(h':Small l')(e:ae l=ae l'):l=l':=
 hl.ext Fx fun x=>⟨fun hx=>(ny e (h x hx).1 (h x hx).2).1 hx,fun hx=>(ny e (h' x hx).1 (h' x hx).2).2 hx⟩
theorem Bl(l:List Int):ae (aD l)=ae l:=nx fun x _ _=>(dW l).2 x
theorem Ea(l:List Int){n:Nat}(hn:n<256):fK (ae l) n=ae (l++[(n:Int)]):=
 wK ((af l).add hn) fun k hk=>by
  rw[eK (af l) hn,bh l k hk]
  by_cases e:k=n
  ·subst e;simp
  ·have:¬(k:Int)=(n:Int):=by omega
   simp[e,this]
theorem az.small{l:List Int}{b:Int}(h:az l b)(hb:b≤256):Small l:=fun x hx=>by have:=h.mem hx;omega
theorem pb(l:List Int)(x:Int)(h0:0≤x)(h1:x<256)(w:World):
  dw Tryz.prog 68 [bC l,.int .i64 x] w fun v w'=>v= .bool (decide (x∈l))∧Below w.heap.size w w':=by
 obtain⟨n,rfl⟩:∃n:Nat,x=n:=⟨x.toNat,by omega⟩
 have:=zU (ae l) (af l) n (by omega) w
 rwa [bh l n (by omega)]at this
theorem pc{l:List Int}(x:Int)(h0:0≤x)(h1:x<256){w:World}{g:Nat}(hk:aE w g 107 (setCells (ae l))):
  dw Tryz.prog 69 [.pointer (some ⟨g,0,none⟩),.int .i64 x] w fun v w'=>v= .tuple #[]∧aE w' g 107 (setCells (ae (l++[x])))∧bJ w w' (some ⟨g,0,none⟩)∧w'.heap.size=w.heap.size:=by
 obtain⟨n,rfl⟩:∃n:Nat,x=n:=⟨x.toNat,by omega⟩
 have:=D9 (af l) n (by omega) hk
 rwa [Ea l (by omega)]at this
theorem gO{w:World}{A:Option Addr}{l:List Int}(h:Ints (·<w.heap.size) w A l)(c:Nat)(hl:l.length≤17592186043904)(hr:Small l):
  dw Tryz.prog 57 [.slice A l.length c] w fun v w'=>v=bC l∧Below w.heap.size w w':=
 (Bk h c hl hr).mono fun _ _ ⟨_,e,hw,hh,hb⟩=>⟨e.trans (by rw[wK hw hh]),hb⟩
theorem ao(l:List Int):(setCells (ae l)).length=4:=by rw[br,(af l).1]
theorem aH(l:List Int):(setCells (ae l)).all (·.oneCell')=true:=by simp[setCells,Value.oneCell']
end
section
open Go.RowKit
def stepT(m:aN)(l:List Int)(e:Int):List Int:=(m.ag.filter fun a=>decide (a.dI=e)&&decide (a.bK∈l)).map (·.dt)
def Dd(m:aN)(l:List Int)(e:Int)(k:Nat):List Int:=((m.ag.take k).filter fun a=>decide (a.dI=e)&&decide (a.bK∈l)).map (·.dt)
theorem Lc(m:aN)(l:List Int)(e:Int):Dd m l e m.ag.length=stepT m l e:=by unfold Dd stepT;rw[List.take_length]
theorem HO(m:aN)(l:List Int)(e:Int)(k:Nat)(h:k<m.ag.length):
  Dd m l e (k+1)=Dd m l e k++(if(m.ag.getD k default).dI=e∧(m.ag.getD k default).bK∈l then [(m.ag.getD k default).dt]else []):=by
 unfold Dd
 rw[bS _ default k h,List.filter_append,List.map_append]
 congr 1
 generalize m.ag.getD k default=y
 by_cases h1:y.dI=e<;>by_cases h2:y.bK∈l<;>simp[h1,h2]
theorem bZ.arr{m:aN}(hm:m.bZ){y:cH}(h:y∈m.ag):m.Bh y:=by
 obtain⟨i,hi,rfl⟩:=(fA m.ag default y).1 h
 exact(hm.2.2.2.2.2.2.2 i hi).1
theorem FE{m:aN}(hm:m.bZ)(l:List Int)(e:Int):∀x∈stepT m l e,0≤x∧x<m.aj:=by
 intro x hx
 obtain⟨y,hy,rfl⟩:=List.mem_map.1 hx
 exact(bZ.arr hm (List.mem_filter.1 hy).1).2.1
def cb(m:aN)(l:List Int)(e:Int):List Int:=aD (stepT m l e)
theorem gP{m:aN}(hm:m.bZ)(l:List Int)(e:Int):az (cb m l e) m.aj:=
 az.kZ (dW _).1 fun x hx=>by
  have:=FE hm l e x (((dW _).2 x).1 hx)
  have:m.aj≤256:=hm.2.1
  omega
theorem Ld(m:aN)(l:List Int)(e:Int):bC (stepT m l e)=bC (cb m l e):=by unfold bC cb;rw[Bl]
theorem kC{w:World}{a:MV}{m:aN}(h:zj (·<w.heap.size) w a m)(hm:m.bZ)(l:List Int)(e:Int):
  dw Tryz.prog 76 [a.val m,bC l,.int .i64 e] w fun v w'=>v=bC (cb m l e)∧Below w.heap.size w w':=by
 have eU:m.aj≤256:=hm.2.1
 have nA:=hm.2.2.2.2.1
 refine xI (by simp) 100000 fun Q hQ=>?_
 simp(disch:=omega)only[push_cast,aa,↓reduceIte,Nat.reduceEqDiff,Int.reduceEq,rU]
 refine au (aO _ (a.cells m)) ?_
 intro w1 k1 b1 z1
 simp(disch:=omega)only[push_cast,aa,↓reduceIte,Nat.reduceEqDiff,Int.reduceEq]
 refine au (aO _ (setCells (ae l))) ?_
 intro w2 k2 b2 z2
 have k1:=k1.below b2 (by omega)
 have b2:=b1.trans (b2.mono b1.size)
 simp(disch:=omega)only[push_cast,aa,↓reduceIte,Nat.reduceEqDiff,Int.reduceEq]
 refine au (cs:=setCells (ae [])) cB ?_
 intro w3 k3 b3 z3
 have k1:=k1.below b3 (by omega)
 have k2:=k2.below b3 (by omega)
 have b3:=b2.trans (b3.mono b2.size)
 simp(disch:=omega)only[push_cast,aa,↓reduceIte,Nat.reduceEqDiff,Int.reduceEq]
 refine au (cs:=setCells (ae [])) cB ?_
 intro w4 k4 b4 z4
 have U2:=k1.below b4 (by omega)
 have h3:=h.below b3
 simp(disch:=omega)only[push_cast,aa,↓reduceIte,Nat.reduceEqDiff,Int.reduceEq,U2.m3 fQ]
 refine ax (fun f w'=>∃k:Nat,k≤m.ag.length∧(f 2= .int .i64 e∧f 4= .pointer (some ⟨w1.heap.size,0,none⟩)∧f 6= .pointer (some ⟨w2.heap.size,0,none⟩)∧f 7= .pointer (some ⟨w3.heap.size,0,none⟩)∧f 11= .slice a.Aa m.ag.length a.ca∧f 12= .int .i64 m.ag.length∧f 13= .int .i64 k)∧
   aE w' w3.heap.size 107 (setCells (ae (Dd m l e k)))∧Below w3.heap.size w3 w')
  (fun f _=>m.ag.length-(intOf (f 13)).toNat) ⟨0,Nat.zero_le _,⟨rfl,rfl,rfl,rfl,rfl,rfl,rfl⟩,k4,b4⟩ ?_
 clear k4 b4 U2
 rintro f w5 ⟨k,hk,fr,k5,b5⟩ J hJ
 have z5:=b5.size
 have kl:=k2.below b5 (by omega)
 have kr:=k3.below b5 (by omega)
 have hA':=(h.below (b3.trans (b5.mono b3.size))).ag
 by_cases aI:k<m.ag.length
 case neg=>
  obtain rfl:k=m.ag.length:=by omega
  rw[Lc]at k5
  simp(disch:=omega)only[push_cast,aa,↓reduceIte,Nat.reduceEqDiff,Int.reduceEq,jk,fr,Nat.lt_irrefl,k5.cM (af _) al aw]
  have e4:aL Tryz.prog 107=some (setCells (ae (stepT m l e))).length:=by rw[ao];exact aw
  refine aC kr e4 (by rw[ao,ao]) (aH _) ?_
  intro w6 k6 g6 z6
  simp(disch:=omega)only[push_cast,aa,↓reduceIte,Nat.reduceEqDiff,Int.reduceEq]
  exact zk k6 al e4 (by simp only[push_cast,↓reduceIte,Nat.reduceEqDiff,true_and,and_true,and_self,eq_self,fr]) (hQ _ _ ⟨Ld m l e,g6.below (b3.trans (b5.mono b3.size)) (by omega) (by intro a ha;injection ha with ha;subst ha;show w.heap.size≤w2.heap.size;omega)⟩)
 have hA:=hA'.isSome (by omega)
 simp(disch:=omega)only[push_cast,aa,↓reduceIte,Nat.reduceEqDiff,Int.reduceEq,jk,fr,aI,hA'.CH vI bz]
 refine au sr ?_
 intro w6 k6 b6 z6
 simp(disch:=omega)only[push_cast,aa,↓reduceIte,Nat.reduceEqDiff,Int.reduceEq]
 refine aC k6 (cs:=ay (m.ag.getD k default)) bz rfl (by simp[ay,Value.oneCell']) ?_
 intro w7 k7 q7 z7
 have pD:=HO m l e k aI
 have HP:=bY m.ag default k aI
 generalize hy:m.ag.getD k default=y at*
 obtain⟨QS,QT,hye⟩:=bZ.arr hm HP
 have agi:=k5.lt
 have Ou:Below w5.heap.size w5 w7:=q7.below b6 (by omega) (by intro a ha;injection ha with ha;subst ha;exact Nat.le_refl _)
 have k5:=k5.below Ou agi
 have kl:=kl.below Ou (by omega)
 have b7:=b5.trans (Ou.mono z5)
 by_cases c1:y.dI=e
 case neg=>
  rw[if_neg (fun hh=>c1 hh.1),List.append_nil]at pD
  simp(disch:=omega)only[push_cast,aa,↓reduceIte,Nat.reduceEqDiff,Int.reduceEq,fr,c1,k7.a1 ak]
  exact hJ _ _ ⟨k+1,aI,(by simp only[push_cast,↓reduceIte,Nat.reduceEqDiff,true_and,and_true,and_self,eq_self,fr]),pD▸k5,b7⟩ (by simp only[push_cast,↓reduceIte,Nat.reduceEqDiff,intOf,fr];omega)
 simp(disch:=omega)only[push_cast,aa,↓reduceIte,Nat.reduceEqDiff,Int.reduceEq,fr,c1,eq_self,k7.a0 ak,k7.a1 ak,kl.cM (af _) al aw]
 refine ah (pb l y.bK QS.1 (by omega) _) ?_
 rintro v w8 ⟨rfl,b8⟩
 have z7':w7.heap.size=w5.heap.size+1:=by omega
 have k5:=k5.below b8 (by omega)
 have k7:=k7.below b8 (by omega)
 have b8:=b7.trans (b8.mono (by omega))
 by_cases c2:y.bK∈l
 case neg=>
  rw[if_neg (fun hh=>c2 hh.2),List.append_nil]at pD
  simp(disch:=omega)only[push_cast,aa,↓reduceIte,Nat.reduceEqDiff,Int.reduceEq,fr,c2]
  exact hJ _ _ ⟨k+1,aI,(by simp only[push_cast,↓reduceIte,Nat.reduceEqDiff,true_and,and_true,and_self,eq_self,fr]),pD▸k5,b8⟩ (by simp only[push_cast,↓reduceIte,Nat.reduceEqDiff,intOf,fr];omega)
 rw[if_pos ⟨c1,c2⟩]at pD
 simp(disch:=omega)only[push_cast,aa,↓reduceIte,Nat.reduceEqDiff,Int.reduceEq,fr,c2,k7.a2 ak]
 refine ah (pc y.dt QT.1 (by omega) k5) ?_
 rintro v w9 ⟨rfl,k9,g9,z9⟩
 simp(disch:=omega)only[push_cast,aa,↓reduceIte,Nat.reduceEqDiff,Int.reduceEq,fr]
 exact hJ _ _ ⟨k+1,aI,(by simp only[push_cast,↓reduceIte,Nat.reduceEqDiff,true_and,and_true,and_self,eq_self,fr]),by rw[pD];exact k9,g9.below b8 b8.size (by intro a ha;injection ha with ha;subst ha;exact Nat.le_refl _)⟩ (by simp only[push_cast,↓reduceIte,Nat.reduceEqDiff,intOf,fr];omega)
end
section
open Go.RowKit
def qN(l:List Int):Nat:=(ae l).getD 0 0
theorem sC{l:List Int}(h:az l 6):qN l<64:=by
 refine Nat.lt_pow_two_of_testBit (n:=6) _ fun i hi=>?_
 by_cases QU:i<64
 ·have:=bh l i (by omega)
  unfold aV at this
  rw[show i/64=0 by omega,show i%64=i by omega]at this
  rw[show qN l=(ae l).getD 0 0 from rfl,this]
  exact decide_eq_false fun hm=>by have:=h.mem hm;omega
 ·have p:2^64≤2^i:=Nat.pow_le_pow_right (by decide) (by omega)
  exact Nat.testBit_lt_two_pow (Nat.lt_of_lt_of_le ((af l).2 0) p)
theorem pd{l m:List Int}(h:az l 6)(h':az m 6)(e:qN l=qN m):l=m:=by
 refine h.strict.ext h'.strict fun x=>?_
 have key:∀{l:List Int},az l 6→(x∈l↔0≤x∧x<6∧(qN l).testBit x.toNat=true):=fun{l} hl=>by
  constructor
  ·intro hx
   have hb:=hl.mem hx
   have:=bh l x.toNat (by omega)
   unfold aV at this
   rw[show x.toNat/64=0 by omega,show x.toNat%64=x.toNat by omega,show((x.toNat:Nat):Int)=x by omega]at this
   exact⟨hb.1,hb.2.1,by rw[show qN l=(ae l).getD 0 0 from rfl,this];exact decide_eq_true hx⟩
  ·rintro⟨h0,h6,ht⟩
   have:=bh l x.toNat (by omega)
   unfold aV at this
   rw[show x.toNat/64=0 by omega,show x.toNat%64=x.toNat by omega,show((x.toNat:Nat):Int)=x by omega]at this
   rw[show qN l=(ae l).getD 0 0 from rfl,this]at ht
   exact of_decide_eq_true ht
 rw[key h,key h',e]
theorem az.more{l:List Int}{a b:Int}(h:az l a)(tB:a≤b):az l b:=fun i hi=>by
 have:=h i hi
 exact⟨this.1,by have:=this.2.1;omega,this.2.2.1,this.2.2.2⟩
end
section
open Go.RowKit
def De:List Nat:=[0,1,56,2,57,49,28,3,61,58,42,50,38,29,17,4,62,47,59,36,45,43,51,22,53,39,33,30,24,18,12,5,63,55,48,27,60,41,37,16,46,35,44,21,52,32,23,11,54,26,40,15,34,20,31,10,25,14,19,9,13,8,7,6]
structure xq(w:World):Prop where
 cell:∀i,i<64→w.cell? ⟨2,i,none⟩=some (.int .u8 (De.getD i 0:Nat))
theorem xq.lt{w:World}(h:xq w):2<w.heap.size:=World.block_lt_of_cell? w _ (h.cell 0 (by decide))
theorem xq.below{B:Nat}{w w':World}(h:xq w)(hb:Below B w w')(hB:2<B):xq w':=⟨fun i hi=>(hb.cell (p:=⟨2,i,none⟩) hB).trans (h.cell i hi)⟩
theorem xq.on{w w':World}(h:xq w)(hb:Below w.heap.size w w'):xq w':=h.below hb h.lt
theorem xq.same{w w':World}(h:xq w)(hs:Same w w'):xq w':=h.on (hs.below _)
theorem Df:∀x:Nat,0<x→∃k q,x=2^k*(2*q+1)
 |x,hx=>by
  by_cases h:x%2=1
  ·exact⟨0,x/2,by omega⟩
  ·obtain⟨k,q,e⟩:=Df (x/2) (by omega)
   exact⟨k+1,q,by rw[Nat.pow_succ,Nat.mul_comm (2^k) 2,Nat.mul_assoc,←e];omega⟩
termination_by x=>x
theorem Jv(k q i:Nat):(2^k*(2*q+1)).testBit i=if i<k then false else if i=k then true else q.testBit (i-k-1):=by
 have:=Nat.testBit_two_pow_mul_add (2*q+1) (b:=0) (i:=k) (Nat.two_pow_pos k) i
 rw[Nat.add_zero]at this
 rw[this]
 split
 ·simp
 ·split
  ·rename_i h;subst h;simp
  ·rename_i h1 h2
   obtain⟨j,hj⟩:∃j,i-k=j+1:=⟨i-k-1,by omega⟩
   rw[hj,Nat.testBit_succ]
   congr 1
   omega
theorem Ov(k q i:Nat):(2^k*(2*q+1)-1).testBit i=if i<k then true else if i=k then false else q.testBit (i-k-1):=by
 have hp:=Nat.two_pow_pos k
 have e:2^k*(2*q+1)-1=2^k*(2*q)+(2^k-1):=by rw[Nat.mul_add];omega
 rw[e,Nat.testBit_two_pow_mul_add (2*q) (b:=2^k-1) (i:=k) (by omega) i]
 split
 ·rename_i h
  rw[Nat.testBit_two_pow_sub_one];simp[h]
 ·split
  ·rename_i h;subst h;simp
  ·rename_i h1 h2
   obtain⟨j,hj⟩:∃j,i-k=j+1:=⟨i-k-1,by omega⟩
   rw[hj,Nat.testBit_succ]
   congr 1
   omega
theorem SJ{x k q:Nat}(h:x=2^k*(2*q+1))(hx:x<2^64):x&&&(2^64-x)=2^k:=by
 have h0:0<x:=by rw[h];exact Nat.mul_pos (Nat.two_pow_pos k) (by omega)
 refine Nat.eq_of_testBit_eq fun i=>?_
 have e:2^64-x=2^64-((x-1)+1):=by omega
 rw[Nat.testBit_and,e,Nat.testBit_two_pow_sub_succ (by omega),Nat.testBit_two_pow,h,Jv,Ov]
 have hk:k<64:=by
  rcases Nat.lt_or_ge k 64 with h1|h1
  ·exact h1
  ·have:=Nat.pow_le_pow_right (n:=2) (by decide) h1
   have:=Nat.le_mul_of_pos_right (2^k) (show 0<2*q+1 by omega)
   omega
 by_cases h1:i<k
 ·rw[if_pos h1,Bool.false_and];exact(decide_eq_false (by omega)).symm
 ·rw[if_neg h1,if_neg h1]
  by_cases h2:i=k
  ·subst h2;simp[hk]
  ·rw[if_neg h2,if_neg h2]
   have:decide (k=i)=false:=decide_eq_false (fun h=>h2 h.symm)
   rw[this]
   cases q.testBit (i-k-1)<;>simp
theorem SK{x k q:Nat}(h:x=2^k*(2*q+1))(i:Nat):(x&&&(x-1)).testBit i=(decide (k<i)&&x.testBit i):=by
 rw[Nat.testBit_and,h,Jv,Ov]
 by_cases h1:i<k
 ·simp[h1]
 ·by_cases h2:i=k
  ·subst h2;simp
  ·have:k<i:=by omega
   simp[h1,h2,this]
theorem Ow{x k q:Nat}(h:x=2^k*(2*q+1))(hx:x<2^64):k<64:=by
 rcases Nat.lt_or_ge k 64 with h1|h1
 ·exact h1
 ·have:=Nat.pow_le_pow_right (n:=2) (by decide) h1
  have:=Nat.le_mul_of_pos_right (2^k) (show 0<2*q+1 by omega)
  omega
theorem WW:∀k:Fin 64,De.getD ((2^k.val*285870213051353865%2^64)>>>58) 0=k.val:=by decide+kernel
theorem WX(y:Nat):(y%2^64)>>>58<64:=by
 rw[Nat.shiftRight_eq_div_pow]
 have:=Nat.mod_lt y (show 0<2^64 by decide)
 omega
section
variable {P:Program} {K:Fr→World→Prop} {u:World} {f:Fr} {d:Option Nat} {w:World} {t ty:Nat} {xo yo:Operand}
theorem Ec(n:Nat):IntKind.u64.wrap (n:Int)=((n%2^64:Nat):Int):=by
 have hb:IntKind.u64.bits=64:=rfl
 have hs:IntKind.u64.signed=false:=rfl
 simp only[IntKind.wrap,hb,hs,Bool.false_and,Bool.false_eq_true,if_false]
 exact(Int.natCast_emod n (2^64)).symm
theorem Ox{x y z:Nat}(h:x*y%2^64=z):aq P K (bW .mul t xo yo (.int .u64 x) (.int .u64 y)) u f d w=K (ai f d (.int .u64 z)) w:=
 aM u f d w fun w' _=>by
  show Result.ok (Value.int .u64 (IntKind.u64.wrap ((x:Int)*(y:Int)))) w'=_
  rw[show(x:Int)*(y:Int)=((x*y:Nat):Int) by simp,Ec,h]
theorem SL{x z:Nat}(h0:0<x)(hx:x<2^64)(h:2^64-x=z):aq P K (Op.unary .neg (.int .u64 x)) u f d w=K (ai f d (.int .u64 z)) w:=
 aM u f d w fun w' _=>by
  show Result.ok (Value.int .u64 (IntKind.u64.wrap (0-(x:Int)))) w'=_
  have hb:IntKind.u64.bits=64:=rfl
  have hs:IntKind.u64.signed=false:=rfl
  have:IntKind.u64.wrap (0-(x:Int))=(z:Int):=by
   simp only[IntKind.wrap,hb,hs,Bool.false_and,Bool.false_eq_true,if_false]
   omega
  rw[this]
theorem Oy{x k z:Nat}(h:x>>>k=z)(hk:k<64):aq P K (bW .shr t xo yo (.int .u64 x) (.int .u64 k)) u f d w=K (ai f d (.int .u64 z)) w:=
 aM u f d w fun w' _=>by
  have h0:¬((k:Int)<0):=by omega
  have h1:min k 64=k:=by omega
  have h2:(x:Int).fdiv (2^k)=((x>>>k:Nat):Int):=by
   have e:(2:Int)^k=((2^k:Nat):Int):=by simp
   rw[e,Nat.shiftRight_eq_div_pow,Int.fdiv_eq_ediv_of_nonneg _ (Int.natCast_nonneg _)]
   rfl
  show(Op.shift .shr .u64 x .u64 k:Sem Value).run P w'=_
  unfold Op.shift
  rw[if_neg h0]
  show Result.ok (Value.int .u64 ((x:Int).fdiv (2^(min (k:Int).toNat 64)))) w'=_
  rw[Int.toNat_natCast,h1,h2,h]
theorem Ed(s:TypeId)(o:Operand):fZ P K (.convert s t o) ty f d w=cG P K (convert s t (ev f o)) f d w:=propext Iff.rfl
end
def Hid(p:Prop):Prop:=p
theorem sD{w:World}(hT:xq w){x k q:Nat}(h:x=2^k*(2*q+1))(hx:x<2^64):
  dw Tryz.prog 136 [.int .u64 x] w fun v w'=>v= .int .i64 k∧Same w w':=by
 refine jK (by simp) 100000 fun Q hQ=>?_
 have h0:0<x:=by rw[h];exact Nat.mul_pos (Nat.two_pow_pos k) (by omega)
 have hk:=Ow h hx
 have ha:=SJ h hx
 have hi:=WX (2^k*285870213051353865)
 have ht:=WW ⟨k,hk⟩
 have hc:=hT.cell _ hi
 simp only at ht
 rw[ht]at hc
 have hp:2^k<2^64:=Nat.pow_lt_pow_right (by decide) hk
 have qF:2^64-x<2^64:=Nat.sub_lt (by decide) h0
 clear h ht
 obtain⟨p,MH⟩:∃p,2^k=p:=⟨_,rfl⟩
 obtain⟨n,hn⟩:∃n,2^64-x=n:=⟨_,rfl⟩
 rw[MH]at ha hi hc hp
 rw[hn]at ha qF
 obtain⟨m,hm⟩:∃m,p*285870213051353865%2^64=m:=⟨_,rfl⟩
 rw[hm]at hi hc
 obtain⟨j,hj⟩:∃j,m>>>58=j:=⟨_,rfl⟩
 rw[hj]at hi hc
 have ZI:m<2^64:=hm▸Nat.mod_lt _ (by decide)
 replace hx:Hid (x<2^64):=hx
 replace ha:Hid (x&&&n=p):=ha
 replace hn:Hid (2^64-x=n):=hn
 replace qF:Hid (n<2^64):=qF
 replace hp:Hid (p<2^64):=hp
 replace hm:Hid (p*285870213051353865%2^64=m):=hm
 replace hj:Hid (m>>>58=j):=hj
 replace ZI:Hid (m<2^64):=ZI
 have MG:¬((x:Int)=0):=by omega
 have ZJ:(j:Int)<64:=by omega
 clear MH
 have r3:∀{K:Fr→World→Prop} {u:World} {f:Fr} {d:Option Nat} {w:World} {t:Nat} {xo yo:Operand},aq Tryz.prog K (bW .mul t xo yo (.int .u64 p) (.int .u64 285870213051353865)) u f d w=K (ai f d (.int .u64 m)) w:=fun{_ _ _ _ _ _ _ _}=>Ox (y:=285870213051353865) hm
 have r4:∀{K:Fr→World→Prop} {u:World} {f:Fr} {d:Option Nat} {w:World} {t:Nat} {xo yo:Operand},aq Tryz.prog K (bW .shr t xo yo (.int .u64 m) (.int .u64 58)) u f d w=K (ai f d (.int .u64 j)) w:=fun{_ _ _ _ _ _ _ _}=>Oy (k:=58) hj (by decide)
 simp(disch:=omega)only[push_cast,aa,↓reduceIte,Nat.reduceEqDiff,Int.reduceEq,fb,MG,SL h0 hx hn,Be ha hx qF,r3,r4,Ed,Int.natCast_nonneg,ZJ,eG _ _ _ _ RU hc]
 rw[fa (v:= .int .i64 k) (w':=w) (by simp[convert,run_underlying Tryz.underlying5,run_underlying Tryz.underlying3,Conv.intToInt,wrap_i64 (k:Int) (by omega) (by omega)])]
 simp(disch:=omega)only[push_cast,aa,↓reduceIte,Nat.reduceEqDiff,Int.reduceEq]
 exact aF (hQ _ _ ⟨(by simp only[push_cast,↓reduceIte,Nat.reduceEqDiff,Int.reduceEq]),Same.refl w⟩)
end
section
open Go.RowKit Go.Shelf
attribute [local go_sem] Oper.semAt_some
def cR(S:List Int)(b:Nat):List Int:=((List.range b).filter fun(n:Nat)=>decide ((n:Int)∈S)).map fun(n:Nat)=>(n:Int)
abbrev sE(S:List Int):List Int:=cR S 256
theorem kD(S:List Int)(b:Nat):cR S (b+1)=cR S b++(if(b:Int)∈S then [(b:Int)]else []):=by
 unfold cR
 rw[List.range_succ,List.filter_append,List.map_append]
 congr 1
 by_cases h:(b:Int)∈S<;>simp[h]
theorem yY(S:List Int)(b c:Nat)(hbc:b≤c)(h:∀j,b≤j→j<c→(j:Int)∉S):cR S c=cR S b:=by
 obtain⟨d,rfl⟩:=Nat.le.dest hbc
 clear hbc
 induction d with
 |zero=>rfl
 |succ d ih=>
  rw[←Nat.add_assoc,kD,if_neg (h (b+d) (by omega) (by omega)),List.append_nil]
  exact ih fun j h1 h2=>h j h1 (by omega)
theorem HQ(S:List Int)(b:Nat):(cR S b).length≤b:=by
 unfold cR
 have:=List.length_filter_le (fun n:Nat=>decide ((n:Int)∈S)) (List.range b)
 simpa using this
theorem HR(S:List Int){b c:Nat}(h:b<c)(hb:(b:Int)∈S):(cR S b).length<(cR S c).length:=by
 have h1:(cR S (b+1)).length=(cR S b).length+1:=by rw[kD,if_pos hb];simp
 have h2:∀d,(cR S (b+1)).length≤(cR S (b+1+d)).length:=by
  intro d
  induction d with
  |zero=>exact Nat.le_refl _
  |succ d ih=>rw[←Nat.add_assoc,kD S (b+1+d),List.length_append];omega
 have:=h2 (c-(b+1))
 rw[show b+1+(c-(b+1))=c by omega]at this
 omega
theorem Oz{S:List Int}(h:aW S)(hs:Small S):sE S=S:=by
 refine aW.ext ?_ h fun x=>?_
 ·unfold sE cR aW
  rw[List.pairwise_map]
  refine List.Pairwise.imp (fun h=>Int.ofNat_lt.2 h) (List.Pairwise.filter _ List.pairwise_lt_range)
 ·unfold sE cR
  simp only[List.mem_map,List.mem_filter,List.mem_range,decide_eq_true_eq]
  constructor
  ·rintro⟨n,⟨_,h⟩,rfl⟩;exact h
  ·intro hx
   have:=hs x hx
   exact⟨x.toNat,⟨by omega,by rw[show((x.toNat:Nat):Int)=x by omega];exact hx⟩,by omega⟩
theorem FF(S:List Int)(i k:Nat)(hi:i<4)(hk:k<64):((ae S).getD i 0).testBit k=decide (((64*i+k:Nat):Int)∈S):=by
 have:=bh S (64*i+k) (by omega)
 unfold aV at this
 rwa [show(64*i+k)/64=i by omega,show(64*i+k)%64=k by omega]at this
theorem Same.grown{w w':World}(h:Same w w'):w.grownBy w' none:=⟨h.os,h.tape,h.output,by rw[h.heap];exact Nat.le_refl _,fun k _ _=>by rw[h.heap]⟩
set_option maxRecDepth 100000 in
set_option maxHeartbeats 4000000 in
theorem OA(n l Bn n₀:Nat)(S:List Int)(J Jx:List {x:Int//x∈S}→World→Prop)
  (W:World)(hJ:AbidesFrom W.heap.size J)
  (hY:∀pre x W,J pre W→pre.length<(sE S).length→YieldAt Fence.wide (n-1) Tryz.prog l #[.int .i64 x.1] W fun e W'=>
   (e= .returned (.bool true)∧J (pre++[x]) W'∧Below n₀ W W')∨(e= .returned (.bool false)∧Jx (pre++[x]) W'))
  (hT:xq W)(hg:2<n₀)(hS:aE W Bn 107 (setCells (ae S)))(h0:J [] W):
  CallsIn Fence.wide n Tryz.prog 135 #[.func (.yield l) #[] #[],.pointer (some ⟨Bn,0,none⟩)] W fun e W'=>(∃v,e= .returned v)∧
   ((∃ys:List {x:Int//x∈S},ys.map (·.1)=sE S∧J ys W')∨(∃pre,Jx pre W')):=by
 refine callsIn_of_wp Tryz.func135 rfl trivial ?_ rfl
 simp only[Tryz.ntmps135,List.size_toArray,List.length_cons,List.length_nil,Nat.reduceAdd,Nat.reduceSub,Array.replicate_succ,Array.replicate_zero,List.push_toArray,List.append_toArray,List.nil_append,List.cons_append]
 have hc0:=hS.cell 0
 have EV:=hS.cell 1
 have hc2:=hS.cell 2
 have hc3:=hS.cell 3
 have hWs:=af S
 have abq:=FF S
 generalize ae S=ws at*
 match ws,hWs.1 with
 |[w0,w1,w2,w3],_=>
 simp only[setCells,List.map_cons,List.map_nil,List.getElem?_cons_zero,List.getElem?_cons_succ]at hc0 EV hc2 hc3
 gi_wp2
 gi_loopw [6] (fun v wr=>∃(i:Nat) (pre:List {x:Int//x∈S}),v= .int .i64 (i:Int)∧i≤4∧pre.map (·.1)=cR S (64*i)∧J pre wr∧xq wr) (fun v _=>4-(intOf v).toNat)
 case atStart=>exact⟨0,[],rfl,by omega,rfl,h0,hT⟩
 case round=>
  obtain⟨i,pre,rfl,hi,hp,hJp,hTp⟩:=hrel
  by_cases Bp:i<4
  case neg=>
   obtain rfl:i=4:=by omega
   gi_wp2
   go_end0
   exact⟨⟨_,rfl⟩,.inl ⟨pre,hp,hJp⟩⟩
  case pos=>
   have OB:∀W',(Instr.index 107 (.agg #[.int .u64 (w0:Int),.int .u64 (w1:Int),.int .u64 (w2:Int),.int .u64 (w3:Int)]) (.int .i64 (i:Int))).run Tryz.prog W'= .ok (.int .u64 (([w0,w1,w2,w3].getD i 0:Nat):Int)) W':=by
    intro W'
    have hu:Tryz.prog.underlying 107=some (.array 4 105):=Tryz.underlying107
    have ha:(isAgg 105).run Tryz.prog W'= .ok false W':=by simp[isAgg,run_underlying Tryz.underlying105]
    have hz:(sizeOf 105).run Tryz.prog W'= .ok 1 W':=by
     have:=x6
     unfold aL at this
     cases hi:Tryz.prog.info? 105 with
     |none=>simp[hi]at this
     |some ie=>simp only[hi,Option.map_some,Option.some.injEq]at this;simp[sizeOf,typeInfo,hi,this]
    match i,Bp with
    |0,_=>simp[Instr.index,asIntOf,run_underlying hu,part,ha,hz]
    |1,_=>simp[Instr.index,asIntOf,run_underlying hu,part,ha,hz]
    |2,_=>simp[Instr.index,asIntOf,run_underlying hu,part,ha,hz]
    |3,_=>simp[Instr.index,asIntOf,run_underlying hu,part,ha,hz]
   have hb:=fun k=>abq i k Bp
   have OC:=hWs.2 i
   generalize [w0,w1,w2,w3].getD i 0=x at*
   have amx:(i:Int)<4:=by omega
   gi_wp2
   gi_loopw [4] (fun v4 wr=>∃(y b:Nat) (pre:List {x:Int//x∈S}),v4= .int .u64 (y:Int)∧y<2^64∧b≤64∧(∀j,y.testBit j=(decide (b≤j)&&x.testBit j))∧pre.map (·.1)=cR S (64*i+b)∧J pre wr∧xq wr) (fun v _=>(intOf v).toNat)
   case atStart=>exact⟨x,0,pre,rfl,OC,by omega,fun j=>by simp,hp,hJp,hTp⟩
   case round=>
    obtain⟨y,b,pre,rfl,WY,amy,QW,hpp,hJp,hTp⟩:=hrel
    by_cases hy0:y=0
    ·subst hy0
     gi_wp2
     refine⟨⟨i+1,pre,by simp,by omega,?_,hJp,hTp⟩,by simp[intOf];omega⟩
     rw[hpp]
     refine(yY S (64*i+b) (64*(i+1)) (by omega) fun j h1 h2=>?_).symm
     have h3:=QW (j-64*i)
     rw[Nat.zero_testBit,decide_eq_true (show b≤j-64*i by omega),Bool.true_and,hb (j-64*i) (by omega),show 64*i+(j-64*i)=j by omega]at h3
     exact of_decide_eq_false h3.symm
    ·obtain⟨k,q,U3⟩:=Df y (by omega)
     have hk:=Ow U3 WY
     have WZ:y.testBit k=true:=by rw[U3,Jv];simp
     have W4:=WZ
     rw[QW,Bool.and_eq_true,decide_eq_true_eq,hb k hk,decide_eq_true_eq]at W4
     obtain⟨W4,fN⟩:=W4
     have abu:cR S (64*i+k)=cR S (64*i+b):=yY S _ _ (by omega) fun j h1 h2=>by
      have h3:=QW (j-64*i)
      rw[U3,Jv,if_pos (by omega),decide_eq_true (show b≤j-64*i by omega),Bool.true_and,hb (j-64*i) (by omega),show 64*i+(j-64*i)=j by omega]at h3
      exact of_decide_eq_false h3.symm
     have hlen:pre.length<(sE S).length:=by
      have:pre.length=(cR S (64*i+k)).length:=by rw[abu,←hpp];simp
      rw[this]
      exact HR S (by omega) fN
     have pD:cR S (64*i+(k+1))=cR S (64*i+k)++[((64*i+k:Nat):Int)]:=by rw[←Nat.add_assoc,kD,if_pos fN]
     have W5:=sD hTp U3 WY
     replace U3:Hid (y=2^k*(2*q+1)):=U3
     have amA:((y:Int) !=0)=true:=by simp;omega
     gi_wp2
     refine⟨trivial,fun h=>(by cases h),?_⟩
     refine(callsIn_wide.2 W5.calls).mono ?_
     rintro e w2 ⟨v,rfl,rfl,hs⟩
     have W7:=hTp.same hs
     have jH:=hJ _ _ _ none hJp hs.grown (fun _ h=>by cases h)
     obtain⟨fn,tmps,assign,body,hy,hR⟩:=hY pre ⟨_,fN⟩ w2 jH hlen
     simp only[Int.natCast_add,Int.natCast_mul,Int.cast_ofNat_Int]at hy
     gi_wp2
     refine⟨fun h=>(by cases h),?_⟩
     refine hR.mono ?_
     rintro e W3 (⟨rfl,QX,hk3⟩|⟨rfl,agm⟩)
     ·have hT3:=W7.below hk3 hg
      have hand:bits .and .u64 (y:Int) ((y:Int)-1)=((y&&&(y-1):Nat):Int):=by
       have h1:(BitVec.ofInt 64 (y:Int)&&&BitVec.ofInt 64 ((y:Int)-1)).toNat=y&&&(y-1):=by
        rw[show(y:Int)-1=((y-1:Nat):Int) by omega,BitVec.toNat_and]
        simp[BitVec.toNat_ofInt,Nat.mod_eq_of_lt WY,Nat.mod_eq_of_lt (show y-1<2^64 by omega)]
       have h2:y&&&(y-1)<2^64:=Nat.and_lt_two_pow y (by omega)
       show IntKind.u64.wrap ((BitVec.ofInt 64 (y:Int)&&&BitVec.ofInt 64 ((y:Int)-1)).toNat:Int)=_
       rw[h1,wrap_u64 _ h2]
      have hle:y&&&(y-1)<y:=Nat.lt_of_le_of_lt Nat.and_le_right (by omega)
      gi_wp2
      go_roundw
      case rel=>
       refine⟨y&&&(y-1),k+1,pre++[⟨_,fN⟩],rfl,by omega,by omega,fun j=>?_,?_,QX,hT3⟩
       ·rw[SK U3,QW]
        by_cases h1:k<j
        ·rw[decide_eq_true h1,decide_eq_true (show b≤j by omega),decide_eq_true (show k+1≤j by omega),Bool.true_and,Bool.true_and]
        ·rw[decide_eq_false h1,decide_eq_false (show¬k+1≤j by omega),Bool.false_and,Bool.false_and]
       ·rw[List.map_append,pD,abu,hpp];rfl
      case measure=>simp only[intOf,Int.toNat_natCast];exact hle
     ·gi_wp2
      refine bodyPost_ret (results_none rfl _ _ _) rfl ?_
      exact⟨⟨_,rfl⟩,.inr ⟨_,agm⟩⟩
theorem SP(S:List Int)(w:World):dw Tryz.prog 104 [bC S] w fun v w'=>v= .func (.func 135) #[] #[.pointer (some ⟨w.heap.size,0,none⟩)]∧aE w' w.heap.size 107 (setCells (ae S))∧Below w.heap.size w w'∧w'.heap.size=w.heap.size+1:=by
 refine tY (by simp) 100000 fun Q hQ=>?_
 simp(disch:=omega)only[push_cast,aa,↓reduceIte,Nat.reduceEqDiff,Int.reduceEq,nf]
 refine au (aO _ (setCells (ae S))) ?_
 intro w1 k1 b1 z1
 simp(disch:=omega)only[push_cast,aa,↓reduceIte,Nat.reduceEqDiff,Int.reduceEq]
 exact aF (hQ _ _ ⟨rfl,k1,b1,z1⟩)
theorem CK(n Bn n₀:Nat)(S:List Int)(w:World)(hT:xq w)(hg:2<n₀)(hS:aE w Bn 107 (setCells (ae S))):
  SeqStopsK Fence.wide n Tryz.prog 135 #[.pointer (some ⟨Bn,0,none⟩)] (fun x:{x:Int//x∈S}=> #[Value.int .i64 x.1]) (Below n₀) (fun ys=>ys.map (·.1)=sE S) (fun _=>True) (sE S).length w:=fun l J Jx W hW hJ _ hY h0=>
 CallsIn.mono (OA n l Bn n₀ S J Jx W hJ hY (hT.on hW) hg (hS.below hW hS.lt) h0) fun _ _ ⟨h1,h2⟩=>⟨h1,h2.elim .inl fun⟨pre,h⟩=>.inr ⟨pre,trivial,h⟩⟩
theorem SQ:(Tryz.prog.info? 3).map (fun i=>(i.zero,i.size,i.bytes))=some (some (.int .i64 0),1,8):=by kernel_rfl
set_option maxRecDepth 100000 in
set_option maxHeartbeats 4000000 in
theorem HS(S:List Int)(w:World)(hT:xq w):
  CallsIn Fence.wide 4 Tryz.prog 73 #[bC S] w fun e W'=>∃v,e= .returned v∧W'.ownsRow w.heap.size 3 1 v (sE S).length ((sE S).map (Value.int .i64))∧Below w.heap.size w W':=by
 obtain⟨i0,hi,hz0,hz1,hz2⟩:=info_parts SQ
 have hlen:(sE S).length≤256:=HQ S 256
 refine callsIn_of_wp_marks Tryz.func73 rfl trivial ?_ rfl
 simp only[Tryz.ntmps73,List.size_toArray,List.length_cons,List.length_nil,Nat.reduceAdd,Nat.reduceSub,Array.replicate_succ,Array.replicate_zero,List.push_toArray,List.append_toArray,List.nil_append,List.cons_append]
 have hWs:=af S
 obtain⟨ws,FG⟩:∃ws,ae S=ws:=⟨_,rfl⟩
 unfold bC
 rw[FG]at hWs ⊢
 match ws,hWs.1 with
 |[w0,w1,w2,w3],_=>
 have jZ:=SP S
 have eU:=fun n Bn n₀ w=>CK n Bn n₀ S w
 unfold bC at jZ
 rw[FG]at jZ eU
 simp only[xZ,setCells,List.map_cons,List.map_nil]at jZ eU ⊢
 gi_wp2
 refine⟨trivial,?_⟩
 refine(callsIn_wide.2 (jZ _).calls).mono ?_
 have Wr:Below w.heap.size w ((w.alloc (.cells #[.int .u64 (w0:Int),.int .u64 (w1:Int),.int .u64 (w2:Int),.int .u64 (w3:Int)] 107)).alloc (.cells #[.slice none 0 0] 24)):=((Below.refl _ w).alloc (Nat.le_refl _) _).alloc (by simp) _
 have bO:=Boxed.new (w.alloc (.cells #[.int .u64 (w0:Int),.int .u64 (w1:Int),.int .u64 (w2:Int),.int .u64 (w3:Int)] 107)) 24 (.slice none 0 0)
 rw[World.size_alloc]at bO
 have z2:((w.alloc (.cells #[.int .u64 (w0:Int),.int .u64 (w1:Int),.int .u64 (w2:Int),.int .u64 (w3:Int)] 107)).alloc (.cells #[.slice none 0 0] 24)).heap.size=w.heap.size+2:=by simp
 generalize(w.alloc (.cells #[.int .u64 (w0:Int),.int .u64 (w1:Int),.int .u64 (w2:Int),.int .u64 (w3:Int)] 107)).alloc (.cells #[.slice none 0 0] 24)=wa at*
 rintro e wb ⟨v,rfl,rfl,hSb,hbb,zb⟩
 rw[z2]at hSb
 have hB0:=Wr.trans (hbb.mono Wr.size)
 have bO1:Boxed wb (w.heap.size+1) 24 (.slice none 0 0):=(hbb.block _ (by omega)).trans bO
 gi_wp2
 refine wpIn_rangeFunc_ownG rfl (by decide) (gf:=135) (lb:= #[.pointer (some ⟨w.heap.size+2,0,none⟩)]) rfl trivial (enters_of Tryz.func135 (by kernel_rfl) rfl)
  (eU 3 (w.heap.size+2) w.heap.size wb (hT.below hB0 hT.lt) hT.lt hSb) belowK_t (belowK_b (by omega)) (Below.refl _ _) (fun _=>rfl)
  (fun(pre:List {x:Int//x∈S}) W=>(∃v,Boxed W (w.heap.size+1) 24 v∧W.ownsRow w.heap.size 3 1 v pre.length (pre.map fun x=>Value.int .i64 x.1)∧True)∧Below w.heap.size w W)
  (fun _ _ _=>False)
  (OwnFrom.and (Own.from (holdsRow_own w.heap.size (w.heap.size+1) 24 3 1 (fun(pre:List {x:Int//x∈S})=>pre.length) (fun pre=>pre.map fun x=>Value.int .i64 x.1) (fun _ _=>True)) _) (ownFrom_below (Nat.le_refl _) (by omega)))
  (fun _ _ _ _ _ hs _ _=>hs)
  ⟨⟨_,bO1,World.ownsRow_nil _ _ _ _,trivial⟩,hB0⟩
  (fun x=>{tmps:= #[.agg #[.int .u64 (w0:Int),.int .u64 (w1:Int),.int .u64 (w2:Int),.int .u64 (w3:Int)],.pointer (some ⟨w.heap.size,0,none⟩),.slice none 0 0,.pointer (some ⟨w.heap.size+1,0,none⟩),.int .i64 x.1,.agg #[.int .u64 (w0:Int),.int .u64 (w1:Int),.int .u64 (w2:Int),.int .u64 (w3:Int)],.func (.func 135) #[] #[.pointer (some ⟨w.heap.size+2,0,none⟩)],.int .i64 x.1,undef,undef,undef,undef,undef],defers:=[]}) ?assign ?body ?done ?stop
 case assign=>
  intro l x W K hK
  gi_wp2
  exact hK
 case body=>
  rintro l pre x W ⟨⟨v,hv,zE,_⟩,hB⟩ aI
  have hc:=hv.cell
  have hm:pre.length+1≤maxLen:=by unfold maxLen;omega
  gi_wp2_with (gi_at_builtin;refine wpListIn_append_own _ rfl _ _ 24 rfl w.heap.size 3 i0 (.int .i64 0) 1 8 Tryz.underlying24 hi hz0 hz1 hz2 rfl (by decide) _ _ _ rfl (zE.alloc _) ⟨W.heap.size,0,none⟩ 1 1 [.int .i64 x.1] rfl rfl (cell_one_new _ _ _) (by simp[Value.oneCell']) hm (by omega) (by have:=hB.size;simp;omega) ?_;intro v' w1 U4 abw _;obtain⟨g',agn,rfl⟩:=ownsRow_succ U4;obtain⟨hv1,hv2,xp,QR,Wr⟩:=hv.appended (by decide) zE hB.size (by omega) U4 abw;have EV:=hv1.cell;have hf1:=hv1.frozen)
  exact⟨QR.from _,Wr,⟨_,hv2,by simpa using xp,trivial⟩,hB.trans Wr⟩
 case done=>
  rintro D ys W hD U5 ⟨⟨v,hv,zE,_⟩,hB⟩ hK
  have hc:=hv.cell
  gi_wp2
  refine⟨by simp,.inl ⟨_,_,rfl,run_takeDeferred hK,?_⟩⟩
  have e1:(sE S).length=ys.length:=by rw[←U5];simp
  have e2:(sE S).map (Value.int .i64)=ys.map fun x=>Value.int .i64 x.1:=by rw[←U5];simp
  rw[e1,e2]
  exact⟨_,results_tmp rfl _ _ _,v,rfl,ownsRow_putObj zE _ hK rfl,hB.trans (belowK_b (w:=w) (Nat.le_refl _) W D _ _ (by omega) hK rfl rfl)⟩
 case stop=>
  rintro D c pre W _ _ h _
  exact h.elim
end
section
open Go.RowKit
theorem SR(S:List Int){w:World}(hT:xq w):dw Tryz.prog 73 [bC S] w fun v w'=>
  ∃A c,v= .slice A (sE S).length c∧cQ w.heap.size 3 w' A c (sE S)∧Below w.heap.size w w':=
 ⟨vY,(callsIn_wide.1 (HS S w hT)).mono fun e W' ⟨v,he,ho,hb⟩=>⟨v,he,by
  rcases ho.2 with⟨rfl,h0⟩|⟨g,cap,cur,rfl,h⟩
  ·exact⟨none,0,by rw[h0],⟨by rw[h0]at ho ⊢;exact ho⟩,hb⟩
  ·exact⟨_,_,rfl,⟨ho⟩,hb⟩⟩⟩
theorem Bq{S:List Int}(h:aW S)(hs:Small S){w:World}(hT:xq w):dw Tryz.prog 73 [bC S] w fun v w'=>
  ∃A c,v= .slice A S.length c∧cQ w.heap.size 3 w' A c S∧Below w.heap.size w w':=by
 have:=SR S hT
 rwa [Oz h hs]at this
def j7(m:aN)(l:List Int):Prop:=∀i,i<l.length→0≤l.getD i 0∧l.getD i 0<m.events
instance (m:aN) (l:List Int):Decidable (j7 m l):=by unfold j7;exact inferInstance
theorem Ee{w:World}{a:MV}{m:aN}{ok:Nat→Prop}{A:Option Addr}{l:List Int}(h:Ints (·<w.heap.size) w A l)(c:Nat)(hl:l.length≤17592186043904):
  dw Tryz.prog 75 [a.val m,.slice A l.length c] w fun v w'=>v= .bool (decide (j7 m l))∧Below w.heap.size w w':=by
 refine xH (by simp) 100000 fun Q hQ=>?_
 simp(disch:=omega)only[push_cast,aa,↓reduceIte,Nat.reduceEqDiff,Int.reduceEq,rR]
 refine au (aO _ (a.cells m)) ?_
 intro w1 k1 b1 z1
 simp(disch:=omega)only[push_cast,aa,↓reduceIte,Nat.reduceEqDiff,Int.reduceEq]
 refine ax (fun f w'=>∃k:Nat,k≤l.length∧(f 2= .pointer (some ⟨w.heap.size,0,none⟩)∧f 7= .slice A l.length c∧f 8= .int .i64 l.length∧f 9= .int .i64 k)∧
   (∀i,i<k→0≤l.getD i 0∧l.getD i 0<m.events)∧aE w' w.heap.size 27 (a.cells m)∧Below w.heap.size w w')
  (fun f _=>l.length-(intOf (f 9)).toNat) ⟨0,Nat.zero_le _,⟨rfl,rfl,rfl,rfl⟩,fun i hi=>absurd hi (by omega),k1,b1⟩ ?_
 rintro f w2 ⟨k,hk,fr,hp,k2,b2⟩ J hJ
 by_cases aI:k<l.length
 case neg=>
  have r:decide (j7 m l)=true:=decide_eq_true fun i hi=>hp i (by omega)
  simp(disch:=omega)only[push_cast,aa,↓reduceIte,Nat.reduceEqDiff,Int.reduceEq,ey,fr,aI]
  exact aF (hQ _ _ ⟨(by simp only[push_cast,↓reduceIte,Nat.reduceEqDiff,Int.reduceEq,r]),b2⟩)
 have hI:=h.below b2
 have hA:=hI.isSome (by omega)
 by_cases c1:l.getD k 0<0
 ·have r:decide (j7 m l)=false:=decide_eq_false fun hh=>by have:=(hh k aI).1;omega
  simp(disch:=omega)only[push_cast,aa,↓reduceIte,Nat.reduceEqDiff,Int.reduceEq,ey,fr,aI,hI.ld ak,c1]
  exact aF (hQ _ _ ⟨(by simp only[push_cast,↓reduceIte,Nat.reduceEqDiff,Int.reduceEq,r]),b2⟩)
 by_cases c2:m.events≤l.getD k 0
 ·have r:decide (j7 m l)=false:=decide_eq_false fun hh=>by have:=(hh k aI).2;omega
  simp(disch:=omega)only[push_cast,aa,↓reduceIte,Nat.reduceEqDiff,Int.reduceEq,ey,fr,aI,hI.ld ak,c1,c2,k2.m1 ak]
  exact aF (hQ _ _ ⟨(by simp only[push_cast,↓reduceIte,Nat.reduceEqDiff,Int.reduceEq,r]),b2⟩)
 simp(disch:=omega)only[push_cast,aa,↓reduceIte,Nat.reduceEqDiff,Int.reduceEq,ey,fr,aI,hI.ld ak,c1,c2,k2.m1 ak]
 exact hJ _ _ ⟨k+1,aI,(by simp only[push_cast,↓reduceIte,Nat.reduceEqDiff,true_and,and_true,and_self,eq_self,fr]),fun i hi=>if e:i=k then e▸⟨by omega,by omega⟩else hp i (by omega),k2,b2⟩ (by simp only[push_cast,↓reduceIte,Nat.reduceEqDiff,intOf,fr];omega)
def qn(m:aN)(l:List Int)(word:List Int):List Int:=word.foldl (cb m) l
theorem FH(m:aN)(l word:List Int)(k:Nat)(h:k<word.length):qn m l (word.take (k+1))=cb m (qn m l (word.take k)) (word.getD k 0):=by
 unfold qn
 rw[bS _ 0 k h,List.foldl_append]
 rfl
theorem vi{m:aN}(hm:m.bZ){l:List Int}(hl:az l m.aj):∀word:List Int,az (qn m l word) m.aj:=by
 intro word
 unfold qn
 induction word generalizing l with
 |nil=>exact hl
 |cons e word ih=>exact ih (gP hm l e)
def OD(m:aN)(l word:List Int)(w:World)(v:Value)(w':World):Prop:=
 ∃O co o e,v= .tuple #[.slice O o.length co,.int .i64 e]∧cQ w.heap.size 3 w' O co o∧Below w.heap.size w w'∧
  (m.bZ∧az l m.aj∧j7 m word→e=0∧o=qn m l word)∧(¬(m.bZ∧az l m.aj)→e=2∧o=[])∧((m.bZ∧az l m.aj)∧¬j7 m word→e=6∧o=[])
theorem CL{w:World}{a:MV}{m:aN}(h:zj (·<w.heap.size) w a m)(hf:m.Fits)(hT:xq w)
  {A1 A2:Option Addr}{c1 c2:Nat}{l word:List Int}(h1:Ints (·<w.heap.size) w A1 l)(h2:Ints (·<w.heap.size) w A2 word)(n1:l.length≤17592186043904)(n2:word.length≤17592186043904):
  dw Tryz.prog 30 [a.val m,.slice A1 l.length c1,.slice A2 word.length c2] w (OD m l word w):=by
 refine vR (by simp) 100000 fun Q hQ=>?_
 simp(disch:=omega)only[push_cast,aa,↓reduceIte,Nat.reduceEqDiff,Int.reduceEq,qI]
 refine au (aO _ (a.cells m)) ?_
 intro w1 k1 b1 z1
 simp(disch:=omega)only[push_cast,aa,↓reduceIte,Nat.reduceEqDiff,Int.reduceEq,k1.mA iC fR]
 refine ah (nu ((h.below b1).mono fun b hb=>by omega) hf) ?_
 rintro v w2 ⟨rfl,b2⟩
 have k2:=k1.below b2 (by omega)
 have b2:=b1.trans (b2.mono b1.size)
 by_cases p1:m.bZ
 case neg=>
  simp(disch:=omega)only[push_cast,aa,↓reduceIte,Nat.reduceEqDiff,Int.reduceEq,p1]
  exact mV (hQ _ _ ⟨none,0,[],2,(by simp only[push_cast,↓reduceIte,Nat.reduceEqDiff,Int.reduceEq,List.length_nil]),Own.nil _ _ _ _,b2,fun hh=>absurd hh.1 p1,fun _=>⟨rfl,rfl⟩,fun hh=>absurd hh.1.1 p1⟩)
 have eU:m.aj≤256:=p1.2.1
 simp(disch:=omega)only[push_cast,aa,↓reduceIte,Nat.reduceEqDiff,Int.reduceEq,p1,k2.m0 ak]
 refine ah (nY (h1.below b2) c1 m.aj (by omega)) ?_
 rintro v w3 ⟨rfl,s3⟩
 have k3:=k2.same s3
 have b3:=b2.trans (s3.below _)
 by_cases p2:az l m.aj
 case neg=>
  simp(disch:=omega)only[push_cast,aa,↓reduceIte,Nat.reduceEqDiff,Int.reduceEq,p2]
  exact mV (hQ _ _ ⟨none,0,[],2,(by simp only[push_cast,↓reduceIte,Nat.reduceEqDiff,Int.reduceEq,List.length_nil]),Own.nil _ _ _ _,b3,fun hh=>absurd hh.2.1 p2,fun _=>⟨rfl,rfl⟩,fun hh=>absurd hh.1.2 p2⟩)
 simp(disch:=omega)only[push_cast,aa,↓reduceIte,Nat.reduceEqDiff,Int.reduceEq,p2,k3.mA iC fR]
 refine ah (Ee (ok:=fun _=>True) ((h2.below b3).mono fun b hb=>by have:=b3.size;omega) c2 n2) ?_
 rintro v w4 ⟨rfl,b4⟩
 have k4:=k3.below b4 k3.lt
 have b4:=b3.trans (b4.mono b3.size)
 by_cases p3:j7 m word
 case neg=>
  simp(disch:=omega)only[push_cast,aa,↓reduceIte,Nat.reduceEqDiff,Int.reduceEq,p3]
  exact mV (hQ _ _ ⟨none,0,[],6,(by simp only[push_cast,↓reduceIte,Nat.reduceEqDiff,Int.reduceEq,List.length_nil]),Own.nil _ _ _ _,b4,fun hh=>absurd hh.2.2 p3,fun hh=>absurd ⟨p1,p2⟩ hh,fun _=>⟨rfl,rfl⟩⟩)
 simp(disch:=omega)only[push_cast,aa,↓reduceIte,Nat.reduceEqDiff,Int.reduceEq,p3]
 refine ah (gO ((h1.below b4).mono fun b hb=>by have:=b4.size;omega) c1 n1 (p2.small eU)) ?_
 rintro v w5 ⟨rfl,b5⟩
 have k5:=k4.below b5 k4.lt
 have b5:=b4.trans (b5.mono b4.size)
 have z5a:=k5.lt
 simp(disch:=omega)only[push_cast,aa,↓reduceIte,Nat.reduceEqDiff,Int.reduceEq]
 refine au (cs:=setCells (ae [])) cB ?_
 intro w6 k6 b6 z6
 have k5:=k5.below b6 k5.lt
 have b6:=b5.trans (b6.mono b5.size)
 have e4:∀l:List Int,aL Tryz.prog 107=some (setCells (ae l)).length:=fun l=>by rw[ao];exact aw
 simp(disch:=omega)only[push_cast,aa,↓reduceIte,Nat.reduceEqDiff,Int.reduceEq]
 refine aC k6 (e4 l) (by rw[ao,ao]) (aH _) ?_
 intro w7 k7 g7 z7
 have z5:=b5.size
 have cY:w.heap.size≠w5.heap.size:=by intro e;omega
 have k5:=k5.grown g7.aJ (by simpa using cY)
 have b7:=g7.below b6 (by omega) (by intro a ha;injection ha with ha;subst ha;show w.heap.size≤w5.heap.size;omega)
 simp(disch:=omega)only[push_cast,aa,↓reduceIte,Nat.reduceEqDiff,Int.reduceEq]
 refine ax (fun f w'=>∃k:Nat,k≤word.length∧(f 3= .pointer (some ⟨w.heap.size,0,none⟩)∧f 8= .pointer (some ⟨w5.heap.size,0,none⟩)∧f 29= .slice A2 word.length c2∧f 30= .int .i64 word.length∧f 31= .int .i64 k)∧
   aE w' w.heap.size 27 (a.cells m)∧aE w' w5.heap.size 107 (setCells (ae (qn m l (word.take k))))∧Below w.heap.size w w')
  (fun f _=>word.length-(intOf (f 31)).toNat) ⟨0,Nat.zero_le _,⟨rfl,rfl,rfl,rfl,rfl⟩,k5,k7,b7⟩ ?_
 rintro f w8 ⟨k,hk,fr,kM,kS,b8⟩ J hJ
 by_cases aI:k<word.length
 case neg=>
  obtain rfl:k=word.length:=by omega
  rw[List.take_length]at kS
  have zE:=vi p1 p2 word
  simp(disch:=omega)only[push_cast,aa,↓reduceIte,Nat.reduceEqDiff,Int.reduceEq,iy,fr,Nat.lt_irrefl,kS.cM (af _) al aw]
  refine ah (Bq zE.strict (zE.small eU) (hT.below b8 hT.lt)) ?_
  rintro v w9 ⟨O,co,rfl,ho,b9⟩
  simp(disch:=omega)only[push_cast,aa,↓reduceIte,Nat.reduceEqDiff,Int.reduceEq]
  exact mV (hQ _ _ ⟨O,co,_,0,(by simp only[push_cast,↓reduceIte,Nat.reduceEqDiff,Int.reduceEq]),ho.base b8.size,b8.trans (b9.mono b8.size),fun _=>⟨rfl,rfl⟩,fun hh=>absurd ⟨p1,p2⟩ hh,fun hh=>absurd p3 hh.2⟩)
 have hI:=(h2.below b8)
 have hA:=hI.isSome (by omega)
 simp(disch:=omega)only[push_cast,aa,↓reduceIte,Nat.reduceEqDiff,Int.reduceEq,iy,fr,aI,hI.ld ak,kM.mA iC fR,kS.cM (af _) al aw]
 refine ah (kC ((h.below b8).mono fun b hb=>by have:=b8.size;omega) p1 _ _) ?_
 rintro v w9 ⟨rfl,b9⟩
 have kM9:=kM.below b9 kM.lt
 have SS:=kS.below b9 kS.lt
 have b9:=b8.trans (b9.mono b8.size)
 simp(disch:=omega)only[push_cast,aa,↓reduceIte,Nat.reduceEqDiff,Int.reduceEq,fr]
 refine aC SS (e4 _) (by rw[ao,ao]) (aH _) ?_
 intro uv oq g10 U6
 simp(disch:=omega)only[push_cast,aa,↓reduceIte,Nat.reduceEqDiff,Int.reduceEq,fr]
 exact hJ _ _ ⟨k+1,aI,(by simp only[push_cast,↓reduceIte,Nat.reduceEqDiff,true_and,and_true,and_self,eq_self,fr]),kM9.grown g10.aJ (by simpa using cY),by rw[FH _ _ _ _ aI];exact oq,g10.below b9 b9.size (by intro a ha;injection ha with ha;subst ha;show w.heap.size≤w5.heap.size;omega)⟩ (by simp only[push_cast,↓reduceIte,Nat.reduceEqDiff,intOf,fr];omega)
end
section
open Go.RowKit
theorem fu{m:aN}(hm:m.bZ):az m.aB m.aj:=hm.2.2.2.2.2.1
end
section
open Go.RowKit
noncomputable def pick(p:Int→Prop):List Int:=((List.range 256).filter fun(n:Nat)=> @decide (p (n:Int)) (Classical.propDecidable _)).map fun(n:Nat)=>(n:Int)
theorem wL{p:Int→Prop}{x:Int}:x∈pick p↔(0≤x∧x<256)∧p x:=by
 unfold pick
 simp only[List.mem_map,List.mem_filter,List.mem_range,decide_eq_true_eq]
 constructor
 ·rintro⟨n,⟨hn,h⟩,rfl⟩;exact⟨⟨by omega,by omega⟩,h⟩
 ·rintro⟨⟨h0,h1⟩,h⟩
  exact⟨x.toNat,⟨by omega,by rw[show((x.toNat:Nat):Int)=x by omega];exact h⟩,by omega⟩
theorem FI(p:Int→Prop):aW (pick p):=by
 unfold pick aW
 rw[List.pairwise_map]
 exact List.Pairwise.imp (fun h=>Int.ofNat_lt.2 h) (List.Pairwise.filter _ List.pairwise_lt_range)
theorem HT{p:Int→Prop}{l:List Int}(h:∀x,0≤x→x<256→(x∈l↔p x)):ae l=ae (pick p):=
 nx fun x h0 h1=>by rw[h x h0 h1,wL];exact⟨fun hp=>⟨⟨h0,h1⟩,hp⟩,fun hp=>hp.2⟩
theorem Le{p:Int→Prop}{l:List Int}(h:∀x,0≤x→x<256→(x∈l↔p x)):bC l=bC (pick p):=by unfold bC;rw[HT h]
theorem Br{p:Int→Prop}{b:Int}(h:∀x,p x→x<b):az (pick p) b:=
 az.kZ (FI p) fun x hx=>by have:=wL.1 hx;have:=h x this.2;omega
def HU(l:List Int):Nat:=(List.range 256).countP fun(n:Nat)=> !decide ((n:Int)∈l)
theorem Dg{α:Type}{p q:α→Bool}:∀{l:List α},(∀x∈l,q x=true→p x=true)→(∃x∈l,p x=true∧q x=false)→l.countP q<l.countP p
 |[],_,⟨x,hx,_⟩=>absurd hx (by simp)
 |a :: l,h,⟨x,hx,h1,h2⟩=>by
  have hle:l.countP q≤l.countP p:=List.countP_mono_left fun y hy=>h y (List.mem_cons_of_mem _ hy)
  rw[List.countP_cons,List.countP_cons]
  rcases List.mem_cons.1 hx with rfl|hx
  ·rw[h1,h2];simp;omega
  ·have ih:=Dg (l:=l) (fun y hy=>h y (List.mem_cons_of_mem _ hy)) ⟨x,hx,h1,h2⟩
   have ha:=h a (List.mem_cons_self ..)
   cases hq:q a<;>cases hp:p a<;>simp_all<;>omega
theorem SU{l l':List Int}(hs:∀x∈l,x∈l'){x:Int}(h0:0≤x)(h1:x<256)(hx:x∈l')(hn:x∉l):HU l'<HU l:=by
 unfold HU
 refine Dg (fun n _ hn=>?_) ⟨x.toNat,List.mem_range.2 (by omega),?_,?_⟩
 ·simp only[Bool.not_eq_true',decide_eq_false_iff_not]at hn ⊢
  exact fun h=>hn (hs _ h)
 ·rw[show((x.toNat:Nat):Int)=x by omega];simpa using hn
 ·rw[show((x.toNat:Nat):Int)=x by omega];simpa using hx
inductive jP (es:List (Int×Int)) (l:List Int):Int→Prop
 |base (x:Int) (h:x∈l):jP es l x
 |step (p:Int×Int) (hp:p∈es) (h:jP es l p.1):jP es l p.2
theorem jP.trans{es:List (Int×Int)}{l m:List Int}(h:∀x∈m,jP es l x){x:Int}(hx:jP es m x):jP es l x:=by
 induction hx with
 |base x hm=>exact h x hm
 |step p hp _ ih=>exact .step p hp ih
theorem jP.within{es:List (Int×Int)}{l m:List Int}(h0:∀x∈l,x∈m)(h:∀p∈es,p.1∈m→p.2∈m){x:Int}(hx:jP es l x):x∈m:=by
 induction hx with
 |base x hl=>exact h0 x hl
 |step p hp _ ih=>exact h p hp ih
theorem jP.all{es:List (Int×Int)}{l:List Int}{p:Int→Prop}(h0:∀x∈l,p x)(h:∀e∈es,p e.1→p e.2){x:Int}(hx:jP es l x):p x:=by
 induction hx with
 |base x hl=>exact h0 x hl
 |step e he _ ih=>exact h e he ih
def fv(es:List (Int×Int))(l:List Int):List Int:=es.foldl (fun l p=>if p.1∈l then l++[p.2]else l) l
theorem wO(es fs:List (Int×Int))(l:List Int):fv (es++fs) l=fv fs (fv es l):=by unfold fv;rw[List.foldl_append]
theorem gQ:∀(es:List (Int×Int)) (l:List Int),∀x∈l,x∈fv es l
 |[],_,_,h=>h
 |p :: es,l,x,h=>by
  show x∈fv es (if p.1∈l then l++[p.2]else l)
  refine gQ es _ x ?_
  split
  ·exact List.mem_append_left _ h
  ·exact h
theorem vj:∀(es:List (Int×Int)) (l:List Int),∀x∈fv es l,jP es l x
 |[],_,x,h=>.base x h
 |p :: es,l,x,h=>by
  have ih:=vj es _ x h
  have hm:∀{l:List Int} {y:Int},jP es l y→jP (p :: es) l y:=fun{l y} hy=>by
   induction hy with
   |base x h=>exact .base x h
   |step q hq _ ih=>exact .step q (List.mem_cons_of_mem _ hq) ih
  refine jP.trans (fun y hy=>?_) (hm ih)
  replace hy:y∈(if p.1∈l then l++[p.2]else l):=hy
  split at hy
  ·rename_i h1
   rcases List.mem_append.1 hy with hy|hy
   ·exact .base y hy
   ·rw[List.mem_singleton.1 hy];exact .step p (List.mem_cons_self ..) (.base _ h1)
  ·exact .base y hy
theorem Ef{es:List (Int×Int)}{l:List Int}(h:∀x∈fv es l,x∈l):∀p∈es,p.1∈l→p.2∈l:=by
 intro p hp h1
 obtain⟨a,b,rfl⟩:=List.append_of_mem hp
 refine h _ ?_
 rw[wO]
 show p.2∈fv b (if p.1∈fv a l then fv a l++[p.2]else fv a l)
 rw[if_pos (gQ a l _ h1)]
 exact gQ b _ _ (by simp)
theorem yZ{es:List (Int×Int)}(he:∀p∈es,0≤p.2∧p.2<256):∀{l:List Int},Small l→Small (fv es l):=by
 intro l hl x hx
 exact(vj es l x hx).all hl fun e h _=>he e h
def Hg(p:cH→Bool)(rev:Bool)(ar:List cH):List (Int×Int):=(ar.filter p).map fun a=>if rev then(a.dt,a.bK)else(a.bK,a.dt)
theorem OE(p:cH→Bool)(rev:Bool)(ar:List cH)(k:Nat)(h:k<ar.length):
  Hg p rev (ar.take (k+1))=Hg p rev (ar.take k)++(if p (ar.getD k default)=true then [if rev then((ar.getD k default).dt,(ar.getD k default).bK)else((ar.getD k default).bK,(ar.getD k default).dt)]else []):=by
 unfold Hg
 rw[bS _ default k h,List.filter_append,List.map_append]
 congr 1
 generalize ar.getD k default=y
 by_cases h1:p y=true<;>simp[h1]
theorem zV{p:cH→Bool}{rev:Bool}{ar:List cH}{e:Int×Int}:e∈Hg p rev ar↔∃a∈ar,p a=true∧e=(if rev then(a.dt,a.bK)else(a.bK,a.dt)):=by
 unfold Hg
 simp only[List.mem_map,List.mem_filter]
 exact⟨fun⟨a,⟨h1,h2⟩,h3⟩=>⟨a,h1,h2,h3.symm⟩,fun⟨a,h1,h2,h3⟩=>⟨a,⟨h1,h2⟩,h3.symm⟩⟩
def sF(p:cH→Bool)(rev:Bool)(ar:List cH)(l:List Int)(k:Nat):List Int:=fv (Hg p rev (ar.take k)) l
theorem Dh(p:cH→Bool)(rev:Bool)(ar:List cH)(l:List Int):sF p rev ar l ar.length=fv (Hg p rev ar) l:=by unfold sF;rw[List.take_length]
theorem Bs(p:cH→Bool)(rev:Bool)(ar:List cH)(l:List Int)(k:Nat)(h:k<ar.length):
  sF p rev ar l (k+1)=if p (ar.getD k default)=true∧(if rev then(ar.getD k default).dt else(ar.getD k default).bK)∈sF p rev ar l k then sF p rev ar l k++[if rev then(ar.getD k default).bK else(ar.getD k default).dt]else sF p rev ar l k:=by
 unfold sF
 rw[OE p rev ar k h,wO]
 generalize fv (Hg p rev (ar.take k)) l=m
 generalize ar.getD k default=y
 by_cases h1:p y=true
 ·rw[if_pos h1]
  cases rev
  ·show(if y.bK∈m then m++[y.dt]else m)=_
   simp[h1]
  ·show(if y.dt∈m then m++[y.bK]else m)=_
   simp[h1]
 ·rw[if_neg h1,if_neg fun hh=>h1 hh.1];rfl
structure mq(es:List (Int×Int))(l0 was l:List Int):Prop where
 small:Small l
 sub:∀x∈l0,x∈l
 abx:∀x∈l,jP es l0 x
 closed:ae was=ae l→∀p∈es,p.1∈l→p.2∈l
theorem Di{was l:List Int}(h:ae was=ae l)(hl:Small l):∀x∈l,x∈was:=fun x hx=>(ny h (hl x hx).1 (hl x hx).2).2 hx
theorem mq.start(es:List (Int×Int)){l:List Int}(hl:Small l):mq es l [] l:=
 ⟨hl,fun _ h=>h,fun x h=>.base x h,fun h p _ hp=>absurd (Di h hl _ hp) (by simp)⟩
theorem mq.next{es:List (Int×Int)}{l0 was l:List Int}(h:mq es l0 was l)(he:∀p∈es,0≤p.2∧p.2<256):mq es l0 l (fv es l):=by
 have hs:=yZ he h.small
 refine⟨hs,fun x hx=>gQ es l x (h.sub x hx),fun x hx=>jP.trans h.abx (vj es l x hx),fun hw p hp h1=>?_⟩
 have OF:=Di hw hs
 exact gQ es l _ (Ef OF p hp (OF _ h1))
theorem mq.done{es:List (Int×Int)}{l0 was l:List Int}(h:mq es l0 was l)(hw:ae was=ae l):bC l=bC (pick (jP es l0)):=
 Le fun x _ _=>⟨h.abx x,fun hc=>jP.within h.sub (h.closed hw) hc⟩
def left(was l:List Int):Nat:=2*HU l+if ae was=ae l then 0 else 1
theorem Jw{es:List (Int×Int)}{was l:List Int}(hl:Small l)(he:∀p∈es,0≤p.2∧p.2<256)(hw:ae was≠ae l):left l (fv es l)<left was l:=by
 unfold left
 rw[if_neg hw]
 by_cases h:ae l=ae (fv es l)
 ·rw[if_pos h]
  have:HU (fv es l)≤HU l:=by
   unfold HU
   refine List.countP_mono_left fun n _ hn=>?_
   simp only[Bool.not_eq_true',decide_eq_false_iff_not]at hn ⊢
   exact fun hh=>hn (gQ es l _ hh)
  omega
 ·rw[if_neg h]
  have hs:=yZ he hl
  have hx:∃x∈fv es l,x∉l:=by
   refine Classical.byContradiction fun gY=>h (nx fun x _ _=>⟨gQ es l x,fun hx=>Classical.byContradiction fun hn=>gY ⟨x,hx,hn⟩⟩)
  obtain⟨x,hx,hn⟩:=hx
  have:=SU (gQ es l) (hs x hx).1 (hs x hx).2 hx hn
  omega
theorem FJ(a b:List Int):ae a=ae b↔∀i,i<4→(ae a).getD i 0=(ae b).getD i 0:=by
 refine⟨fun h i _=>by rw[h],fun h=>wu 0 ((af a).1.trans (af b).1.symm) fun k hk=>h k (by rw[(af a).1]at hk;exact hk)⟩
theorem uw(w:World)(l:List Int)(i:Nat)(hi:i<4):(part 105 (setCells (ae l)).toArray (i*1)).run Tryz.prog w= .ok (.int .u64 (((ae l).getD i 0:Nat):Int)) w:=
 run_part_plain w (by kernel_rfl) (by
  have hl:i<(ae l).length:=by rw[(af l).1];exact hi
  simp[setCells,List.getD_eq_getElem?_getD,hl])
theorem Dj(w:World)(a b:List Int):(Op.equalIn 10000 107 (bC a) (bC b)).run Tryz.prog w= .ok (decide (ae a=ae b)) w:=by
 have hu:Tryz.prog.underlying 107=some (.array 4 105):=Tryz.underlying107
 have EV:Tryz.prog.cellsOf 105=1:=by kernel_rfl
 have hi:∃i,Tryz.prog.info? 105=some i:=by
  have:=x6
  unfold aL at this
  cases h:Tryz.prog.info? 105 with
  |none=>simp[h]at this
  |some i=>exact⟨i,rfl⟩
 obtain⟨i,hi⟩:=hi
 have key:∀is:List Nat,(∀i∈is,i<4)→(Op.eqItems 9999 105 1 (setCells (ae a)).toArray (setCells (ae b)).toArray is).run Tryz.prog w= .ok (decide (∀i∈is,(ae a).getD i 0=(ae b).getD i 0)) w:=by
  intro is
  induction is with
  |nil=>intro _;simp[Op.eqItems]
  |cons j is ih=>
   intro hj
   have ih:=ih fun i hi=>hj i (List.mem_cons_of_mem _ hi)
   have hj4:=hj j (List.mem_cons_self ..)
   unfold Op.eqItems
   simp only[Sem.run_bind,uw w a j hj4,uw w b j hj4,Result.andThen_ok,run_equalIn_int w 9998 105 .u64 .u64 _ _ Tryz.underlying105]
   by_cases e:(ae a).getD j 0=(ae b).getD j 0
   ·rw[e]
    simp only[beq_self_eq_true,Bool.not_true,Bool.false_eq_true,if_false,ih]
    rw[show decide (∀i∈j :: is,(ae a).getD i 0=(ae b).getD i 0)=decide (∀i∈is,(ae a).getD i 0=(ae b).getD i 0) from decide_eq_decide.2 ⟨fun h i hi=>h i (List.mem_cons_of_mem _ hi),fun h i hi=>(List.mem_cons.1 hi).elim (fun q=>by rw[q];exact e) (h i)⟩]
   ·have e':((((ae a).getD j 0:Nat):Int)==(((ae b).getD j 0:Nat):Int))=false:=by simpa using(by omega:¬(((ae a).getD j 0:Nat):Int)=(((ae b).getD j 0:Nat):Int))
    rw[e']
    simp only[Bool.not_false,if_true,Sem.run_pure]
    rw[decide_eq_false fun h=>e (h j (List.mem_cons_self ..))]
 rw[run_equalIn_array (P:=Tryz.prog) w 9999 _ _ hu hi,EV,key _ fun i hi=>List.mem_range.1 hi]
 rw[show decide (ae a=ae b)=decide (∀i∈List.range 4,(ae a).getD i 0=(ae b).getD i 0) from decide_eq_decide.2 ((FJ a b).trans ⟨fun h i hi=>h i (List.mem_range.1 hi),fun h i hi=>h i (List.mem_range.2 hi)⟩)]
theorem Jy(w:World)(op:BinOp)(xo yo:Operand)(xs ys:Array Value):(eqGuard op 107 xo yo (.agg xs) (.agg ys)).run Tryz.prog w= .ok () w:=run_eqGuard_agg w op 107 xo yo _ _ (by kernel_rfl)
theorem SV(w:World)(xo yo:Operand)(xs ys:Array Value)(b:Bool)(h:(Op.equalIn 10000 107 (.agg xs) (.agg ys)).run Tryz.prog w= .ok b w):(bW .neq 107 xo yo (.agg xs) (.agg ys)).run Tryz.prog w= .ok (.bool (!b)) w:=by
 unfold bW
 rw[Sem.run_bind,Jy,Result.andThen_ok,run_neq_struct w,h];rfl
theorem SX(w:World)(xo yo:Operand)(xs ys:Array Value)(b:Bool)(h:(Op.equalIn 10000 107 (.agg xs) (.agg ys)).run Tryz.prog w= .ok b w):(bW .eql 107 xo yo (.agg xs) (.agg ys)).run Tryz.prog w= .ok (.bool b) w:=by
 unfold bW
 rw[Sem.run_bind,Jy,Result.andThen_ok,run_eql_struct w,h];rfl
section
variable {K:Fr→World→Prop} {u w:World} {f:Fr} {d:Option Nat} {xo yo:Operand}
theorem tC(a b:List Int):aq Tryz.prog K (bW .neq 107 xo yo (bC a) (bC b)) u f d w=K (ai f d (.bool (!decide (ae a=ae b)))) w:=
 aM u f d w fun w' _=>SV w' xo yo _ _ _ (Dj w' a b)
theorem Jz(a b:List Int):aq Tryz.prog K (bW .eql 107 xo yo (bC a) (bC b)) u f d w=K (ai f d (.bool (decide (ae a=ae b)))) w:=
 aM u f d w fun w' _=>SX w' xo yo _ _ _ (Dj w' a b)
end
end
section
open Go.RowKit
def nZ(l:List cH):Prop:=l.Pairwise cH.lt
theorem cH.lt_trans{a b c:cH}(h:a.lt b)(k:b.lt c):a.lt c:=by unfold cH.lt at*;omega
theorem nZ.JA:∀{l:List cH},(∀i,i<l.length→0<i→(l.getD (i-1) default).lt (l.getD i default))→nZ l
 |[],_=>List.Pairwise.nil
 |[a],_=>by simp[nZ]
 |a :: b :: l,h=>by
  have ih:nZ (b :: l):=nZ.JA fun i hi h0=>by
   have:=h (i+1) (by simpa using hi) (by omega)
   rw[Nat.add_sub_cancel]at this
   match i,h0 with
   |i+1,_=>simpa using this
  have tB:a.lt b:=by have:=h 1 (by simp) (by omega);simpa using this
  refine List.Pairwise.cons (fun c hc=>?_) ih
  rcases List.mem_cons.1 hc with rfl|hc
  ·exact tB
  ·exact cH.lt_trans tB ((List.pairwise_cons.1 ih).1 c hc)
theorem bZ.ord{m:aN}(h:m.bZ):nZ m.ag:=nZ.JA fun i hi h0=>(h.2.2.2.2.2.2.2 i hi).2 h0
theorem tD{l k:List Int}{x:Int}:x∈fc l k true↔x∈l∧x∈k:=by unfold fc;simp[List.mem_filter]
theorem fB{m:aN}{l:List Int}{e x:Int}:x∈cb m l e↔∃a∈m.ag,a.dI=e∧a.bK∈l∧a.dt=x:=by
 unfold cb stepT
 rw[(dW _).2]
 simp only[List.mem_map,List.mem_filter,Bool.and_eq_true,decide_eq_true_eq]
 exact⟨fun⟨a,⟨h1,h2,h3⟩,h4⟩=>⟨a,h1,h2,h3,h4⟩,fun⟨a,h1,h2,h3,h4⟩=>⟨a,⟨h1,h2,h3⟩,h4⟩⟩
end
section
open Go.RowKit
def FK(seen:List Int):cH→Bool:=fun a=> !decide (a.dI∈seen)
abbrev ZK(m:aN)(seen:List Int):List (Int×Int):=Hg (FK seen) false m.ag
noncomputable def iV(m:aN)(seen l:List Int):List Int:=pick (jP (ZK m seen) l)
theorem W8{m:aN}(hm:m.bZ){seen:List Int}:∀p∈ZK m seen,0≤p.2∧p.2<m.aj:=fun p hp=>by
 obtain⟨a,ha,_,rfl⟩:=zV.1 hp
 exact(bZ.arr hm ha).2.1
theorem pf{m:aN}(hm:m.bZ){seen l:List Int}(hl:∀x∈l,0≤x∧x<m.aj):az (iV m seen l) m.aj:=
 Br fun x hx=>(jP.all (p:=fun x=>0≤x∧x<m.aj) hl (fun e he _=>W8 hm e he) hx).2
theorem gS{l:List Int}{b:Int}(h:az l b):∀x∈l,0≤x∧x<b:=fun x hx=>by have:=h.mem hx;exact⟨this.1,this.2.1⟩
theorem fw{m:aN}(hm:m.bZ)(l:List Int)(e:Int):∀x∈cb m l e,0≤x∧x<m.aj:=gS (gP hm l e)
noncomputable def aby(m:aN)(seen l:List Int)(e:Int):List Int:=iV m seen (cb m l e)
theorem Bt{m:aN}(hm:m.bZ)(seen l:List Int)(e:Int):az (aby m seen l e) m.aj:=pf hm (fw hm l e)
end
section
open Go.RowKit
theorem cP:∀(N:Nat) (l:List Nat),l.Nodup→(∀x∈l,x<N)→l.length≤N
 |0,l,_,h=>by
  cases l with
  |nil=>simp
  |cons a l=>exact absurd (h a (by simp)) (by omega)
 |N+1,l,hn,h=>by
  have h1:=cP N (l.erase N) (hn.erase N) fun x hx=>by
   have:=h x (List.mem_of_mem_erase hx)
   have cY:x≠N:=fun e=>by
    rw[e]at hx
    exact absurd hx (by rw[List.Nodup.mem_erase_iff hn];simp)
   omega
  have:=List.length_erase (a:=N) (l:=l)
  split at this<;>omega
section
variable {S:Type} [DecidableEq S] (step:S→Int→S) (es:List Int)
def fU(k:Nat)(l:List (S×List Int))(e:Int):List (S×List Int):=
 match l[k]?with
 |some p=>if step p.1 e∈l.map (·.1)then l else l++[(step p.1 e,p.2++[e])]
 |none=>l
def HV(k:Nat)(l:List (S×List Int)):List (S×List Int):=es.foldl (fU step k) l
def a8(first:S):Nat→List (S×List Int)
 |0=>[(first,[])]
 |k+1=>HV step es k (a8 first k)
def jQ(first:S)(k j:Nat):List (S×List Int):=(es.take j).foldl (fU step k) (a8 step es first k)
theorem Bu(first:S)(k:Nat):jQ step es first k 0=a8 step es first k:=rfl
theorem HW(first:S)(k j:Nat)(h:j<es.length):jQ step es first k (j+1)=fU step k (jQ step es first k j) (es.getD j 0):=by
 unfold jQ
 rw[bS es 0 j h,List.foldl_append]
 rfl
theorem Lf(first:S)(k:Nat):jQ step es first k es.length=a8 step es first (k+1):=by
 unfold jQ
 rw[List.take_length]
 rfl
variable {step es}
theorem qo(k:Nat)(l:List (S×List Int))(e:Int):fU step k l e=l∨∃p,l[k]? =some p∧step p.1 e∉l.map (·.1)∧fU step k l e=l++[(step p.1 e,p.2++[e])]:=by
 unfold fU
 cases hk:l[k]?with
 |none=>exact .inl rfl
 |some p=>
  simp only
  by_cases h:step p.1 e∈l.map (·.1)
  ·rw[if_pos h];exact .inl rfl
  ·rw[if_neg h];exact .inr ⟨p,rfl,h,rfl⟩
theorem FL{k:Nat}{l:List (S×List Int)}{e:Int}{p:S×List Int}(hk:l[k]? =some p)(h:step p.1 e∈l.map (·.1)):fU step k l e=l:=by
 unfold fU
 rw[hk]
 simp only
 rw[if_pos h]
theorem FM{k:Nat}{l:List (S×List Int)}{e:Int}{p:S×List Int}(hk:l[k]? =some p)(h:step p.1 e∉l.map (·.1)):fU step k l e=l++[(step p.1 e,p.2++[e])]:=by
 unfold fU
 rw[hk]
 simp only
 rw[if_neg h]
theorem FN(k:Nat)(l:List (S×List Int))(e:Int):l<+:fU step k l e:=by
 rcases qo (step:=step) k l e with h|⟨p,_,_,h⟩
 ·rw[h];exact List.prefix_refl _
 ·rw[h];exact List.prefix_append _ _
theorem iF(k:Nat):∀(es:List Int) (l:List (S×List Int)),l<+:es.foldl (fU step k) l
 |[],l=>List.prefix_refl _
 |e :: es,l=>(FN k l e).trans (iF k es _)
theorem Eg(first:S)(k j:Nat):a8 step es first k<+:jQ step es first k j:=iF k _ _
theorem wQ(first:S)(k:Nat):a8 step es first k<+:a8 step es first (k+1):=iF k _ _
theorem iG(first:S){k:Nat}:∀{n:Nat},k≤n→a8 step es first k<+:a8 step es first n
 |0,h=>by rw[Nat.le_zero.1 h];exact List.prefix_refl _
 |n+1,h=>by
  rcases Nat.lt_or_ge n k with h1|h1
  ·rw[show k=n+1 by omega];exact List.prefix_refl _
  ·exact(iG first h1).trans (wQ first n)
theorem cJ{α:Type}{l m:List α}(h:l<+:m){i:Nat}(hi:i<l.length):m[i]? =l[i]? :=by
 obtain⟨t,rfl⟩:=h
 exact List.getElem?_append_left hi
structure mr(step:S→Int→S)(es:List Int)(U:S→Prop)(l:List (S×List Int)):Prop where
 nodup:(l.map (·.1)).Nodup
 univ:∀p∈l,U p.1
theorem mr.add{U:S→Prop}(hU:∀s,U s→∀e∈es,U (step s e)){k:Nat}{l:List (S×List Int)}(h:mr step es U l){e:Int}(he:e∈es):mr step es U (fU step k l e):=by
 rcases qo (step:=step) k l e with h1|⟨p,hp,hn,h1⟩
 ·rw[h1];exact h
 ·rw[h1]
  refine⟨?_,fun q hq=>?_⟩
  ·rw[List.map_append,List.map_singleton,List.nodup_append]
   refine⟨h.nodup,by simp,fun a ha b hb=>?_⟩
   rw[List.mem_singleton.1 hb]
   exact fun tB=>hn (by rw[←show a=step p.1 e from tB];exact ha)
  ·rcases List.mem_append.1 hq with hq|hq
   ·exact h.univ q hq
   ·rw[List.mem_singleton.1 hq]
    exact hU _ (h.univ p (List.mem_of_getElem? hp)) e he
theorem mr.fold{U:S→Prop}(hU:∀s,U s→∀e∈es,U (step s e)){k:Nat}:∀(m:List Int) (l:List (S×List Int)),(∀e∈m,e∈es)→mr step es U l→mr step es U (m.foldl (fU step k) l)
 |[],_,_,h=>h
 |e :: m,_,hm,h=>mr.fold hU m _ (fun e' Dk=>hm e' (List.mem_cons_of_mem _ Dk)) (h.add hU (hm e (List.mem_cons_self ..)))
theorem mu{U:S→Prop}(hU:∀s,U s→∀e∈es,U (step s e)){first:S}(h0:U first):∀k,mr step es U (a8 step es first k)
 |0=>⟨by simp[a8],by simp[a8,h0]⟩
 |k+1=>mr.fold hU es _ (fun _ h=>h) (mu hU h0 k)
theorem Bv{U:S→Prop}(hU:∀s,U s→∀e∈es,U (step s e)){first:S}(h0:U first)(k j:Nat):mr step es U (jQ step es first k j):=
 mr.fold hU _ _ (fun _ h=>List.mem_of_mem_take h) (mu hU h0 k)
theorem mr.len{U:S→Prop}{l:List (S×List Int)}(h:mr step es U l)(code:S→Nat)(N:Nat)(hc:∀s,U s→code s<N)(hi:∀s t,U s→U t→code s=code t→s=t):l.length≤N:=by
 have h1:((l.map (·.1)).map code).Nodup:=by
  have:=h.nodup
  rw[List.nodup_iff_pairwise_ne]at this ⊢
  rw[List.pairwise_map]
  refine this.imp_of_mem fun{a b} ha hb tB abz=>tB ?_
  obtain⟨p,hp,rfl⟩:=List.mem_map.1 ha
  obtain⟨q,hq,rfl⟩:=List.mem_map.1 hb
  exact hi _ _ (h.univ p hp) (h.univ q hq) abz
 have:=cP N _ h1 fun x hx=>by
  obtain⟨s,hs,rfl⟩:=List.mem_map.1 hx
  obtain⟨p,hp,rfl⟩:=List.mem_map.1 hs
  exact hc _ (h.univ p hp)
 simpa using this
theorem Lg{k:Nat}{l:List (S×List Int)}{e:Int}(h:∀(j:Nat) (p:S×List Int),l[j]? =some p→p.2.length≤j):∀(j:Nat) (p:S×List Int),(fU step k l e)[j]? =some p→p.2.length≤j:=by
 intro j p hp
 rcases qo (step:=step) k l e with h1|⟨q,hq,_,h1⟩
 ·rw[h1]at hp;exact h j p hp
 ·rw[h1]at hp
  by_cases hj:j<l.length
  ·rw[List.getElem?_append_left hj]at hp;exact h j p hp
  ·rw[List.getElem?_append_right (by omega)]at hp
   have hk:k<l.length:=by
    rcases Nat.lt_or_ge k l.length with h2|h2
    ·exact h2
    ·rw[List.getElem?_eq_none h2]at hq;cases hq
   have U3:=h k q hq
   match mw:j-l.length with
   |0=>rw[mw]at hp;simp at hp;subst hp;simp;omega
   |m+1=>rw[mw]at hp;simp at hp
theorem x7{k:Nat}:∀(m:List Int) (l:List (S×List Int)),(∀(j:Nat) (p:S×List Int),l[j]? =some p→p.2.length≤j)→∀(j:Nat) (p:S×List Int),(m.foldl (fU step k) l)[j]? =some p→p.2.length≤j
 |[],_,h=>h
 |e :: m,_,h=>x7 m _ (Lg h)
theorem qp(first:S):∀(k j:Nat) (p:S×List Int),(a8 step es first k)[j]? =some p→p.2.length≤j
 |0=>fun j p hp=>by
  match j with
  |0=>simp[a8]at hp;subst hp;simp
  |j+1=>simp[a8]at hp
 |k+1=>x7 es _ (qp first k)
theorem HX(first:S)(k i j:Nat)(p:S×List Int)(hp:(jQ step es first k i)[j]? =some p):p.2.length≤j:=x7 _ _ (qp first k) j p hp
theorem my{first:S}{k:Nat}(h:(a8 step es first k).length≤k):∀n,k≤n→a8 step es first n=a8 step es first k
 |0,hn=>by rw[Nat.le_zero.1 hn]
 |n+1,hn=>by
  rcases Nat.lt_or_ge n k with h1|h1
  ·rw[show k=n+1 by omega]
  ·have ih:=my h n h1
   show HV step es n (a8 step es first n)=_
   rw[ih]
   have JB:(a8 step es first k)[n]? =none:=List.getElem?_eq_none (by omega)
   generalize a8 step es first k=l at*
   unfold HV
   generalize es=m
   induction m with
   |nil=>rfl
   |cons e m ih2=>
    rw[List.foldl_cons]
    have:fU step n l e=l:=by unfold fU;rw[JB]
    rw[this];exact ih2
end
end
section
open Go.RowKit
def hZ(u v:List Int):Prop:=u.length<v.length∨(u.length=v.length∧∃i,i<u.length∧(∀j,j<i→u.getD j 0=v.getD j 0)∧u.getD i 0<v.getD i 0)
noncomputable instance (u v:List Int):Decidable (hZ u v):=Classical.propDecidable _
theorem hZ.irrefl(u:List Int):¬hZ u u:=by
 rintro(h|⟨_,i,_,_,h⟩)<;>omega
theorem hZ.trans{u v x:List Int}(h:hZ u v)(h':hZ v x):hZ u x:=by
 rcases h with h|⟨hl,i,hi,he,h⟩<;>rcases h' with h'|⟨Fx,i',ZJ,Dk,h'⟩
 ·exact .inl (by omega)
 ·exact .inl (by omega)
 ·exact .inl (by omega)
 ·refine .inr ⟨by omega,?_⟩
  rcases Nat.lt_trichotomy i i' with c|c|c
  ·exact⟨i,hi,fun j hj=>(he j hj).trans (Dk j (by omega)),by rw[←Dk i c];exact h⟩
  ·subst c
   exact⟨i,hi,fun j hj=>(he j hj).trans (Dk j hj),by omega⟩
  ·exact⟨i',by omega,fun j hj=>(he j (by omega)).trans (Dk j hj),by rw[he i' c];exact h'⟩
theorem fC(u:List Int)(e:Int){j:Nat}(h:j<u.length):(u++[e]).getD j 0=u.getD j 0:=by
 rw[List.getD_eq_getElem?_getD,List.getD_eq_getElem?_getD,List.getElem?_append_left h]
theorem ux(u:List Int)(e:Int):(u++[e]).getD u.length 0=e:=by simp
theorem hZ.snoc{u v:List Int}(h:hZ u v)(e e':Int):hZ (u++[e]) (v++[e']):=by
 rcases h with h|⟨hl,i,hi,he,h⟩
 ·exact .inl (by simp;omega)
 ·refine .inr ⟨by simp;omega,i,by simp;omega,fun j hj=>?_,?_⟩
  ·rw[fC _ _ (by omega),fC _ _ (by omega)];exact he j hj
  ·rw[fC _ _ (by omega),fC _ _ (by omega)];exact h
theorem hZ.SY(u:List Int){e e':Int}(h:e<e'):hZ (u++[e]) (u++[e']):=by
 refine .inr ⟨by simp,u.length,by simp,fun j hj=>?_,?_⟩
 ·rw[fC _ _ hj,fC _ _ hj]
 ·rw[ux,ux];exact h
theorem hZ.nil(v:List Int)(e:Int):hZ [] (v++[e]):= .inl (by simp)
def gW(u v:List Int):Prop:=u=v∨hZ u v
theorem gW.trans{u v x:List Int}(h:gW u v)(h':gW v x):gW u x:=by
 rcases h with rfl|h
 ·exact h'
 ·rcases h' with rfl|h'
  ·exact .inr h
  ·exact .inr (h.trans h')
theorem gW.not{u v:List Int}(h:gW u v):¬hZ v u:=fun h'=>by
 rcases h with rfl|h
 ·exact hZ.irrefl _ h'
 ·exact hZ.irrefl _ (h.trans h')
theorem gW.snoc{u v:List Int}(h:gW u v)(e:Int):gW (u++[e]) (v++[e]):=by
 rcases h with rfl|h
 ·exact .inl rfl
 ·exact .inr (h.snoc e e)
section
variable {S:Type} [DecidableEq S] {step:S→Int→S} {es:List Int}
structure Ordered(step:S→Int→S)(first:S)(es:List Int)(k:Nat)(m:List Int)(l:List (S×List Int)):Prop where
 run:∀p∈l,p.1=p.2.foldl step first∧∀e∈p.2,e∈es
 sorted:l.Pairwise fun p q=>hZ p.2 q.2
 made:∀p∈l,p.2=[]∨∃i q e,l[i]? =some q∧p.2=q.2++[e]∧e∈es∧(i<k∨(i=k∧e∈m))
theorem Ordered.get{first:S}{k:Nat}{m:List Int}{l:List (S×List Int)}(h:Ordered step first es k m l){i j:Nat}{p q:S×List Int}(hi:l[i]? =some p)(hj:l[j]? =some q)(D4:i<j):hZ p.2 q.2:=by
 have li:i<l.length:=by rcases Nat.lt_or_ge i l.length with c|c;exact c;rw[List.getElem?_eq_none c]at hi;cases hi
 have lj:j<l.length:=by rcases Nat.lt_or_ge j l.length with c|c;exact c;rw[List.getElem?_eq_none c]at hj;cases hj
 have:=List.pairwise_iff_getElem.1 h.sorted i j li lj D4
 rw[List.getElem?_eq_getElem li]at hi;rw[List.getElem?_eq_getElem lj]at hj
 rw[←Option.some.inj hi,←Option.some.inj hj];exact this
theorem Ordered.ahead{first:S}{k:Nat}{m:List Int}{l:List (S×List Int)}(h:Ordered step first es k m l){q:S×List Int}{e:Int}(hq:l[k]? =some q)(hm:∀x∈m,x<e){p:S×List Int}(hp:p∈l):hZ p.2 (q.2++[e]):=by
 rcases h.made p hp with c|⟨i,r,x,hr,hx,_,hi|⟨rfl,Cp⟩⟩
 ·rw[c];exact hZ.nil _ _
 ·rw[hx];exact(h.get hr hq hi).snoc _ _
 ·rw[hr]at hq
  rw[hx,Option.some.inj hq];exact hZ.SY _ (hm x Cp)
theorem Ordered.grow{first:S}{k:Nat}{m m':List Int}{l:List (S×List Int)}(h:Ordered step first es k m l)(hm:∀x∈m,x∈m'):Ordered step first es k m' l:=
 ⟨h.run,h.sorted,fun p hp=>(h.made p hp).imp id fun⟨i,q,e,h1,h2,h3,h4⟩=>⟨i,q,e,h1,h2,h3,h4.imp id fun⟨a,b⟩=>⟨a,hm _ b⟩⟩⟩
theorem Ordered.add{first:S}{k:Nat}{m:List Int}{l:List (S×List Int)}(h:Ordered step first es k m l){e:Int}(he:e∈es)(hm:∀x∈m,x<e):Ordered step first es k (m++[e]) (fU step k l e):=by
 rcases qo (step:=step) k l e with h1|⟨q,hq,_,h1⟩
 ·rw[h1];exact h.grow fun x hx=>List.mem_append_left _ hx
 ·rw[h1]
  have hqm:q∈l:=List.mem_of_getElem? hq
  have up:∀{i:Nat} {r:S×List Int},l[i]? =some r→(l++[(step q.1 e,q.2++[e])])[i]? =some r:=fun{i r} hr=>by
   rw[List.getElem?_append_left (by rcases Nat.lt_or_ge i l.length with c|c;exact c;rw[List.getElem?_eq_none c]at hr;cases hr)]
   exact hr
  refine⟨fun p hp=>?_,?_,fun p hp=>?_⟩
  ·rcases List.mem_append.1 hp with hp|hp
   ·exact h.run p hp
   ·rw[List.mem_singleton.1 hp]
    refine⟨by rw[List.foldl_append,←(h.run q hqm).1];rfl,fun x hx=>?_⟩
    rcases List.mem_append.1 hx with hx|hx
    ·exact(h.run q hqm).2 x hx
    ·rw[List.mem_singleton.1 hx];exact he
  ·rw[List.pairwise_append]
   refine⟨h.sorted,List.pairwise_singleton _ _,fun a ha b hb=>?_⟩
   rw[List.mem_singleton.1 hb]
   exact h.ahead hq hm ha
  ·rcases List.mem_append.1 hp with hp|hp
   ·rcases h.made p hp with c|⟨i,r,x,hr,hx,hxe,hi⟩
    ·exact .inl c
    ·exact .inr ⟨i,r,x,up hr,hx,hxe,hi.imp id fun⟨a,b⟩=>⟨a,List.mem_append_left _ b⟩⟩
   ·rw[List.mem_singleton.1 hp]
    exact .inr ⟨k,q,e,up hq,rfl,he,.inr ⟨rfl,by simp⟩⟩
theorem Ordered.fold{first:S}{k:Nat}:∀(r m:List Int) (l:List (S×List Int)),Ordered step first es k m l→(∀e∈r,e∈es)→(∀x∈m,∀e∈r,x<e)→r.Pairwise (·<·)→Ordered step first es k (m++r) (r.foldl (fU step k) l)
 |[],m,l,h,_,_,_=>by rw[List.append_nil];exact h
 |e :: r,m,l,h,h1,h2,h3=>by
  have:=Ordered.fold r (m++[e]) (fU step k l e) (h.add (h1 e (List.mem_cons_self ..)) fun x hx=>h2 x hx e (List.mem_cons_self ..)) (fun x hx=>h1 x (List.mem_cons_of_mem _ hx))
   (fun x hx y hy=>by
    rcases List.mem_append.1 hx with hx|hx
    ·exact h2 x hx y (List.mem_cons_of_mem _ hy)
    ·rw[List.mem_singleton.1 hx];exact(List.pairwise_cons.1 h3).1 y hy) (List.pairwise_cons.1 h3).2
  rw[List.append_assoc]at this
  exact this
theorem Ordered.next{first:S}{k:Nat}{m:List Int}{l:List (S×List Int)}(h:Ordered step first es k m l):Ordered step first es (k+1) [] l:=
 ⟨h.run,h.sorted,fun p hp=>(h.made p hp).imp id fun⟨i,q,e,h1,h2,h3,h4⟩=>⟨i,q,e,h1,h2,h3,.inl (by omega)⟩⟩
theorem jC(Eh:es.Pairwise (·<·))(first:S):∀k,Ordered step first es k [] (a8 step es first k)
 |0=>⟨by simp[a8],by simp[a8],by simp[a8]⟩
 |k+1=>(Ordered.fold es [] _ (jC Eh first k) (fun _ h=>h) (by simp) Eh).next
theorem Lh(Eh:es.Pairwise (·<·))(first:S)(u:List Int)(hu:∀e∈u,e∈es):∃k i:Nat,∃p:S×List Int,(a8 step es first k)[i]? =some p∧p.1=u.foldl step first∧gW p.2 u:=by
 induction hn:u.length generalizing u with
 |zero=>
  obtain rfl:=List.length_eq_zero_iff.1 hn
  exact⟨0,0,(first,[]),rfl,rfl,.inl rfl⟩
 |succ n ih=>
  obtain⟨u',e,rfl⟩:∃u' e,u=u'++[e]:=⟨u.dropLast,u.getLast (by intro h;rw[h]at hn;simp at hn),(List.dropLast_concat_getLast _).symm⟩
  obtain⟨k,i,p,hp,hs,hle⟩:=ih u' (fun x hx=>hu x (List.mem_append_left _ hx)) (by simp at hn;omega)
  have he:e∈es:=hu e (by simp)
  obtain⟨s,t,eU⟩:=List.append_of_mem he
  have li:i<(a8 step es first k).length:=by rcases Nat.lt_or_ge i (a8 step es first k).length with c|c;exact c;rw[List.getElem?_eq_none c]at hp;cases hp
  have hpi:(a8 step es first i)[i]? =some p∨(a8 step es first i).length≤i:=by
   rcases Nat.lt_or_ge i (a8 step es first i).length with c|c
   ·refine .inl ?_
    rcases Nat.le_total i k with d|d
    ·rw[←hp];exact(cJ (iG (step:=step) (es:=es) first d) c).symm
    ·rw[←hp];exact cJ (iG (step:=step) (es:=es) first d) li
   ·exact .inr c
  have hpi:(a8 step es first i)[i]? =some p:=by
   rcases hpi with c|c
   ·exact c
   ·rcases Nat.le_total i k with d|d
    ·rw[my (step:=step) (es:=es) c k d]at li;omega
    ·rw[←hp];exact cJ (iG (step:=step) (es:=es) first d) li
  have ho:=jC (step:=step) Eh first i
  have hsp:∀x∈s,x<e:=fun x hx=>by
   rw[eU,List.pairwise_append]at Eh
   exact Eh.2.2 x hx e (by simp)
  have hss:s.Pairwise (·<·):=by rw[eU,List.pairwise_append]at Eh;exact Eh.1
  have h1:=Ordered.fold s [] _ ho (fun x hx=>by rw[eU];exact List.mem_append_left _ hx) (by simp) hss
  rw[List.nil_append]at h1
  have Li:(s.foldl (fU step i) (a8 step es first i))[i]? =some p:=by
   rw[cJ (iF i s _) (by rcases Nat.lt_or_ge i (a8 step es first i).length with c|c;exact c;rw[List.getElem?_eq_none c]at hpi;cases hpi)]
   exact hpi
  have abB:∀L:List (S×List Int),es.foldl (fU step i) L=t.foldl (fU step i) (fU step i (s.foldl (fU step i) L) e):=fun L=>by rw[eU,List.foldl_append,List.foldl_cons]
  have CM:∀{j:Nat} {q:S×List Int},(fU step i (s.foldl (fU step i) (a8 step es first i)) e)[j]? =some q→(a8 step es first (i+1))[j]? =some q:=fun{j q} hq=>by
   show(es.foldl (fU step i) (a8 step es first i))[j]? =some q
   rw[abB,cJ (iF i t _) (by rcases Nat.lt_or_ge j (fU step i (s.foldl (fU step i) (a8 step es first i)) e).length with c|c;exact c;rw[List.getElem?_eq_none c]at hq;cases hq)]
   exact hq
  have abC:step p.1 e=(u'++[e]).foldl step first:=by rw[List.foldl_append,←hs];rfl
  have abD:gW (p.2++[e]) (u'++[e]):=hle.snoc e
  generalize s.foldl (fU step i) (a8 step es first i)=l at*
  by_cases kG:step p.1 e∈l.map (·.1)
  ·obtain⟨q,hq,hqe⟩:=List.mem_map.1 kG
   obtain⟨j,hj⟩:=List.mem_iff_getElem?.1 hq
   exact⟨i+1,j,q,CM (by rw[FL Li kG];exact hj),hqe.trans abC,.trans (.inr (h1.ahead Li hsp hq)) abD⟩
  ·exact⟨i+1,l.length,(step p.1 e,p.2++[e]),CM (by rw[FM Li kG];simp),abC,abD⟩
theorem Dl(Eh:es.Pairwise (·<·)){first:S}{k j:Nat}{q:S×List Int}(hk:(a8 step es first k)[j]? =some q):q.1=q.2.foldl step first∧∀e∈q.2,e∈es:=
 (jC (step:=step) Eh first k).run q (List.mem_of_getElem? hk)
end
end
section
open Go.RowKit
def y0(P:Program)(k:TypeId)(v:Value):Prop:=∃l,keyOf P k v=some l
def df(P:Program)(k:TypeId)(w:World)(b:Nat)(kv:List (Value×Value)):Prop:=
 ∃es clock,w.heap[b]? =some (.map es clock)∧es.toList.map (fun e=>(e.key,e.val))=kv∧(∀p∈kv,y0 P k p.1)∧kv.Pairwise fun p q=>p.1≠q.1
theorem Bw{kv:List (Value×Value)}(Cq:kv.Pairwise fun p q=>p.1≠q.1){a x y:Value}(hx:(a,x)∈kv)(hy:(a,y)∈kv):x=y:=by
 induction kv with
 |nil=>simp at hx
 |cons p kv ih=>
  obtain⟨h1,h2⟩:=List.pairwise_cons.1 Cq
  rcases List.mem_cons.1 hx with e|zh
  ·rcases List.mem_cons.1 hy with e'|pC
   ·rw[←e]at e';injection e' with _ h;exact h.symm
   ·exact absurd (by rw[←e]) (h1 _ pC)
  ·rcases List.mem_cons.1 hy with e'|pC
   ·exact absurd (by rw[←e']) (h1 _ zh)
   ·exact ih h2 zh pC
section
variable {P:Program} {K:Fr→World→Prop} {k e t ty b:Nat} {u w w':World} {f:Fr} {d:Option Nat} {kv:List (Value×Value)}
theorem df.lt(h:df P k w b kv):b<w.heap.size:=by
 obtain⟨es,c,h1,_⟩:=h
 rcases Nat.lt_or_ge b w.heap.size with aI|Hy
 ·exact aI
 ·rw[Array.getElem?_eq_none Hy]at h1;cases h1
theorem df.keep(h:df P k w b kv)(hk:w'.heap[b]? =w.heap[b]?):df P k w' b kv:=by
 obtain⟨es,c,h1,h2⟩:=h
 exact⟨es,c,hk.trans h1,h2⟩
theorem df.below{B:Nat}(h:df P k w b kv)(hb:Below B w w')(hB:b<B):df P k w' b kv:=h.keep (hb.block b hB)
theorem df.same(h:df P k w b kv)(hs:Same w w'):df P k w' b kv:=h.keep (by rw[hs.heap])
theorem df.grown{row:Option Nat}(h:df P k w b kv)(hb:w.grownBy w' row)(hg:some b≠row):df P k w' b kv:=h.keep (hb.block b h.lt hg)
theorem df.gG{B e' sz:Nat}{A:Option Addr}{c n:Nat}{xs:List Value}(h:df P k w b kv)(ho:Own B e' sz w A c n xs):some b≠A.map (·.block):=by
 obtain⟨es,cl,h1,_⟩:=h
 obtain⟨_,h2⟩:=ho.own
 rcases h2 with⟨h2,_⟩|⟨g',cap,cur,hv,hb,hh,r⟩
 ·injection h2 with h3;subst h3;simp
 ·injection hv with h3
  subst h3
  simp only[Option.map_some,ne_eq,Option.some.injEq]
  rintro rfl
  rw[h1]at hh
  cases hh
theorem df.bG{g t':Nat}{cs:List Value}(h:df P k w b kv)(ho:aE w g t' cs):b≠g:=by
 obtain⟨es,cl,h1,_⟩:=h
 rintro rfl
 unfold aE at ho
 rw[h1]at ho
 cases ho
section
variable (t:TypeId) (ty:TypeId)
theorem lf:fZ P K (.makeMap t none) ty f d w=cG P K (Instr.makeMap t none) f d w:=by simp[fZ,valOf]
theorem nz(m x v:Operand):fZ P K (.mapUpdate t m x v) ty f d w=cG P K (do Instr.mapUpdate t (ev f m) (ev f x) (ev f v);pure undef) f d w:=propext Iff.rfl
theorem wR(m x v:Operand):fZ P K (.insert t m x v) ty f d w=cG P K (do Instr.mapUpdate t (ev f m) (ev f x) (ev f v);pure undef) f d w:=propext Iff.rfl
theorem eC(m x:Operand)(ok:Bool):gU P K (.lookup t m x ok) ty u f d w=aq P K (Instr.lookup t (ev f m) (ev f x) ok) u f d w:=propext Iff.rfl
end
theorem pg(t:TypeId)(h:∀w',df P k w' w.heap.size []→Below w.heap.size w w'→w'.heap.size=w.heap.size+1→K (ai f d (.map (some w.heap.size))) w'):cG P K (Instr.makeMap t none) f d w:=by
 refine⟨.map (some w.heap.size),w.alloc (.map #[] 0),?_,h _ ⟨#[],0,heap_alloc_new w _,rfl,by simp,List.Pairwise.nil⟩ ((Below.refl _ _).alloc (Nat.le_refl _) _) (by simp)⟩
 simp[Instr.makeMap,newObj]
 rfl
theorem ph(L:Maps.Keyed P k)(ht:P.underlying t=some (.map k e)){z:Value}(hz:(P.info? e).map (·.zero)=some (some z))(ok:Bool)(h:df P k u b kv){key:Value}(hk:y0 P k key)
  (h1:∀v,(key,v)∈kv→K (ai f d (if ok then .tuple #[v,.bool true]else v)) w)(h0:(∀p∈kv,p.1≠key)→K (ai f d (if ok then .tuple #[z,.bool false]else z)) w):
  aq P K (Instr.lookup t (.map (some b)) key ok) u f d w:=by
 have aI:=h.lt
 obtain⟨es,cl,hb,he,hl,Cq⟩:=h
 obtain⟨lk,sG⟩:=hk
 have Eh:∀x∈es.toList,∃l,keyOf P k x.key=some l:=fun x hx=>hl (x.key,x.val) (by rw[←he];exact List.mem_map.2 ⟨x,hx,rfl⟩)
 have fN:∀x∈es.toList,(x.key,x.val)∈kv:=fun x hx=>by rw[←he];exact List.mem_map.2 ⟨x,hx,rfl⟩
 have hzr:∀w',(zeroValue e).run P w'= .ok z w':=fun w'=>by
  cases hi:P.info? e with
  |none=>simp[hi]at hz
  |some i=>
   simp only[hi,Option.map_some,Option.some.injEq]at hz
   simp[zeroValue,typeInfo,hi,hz]
 by_cases hex:∃x∈es.toList,x.key=key
 ·obtain⟨e0,hm,MI⟩:=hex
  have h0v:=fN e0 hm
  rw[MI]at h0v
  refine⟨_,fun w' DR=>?_,h1 e0.val h0v⟩
  have sH:w'.heap[b]? =some (.map es cl):=(DR.block b aI).trans hb
  rcases L.find w' sG es.toList Eh with⟨_,hn⟩|⟨j,e1,hr,hj,ags⟩
  ·exact absurd MI (hn e0 hm)
  ·have h1v:=fN e1 (List.mem_of_getElem? hj)
   rw[ags]at h1v
   have:e1.val=e0.val:=Bw Cq h1v h0v
   simp[Instr.lookup,run_underlying ht,MapKept.run_getObj_map sH,L.check w' _ sG,hr,this,Result.andThen]
 ·refine⟨_,fun w' DR=>?_,h0 fun p hp=>?_⟩
  ·have sH:w'.heap[b]? =some (.map es cl):=(DR.block b aI).trans hb
   rcases L.find w' sG es.toList Eh with⟨hr,_⟩|⟨j,e0,_,hj,MI⟩
   ·simp[Instr.lookup,run_underlying ht,MapKept.run_getObj_map sH,L.check w' _ sG,hr,hzr w',Result.andThen]
   ·exact absurd ⟨e0,List.mem_of_getElem? hj,MI⟩ hex
  ·rw[←he]at hp
   obtain⟨x,hx,rfl⟩:=List.mem_map.1 hp
   exact fun hh=>hex ⟨x,hx,hh⟩
theorem tF(L:Maps.Keyed P k)(ht:P.underlying t=some (.map k e))(h:df P k w b kv){key:Value}(hk:y0 P k key)(hn:∀p∈kv,p.1≠key)(val:Value)
  (h1:∀w',df P k w' b (kv++[(key,val)])→bJ w w' (some ⟨b,0,none⟩)→w'.heap.size=w.heap.size→K (ai f d undef) w'):
  cG P K (do Instr.mapUpdate t (.map (some b)) key val;pure undef) f d w:=by
 have aI:=h.lt
 obtain⟨es,cl,hb,he,hl,Cq⟩:=h
 have W9:=hk
 obtain⟨lk,sG⟩:=hk
 have Eh:∀x∈es.toList,∃l,keyOf P k x.key=some l:=fun x hx=>hl (x.key,x.val) (by rw[←he];exact List.mem_map.2 ⟨x,hx,rfl⟩)
 have cY:∀x∈es.toList,x.key≠key:=fun x hx=>hn (x.key,x.val) (by rw[←he];exact List.mem_map.2 ⟨x,hx,rfl⟩)
 have hs:(ChangeMaps.setBlock w b (.map (es.push ⟨key,val,cl⟩) (cl+1))).heap[b]? =some (.map (es.push ⟨key,val,cl⟩) (cl+1)):=by simp[ChangeMaps.setBlock,aI]
 refine⟨undef,ChangeMaps.setBlock w b (.map (es.push ⟨key,val,cl⟩) (cl+1)),?_,h1 _ ⟨_,_,hs,?_,?_,?_⟩ ⟨⟨rfl,rfl,rfl,by simp[ChangeMaps.setBlock],fun j _ hj=>?_⟩⟩ (by simp[ChangeMaps.setBlock])⟩
 ·rcases L.find w sG es.toList Eh with⟨hr,_⟩|⟨j,e0,_,hj,MI⟩
  ·simp[Instr.mapUpdate,run_underlying ht,MapKept.run_getObj_map hb,L.check w _ sG,hr,MapKept.run_setObj_map _ hb,Result.andThen,ChangeMaps.setBlock]
  ·exact absurd MI (cY e0 (List.mem_of_getElem? hj))
 ·simp[he]
 ·intro p hp
  rcases List.mem_append.1 hp with h|h
  ·exact hl p h
  ·rw[List.mem_singleton.1 h];exact W9
 ·exact List.pairwise_append.2 ⟨Cq,by simp,fun p hp q hq=>by rw[List.mem_singleton.1 hq];exact hn p hp⟩
 ·simp only[ChangeMaps.setBlock,Array.getElem?_setIfInBounds]
  rw[if_neg]
  intro e
  exact hj (by rw[e];rfl)
theorem JC(L:Maps.Keyed P k)(ht:P.underlying t=some (.map k e))(h:df P k w b kv){key old:Value}(hk:y0 P k key)(fN:(key,old)∈kv)(val:Value)
  (h1:∀j w',kv[j]? =some (key,old)→df P k w' b (kv.set j (key,val))→bJ w w' (some ⟨b,0,none⟩)→w'.heap.size=w.heap.size→K (ai f d undef) w'):
  cG P K (do Instr.mapUpdate t (.map (some b)) key val;pure undef) f d w:=by
 have aI:=h.lt
 obtain⟨es,cl,hb,he,hl,Cq⟩:=h
 have W9:=hk
 obtain⟨lk,sG⟩:=hk
 have Eh:∀x∈es.toList,∃l,keyOf P k x.key=some l:=fun x hx=>hl (x.key,x.val) (by rw[←he];exact List.mem_map.2 ⟨x,hx,rfl⟩)
 rcases L.find w sG es.toList Eh with⟨_,gY⟩|⟨j,e0,hr,hj,MI⟩
 ·rw[←he]at fN
  obtain⟨x,hx,hxe⟩:=List.mem_map.1 fN
  injection hxe with h2 _
  exact absurd h2 (gY x hx)
 have Hf:es[j]? =some e0:=by simpa using hj
 generalize abF:es.modify j (fun e'=>{e' with key:=key,val:=val})=ZL
 have hs:(ChangeMaps.setBlock w b (.map ZL cl)).heap[b]? =some (.map ZL cl):=by simp[ChangeMaps.setBlock,aI]
 have hj2:kv[j]? =some (key,e0.val):=by rw[←he,List.getElem?_map,hj];simp[MI]
 have hold:e0.val=old:=Bw Cq (List.mem_of_getElem? hj2) fN
 have abG:ZL.toList.map (fun e=>(e.key,e.val))=kv.set j (key,val):=by
  rw[←abF,←he,Array.toList_modify,ChangeMaps.modify_eq_set _ _ _ _ hj,List.map_set]
 refine⟨undef,ChangeMaps.setBlock w b (.map ZL cl),?_,h1 j _ (by rw[hj2,hold]) ⟨_,_,hs,abG,?_,?_⟩ ⟨⟨rfl,rfl,rfl,by simp[ChangeMaps.setBlock],fun j _ hj=>?_⟩⟩ (by simp[ChangeMaps.setBlock])⟩
 ·simp[Instr.mapUpdate,run_underlying ht,MapKept.run_getObj_map hb,L.check w _ sG,hr,Hf,MI,L.stays w sG,MapKept.run_setObj_map _ hb,Result.andThen,ChangeMaps.setBlock,←abF]
 ·intro p hp
  rcases List.mem_or_eq_of_mem_set hp with h|h
  ·exact hl p h
  ·rw[h];exact W9
 ·have agu:(kv.map (·.1)).Pairwise (·≠·):=List.pairwise_map.2 Cq
  have:(kv.set j (key,val)).map (·.1)=kv.map (·.1):=by
   rw[List.map_set]
   refine List.ext_getElem (by simp) fun i h1 h2=>?_
   rw[List.getElem_set]
   split
   ·rename_i e1
    subst e1
    have mw:j<kv.length:=by simpa using h2
    have:=List.getElem?_eq_getElem mw
    rw[hj2]at this
    simp[←Option.some.inj this]
   ·rfl
  exact List.pairwise_map.1 (this▸agu)
 ·simp only[ChangeMaps.setBlock,Array.getElem?_setIfInBounds]
  rw[if_neg]
  intro e
  exact hj (by rw[e];rfl)
end
end
section
open Go.RowKit
theorem OG:laidOutB Tryz.prog=true:=by kernel_rfl
theorem OH:0<Tryz.prog.types.size:=of_decide_eq_true (by kernel_rfl)
theorem eT:Maps.Keyed Tryz.prog 107:=Maps.Keyed.of_law (deep_law_laid OG (m:=3) (by decide) (of_decide_eq_true (by kernel_rfl)) (by kernel_rfl) (by kernel_rfl))
theorem Xa{x:Nat}(h:x<2^64):(Lit.int .u64 (x:Int)).wf=true:=by
 simp[Lit.wf,IntKind.min,IntKind.max,IntKind.signed,IntKind.bits];omega
theorem wS(n:Nat){x:Nat}(h:x<2^64):Tryz.prog.keyLits (n+1) 105 [.int .u64 (x:Int)]=some [.int .u64 (x:Int)]:=by
 have Bx:Tryz.prog.underlying 105=some (.int .u64):=Tryz.underlying105
 simp only[Program.keyLits,Bx,Xa h,and_self,if_true]
theorem OI(n:Nat)(l:List Int):∃L,Tryz.prog.keyLits (n+2) 107 (setCells (ae l))=some L:=by
 have hW:=af l
 generalize ae l=ws at*
 match ws,hW.1 with
 |[a,b,c,d],_=>
 have ha:=wS n (hW.2 0)
 have hb:=wS n (hW.2 1)
 have hc:=wS n (hW.2 2)
 have hd:=wS n (hW.2 3)
 simp only[List.getD_cons_zero,List.getD_cons_succ]at ha hb hc hd
 have hu:Tryz.prog.underlying 107=some (.array 4 105):=Tryz.underlying107
 have OJ:Tryz.prog.cellsOf 107=4:=by kernel_rfl
 have EV:Tryz.prog.cellsOf 105=1:=by kernel_rfl
 unfold Program.keyLits
 simp only[hu,OJ,EV,setCells,List.map_cons,List.map_nil,List.length_cons,List.length_nil,Nat.zero_add,Nat.reduceAdd,if_true]
 simp[List.range_succ,ha,hb,hc,hd]
theorem jD(l:List Int):y0 Tryz.prog 107 (bC l):=by
 have hs:Tryz.prog.types.size+1=(Tryz.prog.types.size-1)+2:=by have:=OH;omega
 obtain⟨L,hL⟩:=OI (Tryz.prog.types.size-1) l
 rw[←hs]at hL
 have hu:Tryz.prog.underlying 107=some (.array 4 105):=Tryz.underlying107
 have hk:Tryz.prog.keyType 107=true:=by kernel_rfl
 have OJ:Tryz.prog.cellsOf 107=4:=by kernel_rfl
 have hf:(bC l).formed Tryz.prog 107=true:=by
  simp only[bC,xZ,Value.formed,hu,OJ,beq_iff_eq,List.size_toArray]
  exact ao l
 unfold y0 keyOf
 simp only[hu,hk,hf,Bool.and_self,if_true]
 exact⟨_,by rw[show(bC l).cells.toList=setCells (ae l) from rfl,hL];rfl⟩
theorem SZ{l m:List Int}:bC l=bC m↔ae l=ae m:=by
 refine⟨fun h=>?_,fun h=>by unfold bC;rw[h]⟩
 injection h with h
 have h2:setCells (ae l)=setCells (ae m):=by simpa using congrArg Array.toList h
 unfold setCells at h2
 exact(List.map_inj_right (fun a b tB=>by injection tB with _ h;exact Int.ofNat.inj h)).1 h2
end
section
open Go.RowKit
def Lj(n:Nat):List Int:=(List.range n).map fun(i:Nat)=>(i:Int)
theorem JD{n:Nat}{e:Int}:e∈Lj n↔0≤e∧e<n:=by
 unfold Lj
 simp only[List.mem_map,List.mem_range]
 exact⟨fun⟨i,h,e⟩=>by omega,fun h=>⟨e.toNat,by omega,by omega⟩⟩
theorem bq.lt{α:Type}{enc:α→List Value}{sz:Nat}(E:C8 enc sz)(hs:0<sz){ok:Nat→Prop}{w:World}{A:Option Addr}{l:List α}(h:bq enc sz ok w A l):bq enc sz (·<w.heap.size) w A l:=
 ⟨h.isSome,fun hl=>by
  have h0:l[0]? =some (l[0]'hl):=List.getElem?_eq_getElem hl
  have h1:(enc (l[0]'hl))[0]? =some ((enc (l[0]'hl))[0]'(by rw[E.len];exact hs)):=List.getElem?_eq_getElem _
  have:=World.block_lt_of_cell? w _ (h.cell 0 _ h0 0 _ h1)
  rwa [oz]at this,h.cell⟩
end
section
open Go.RowKit
def U1(s:List Int):Prop:=aW s∧Small s
theorem By{s t:List Int}(hs:U1 s)(ht:U1 t)(h:bC s=bC t):s=t:=FD hs.1 ht.1 hs.2 ht.2 (SZ.1 h)
abbrev vk(s:List Int):List Value:=setCells (ae s)
theorem dc:C8 vk 4:=⟨fun s=>ao s,fun s u hu=>List.all_eq_true.1 (aH _) u hu⟩
theorem vl:C8 ay 3:=⟨fun _=>rfl,fun a u hu=>by
 unfold ay at hu
 rcases List.mem_cons.1 hu with rfl|hu
 ·rfl
 ·rcases List.mem_cons.1 hu with rfl|hu
  ·rfl
  ·rw[List.mem_singleton.1 hu];rfl⟩
theorem Own.apart{B e e' sz sz':Nat}{w:World}{A A':Option Addr}{c c' n n':Nat}{xs xs':List Value}(h:Own B e sz w A c n xs)(h':Own B e' sz' w A' c' n' xs')(cY:e≠e'):A=none∨A.map (·.block)≠A'.map (·.block):=by
 rcases h.own.2 with⟨h0,_⟩|⟨g,cap,cur,hv,hB,hh,_⟩
 ·injection h0 with h0;exact .inl h0
 ·refine .inr ?_
  injection hv with hv
  subst hv
  rcases h'.own.2 with⟨h0,_⟩|⟨g',agn,amJ,HH,hB',ZM,_⟩
  ·injection h0 with h0;subst h0;simp
  ·injection HH with HH
   subst HH
   simp only[Option.map_some,ne_eq,Option.some.injEq]
   rintro rfl
   rw[hh]at ZM
   injection ZM with ZM
   injection ZM with _ ht
   exact cY ht
def x8(L:List (List Int)):List (Value×Value):=L.zipIdx.map fun p=>(bC p.1,.int .i64 (p.2:Int))
theorem Lk(L:List (List Int))(s:List Int):x8 (L++[s])=x8 L++[(bC s,.int .i64 (L.length:Int))]:=by
 unfold x8
 rw[List.zipIdx_append,List.map_append]
 simp
theorem FO{L:List (List Int)}{p:Value×Value}(h:p∈x8 L):∃(i:Nat) (t:List Int),L[i]? =some t∧p=(bC t,.int .i64 (i:Int)):=by
 obtain⟨⟨t,i⟩,hm,he⟩:=List.mem_map.1 h
 exact⟨i,t,List.mk_mem_zipIdx_iff_getElem?.1 hm,he.symm⟩
theorem FP{L:List (List Int)}{i:Nat}{t:List Int}(h:L[i]? =some t):(bC t,Value.int .i64 (i:Int))∈x8 L:=List.mem_map.2 ⟨(t,i),List.mk_mem_zipIdx_iff_getElem?.2 h,rfl⟩
end
section
open Go.RowKit
theorem il.JE{ok:Nat→Prop}{w:World}{A:Option Addr}{l:List cH}(h:bq ay 3 ok w A l):il ok w A l:=
 ⟨h.isSome,h.block,fun i hi j hj=>by
  have hl:l[i]? =some (l.getD i default):=by simp[List.getD_eq_getElem?_getD,hi]
  refine h.cell i _ hl j _ ?_
  match j,hj with
  |0,_=>rfl
  |1,_=>rfl
  |2,_=>rfl⟩
theorem vm{P:Program}{Rc:Value→World→Prop}{a t t' g s r:Nat}{cs:List Value}{f:Fr}{w:World}(hk:aE w g t' cs)(ht:aR P t=some true)(hs:aL P t=some cs.length)
  (hf:f a= .pointer (some ⟨g,0,none⟩))(h:Rc (.tuple #[.agg cs.toArray,f s,f r]) w):iM P #[.cell a t,.tmp s,.tmp r] Rc f w:=by
 refine⟨_,fun fn tmps hr fO=>?_,h⟩
 have e:tmps.getD a undef= .pointer (some ⟨g,0,none⟩):=by rw[fO,hf]
 have e2:tmps[a]?.getD undef= .pointer (some ⟨g,0,none⟩):=by simpa using e
 have e3:tmps[s]?.getD undef=f s:=by simpa using fO s
 have e4:tmps[r]?.getD undef=f r:=by simpa using fO r
 unfold aR at ht
 unfold aL at hs
 cases hu:P.underlying t with
 |none=>simp[hu]at ht
 |some de=>
  cases hi:P.info? t with
  |none=>simp[hi]at hs
  |some ie=>
   simp only[hi,Option.map_some,Option.some.injEq]at hs
   simp only[hu,Option.map_some,Option.some.injEq]at ht
   have eM:=run_loadCells_list (P:=P) w ⟨g,0,none⟩ cs (fun j v hv=>by rw[addr_add,Nat.zero_add,hk.cell,hv])
   cases de<;>simp at ht<;>simp[results,hr,e2,e3,e4,asAddr,loadVar,isAgg,run_underlying hu,sizeOf,typeInfo,hi,hs,eM]
theorem Own.cap{B e sz c n:Nat}{w:World}{A:Option Addr}{xs:List Value}(h:Own B e sz w A c n xs):n≤c:=by
 rcases h.own.2 with⟨h0,_⟩|⟨g,cap,cur,hv,_,_,Ws,_⟩
 ·injection h0 with _ h1 h2;omega
 ·injection hv with _ _ h2;omega
theorem Own.QY{B e sz c n:Nat}{w:World}{A:Option Addr}{xs:List Value}(h:Own B e sz w A c n xs){b:Nat}(hb:some b=A.map (·.block)):b<w.heap.size:=by
 rcases h.form with⟨h0,_⟩|⟨g,h0,_,hg⟩
 ·subst h0;cases hb
 ·subst h0;injection hb with hb;subst hb;exact hg
structure Hd where
 A:Option Addr
 c:Nat
 l:List Int
def Hd.cells(h:Hd):List Value:=[.slice h.A h.l.length h.c]
theorem OK:C8 Hd.cells 1:=⟨fun _=>rfl,fun h u hu=>by
 unfold Hd.cells at hu
 rw[List.mem_singleton.1 hu];rfl⟩
def Xb(ok:Nat→Prop)(w:World)(hs:List Hd):Prop:=∀h∈hs,Ints ok w h.A h.l
theorem Ints.both{ok vJ:Nat→Prop}{w:World}{A:Option Addr}{l:List Int}(h:Ints ok w A l)(h':Ints vJ w A l):Ints (fun b=>ok b∧vJ b) w A l:=⟨h.isSome,fun hl=>⟨h.block hl,h'.block hl⟩,h.cell⟩
theorem bq.both{α:Type}{enc:α→List Value}{sz:Nat}{ok vJ:Nat→Prop}{w:World}{A:Option Addr}{l:List α}(h:bq enc sz ok w A l)(h':bq enc sz vJ w A l):bq enc sz (fun b=>ok b∧vJ b) w A l:=⟨h.isSome,fun hl=>⟨h.block hl,h'.block hl⟩,h.cell⟩
theorem Ints.U7{ok vJ:Nat→Prop}{w w':World}{A:Option Addr}{l:List Int}(h:Ints ok w A l)(hk:∀b,ok b→w'.heap[b]? =w.heap[b]?∧vJ b):Ints vJ w' A l:=(h.keep fun b hb=>(hk b hb).1).mono fun b hb=>(hk b hb).2
theorem cg{P:Program}{K:Fr→World→Prop}{w:World}{f:Fr}{d:Option Nat}{g t ty:Nat}{cs:List Value}(hk:aE w g t cs)(vd:aL P ty=some 1)(j:Nat)(hj:j<cs.length)(A:Option Addr)(n c:Nat)
  (h:∀w',aE w' g t (cs.set j (.slice A n c))→bJ w w' (some ⟨g,0,none⟩)→w'.heap.size=w.heap.size→K (ai f d undef) w'):
  cG P K (do Instr.storeAt ty (.pointer (some ⟨g,j,none⟩)) (.slice A n c);pure undef) f d w:=by
 have hc:=hk.cell j
 have hf:=hk.frozen j
 refine⟨undef,w.setCell ⟨g,j,none⟩ (.slice A n c),?_,h _ (hk.set j _) ⟨⟨rfl,rfl,rfl,by simp,fun _ om cY=>Below.heap_setCell w _ _ _ (by simpa using cY)⟩⟩ (by simp)⟩
 unfold aL at vd
 cases hi:P.info? ty with
 |none=>simp[hi]at vd
 |some ie=>
  simp only[hi,Option.map_some,Option.some.injEq]at vd
  rw[List.getElem?_eq_getElem hj]at hc
  simp[Instr.storeAt,Instr.sureAddr,storeVar,sizeOf,typeInfo,hi,vd,Value.cells,storeCells,addr_add,run_store_slice,stored,hc,hf]
def U8:aN:=⟨0,0,[],[],[]⟩
abbrev Xc:MV:=⟨none,0,none,0,none,0⟩
theorem OL(ok:Nat→Prop)(w:World):zj ok w Xc U8:=⟨Ints.nil _ _ _,il.nil _ _ _,Ints.nil _ _ _⟩
end
open Go.RowKit
theorem HY:(Tryz.prog.fieldsOf 97).toList.map (fun f=>(f.name != "_",f.type,f.offset))=[(true,3,0),(true,3,1),(true,3,2)]:=by kernel_rfl
theorem wT(w:World)(d:Nat)(xs ys:Array Value):∀(fs:List Field) (us vs:List Int),(∀f∈fs,(f.name != "_")=true∧f.type=3)→fs.length=us.length→us.length=vs.length→
  (∀i f,fs[i]? =some f→(part 3 xs f.offset).run Tryz.prog w= .ok (.int .i64 (us.getD i 0)) w∧(part 3 ys f.offset).run Tryz.prog w= .ok (.int .i64 (vs.getD i 0)) w)→
  (Op.eqFields (d+1) xs ys fs).run Tryz.prog w= .ok (decide (us=vs)) w
 |[],[],[],_,_,_,_=>by simp[Op.eqFields]
 |f :: fs,a :: us,b :: vs,hf,h1,h2,hp=>by
  have hff:=hf f (List.mem_cons_self ..)
  have hn:f.name≠ "_" :=by have:=hff.1;simpa using this
  have MH:=hp 0 f rfl
  simp only[List.getD_cons_zero]at MH
  have ih:=wT w d xs ys fs us vs (fun g hg=>hf g (List.mem_cons_of_mem _ hg)) (by simpa using h1) (by simpa using h2) fun i g hg=>by
   have:=hp (i+1) g (by simpa using hg)
   simpa using this
  unfold Op.eqFields
  rw[if_pos hn,hff.2]
  simp only[Sem.run_bind,MH.1,MH.2,Result.andThen_ok,run_equalIn_int w d 3 .i64 .i64 a b Tryz.underlying3]
  by_cases tB:a=b
  ·subst tB
   simp[ih]
  ·have:(a==b)=false:=by simpa using tB
   simp[this,tB]
theorem fD(w:World)(a:cH)(j:Nat)(hj:j<3):(part 3 (ay a).toArray j).run Tryz.prog w= .ok (.int .i64 (a.cell j)) w:=
 run_part_plain w (by kernel_rfl) (by
  match j,hj with
  |0,_=>rfl
  |1,_=>rfl
  |2,_=>rfl)
theorem Ll(w:World)(a b:cH):(Op.equalIn 10000 97 (iD a) (iD b)).run Tryz.prog w= .ok (decide (a=b)) w:=by
 have hx:=HY
 have hs:Tryz.prog.underlying 97=some (.struct (Tryz.prog.fieldsOf 97)):=by kernel_rfl
 rw[run_equalIn_agg w 9999 97 _ _ hs (by kernel_rfl)]
 generalize(Tryz.prog.fieldsOf 97).toList=fs at hx
 obtain⟨f0,f1,f2,rfl⟩:∃f0 f1 f2,fs=[f0,f1,f2]:=by
  have hl:fs.length=3:=by simpa using congrArg List.length hx
  match fs,hl with
  |[a,b,c],_=>exact⟨a,b,c,rfl⟩
 simp only[List.map_cons,List.map_nil,List.cons.injEq,Prod.mk.injEq]at hx
 obtain⟨⟨n0,t0,o0⟩,⟨n1,t1,o1⟩,⟨n2,t2,o2⟩,_⟩:=hx
 rw[wT w 9998 _ _ [f0,f1,f2] [a.bK,a.dI,a.dt] [b.bK,b.dI,b.dt] (by
  intro f hf
  rcases List.mem_cons.1 hf with rfl|hf
  ·exact⟨n0,t0⟩
  ·rcases List.mem_cons.1 hf with rfl|hf
   ·exact⟨n1,t1⟩
   ·rw[List.mem_singleton.1 hf];exact⟨n2,t2⟩) rfl rfl (by
  intro i f hi
  match i,hi with
  |0,hi=>cases hi;rw[o0];exact⟨fD w a 0 (by decide),fD w b 0 (by decide)⟩
  |1,hi=>cases hi;rw[o1];exact⟨fD w a 1 (by decide),fD w b 1 (by decide)⟩
  |2,hi=>cases hi;rw[o2];exact⟨fD w a 2 (by decide),fD w b 2 (by decide)⟩
  |n+3,hi=>cases hi)]
 have he:decide ([a.bK,a.dI,a.dt]=[b.bK,b.dI,b.dt])=decide (a=b):=decide_eq_decide.2 ⟨fun h=>by cases a;cases b;simp_all,fun h=>by rw[h]⟩
 rw[he]
section
open Go.RowKit
theorem bn(l:List Int):aL Tryz.prog 107=some (setCells (ae l)).length:=by rw[ao];exact aw
theorem tG{K:Fr→World→Prop}{u:World}{f:Fr}{d:Option Nat}{w:World}:aq Tryz.prog K (Instr.build 107 #[]) u f d w=K (ai f d (bC [])) w:=gF (by kernel_rfl)
def Ei(ar:List cH):Prop:=∀a∈ar,(0≤a.bK∧a.bK<256)∧(0≤a.dt∧a.dt<256)
theorem Ei.Hg{ar:List cH}(h:Ei ar)(p:cH→Bool)(rev:Bool):∀e∈Hg p rev ar,0≤e.2∧e.2<256:=fun e he=>by
 obtain⟨a,ha,_,rfl⟩:=zV.1 he
 cases rev
 ·exact(h a ha).2
 ·exact(h a ha).1
theorem bZ.JF{m:aN}(hm:m.bZ):Ei m.ag:=fun a ha=>by
 have h:=bZ.arr hm ha
 have:m.aj≤256:=hm.2.1
 have h1:=h.1
 have h2:=h.2.1
 exact⟨⟨h1.1,by omega⟩,h2.1,by omega⟩
end
section
open Go.RowKit
section
variable {P:Program} {K:Fr→World→Prop} {f:Fr} {d:Option Nat} {w:World} {t e bytes:Nat}
theorem S3(x y:Value)(a b:Int):Instr.fill (fun i=>some (i*1,1)) #[x,y] [(0,.int .i64 a),(1,.int .i64 b)]=some #[.int .i64 a,.int .i64 b]:=by
 simp[Instr.fill,Value.cells]
theorem JG(hT:uJ P t e 1 bytes)(a b:Int):
  cG P K (Instr.buildSlice t 2 #[(0,.int .i64 a),(1,.int .i64 b)]) f d w=K (ai f d (.slice (some ⟨w.heap.size,0,none⟩) 2 2)) (w.alloc (.cells [.int .i64 a,.int .i64 b].toArray e)):=by
 obtain⟨i,z,hi,hz,hs,hb,hc⟩:=hT.get
 refine fa ?_
 have Sx:(Array.range 2).map (z.cells[·%z.cells.size]!)= #[z.cells[0%z.cells.size]!,z.cells[1%z.cells.size]!]:=by
  apply Array.ext';simp[List.range_succ]
 have hf:=S3 (z.cells[0%z.cells.size]!) (z.cells[1%z.cells.size]!) a b
 rw[←Sx]at hf
 simp only[Instr.buildSlice,run_underlying hT.under,sizeOf,typeInfo,Sem.run_bind,Result.andThen_ok]
 simp only[Nat.mul_one]at hf
 simp[hi,hs,zeroValue,typeInfo,hz,newRow,hf]
end
end
section
open Go.RowKit
def MJ(x:cH):List cH→Nat
 |[]=>0
 |y :: o=>if y.lt x then MJ x o+1 else 0
def ua(x:cH)(o:List cH):List cH:=if MJ x o<o.length∧o.getD (MJ x o) default=x then o else o.take (MJ x o)++x :: o.drop (MJ x o)
def fV(l:List cH):List cH:=l.foldl (fun o x=>ua x o) []
theorem HZ(l:List cH)(k:Nat)(h:k<l.length):fV (l.take (k+1))=ua (l.getD k default) (fV (l.take k)):=by
 unfold fV
 rw[bS _ default k h,List.foldl_append];rfl
theorem OM(x:cH)(o:List cH):(ua x o).length≤o.length+1:=by
 unfold ua
 split
 ·omega
 ·simp;omega
theorem x9(l:List cH):∀k,(fV (l.take k)).length≤k
 |0=>by simp[fV]
 |k+1=>by
  rcases Nat.lt_or_ge k l.length with h|h
  ·rw[HZ l k h];have:=OM (l.getD k default) (fV (l.take k));have:=x9 l k;omega
  ·rw[List.take_of_length_le (by omega),←List.take_of_length_le (l:=l) (i:=k) h];have:=x9 l k;omega
section
variable {P:Program} {K:Fr→World→Prop} {u w:World} {f:Fr} {d:Option Nat} {A:Option Addr} {n c B e bytes t:Nat} {xs:List Value}
theorem H0{sz:Nat}(hT:uJ P t e sz bytes)(k:Nat)(hk:k≤c):aq P K (Instr.sliceAt t (.slice A n c) none (some (.int .i64 k)) none) u f d w=K (ai f d (.slice A k c)) w:=
 aM u f d w fun w' _=>by
  obtain⟨i,z,hi,hz,hs,hb,WL⟩:=hT.get
  have h1:(0:Int)≤(k:Int)∧(k:Int)≤(c:Int):=by omega
  cases A with
  |none=>simp[Instr.sliceAt,run_underlying hT.under,Instr.slice,Instr.sliceBounds,Instr.sliceBound,asIntOf,hk,sizeOf,typeInfo,hi,hs]
  |some a=>simp[Instr.sliceAt,run_underlying hT.under,Instr.slice,Instr.sliceBounds,Instr.sliceBound,asIntOf,hk,sizeOf,typeInfo,hi,hs,Addr.add]
theorem Own.take{sz:Nat}(h:Own B e sz w A c n xs){k:Nat}(hk:k≤n)(h0:n=0→k=0):Own B e sz w A c k (xs.take (k*sz)):=by
 obtain⟨hl,hh⟩:=h.own
 have S5:k*sz≤n*sz:=Nat.mul_le_mul_right _ hk
 refine⟨⟨by rw[List.length_take];omega,?_⟩⟩
 rcases hh with⟨h1,h2⟩|⟨g,cap,cur,hv,hB,hg,Ws,h3,h4,h5⟩
 ·injection h1 with h1 h6 h7
  subst h1 h6 h7
  obtain rfl:=h0 rfl
  exact .inl ⟨rfl,rfl⟩
 ·injection hv with e1 e2 e3
  subst e1 e3
  refine .inr ⟨g,c,cur,rfl,hB,hg,by omega,h3,h4,?_⟩
  rw[←h5,List.take_take,Nat.min_eq_left S5]
end
theorem FQ(w:World)(xo yo:Operand)(a b:cH):(bW .eql 97 xo yo (iD a) (iD b)).run Tryz.prog w= .ok (.bool (decide (a=b))) w:=by
 unfold bW
 rw[Sem.run_bind,run_eqGuard_agg w .eql 97 xo yo _ _ (by kernel_rfl),Result.andThen_ok,run_eql_struct w,Ll w a b];rfl
theorem JH{K:Fr→World→Prop}{u w:World}{f:Fr}{d:Option Nat}{xo yo:Operand}(a b:cH):aq Tryz.prog K (bW .eql 97 xo yo (iD a) (iD b)) u f d w=K (ai f d (.bool (decide (a=b)))) w:=
 aM u f d w fun w' _=>FQ w' xo yo a b
end
open Go.RowKit
structure ui where
 k:Int
 s:ByteArray
 at_:Int
def ui.cells(t:ui):List Value:=[.int .i64 t.k,.string t.s,.int .i64 t.at_]
theorem fL:C8 ui.cells 3:=⟨fun _=>rfl,fun t u hu=>by
 unfold ui.cells at hu
 simp only[List.mem_cons,List.not_mem_nil,or_false]at hu
 rcases hu with rfl|rfl|rfl<;>rfl⟩
def iH(c:Int):Prop:=c=32∨c=10
def n9(c:Int):Prop:=c=59∨c=44
instance (c:Int):Decidable (iH c):=inferInstanceAs (Decidable (_∨_))
instance (c:Int):Decidable (n9 c):=inferInstanceAs (Decidable (_∨_))
def dh:List UInt8→Nat
 |[]=>0
 |c :: l=>if zz (c.toNat:Int)then dh l+1 else 0
theorem FR:∀l:List UInt8,dh l≤l.length
 |[]=>Nat.le_refl _
 |c :: l=>by
  unfold dh
  split
  ·have:=FR l;rw[List.length_cons];omega
  ·exact Nat.zero_le _
theorem FT:∀(l:List UInt8) (n:Nat),n≤l.length→(∀j,j<n→zz ((l.getD j 0).toNat:Int))→(n<l.length→¬zz ((l.getD n 0).toNat:Int))→dh l=n
 |[],n,h,_,_=>by have:n=0:=by simpa using h
                 subst this;rfl
 |c :: l,0,_,_,h2=>by
  unfold dh
  rw[if_neg (by simpa using h2 (by simp))]
 |c :: l,n+1,h,h1,h2=>by
  unfold dh
  rw[if_pos (by simpa using h1 0 (by omega)),FT l n (by simpa using h) (fun j hj=>by simpa using h1 (j+1) (by omega)) (fun hn=>by simpa using h2 (by simpa using hn))]
def dp(at_:Nat)(l:List UInt8):List ui×Option (Int×Int):=
 match l with
 |[]=>([],none)
 |c :: r=>
  if iH (c.toNat:Int)then dp (at_+1) r
  else if n9 (c.toNat:Int)then(⟨3,⟨#[c]⟩,at_⟩::(dp (at_+1) r).1,(dp (at_+1) r).2)
  else if¬pa (c.toNat:Int)then([],some (2,at_))
  else if 16<dh r+1 then([],some (1,at_))
  else(⟨1,⟨(c :: r.take (dh r)).toArray⟩,at_⟩::(dp (at_+1+dh r) (r.drop (dh r))).1,(dp (at_+1+dh r) (r.drop (dh r))).2)
termination_by l.length
decreasing_by all_goals(simp only[List.length_cons,List.length_drop];omega)
theorem sJ(a:Nat):dp a []=([],none):=by rw[dp]
theorem pj(a:Nat)(c:UInt8)(r:List UInt8):dp a (c :: r)=
  if iH (c.toNat:Int)then dp (a+1) r
  else if n9 (c.toNat:Int)then(⟨3,⟨#[c]⟩,a⟩::(dp (a+1) r).1,(dp (a+1) r).2)
  else if¬pa (c.toNat:Int)then([],some (2,(a:Int)))
  else if 16<dh r+1 then([],some (1,(a:Int)))
  else(⟨1,⟨(c :: r.take (dh r)).toArray⟩,a⟩::(dp (a+1+dh r) (r.drop (dh r))).1,(dp (a+1+dh r) (r.drop (dh r))).2):=by
 rw[dp]
theorem sK:∀(n:Nat) (l:List UInt8),l.length≤n→∀a,(dp a l).1.length≤l.length
 |_,[],_,a=>by rw[sJ];exact Nat.le_refl _
 |0,c :: r,h,_=>by simp at h
 |n+1,c :: r,h,a=>by
  have hr:r.length≤n:=by simpa using h
  rw[pj,List.length_cons]
  split
  ·have:=sK n r hr (a+1);omega
  ·split
   ·have:=sK n r hr (a+1);simp only[List.length_cons];omega
   ·split
    ·simp
    ·split
     ·simp
     ·have:=sK n (r.drop (dh r)) (by rw[List.length_drop];omega) (a+1+dh r)
      rw[List.length_drop]at this
      simp only[List.length_cons];omega
inductive Nx where
 |p
 |n
 |m
 |z
 deriving DecidableEq
structure nB where
 part:Nat
 names:Nat
 next:Nx
def mB:List ByteArray:=[⟨stB.toArray⟩,⟨evB.toArray⟩,⟨snB.toArray⟩,⟨frB.toArray⟩,⟨fuB.toArray⟩,⟨scB.toArray⟩,⟨saB.toArray⟩,⟨enB.toArray⟩,⟨arB.toArray⟩]
abbrev BA:ByteArray:=⟨#[59]⟩
abbrev comma:ByteArray:=⟨#[44]⟩
def pk(st:nB):Option (nB×Int):=some (⟨st.part,st.names+1,if st.part=8 then(if 0<(st.names+1)%3 then .n else .z)else .m⟩,(st.part:Int))
def dX(st:nB)(t:ui):Option (nB×Int):=
 match st.next with
 | .p=>if st.part<9∧t.k=1∧t.s=mB.getD st.part ⟨#[]⟩then some (⟨st.part,0,if st.part=0 then .n else .m⟩,-1)else none
 | .n=>if t.k=1 then pk st else none
 | .m=>if t.k=1 then pk st else if t.s=BA then some (⟨st.part+1,st.names,.p⟩,-1)else none
 | .z=>if t.s=BA then some (⟨st.part+1,st.names,.p⟩,-1)else if t.s=comma then some (⟨st.part,st.names,.n⟩,-1)else none
def xr:nB:=⟨0,0,.p⟩
def cD:nB→List ui→List Int×nB
 |st,[]=>([],st)
 |st,t :: ts=>match dX st t with
  |none=>([],st)
  |some (st',i)=>(i ::(cD st' ts).1,(cD st' ts).2)
def eX(en:Int):ui:=⟨0,⟨#[]⟩,en⟩
theorem step_end(st:nB)(en:Int):dX st (eX en)=none:=by
 unfold dX eX
 cases st.next<;>simp[BA,comma]
theorem Dm{st st':nB}{t:ui}{ts:List ui}{i:Int}(h:dX st t=some (st',i)):cD st (t :: ts)=(i ::(cD st' ts).1,(cD st' ts).2):=by
 rw[cD,h]
theorem Dp{st:nB}{t:ui}{ts:List ui}(h:dX st t=none):cD st (t :: ts)=([],st):=by
 rw[cD,h]
structure eL(ts:List ui)(i:Nat)(st:nB)(of:List Int):Prop where
 eq:cD xr ts=(of++(cD st (ts.drop i)).1,(cD st (ts.drop i)).2)
 len:of.length=i
 le:i≤ts.length
theorem eL.zero(ts:List ui):eL ts 0 xr []:=⟨rfl,rfl,Nat.zero_le _⟩
theorem eL.next{ts:List ui}{i:Nat}{st st':nB}{of:List Int}{x en:Int}(h:eL ts i st of)(hs:dX st (ts.getD i (eX en))=some (st',x)):i<ts.length∧eL ts (i+1) st' (of++[x]):=by
 have hi:i<ts.length:=by
  apply Classical.byContradiction
  intro hc
  rw[List.getD_eq_getElem?_getD,List.getElem?_eq_none (by omega)]at hs
  rw[Option.getD_none,step_end]at hs
  cases hs
 refine⟨hi,⟨?_,by rw[List.length_append,h.len];rfl,hi⟩⟩
 have hd:ts.drop i=ts[i]:: ts.drop (i+1):=List.drop_eq_getElem_cons hi
 have hg:ts.getD i (eX en)=ts[i]:=by rw[List.getD_eq_getElem?_getD,List.getElem?_eq_getElem hi];rfl
 rw[hg]at hs
 rw[h.eq,hd,Dm hs]
 simp only[List.append_assoc,List.singleton_append]
theorem eL.stuck{ts:List ui}{i:Nat}{st:nB}{of:List Int}{en:Int}(h:eL ts i st of)(hs:dX st (ts.getD i (eX en))=none):cD xr ts=(of,st):=by
 rw[h.eq]
 rcases Nat.lt_or_ge i ts.length with hi|hi
 ·have hd:ts.drop i=ts[i]:: ts.drop (i+1):=List.drop_eq_getElem_cons hi
  have hg:ts.getD i (eX en)=ts[i]:=by rw[List.getD_eq_getElem?_getD,List.getElem?_eq_getElem hi];rfl
  rw[hg]at hs
  rw[hd,Dp hs]
  simp
 ·rw[List.drop_eq_nil_of_le hi]
  simp[cD]
def cA(ts:List ui)(of:List Int)(j:Nat):List ui:=((ts.zip of).filter fun p=>decide (p.2=(j:Int))).map (·.1)
theorem FU(ts:List ui)(of:List Int)(x:Int)(j:Nat)(en:Int)(h:of.length<ts.length):cA ts (of++[x]) j=cA ts of j++(if x=j then [ts.getD of.length (eX en)]else []):=by
 have hg:ts.getD of.length (eX en)=ts[of.length]:=by rw[List.getD_eq_getElem?_getD,List.getElem?_eq_getElem h];rfl
 have hz:ts.zip (of++[x])=ts.zip of++[(ts[of.length],x)]:=by
  apply List.ext_getElem?
  intro i
  rw[List.getElem?_append]
  have hl:(ts.zip of).length=of.length:=by rw[List.length_zip];omega
  rw[hl]
  simp only[List.zip,List.getElem?_zipWith,List.getElem?_append]
  by_cases c:i<of.length
  ·rw[if_pos c,if_pos c]
  ·rw[if_neg c,if_neg c]
   by_cases c2:i=of.length
   ·subst c2
    simp[h]
   ·have:i-of.length≠0:=by omega
    obtain⟨k,hk⟩:=Nat.exists_eq_succ_of_ne_zero this
    rw[hk]
    simp
 unfold cA
 rw[hz,List.filter_append,List.map_append,hg]
 congr 1
 by_cases c:x=(j:Int)
 ·rw[if_pos c];simp[c]
 ·rw[if_neg c];simp[c]
abbrev S6:=Int×Int
def decl(aU:Nat):List ByteArray→List ui→Except S6 (List ByteArray)
 |acc,[]=>.ok acc
 |acc,t :: ts=>if t.s∈acc then .error (5,t.at_)else if aU≤acc.length then .error (1,t.at_)else decl aU (acc++[t.s]) ts
def ee(names:List ByteArray):List Int→List ui→Except S6 (List Int)
 |acc,[]=>.ok acc
 |acc,t :: ts=>if jW t.s names<0 then .error (4,t.at_)else if jW t.s names∈acc then .error (5,t.at_)else ee names (acc++[jW t.s names]) ts
def mC(S E:List ByteArray):List cH→List ui→Except S6 (List cH)
 |acc,a :: b :: c :: ts=>if jW a.s S<0 then .error (4,a.at_)else if jW b.s E<0 then .error (4,b.at_)else if jW c.s S<0 then .error (4,c.at_)
   else if(⟨jW a.s S,jW b.s E,jW c.s S⟩:cH)∈acc then .error (5,a.at_)else mC S E (acc++[⟨jW a.s S,jW b.s E,jW c.s S⟩]) ts
 |acc,_=>.ok acc
def oa(N:Nat→List ui):Except S6 Pj:=
 match decl 6 [] (N 0)with
 | .error f=>.error f
 | .ok S=>match decl 8 [] (N 1)with
   | .error f=>.error f
   | .ok E=>match ee E [] (N 2)with
     | .error f=>.error f
     | .ok r2=>match ee E [] (N 3)with
       | .error f=>.error f
       | .ok r3=>match ee E [] (N 4)with
         | .error f=>.error f
         | .ok r4=>match ee S [] (N 5)with
           | .error f=>.error f
           | .ok r5=>match ee S [] (N 6)with
             | .error f=>.error f
             | .ok r6=>match ee S [] (N 7)with
               | .error f=>.error f
               | .ok r7=>match mC S E [] (N 8)with
                 | .error f=>.error f
                 | .ok A=>.ok ⟨S,E,⟨S.length,E.length,aD r6,fV A,aD r7⟩,aD r2,aD r3,aD r4,aD r5⟩
def bf(l:List UInt8):Except S6 Pj:=
 if 4000<l.length then .error (1,0)
 else match(dp 0 l).2 with
  |some f=>.error f
  |none=>
   if(cD xr (dp 0 l).1).1.length=(dp 0 l).1.length∧(cD xr (dp 0 l).1).2.part=9 then oa fun j=>cA (dp 0 l).1 (cD xr (dp 0 l).1).1 j
   else .error (2,((dp 0 l).1.getD (cD xr (dp 0 l).1).1.length (eX l.length)).at_)
def tg(k:Nat)(ts:List ui):List (ui×Int):=ts.map fun t=>(t,(k:Int))
structure nB.Ok(st:nB):Prop where
 le:st.part≤9
 lt:st.next≠ .p→st.part≤8
 mz:st.part=8→(st.next= .m∨st.next= .z)→st.names%3=0
theorem Xd:xr.Ok:=⟨by decide,fun h=>absurd rfl h,fun h=>by cases h⟩
def ya(st:nB):Nat:=if st.part=8∧st.next≠ .p then st.names else 0
structure H2(st st':nB)(i:Int):Prop where
 ok:st'.Ok
 le:st.part≤st'.part
 tag:i= -1∨(i=st.part∧st'.part=st.part∧st.part≤8)
 ya:((if i=8 then 1 else 0)+ya st)%3=ya st'%3
theorem U9{st st':nB}{i:Int}(h:st.Ok)(hp:st.next≠ .p)(ha:pk st=some (st',i)):H2 st st' i:=by
 have h8:=h.lt hp
 unfold pk at ha
 injection ha with ha
 injection ha with h1 h2
 subst h1 h2
 refine⟨⟨h.le,fun _=>h8,fun e hm=>?_⟩,Nat.le_refl _,.inr ⟨rfl,rfl,h8⟩,?_⟩
 ·simp only at e hm ⊢
  rw[if_pos e]at hm
  by_cases c:0<(st.names+1)%3
  ·rw[if_pos c]at hm;rcases hm with hm|hm<;>cases hm
  ·omega
 ·unfold Go.Proofs.YtcefeihlkpmejaaGreatDoor.ya
  by_cases e:st.part=8
  ·have:(if st.part=8 then(if 0<(st.names+1)%3 then Nx.n else .z)else .m)≠ .p:=by
    rw[if_pos e];split<;>simp
   rw[if_pos (by omega),if_pos ⟨e,hp⟩,if_pos ⟨e,this⟩,Nat.add_comm]
  ·rw[if_neg (by omega),if_neg (fun c=>e c.1),if_neg (fun c=>e c.1)]
theorem Va{st st':nB}{i:Int}(h:st.Ok)(hp:st.next≠ .p)(hm:st.part=8→st.names%3=0)(ha:some ((⟨st.part+1,st.names,.p⟩:nB),(-1:Int))=some (st',i)):H2 st st' i:=by
 have h8:=h.lt hp
 injection ha with ha
 injection ha with h1 h2
 subst h1 h2
 refine⟨⟨by simp only;omega,fun e=>absurd rfl e,fun _ e=>by rcases e with e|e<;>cases e⟩,Nat.le_succ _,.inl rfl,?_⟩
 unfold Go.Proofs.YtcefeihlkpmejaaGreatDoor.ya
 by_cases e:st.part=8
 ·rw[if_neg (by decide),if_pos ⟨e,hp⟩];have:=hm e;simp only[ne_eq,not_true_eq_false,and_false,↓reduceIte];omega
 ·rw[if_neg (by decide),if_neg (fun c=>e c.1)];simp
theorem S7{st st':nB}{t:ui}{i:Int}(h:st.Ok)(hs:dX st t=some (st',i)):H2 st st' i:=by
 have hq:=h.mz
 have hl:=h.lt
 unfold dX at hs
 cases hn:st.next with
 |p=>
  simp only[hn]at hs
  split at hs
  ·rename_i hc
   injection hs with hs
   injection hs with h1 h2
   subst h1 h2
   refine⟨⟨h.le,fun _=>by simp only;omega,fun _ _=>rfl⟩,Nat.le_refl _,.inl rfl,?_⟩
   unfold Go.Proofs.YtcefeihlkpmejaaGreatDoor.ya
   rw[if_neg (by decide),if_neg (fun c=>c.2 hn)]
   simp
  ·cases hs
 |n=>
  simp only[hn]at hs
  split at hs
  ·exact U9 h (by rw[hn];simp) hs
  ·cases hs
 |m=>
  simp only[hn]at hs
  split at hs
  ·exact U9 h (by rw[hn];simp) hs
  ·split at hs
   ·exact Va h (by rw[hn];simp) (fun e=>hq e (.inl hn)) hs
   ·cases hs
 |z=>
  have hp:st.next≠ .p:=by rw[hn];simp
  simp only[hn]at hs
  split at hs
  ·exact Va h hp (fun e=>hq e (.inr hn)) hs
  ·split at hs
   ·injection hs with hs
    injection hs with h1 h2
    subst h1 h2
    refine⟨⟨h.le,fun _=>hl hp,fun _ e=>by rcases e with e|e<;>cases e⟩,Nat.le_refl _,.inl rfl,?_⟩
    unfold Go.Proofs.YtcefeihlkpmejaaGreatDoor.ya
    by_cases e:st.part=8
    ·rw[if_neg (by decide),if_pos ⟨e,hp⟩,if_pos ⟨e,by simp⟩,Nat.zero_add]
    ·rw[if_neg (by decide),if_neg (fun c=>e c.1),if_neg (fun c=>e c.1)]
   ·cases hs
def wU(ts:List ui)(of:List Int):List (ui×Int):=(ts.zip of).filter fun p=>decide (0≤p.2)
theorem JI:∀(ts:List ui) (st:nB),st.Ok→(cD st ts).2.Ok∧st.part≤(cD st ts).2.part∧
  (∀p∈wU ts (cD st ts).1,(st.part:Int)≤p.2∧p.2≤8)∧(wU ts (cD st ts).1).Pairwise (fun p q=>p.2≤q.2)∧
  (((wU ts (cD st ts).1).filter fun p=>decide (p.2=8)).length+ya st)%3=ya (cD st ts).2%3
 |[],st,h=>by
  have e:wU [] (cD st []).1=[]:=rfl
  rw[e]
  exact⟨h,Nat.le_refl _,(fun p hp=>by cases hp),List.Pairwise.nil,by simp[cD]⟩
 |t :: ts,st,h=>by
  cases hs:dX st t with
  |none=>
   rw[Dp hs]
   have e:wU (t :: ts) []=[]:=rfl
   simp only[e]
   exact⟨h,Nat.le_refl _,(fun p hp=>by cases hp),List.Pairwise.nil,by simp⟩
  |some q=>
   obtain⟨st',i⟩:=q
   rw[Dm hs]
   have so:=S7 h hs
   obtain⟨i1,i2,i3,i4,i5⟩:=JI ts st' so.ok
   have le:=so.le
   have sc:=so.ya
   refine⟨i1,Nat.le_trans le i2,?_⟩
   rcases so.tag with hi|⟨hi,hp,h8⟩
   ·have e:wU (t :: ts) (i ::(cD st' ts).1)=wU ts (cD st' ts).1:=by
     unfold wU
     rw[List.zip_cons_cons,List.filter_cons_of_neg (by simp[hi])]
    simp only[e]
    rw[if_neg (by omega)]at sc
    exact⟨fun p hp=>⟨by have:=(i3 p hp).1;omega,(i3 p hp).2⟩,i4,by omega⟩
   ·have e:wU (t :: ts) (i ::(cD st' ts).1)=(t,i):: wU ts (cD st' ts).1:=by
     unfold wU
     rw[List.zip_cons_cons,List.filter_cons_of_pos (by simp;omega)]
    simp only[e]
    refine⟨fun p H3=>?_,List.Pairwise.cons (fun p H3=>by have:=(i3 p H3).1;simp only;omega) i4,?_⟩
    ·rcases List.mem_cons.1 H3 with rfl|H3
     ·simp only;omega
     ·have:=i3 p H3;omega
    ·by_cases c:i=8
     ·rw[if_pos c]at sc
      rw[List.filter_cons_of_pos (by simpa using c),List.length_cons];omega
     ·rw[if_neg c]at sc
      rw[List.filter_cons_of_neg (by simpa using c)];omega
theorem Xe(ts:List ui)(of:List Int)(j:Nat):(wU ts of).filter (fun p=>decide (p.2=(j:Int)))=tg j (cA ts of j):=by
 unfold wU cA tg
 rw[List.filter_filter,List.map_map]
 have e:((ts.zip of).filter fun p=>decide (p.2=(j:Int))&&decide (0≤p.2))=(ts.zip of).filter fun p=>decide (p.2=(j:Int)):=by
  apply List.filter_congr
  intro p _
  by_cases c:p.2=(j:Int)
  ·simp[c]
  ·simp[c]
 rw[e]
 generalize ts.zip of=l
 induction l with
 |nil=>rfl
 |cons p l ih=>
  by_cases c:p.2=(j:Int)
  ·rw[List.filter_cons_of_pos (by simpa using c),List.map_cons,←ih]
   cases p
   simp only at c
   subst c
   rfl
  ·rw[List.filter_cons_of_neg (by simpa using c)];exact ih
theorem ON(ts:List ui)(h:(cD xr ts).2.part=9):(cA ts (cD xr ts).1 8).length%3=0:=by
 obtain⟨_,_,_,_,h5⟩:=JI ts xr Xd
 have e:=Xe ts (cD xr ts).1 8
 have e2:ya (cD xr ts).2=0:=by unfold ya;rw[if_neg (by omega)]
 have e3:ya xr=0:=rfl
 rw[e2,e3]at h5
 have e4:((wU ts (cD xr ts).1).filter fun p=>decide (p.2=8)).length=(cA ts (cD xr ts).1 8).length:=by
  have:=congrArg List.length e
  rw[show(tg 8 (cA ts (cD xr ts).1 8)).length=(cA ts (cD xr ts).1 8).length by simp[tg]]at this
  exact this
 omega
open Go.RowKit
def jt(code at_:Int):Value:= .iface 48 (.agg #[.int .i64 code,.int .i64 at_])
theorem agw{P:Program}{K:Fr→World→Prop}{u w:World}{f:Fr}{d:Option Nat}{t:TypeId}{fs:Array Field}(ht:P.underlying t=some (.struct fs))(v:Value):aq P K (Instr.makeInterface t v) u f d w=K (ai f d (.iface t v)) w:=
 aM u f d w fun w' _=>by simp[Instr.makeInterface,run_underlying ht]
theorem Xf{K:Fr→World→Prop}{u:World}{f:Fr}{d:Option Nat}{w:World}(a b:Int):aq Tryz.prog K (Instr.build 37 #[(0,.int .i64 a),(1,.int .i64 b)]) u f d w=K (ai f d (.agg #[.int .i64 a,.int .i64 b])) w:=gF (by kernel_rfl)
theorem Xg{K:Fr→World→Prop}{u:World}{f:Fr}{d:Option Nat}{w:World}(a b:Int):aq Tryz.prog K (Instr.build 48 #[(0,.agg #[.int .i64 a,.int .i64 b])]) u f d w=K (ai f d (.agg #[.int .i64 a,.int .i64 b])) w:=gF (by kernel_rfl)
theorem eD(is:Bool)(code at_:Int)(w:World):
  mO Tryz.prog 15 [.bool is,.int .i64 code,.int .i64 at_] w (fun v w'=>v= .tuple #[]∧is=true∧Same w w') (fun ch w'=>ch=[{v:=jt code at_,recovered:=false}]∧is=false∧Same w w'):=by
 refine Av (by simp) 1000 fun Q Qp hQ hP=>?_
 cases is with
 |true=>
  simp(disch:=omega)only[push_cast,aa,↓reduceIte,Nat.reduceEqDiff,Int.reduceEq,mX]
  exact qH (hQ _ _ ⟨rfl,rfl,Same.refl _⟩)
 |false=>
  simp(disch:=omega)only[push_cast,aa,↓reduceIte,Nat.reduceEqDiff,Int.reduceEq,mX,Xf,Xg,agw Tryz.underlying48]
  exact⟨⟨_,_,rfl⟩,hP _ _ ⟨rfl,rfl,Same.refl _⟩⟩
end Go.Proofs.YtcefeihlkpmejaaGreatDoor
