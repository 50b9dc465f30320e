/- A part of the proof. -/
import Derived.Test.YtcefeihlkpmejaaGreatDoorZM16
import Derived.Test.YtcefeihlkpmejaaGreatDoorZM10
namespace Go.Proofs.YtcefeihlkpmejaaGreatDoor
set_option linter.unusedSimpArgs false
set_option linter.unusedVariables false
set_option linter.unusedSectionVars false
open Go.RowKit
theorem Ck{σ:Type}(A:σ→List UInt8→List UInt8×σ):∀(L M:List (List UInt8)) (st:σ),js A st (L++M)=js A (js A st L) M
 |[],M,st=>rfl
 | l :: L,M,st=>by rw[List.cons_append,js,Ck A L M,js]
theorem G5.apart{w:World}(h:G5 w){g:Nat}(hg:w.heap.size≤g):Gh g:=by
 obtain⟨m,hm⟩:=h.t.m
 obtain⟨v,hv,_⟩:=h.s
 obtain⟨v',HH,_⟩:=h.r
 have h1:=h.t.p.lt
 have h2:=h.t.t.lt
 have h3:=World.block_lt_of_cell? w _ hm
 have h4:=World.block_lt_of_cell? w _ hv
 have h5:=World.block_lt_of_cell? w _ HH
 have h6:7<w.heap.size:=by
  rcases Nat.lt_or_ge 7 w.heap.size with h1 | h1
  ·exact h1
  ·have h2:=h.t.pow
   unfold Pow Lib.TabIs World.var? at h2
   rw[FY] at h2
   simp[Array.getElem?_eq_none h1] at h2
 exact⟨by omega,by omega,by omega,by simp only at h3;omega,by simp only at h4;omega,by simp only at h5;omega⟩
theorem DM{K:Fr→World→Prop}{u:World}{f:Fr}{d:Option Nat}{w:World}:aq Tryz.prog K (Instr.build 46 #[]) u f d w=K (ai f d (.agg (H6 jv0 Xx false).toArray)) w:=gF (by kernel_rfl)
theorem QJ:(ByteArray.mk #[10])=⟨([10]:List UInt8).toArray⟩:=rfl
theorem Cl{L:List ByteArray}{s:List UInt8}{q:Nat}(hL:L.map (·.data.toList)=CJ (ck 10 s))(hq:q=min L.length 40):(L.take q).map (·.data.toList)=eb s:=by
 unfold eb
 rw[←hL,←List.map_take]
 congr 1
 rw[hq]
 by_cases c:L.length≤40
 ·rw[Nat.min_eq_left c,List.take_length,List.take_of_length_le c]
 ·rw[Nat.min_eq_right (by omega)]
theorem My{s l:List UInt8}(h:l∈eb s):l.length≤s.length:=by
 refine wI 10 s l ?_
 have h1:=List.mem_of_mem_take h
 unfold CJ at h1
 split at h1
 ·exact(List.dropLast_sublist _).subset h1
 ·exact h1
theorem Mz{σ:Type}(A:σ→List UInt8→List UInt8×σ){L:List (List UInt8)}{k:Nat}{l:List UInt8}(h:L[k]? =some l)(st:σ):
  iU A st (L.take (k+1))=iU A st (L.take k)++(A (js A st (L.take k)) l).1++[10]∧js A st (L.take (k+1))=(A (js A st (L.take k)) l).2:=by
 rw[List.take_add_one,h,xX,Ck]
 exact⟨by simp[iU],rfl⟩
set_option maxHeartbeats 2000000 in
theorem yz{w:World}(hP:G5 w){s:ByteArray}(hs:s.size≤1000000000):
  dw Tryz.prog 7 [.string s] w fun v w'=>(v= .string ⟨(iU fe none (eb s.data.toList)).toArray⟩∧(iU fe none (eb s.data.toList)).length≤200000000)∧Below w.heap.size w w':=by
 refine Cx (by simp) 10000 fun Q hQ=>?_
 simp(disch:=first | with_reducible assumption | omega) only[push_cast,aa,↓reduceIte,Nat.reduceEqDiff,Int.reduceEq,yD]
 obtain⟨m,hm⟩:=hP.t.m
 refine ah (FC 10 s w m hm (by omega)) ?_
 rintro v w2 ⟨L,hL,rfl,sL,b2⟩
 have hl:=congrArg List.length hL
 rw[List.length_map] at hl
 have hls:=vh 10 s.data.toList
 rw[←hl,Array.length_toList] at hls
 have apB:L.length≤s.size+1:=hls
 have cY:=tx 10 s.data.toList
 obtain⟨n,hn⟩:∃n,L.length=n+1:=by
  cases L with
  | nil=>exact absurd hL.symm cY
  | cons x L=>exact⟨L.length,rfl⟩
 have hx:L[n]? =some L[n]:=List.getElem?_eq_getElem (by omega)
 have Fv:(ck 10 s.data.toList).getLast?=some L[n].data.toList:=by
  have e:L.length-1=n:=by omega
  rw[←hL,List.getLast?_eq_getElem?,List.length_map,e,List.getElem?_map,hx]
  rfl
 have Zz:CJ (ck 10 s.data.toList)=if L[n].data.toList=[] then(ck 10 s.data.toList).dropLast else ck 10 s.data.toList:=by
  unfold CJ
  rw[Fv]
  simp only[Option.some.injEq]
 generalize L[n]=x at hx Fv Zz
 have sS:(some ⟨w.heap.size,0,none⟩:Option Addr).isSome=true:=rfl
 by_cases hc:x=ByteArray.mk #[]
 case' pos=>
  obtain⟨q,hq,ub⟩:∃q:Nat,min (n:Int) 40=(q:Int)∧q=min n 40:=⟨min n 40,by omega,rfl⟩
  have hM:((L.take n).take q).map (·.data.toList)=eb s.data.toList:=Cl (by
   have e:L.take n=L.dropLast:=by rw[List.dropLast_eq_take,hn,Nat.add_sub_cancel]
   rw[e,Zz,if_pos (by rw[hc]),←hL,List.map_dropLast]) (by rw[List.length_take,ub];omega)
  have hMl:((L.take n).take q).length=q:=by rw[List.length_take,List.length_take];omega
  have sM:=(sL.take n).take q
  generalize(L.take n).take q=M at hM hMl sM
  simp(disch:=first | with_reducible assumption | omega) only[push_cast,aa,↓reduceIte,Nat.reduceEqDiff,Int.reduceEq,hn,Int.add_sub_cancel,sS,Int.toNat_natCast,dE.ld sL hx,eq_true hc,yV xT n (Nat.le_succ n),DM]
 case' neg=>
  obtain⟨q,hq,ub⟩:∃q:Nat,min ((n:Int)+1) 40=(q:Int)∧q=min (n+1) 40:=⟨min (n+1) 40,by omega,rfl⟩
  have hM:(L.take q).map (·.data.toList)=eb s.data.toList:=Cl (by rw[Zz,if_neg (fun e=>hc (sy e)),←hL]) (by rw[ub,hn])
  have hMl:(L.take q).length=q:=by rw[List.length_take];omega
  have sM:=sL.take q
  generalize L.take q=M at hM hMl sM
  simp(disch:=first | with_reducible assumption | omega) only[push_cast,aa,↓reduceIte,Nat.reduceEqDiff,Int.reduceEq,hn,Int.add_sub_cancel,sS,Int.toNat_natCast,dE.ld sL hx,hc,DM]
 all_goals
  refine au (aO _ (H6 jv0 Xx false)) ?_
  intro w3 k3 b3 z3
  have hqc:q≤n+1:=by omega
  have apD:q≤40:=by omega
  simp(disch:=first | with_reducible assumption | omega) only[push_cast,aa,↓reduceIte,Nat.reduceEqDiff,Int.reduceEq,hq,yV xT q hqc]
  have Z0:w.heap.size≤w2.heap.size:=b2.size
  have hap:=hP.apart Z0
  have ML:=b2.trans (b3.mono b2.size)
  have Hi:(eb s.data.toList).length=q:=by rw[←hM,List.length_map,hMl]
  refine ax (fun f w'=>∃k:Nat,k≤q∧(f 4= .pointer (some ⟨w2.heap.size,0,none⟩)∧f 5= .string ⟨(iU fe none ((eb s.data.toList).take k)).toArray⟩∧f 28= .slice (some ⟨w.heap.size,0,none⟩) q (n+1)∧f 29= .int .i64 q∧f 30= .int .i64 k)∧
    (iU fe none ((eb s.data.toList).take k)).length≤4000001*k∧Gg w' w2.heap.size (js fe none ((eb s.data.toList).take k))∧G4 (js fe none ((eb s.data.toList).take k))∧G5 w'∧dE (·<w2.heap.size) w' (some ⟨w.heap.size,0,none⟩) M∧Below w.heap.size w w'∧w2.heap.size<w'.heap.size)
   (fun f _=>q-(intOf (f 30)).toNat) ⟨0,Nat.zero_le _,⟨rfl,rfl,rfl,rfl,rfl⟩,Nat.le_refl _,⟨jv0,Xx,k3,O6 _ _,fun q h=>by cases h⟩,(fun q h=>by cases h),hP.on ML,sM.below b3,ML,by omega⟩ ?_
  rintro f w4 ⟨k,hk,fr,Vo,hp,hO,hW4,sM4,b4,g4⟩ J hJ
  have gZ:(intOf (f 30)).toNat=k:=by rw[fr.2.2.2.2];simp[intOf]
  by_cases aI:k<q
  case neg=>
   obtain rfl:k=q:=by omega
   rw[List.take_of_length_le (by omega)] at Vo fr
   simp(disch:=first | with_reducible assumption | omega) only[push_cast,aa,↓reduceIte,Nat.reduceEqDiff,Int.reduceEq,nN,fr,Nat.lt_irrefl]
   exact aF (hQ _ _ ⟨⟨(by simp only[push_cast,↓reduceIte,Nat.reduceEqDiff,Int.reduceEq,fr]),by omega⟩,b4⟩)
  have Yd:M[k]? =some M[k]:=List.getElem?_eq_getElem (by omega)
  generalize M[k]=l at Yd
  have Vl:(eb s.data.toList)[k]? =some l.data.toList:=by rw[←hM,List.getElem?_map,Yd];rfl
  have kq:l.data.toList.length≤s.data.toList.length:=My (List.mem_of_getElem? Vl)
  rw[Array.length_toList,Array.length_toList] at kq
  have apE:l.size≤s.size:=kq
  obtain⟨p1,p2⟩:=Mz fe Vl none
  simp(disch:=first | with_reducible assumption | omega) only[push_cast,aa,↓reduceIte,Nat.reduceEqDiff,Int.reduceEq,nN,fr,aI,sS,dE.ld sM4 Yd]
  refine ah (Mx hW4 hap hp hO (s:=l) (by omega)) ?_
  rintro v w5 ⟨⟨rfl,hl5⟩,hp5,bt⟩
  simp(disch:=first | with_reducible assumption | omega |(simp only[List.length_append,List.length_cons,List.length_nil];omega)) only[push_cast,aa,↓reduceIte,Nat.reduceEqDiff,Int.reduceEq,fr,QJ,wH]
  exact hJ _ _ ⟨k+1,aI,⟨(by simp only[push_cast,↓reduceIte,Nat.reduceEqDiff,Int.reduceEq,fr]),by
   simp only[push_cast,↓reduceIte,Nat.reduceEqDiff,fr]
   rw[p1,List.append_assoc],(by simp only[push_cast,↓reduceIte,Nat.reduceEqDiff,Int.reduceEq,fr]),(by simp only[push_cast,↓reduceIte,Nat.reduceEqDiff,Int.reduceEq,fr]),(by simp only[push_cast,↓reduceIte,Nat.reduceEqDiff,Int.reduceEq,fr])⟩,by
   rw[p1]
   simp only[List.length_append,List.length_cons,List.length_nil];omega,by rw[p2];exact hp5,by rw[p2];exact hO.line _,hW4.but bt hap,sM4.keep (fun b hb=>bt.block b (by omega) (by omega)),b4.trans ((bt.mono b4.size).below Z0),by have:=bt.size;omega⟩ (by simp only[push_cast,↓reduceIte,Nat.reduceEqDiff,intOf,fr];omega)
open Go.RowKit
theorem ZA:fe none [63]=([63],none):=by
 have h1:Lib.hasPrefix [63] G1=false:=by decide
 have h2:Lib.hasPrefix [63] G3=false:=by decide
 unfold fe
 rw[if_neg (by rw[h1];decide),if_neg (by rw[h2];decide)]
 unfold Cj
 rw[if_pos ⟨by decide,by decide⟩]
theorem ZB:iU fe none (eb [63])=[63,10]:=by
 have:eb [63]=[[63]]:=by decide
 rw[this,iU,ZA]
 rfl
theorem QK{P:Program}{K:Fr→World→Prop}{u:World}{f:Fr}{d:Option Nat}{w:World}{t:TypeId}(ht:P.underlying t=some .string)(s:ByteArray)(b:Nat)(hb:b≤s.size):
  aq P K (Instr.sliceAt t (.string s) none (some (.int .i64 b)) none) u f d w=K (ai f d (.string (s.extract 0 b))) w:=
 aM u f d w fun w' _=>by
  have h2:(0:Int)≤(b:Int)∧(b:Int)≤(s.size:Int):=by omega
  simp[Instr.sliceAt,run_underlying ht,Instr.slice,Instr.sliceBounds,Instr.sliceBound,asIntOf,h2,hb]
theorem aek:(ByteArray.mk #[63])=⟨([63]:List UInt8).toArray⟩:=rfl
theorem vI(l:List UInt8):(⟨l.toArray⟩:ByteArray).size=l.length:=by simp[ByteArray.size]
set_option maxHeartbeats 2000000 in
theorem Jc{w:World}(hP:G5 w){a b:ByteArray}(ha:a.size≤10000000)(hb:b.size≤10000000):
  dw Tryz.prog 4 [.string a,.string b] w fun v w'=>v= .bool true∧Below w.heap.size w w':=by
 obtain⟨la,rfl⟩:∃la:List UInt8,a=⟨la.toArray⟩:=⟨a.data.toList,(qk a).symm⟩
 obtain⟨lb,rfl⟩:∃lb:List UInt8,b=⟨lb.toArray⟩:=⟨b.data.toList,(qk b).symm⟩
 rw[vI] at ha hb
 refine zk (by simp) 10000 fun Q hQ=>?_
 obtain⟨m,hm⟩:=SG fe none la lb
 simp(disch:=first | with_reducible assumption | omega |(simp only[List.length_append,List.length_cons,List.length_nil];omega)) only[push_cast,aa,↓reduceIte,Nat.reduceEqDiff,Int.reduceEq,ui,wH,QJ]
 refine ah (yz hP (s:=⟨(la++[10]).toArray⟩) (by rw[vI];simp only[List.length_append,List.length_cons,List.length_nil];omega)) ?_
 rintro v w1 ⟨⟨rfl,h1⟩,b1⟩
 simp(disch:=first | with_reducible assumption | omega |(simp only[List.length_append,List.length_cons,List.length_nil];omega)) only[push_cast,aa,↓reduceIte,Nat.reduceEqDiff,Int.reduceEq,wH]
 refine ah (yz (hP.on b1) (s:=⟨(la++[10]++lb).toArray⟩) (by rw[vI];simp only[List.length_append,List.length_cons,List.length_nil];omega)) ?_
 rintro v w2 ⟨⟨rfl,h2⟩,b2⟩
 have bb:=b1.trans (b2.mono b1.size)
 simp(disch:=first | with_reducible assumption | omega |(simp only[List.length_append,List.length_cons,List.length_nil];omega)) only[push_cast,aa,↓reduceIte,Nat.reduceEqDiff,Int.reduceEq,aek]
 refine ah (yz (hP.on bb) (s:=⟨[63].toArray⟩) (by rw[vI];decide)) ?_
 rintro v w3 ⟨⟨rfl,h3⟩,b3⟩
 have e3:(⟨[63].toArray⟩:ByteArray).data.toList=[63]:=rfl
 clear h1 h2 h3
 rw[e3,ZB,hm]
 generalize iU fe none (eb (la++[10]))=s1 at*
 have hl:(⟨s1.toArray⟩:ByteArray).size≤(⟨(s1++m).toArray⟩:ByteArray).size:=by rw[vI,vI,List.length_append];omega
 have Fx:((⟨s1.toArray⟩:ByteArray).size:Int)≤((⟨(s1++m).toArray⟩:ByteArray).size:Nat):=by omega
 have hx:(⟨(s1++m).toArray⟩:ByteArray).extract 0 (⟨s1.toArray⟩:ByteArray).size=⟨s1.toArray⟩:=by
  rw[BB,vI]
  show(⟨(((s1++m).drop 0).take (s1.length-0)).toArray⟩:ByteArray)=_
  rw[List.drop_zero,Nat.sub_zero,List.take_left]
 simp(disch:=first | with_reducible assumption | omega) only[push_cast,aa,↓reduceIte,Nat.reduceEqDiff,Int.reduceEq,Fx,QK Fz,hl,hx,zS,Option.map_none,Option.map_some]
 exact aF (hQ _ _ ⟨(by simp only[push_cast,↓reduceIte,Nat.reduceEqDiff,Int.reduceEq]),bb.trans (b3.mono bb.size)⟩)
end Go.Proofs.YtcefeihlkpmejaaGreatDoor
