/- A part of the proof. -/
import Derived.Test.YtcefeihlkpmejaaGreatDoorYM16
import Derived.Test.YtcefeihlkpmejaaGreatDoorYM11
import Derived.Laws.IdiomStrings
namespace Go.Proofs.YtcefeihlkpmejaaGreatDoor
set_option linter.unusedSimpArgs false
set_option linter.unusedVariables false
set_option linter.unusedSectionVars false
open Go.RowKit
theorem Ck{σ:Type}(A:σ→List UInt8→List UInt8×σ):∀(L M:List (List UInt8)) (st:σ),js A st (L++M)=js A (js A st L) M
 |[],M,st=>rfl
 |l :: L,M,st=>by rw[List.cons_append,js,Ck A L M,js]
theorem G5.apart{w:World}(h:G5 w){g:Nat}(hg:w.heap.size≤g):Gh g:=by
 obtain⟨m,hm⟩:=h.t.m
 obtain⟨v,hv,_⟩:=h.s
 obtain⟨v',HH,_⟩:=h.r
 have h1:=h.t.p.lt
 have h2:=h.t.t.lt
 have h3:=World.block_lt_of_cell? w _ hm
 have h4:=World.block_lt_of_cell? w _ hv
 have h5:=World.block_lt_of_cell? w _ HH
 have h6:7<w.heap.size:=by
  rcases Nat.lt_or_ge 7 w.heap.size with h1|h1
  ·exact h1
  ·have h2:=h.t.pow
   unfold Pow Lib.TabIs World.var? at h2
   rw[FY]at h2
   simp[Array.getElem?_eq_none h1]at h2
 exact⟨by omega,by omega,by omega,by simp only at h3;omega,by simp only at h4;omega,by simp only at h5;omega⟩
theorem DM{K:Fr→World→Prop}{u:World}{f:Fr}{d:Option Nat}{w:World}:aq Tryz.prog K (Instr.build 46 #[]) u f d w=K (ai f d (.agg (H6 jv0 Xx false).toArray)) w:=gF (by kernel_rfl)
theorem QJ:(ByteArray.mk #[10])=⟨([10]:List UInt8).toArray⟩:=rfl
theorem Cl{L:List ByteArray}{s:List UInt8}{q:Nat}(hL:L.map (·.data.toList)=CJ (ck 10 s))(hq:q=min L.length 40):(L.take q).map (·.data.toList)=eb s:=by
 unfold eb
 rw[←hL,←List.map_take]
 congr 1
 rw[hq]
 by_cases c:L.length≤40
 ·rw[Nat.min_eq_left c,List.take_length,List.take_of_length_le c]
 ·rw[Nat.min_eq_right (by omega)]
theorem My{s l:List UInt8}(h:l∈eb s):l.length≤s.length:=by
 refine wI 10 s l ?_
 have h1:=List.mem_of_mem_take h
 unfold CJ at h1
 split at h1
 ·exact(List.dropLast_sublist _).subset h1
 ·exact h1
theorem Mz{σ:Type}(A:σ→List UInt8→List UInt8×σ){L:List (List UInt8)}{k:Nat}{l:List UInt8}(h:L[k]? =some l)(st:σ):
  iU A st (L.take (k+1))=iU A st (L.take k)++(A (js A st (L.take k)) l).1++[10]∧js A st (L.take (k+1))=(A (js A st (L.take k)) l).2:=by
 rw[List.take_add_one,h,xX,Ck]
 exact⟨by simp[iU],rfl⟩
set_option maxHeartbeats 2000000 in
theorem yz{w:World}(hP:G5 w){s:ByteArray}(hs:s.size≤1000000000):
  dw Tryz.prog 7 [.string s] w fun v w'=>(v= .string ⟨(iU fe none (eb s.data.toList)).toArray⟩∧(iU fe none (eb s.data.toList)).length≤200000000)∧Below w.heap.size w w':=by
 refine Cx (by simp) 10000 fun Q hQ=>?_
 simp(disch:=omega)only[push_cast,aa,↓reduceIte,Nat.reduceEqDiff,Int.reduceEq,yD]
 obtain⟨m,hm⟩:=hP.t.m
 refine ah (FC 10 s w m hm (by omega)) ?_
 rintro v w2 ⟨L,hL,rfl,sL,b2⟩
 have hl:=congrArg List.length hL
 rw[List.length_map]at hl
 have hls:=vh 10 s.data.toList
 rw[←hl,Array.length_toList]at hls
 have apB:L.length≤s.size+1:=hls
 have cY:=tx 10 s.data.toList
 obtain⟨n,hn⟩:∃n,L.length=n+1:=by
  cases L with
  |nil=>exact absurd hL.symm cY
  |cons x L=>exact⟨L.length,rfl⟩
 have hx:L[n]? =some L[n]:=List.getElem?_eq_getElem (by omega)
 have Fv:(ck 10 s.data.toList).getLast?=some L[n].data.toList:=by
  have e:L.length-1=n:=by omega
  rw[←hL,List.getLast?_eq_getElem?,List.length_map,e,List.getElem?_map,hx]
  rfl
 have Zz:CJ (ck 10 s.data.toList)=if L[n].data.toList=[]then(ck 10 s.data.toList).dropLast else ck 10 s.data.toList:=by
  unfold CJ
  rw[Fv]
  simp only[Option.some.injEq]
 generalize L[n]=x at hx Fv Zz
 have sS:(some ⟨w.heap.size,0,none⟩:Option Addr).isSome=true:=rfl
 by_cases hc:x=ByteArray.mk #[]
 case' pos=>
  obtain⟨q,hq,ub⟩:∃q:Nat,min (n:Int) 40=(q:Int)∧q=min n 40:=⟨min n 40,by omega,rfl⟩
  have hM:((L.take n).take q).map (·.data.toList)=eb s.data.toList:=Cl (by
   have e:L.take n=L.dropLast:=by rw[List.dropLast_eq_take,hn,Nat.add_sub_cancel]
   rw[e,Zz,if_pos (by rw[hc]),←hL,List.map_dropLast]) (by rw[List.length_take,ub];omega)
  have hMl:((L.take n).take q).length=q:=by rw[List.length_take,List.length_take];omega
  have sM:=(sL.take n).take q
  generalize(L.take n).take q=M at hM hMl sM
  simp(disch:=omega)only[push_cast,aa,↓reduceIte,Nat.reduceEqDiff,Int.reduceEq,hn,Int.add_sub_cancel,sS,Int.toNat_natCast,dE.ld sL hx,eq_true hc,yV xT n (Nat.le_succ n),DM]
 case' neg=>
  obtain⟨q,hq,ub⟩:∃q:Nat,min ((n:Int)+1) 40=(q:Int)∧q=min (n+1) 40:=⟨min (n+1) 40,by omega,rfl⟩
  have hM:(L.take q).map (·.data.toList)=eb s.data.toList:=Cl (by rw[Zz,if_neg (fun e=>hc (sy e)),←hL]) (by rw[ub,hn])
  have hMl:(L.take q).length=q:=by rw[List.length_take];omega
  have sM:=sL.take q
  generalize L.take q=M at hM hMl sM
  simp(disch:=omega)only[push_cast,aa,↓reduceIte,Nat.reduceEqDiff,Int.reduceEq,hn,Int.add_sub_cancel,sS,Int.toNat_natCast,dE.ld sL hx,hc,DM]
 all_goals
  refine au (aO _ (H6 jv0 Xx false)) ?_
  intro w3 k3 b3 z3
  have hqc:q≤n+1:=by omega
  have apD:q≤40:=by omega
  simp(disch:=omega)only[push_cast,aa,↓reduceIte,Nat.reduceEqDiff,Int.reduceEq,hq,yV xT q hqc]
  have Z0:w.heap.size≤w2.heap.size:=b2.size
  have hap:=hP.apart Z0
  have ML:=b2.trans (b3.mono b2.size)
  have Hi:(eb s.data.toList).length=q:=by rw[←hM,List.length_map,hMl]
  refine ax (fun f w'=>∃k:Nat,k≤q∧(f 4= .pointer (some ⟨w2.heap.size,0,none⟩)∧f 5= .string ⟨(iU fe none ((eb s.data.toList).take k)).toArray⟩∧f 28= .slice (some ⟨w.heap.size,0,none⟩) q (n+1)∧f 29= .int .i64 q∧f 30= .int .i64 k)∧
    (iU fe none ((eb s.data.toList).take k)).length≤4000001*k∧Gg w' w2.heap.size (js fe none ((eb s.data.toList).take k))∧G4 (js fe none ((eb s.data.toList).take k))∧G5 w'∧dE (·<w2.heap.size) w' (some ⟨w.heap.size,0,none⟩) M∧Below w.heap.size w w'∧w2.heap.size<w'.heap.size)
   (fun f _=>q-(intOf (f 30)).toNat) ⟨0,Nat.zero_le _,⟨rfl,rfl,rfl,rfl,rfl⟩,Nat.le_refl _,⟨jv0,Xx,k3,O6 _ _,fun q h=>by cases h⟩,(fun q h=>by cases h),hP.on ML,sM.below b3,ML,by omega⟩ ?_
  rintro f w4 ⟨k,hk,fr,Vo,hp,hO,hW4,sM4,b4,g4⟩ J hJ
  have gZ:(intOf (f 30)).toNat=k:=by rw[fr.2.2.2.2];simp[intOf]
  by_cases aI:k<q
  case neg=>
   obtain rfl:k=q:=by omega
   rw[List.take_of_length_le (by omega)]at Vo fr
   simp(disch:=omega)only[push_cast,aa,↓reduceIte,Nat.reduceEqDiff,Int.reduceEq,nN,fr,Nat.lt_irrefl]
   exact aF (hQ _ _ ⟨⟨(by simp only[push_cast,↓reduceIte,Nat.reduceEqDiff,Int.reduceEq,fr]),by omega⟩,b4⟩)
  have Yd:M[k]? =some M[k]:=List.getElem?_eq_getElem (by omega)
  generalize M[k]=l at Yd
  have Vl:(eb s.data.toList)[k]? =some l.data.toList:=by rw[←hM,List.getElem?_map,Yd];rfl
  have kq:l.data.toList.length≤s.data.toList.length:=My (List.mem_of_getElem? Vl)
  rw[Array.length_toList,Array.length_toList]at kq
  have apE:l.size≤s.size:=kq
  obtain⟨p1,p2⟩:=Mz fe Vl none
  simp(disch:=omega)only[push_cast,aa,↓reduceIte,Nat.reduceEqDiff,Int.reduceEq,nN,fr,aI,sS,dE.ld sM4 Yd]
  refine ah (Mx hW4 hap hp hO (s:=l) (by omega)) ?_
  rintro v w5 ⟨⟨rfl,hl5⟩,hp5,bt⟩
  simp(disch:=first|with_reducible assumption|omega|(simp only[List.length_append,List.length_cons,List.length_nil];omega))only[push_cast,aa,↓reduceIte,Nat.reduceEqDiff,Int.reduceEq,fr,QJ,wH]
  exact hJ _ _ ⟨k+1,aI,⟨(by simp only[push_cast,↓reduceIte,Nat.reduceEqDiff,Int.reduceEq,fr]),by
   simp only[push_cast,↓reduceIte,Nat.reduceEqDiff,fr]
   rw[p1,List.append_assoc],(by simp only[push_cast,↓reduceIte,Nat.reduceEqDiff,Int.reduceEq,fr]),(by simp only[push_cast,↓reduceIte,Nat.reduceEqDiff,Int.reduceEq,fr]),(by simp only[push_cast,↓reduceIte,Nat.reduceEqDiff,Int.reduceEq,fr])⟩,by
   rw[p1]
   simp only[List.length_append,List.length_cons,List.length_nil];omega,by rw[p2];exact hp5,by rw[p2];exact hO.line _,hW4.but bt hap,sM4.keep (fun b hb=>bt.block b (by omega) (by omega)),b4.trans ((bt.mono b4.size).below Z0),by have:=bt.size;omega⟩ (by simp only[push_cast,↓reduceIte,Nat.reduceEqDiff,intOf,fr];omega)
open Go.RowKit
theorem abI{b:UInt8}:∀{l:List UInt8},b∉l→ck b l=[l]
 |[],_=>rfl
 |c :: l,h=>by
  rw[jO,if_neg fun e=>h (by rw[e];exact List.mem_cons_self),abI fun e=>h (List.mem_cons_of_mem _ e)]
theorem acg{b:UInt8}{l:List UInt8}{n:Nat}(hn:n≤l.length)(h:∀j,j<n→l.getD j 0≠b):b∉l.take n:=by
 intro hm
 obtain⟨j,hj⟩:=List.mem_iff_getElem?.1 hm
 rw[List.getElem?_take]at hj
 split at hj
 ·rename_i c
  exact h j c (by rw[List.getD_eq_getElem?_getD,hj];rfl)
 ·cases hj
theorem adb{b:UInt8}{l:List UInt8}{n:Nat}(hn:n<l.length)(h:∀j,j<n→l.getD j 0≠b)(hb:l.getD n 0=b):ck b l=[l.take n]++ck b (l.drop (n+1)):=by
 have e:l=l.take n++b :: l.drop (n+1):=by
  rw[←hb,List.getD_eq_getElem?_getD,List.getElem?_eq_getElem hn]
  simp
 conv=>lhs;rw[e]
 rw[vg,abI (acg (by omega) h)]
structure abP(b:UInt8)(S:List UInt8)(L:List ByteArray)(k i:Nat):Prop where
 le:k≤i
 eq:ck b S=L.map (·.data.toList)++ck b (S.drop k)
 no:∀j,k≤j→j<i→S.getD j 0≠b
theorem abP.piece{b:UInt8}{S:List UInt8}{L:List ByteArray}{k i:Nat}(h:abP b S L k i)(hi:i<S.length)(hb:S.getD i 0=b){s:ByteArray}(hs:s.data.toList=(S.drop k).take (i-k)):abP b S (L++[s]) (i+1) (i+1):=by
 refine⟨Nat.le_refl _,?_,fun j h1 h2=>by omega⟩
 have hg:∀j,(S.drop k).getD j 0=S.getD (k+j) 0:=fun j=>by rw[List.getD_eq_getElem?_getD,List.getElem?_drop,←List.getD_eq_getElem?_getD]
 have hle:=h.le
 rw[h.eq,adb (n:=i-k) (by rw[List.length_drop];omega) (fun j hj=>by rw[hg];exact h.no _ (by omega) (by omega)) (by rw[hg,Nat.add_sub_cancel' hle];exact hb)]
 rw[List.drop_drop,show k+(i-k+1)=i+1 by omega,List.map_append,List.append_assoc,List.map_singleton,hs]
theorem abP.last{b:UInt8}{S:List UInt8}{L:List ByteArray}{k:Nat}(h:abP b S L k S.length){s:ByteArray}(hs:s.data.toList=(S.drop k).take (S.length-k)):ck b S=(L++[s]).map (·.data.toList):=by
 have hg:∀j,(S.drop k).getD j 0=S.getD (k+j) 0:=fun j=>by rw[List.getD_eq_getElem?_getD,List.getElem?_drop,←List.getD_eq_getElem?_getD]
 have hle:=h.le
 have e:(S.drop k).take (S.length-k)=S.drop k:=List.take_of_length_le (by rw[List.length_drop];omega)
 have hn:b∉S.drop k:=by
  rw[←e]
  exact acg (by rw[List.length_drop];omega) fun j hj=>by rw[hg];exact h.no _ (by omega) (by omega)
 rw[h.eq,abI hn,List.map_append,List.map_singleton,hs,e]
theorem abP.skip{b:UInt8}{S:List UInt8}{L:List ByteArray}{k i:Nat}(h:abP b S L k i)(hb:S.getD i 0≠b):abP b S L k (i+1):=
 ⟨by have:=h.le;omega,h.eq,fun j h1 h2=>by
  by_cases e:j=i
  ·rw[e];exact hb
  ·exact h.no j h1 (by omega)⟩
theorem abJ{w:World}(b:UInt8){s:ByteArray}(hs:s.size≤1000000000):
  dw Tryz.prog 5 [.string s,.int .u8 (b.toNat:Int)] w fun v w'=>∃(L:List ByteArray) (A:Option Addr) (c:Nat),L.map (·.data.toList)=ck b s.data.toList∧v= .slice A L.length c∧bH zC w.heap.size 9 1 w' A c L∧Below w.heap.size w w':=by
 refine abv (by simp) 10000 fun Q hQ=>?_
 simp(disch:=omega)only[push_cast,aa,↓reduceIte,Nat.reduceEqDiff,Int.reduceEq,aaA]
 have hl:s.data.toList.length=s.size:=by rw[Array.length_toList];rfl
 refine ax (fun f w'=>∃(i k:Nat) (L:List ByteArray) (A:Option Addr) (c:Nat),i≤s.size+1∧(f 0= .string s∧f 1= .int .u8 (b.toNat:Int)∧f 5= .slice A L.length c∧f 6= .int .i64 k∧f 7= .int .i64 i)∧L.length≤i∧(i≤s.size→abP b s.data.toList L k i)∧(s.size<i→ck b s.data.toList=L.map (·.data.toList))∧bH zC w.heap.size 9 1 w' A c L∧Below w.heap.size w w')
  (fun f _=>s.size+1-(intOf (f 7)).toNat) ⟨0,0,[],none,0,Nat.zero_le _,⟨rfl,rfl,rfl,rfl,rfl⟩,Nat.zero_le _,fun _=>⟨Nat.le_refl _,rfl,fun j _ h=>absurd h (by omega)⟩,fun h=>absurd h (by omega),Own.nil _ _ _ _,Below.refl _ _⟩ ?_
 rintro f w1 ⟨i,k,L,A,c,hi,fr,hLi,hd,he,o1,b1⟩ J hJ
 have gZ:(intOf (f 7)).toNat=i:=by rw[fr.2.2.2.2];simp[intOf]
 by_cases aI:i≤s.size
 case neg=>
  have adh:¬(i:Int)≤(s.size:Nat):=by omega
  simp(disch:=omega)only[push_cast,aa,↓reduceIte,Nat.reduceEqDiff,Int.reduceEq,Ol,fr,adh]
  exact aF (hQ _ _ ⟨L,A,c,(he (by omega)).symm,(by simp only[push_cast,↓reduceIte,Nat.reduceEqDiff,Int.reduceEq,fr]),o1,b1⟩)
 have adh:(i:Int)≤(s.size:Nat):=by omega
 replace hd:=hd aI
 have hle:=hd.le
 have hx:∀{K:Fr→World→Prop} {u:World} {f:Fr} {d:Option Nat} {w:World},aq Tryz.prog K (Instr.sliceAt 9 (.string s) (some (.int .i64 k)) (some (.int .i64 i)) none) u f d w=K (ai f d (.string (s.extract k i))) w:=Dq Fz s k i hle aI
 have hxl:(s.extract k i).data.toList=(s.data.toList.drop k).take (i-k):=by rw[BB]
 generalize s.extract k i=x at hx hxl
 by_cases TK:i=s.size
 case pos=>
  subst TK
  simp(disch:=omega)only[push_cast,aa,↓reduceIte,Nat.reduceEqDiff,Int.reduceEq,Ol,fr,adh,zS,Option.map_none,Option.map_some,hx,UW]
  refine dA ql xT o1 x (by omega) (by omega) b1.size ?_
  intro A' c' w2 o2 g2 _ _ z2
  simp(disch:=omega)only[push_cast,aa,↓reduceIte,Nat.reduceEqDiff,Int.reduceEq,fr]
  exact hJ _ _ ⟨s.size+1,s.size+1,L++[x],A',c',by omega,(by simp only[push_cast,↓reduceIte,Nat.reduceEqDiff,true_and,and_true,and_self,eq_self,fr,List.length_append,List.length_singleton]),by rw[List.length_append,List.length_singleton];omega,fun h=>absurd h (by omega),fun _=>abP.last (hl.symm▸hd) (by rw[hxl,hl]),o2,g2.below b1 b1.size o1.uh⟩ (by simp only[push_cast,↓reduceIte,Nat.reduceEqDiff,intOf,fr];omega)
 have kI:i<s.size:=by omega
 have adO:¬(i:Int)=(s.size:Nat):=by omega
 have hbt:(wF s i=(b.toNat:Int))↔s.data.toList.getD i 0=b:=by
  unfold wF
  constructor
  ·intro e;exact UInt8.toNat_inj.1 (by omega)
  ·intro e;rw[e]
 by_cases hb:s.data.toList.getD i 0=b
 case pos=>
  have sH:=eq_true (hbt.2 hb)
  simp(disch:=omega)only[push_cast,aa,↓reduceIte,Nat.reduceEqDiff,Int.reduceEq,Ol,fr,adh,adO,kI,D7,sH,zS,Option.map_none,Option.map_some,hx,UW]
  refine dA ql xT o1 x (by omega) (by omega) b1.size ?_
  intro A' c' w2 o2 g2 _ _ z2
  simp(disch:=omega)only[push_cast,aa,↓reduceIte,Nat.reduceEqDiff,Int.reduceEq,fr]
  exact hJ _ _ ⟨i+1,i+1,L++[x],A',c',by omega,(by simp only[push_cast,↓reduceIte,Nat.reduceEqDiff,true_and,and_true,and_self,eq_self,fr,List.length_append,List.length_singleton]),by rw[List.length_append,List.length_singleton];omega,fun _=>hd.piece (by omega) hb hxl,fun h=>absurd h (by omega),o2,g2.below b1 b1.size o1.uh⟩ (by simp only[push_cast,↓reduceIte,Nat.reduceEqDiff,intOf,fr];omega)
 have sH:¬wF s i=(b.toNat:Int):=fun e=>hb (hbt.1 e)
 simp(disch:=omega)only[push_cast,aa,↓reduceIte,Nat.reduceEqDiff,Int.reduceEq,Ol,fr,adh,adO,kI,D7,sH]
 exact hJ _ _ ⟨i+1,k,L,A,c,by omega,(by simp only[push_cast,↓reduceIte,Nat.reduceEqDiff,true_and,and_true,and_self,eq_self,fr]),by omega,fun _=>hd.skip hb,fun h=>absurd h (by omega),o1,b1⟩ (by simp only[push_cast,↓reduceIte,Nat.reduceEqDiff,intOf,fr];omega)
theorem abT{d:Nat}(h:d<10):(UInt8.ofNat (48+d)).toNat=48+d:=by
 rw[UInt8.toNat_ofNat']
 omega
theorem abU:∀(l:List UInt8) (acc v d:Nat),Lib.parseUint10 acc l= .ok v→v<1000000000→d<10→Lib.parseUint10 acc (l++[UInt8.ofNat (48+d)])= .ok (v*10+d)
 |[],acc,v,d,h,hv,hd=>by
  rw[Lib.parseUint10]at h
  injection h with h
  subst h
  rw[List.nil_append,Lib.parseUint10,abT hd,if_pos (by omega),if_neg (by omega),if_neg (by omega),Lib.parseUint10,Nat.add_sub_cancel_left]
 |c :: l,acc,v,d,h,hv,hd=>by
  rw[Lib.parseUint10]at h
  rw[List.cons_append,Lib.parseUint10]
  split at h
  ·rename_i c1
   rw[if_pos c1]
   split at h
   ·cases h
   ·rename_i c2
    rw[if_neg c2]
    split at h
    ·cases h
    ·rename_i c3
     rw[if_neg c3]
     exact abU l _ v d h hv hd
  ·cases h
theorem abm{n:Nat}(h:n<10):Lib.decDigits n=[UInt8.ofNat (48+n)]:=by rw[Lib.decDigits,dif_pos h]
theorem aci{n:Nat}(h:¬n<10):Lib.decDigits n=Lib.decDigits (n/10)++[UInt8.ofNat (48+n%10)]:=by rw[Lib.decDigits,dif_neg h]
theorem adi:∀(N n:Nat),n≤N→n≤1000000→Lib.parseUint10 0 (Lib.decDigits n)= .ok n∧∃c r,Lib.decDigits n=c :: r∧48≤c.toNat
 |0,n,h,_=>by
  obtain rfl:n=0:=by omega
  rw[abm (by omega)]
  exact⟨rfl,_,_,rfl,by decide⟩
 |N+1,n,h,hn=>by
  by_cases c:n<10
  ·rw[abm c]
   have:=abU [] 0 0 n rfl (by omega) c
   rw[List.nil_append,Nat.zero_mul,Nat.zero_add]at this
   exact⟨this,_,_,rfl,by rw[abT c];omega⟩
  ·obtain⟨h1,a,r,h2,h3⟩:=adi N (n/10) (by omega) (by omega)
   rw[aci c]
   refine⟨?_,a,r++[UInt8.ofNat (48+n%10)],by rw[h2];rfl,h3⟩
   rw[abU _ 0 (n/10) (n%10) h1 (by omega) (by omega)]
   congr 1
   omega
theorem SG(n:Nat):Lib.itoa (n:Int)=Lib.decDigits n:=by
 unfold Lib.itoa
 rw[if_neg (by omega),Int.toNat_natCast]
theorem acq{n:Nat}(h:n≤1000000):Lib.atoiAll (Lib.itoa (n:Int))= .ok (n:Int):=by
 obtain⟨h1,c,r,h2,h3⟩:=adi n n (Nat.le_refl _) h
 rw[SG,h2,Lib.atoiAll_plain c r (by omega) (by omega),←h2]
 unfold Lib.parseMag
 rw[if_neg (by rw[h2];exact List.cons_ne_nil _ _),h1]
 unfold Lib.signless
 simp only
 rw[if_neg (by omega)]
def abR(s:List UInt8):Int:=match td s with
 |none=> -2
 |some n=>n
theorem adl{s:List UInt8}(h:s≠UJ){n:Nat}(hn:n≤1000)(he:Lib.decDigits n=s):abR s=n:=by
 rw[←SG]at he
 have:=Qx (s:=s) h (m:=n) (by rw[←he];exact acq (by omega)) ⟨⟨by omega,by omega⟩,he⟩
 unfold abR;rw[this]
theorem acr{s:List UInt8}(h:s≠UJ)(gY:∀n:Nat,n≤1000→Lib.decDigits n≠s):abR s= -2:=by
 have:=tT (s:=s) h fun m _ ⟨⟨h0,h1⟩,h2⟩=>gY m.toNat (by omega) (by rw[←SG,Int.toNat_of_nonneg h0];exact h2)
 unfold abR;rw[this]
section
variable {K:Fr→World→Prop} {f:Fr} {d:Option Nat} {w:World}
theorem adx{n:Int}(h0:0≤n)(h:n≤255):cG Tryz.prog K (convert 3 5 (.int .i64 n)) f d w=K (ai f d (.int .u8 n)) w:=by
 rw[fa (v:= .int .u8 n) (w':=w) (by simp[convert,run_underlying Tryz.underlying5,run_underlying Tryz.underlying3,Conv.intToInt,IntKind.wrap,IntKind.bits,IntKind.signed];omega)]
theorem abS{g c:Nat}{b:UInt8}(h:w.cell? ⟨g,0,none⟩=some (.int .u8 (b.toNat:Int))):cG Tryz.prog K (convert 65 9 (.slice (some ⟨g,0,none⟩) 1 c)) f d w=K (ai f d (.string ⟨[b].toArray⟩)) w:=by
 refine fa (v:= .string ⟨[b].toArray⟩) (w':=w) (run_convert_bytes_back (P:=Tryz.prog) w 65 9 5 ⟨g,0,none⟩ c [b] Tryz.underlying65 Tryz.underlying5 Tryz.underlying9 fun j hj=>by
  obtain rfl:j=0:=by simpa using hj
  rw[addr_add];exact h)
end
theorem ZB{n:Nat}(h:n≤9223372036854775807):(Lib.decDigits n).length≤30:=by
 rw[←SG];exact jw ⟨by omega,by omega⟩
theorem Jc(n:Nat):n≤9223372036854775807→∀w:World,dw Tryz.prog 9 [.int .i64 n] w fun v w'=>v= .string ⟨(Lib.decDigits n).toArray⟩∧Below w.heap.size w w':=by
 induction n using Nat.strongRecOn with
 |_ n ih=>
 intro hn w
 refine abt (by simp) 1000 fun Q hQ=>?_
 obtain⟨r,hr⟩:∃r,n%10=r:=⟨_,rfl⟩
 obtain⟨q,hq⟩:∃q,n/10=q:=⟨_,rfl⟩
 have alR:r<10:=by omega
 have rem:=fun{K u w f d t xo yo}=>ada (P:=Tryz.prog) (K:=K) (u:=u) (w:=w) (f:=f) (d:=d) (t:=t) (xo:=xo) (yo:=yo) (k:=n) (n:=10) (x:=10) rfl hr (by decide)
 have quo:=fun{K u w f d t xo yo}=>ac9 (P:=Tryz.prog) (K:=K) (u:=u) (w:=w) (f:=f) (d:=d) (t:=t) (xo:=xo) (yo:=yo) (k:=n) (n:=10) (x:=10) rfl hq (by decide) hn
 have b1:Below w.heap.size w (w.alloc (.cells #[.int .u8 (48+(r:Int))] 5)):=(Below.refl _ _).alloc (Nat.le_refl _) _
 have hc:(w.alloc (.cells #[.int .u8 (48+(r:Int))] 5)).cell? ⟨w.heap.size,0,none⟩=some (.int .u8 ((UInt8.ofNat (48+r)).toNat:Int)):=by
  have:=(aE.new w 5 [.int .u8 (48+(r:Int))]).cell 0
  rw[abT alR]
  exact this
 simp(disch:=omega)only[push_cast,aa,↓reduceIte,Nat.reduceEqDiff,Int.reduceEq,aat,rem,Ed,adx,adM]
 generalize w.alloc (.cells #[.int .u8 (48+(r:Int))] 5)=w1 at b1 hc ⊢
 by_cases c:n<10
 case pos=>
  have c':(n:Int)<10:=by omega
  simp(disch:=omega)only[push_cast,aa,↓reduceIte,Nat.reduceEqDiff,Int.reduceEq,abS hc,c']
  exact aF (hQ _ _ ⟨by
   rw[abm c,show n=r by omega];rfl,b1⟩)
 have c':¬(n:Int)<10:=by omega
 simp(disch:=omega)only[push_cast,aa,↓reduceIte,Nat.reduceEqDiff,Int.reduceEq,abS hc,c',quo]
 refine ah (ih q (by omega) (by omega) w1) ?_
 rintro v w2 ⟨rfl,b2⟩
 have hl:=ZB (n:=q) (by omega)
 simp(disch:=first|with_reducible assumption|omega|(simp only[List.length_append,List.length_cons,List.length_nil];omega))only[push_cast,aa,↓reduceIte,Nat.reduceEqDiff,Int.reduceEq,wH]
 exact aF (hQ _ _ ⟨by rw[aci c,hr,hq];rfl,b1.trans (b2.mono b1.size)⟩)
theorem acz{w:World}{s:ByteArray}:dw Tryz.prog 10 [.string s] w fun v w'=>v= .int .i64 (abR s.data.toList)∧Below w.heap.size w w':=by
 refine abO (by simp) 1000 fun Q hQ=>?_
 by_cases jZ:s=ByteArray.mk #[97,108,108]
 case pos=>
  simp(disch:=omega)only[push_cast,aa,↓reduceIte,Nat.reduceEqDiff,Int.reduceEq,aar,eq_true jZ]
  exact aF (hQ _ _ ⟨by rw[jZ];rfl,Below.refl _ _⟩)
 have ha:s.data.toList≠UJ:=fun e=>jZ (sy e)
 simp(disch:=omega)only[push_cast,aa,↓reduceIte,Nat.reduceEqDiff,Int.reduceEq,aar,jZ]
 refine ax (fun f w'=>∃n:Nat,n≤1001∧(f 0= .string s∧f 3= .int .i64 n)∧(∀m,m<n→Lib.decDigits m≠s.data.toList)∧Below w.heap.size w w')
  (fun f _=>1001-(intOf (f 3)).toNat) ⟨0,by decide,⟨rfl,rfl⟩,fun m h=>absurd h (by omega),Below.refl _ _⟩ ?_
 rintro f w1 ⟨n,hn,fr,gY,b1⟩ J hJ
 have gZ:(intOf (f 3)).toNat=n:=by rw[fr.2];simp[intOf]
 by_cases aI:(n:Int)≤1000
 case neg=>
  simp(disch:=omega)only[push_cast,aa,↓reduceIte,Nat.reduceEqDiff,Int.reduceEq,aan,fr,aI]
  exact aF (hQ _ _ ⟨by rw[acr ha fun m hm=>gY m (by omega)];rfl,b1⟩)
 simp(disch:=omega)only[push_cast,aa,↓reduceIte,Nat.reduceEqDiff,Int.reduceEq,aan,fr,aI]
 refine ah (Jc n (by omega) w1) ?_
 rintro v w2 ⟨rfl,b2⟩
 have bb:=b1.trans (b2.mono b1.size)
 by_cases hs:(⟨(Lib.decDigits n).toArray⟩:ByteArray)=s
 case pos=>
  simp(disch:=omega)only[push_cast,aa,↓reduceIte,Nat.reduceEqDiff,Int.reduceEq,fr,eq_true hs]
  exact aF (hQ _ _ ⟨by rw[adl ha (n:=n) (by omega) (by rw[←hs])];simp only[push_cast,↓reduceIte,Nat.reduceEqDiff,fr],bb⟩)
 simp(disch:=omega)only[push_cast,aa,↓reduceIte,Nat.reduceEqDiff,Int.reduceEq,fr,hs]
 exact hJ _ _ ⟨n+1,by omega,(by simp only[push_cast,↓reduceIte,Nat.reduceEqDiff,true_and,and_true,and_self,eq_self,fr]),fun m hm=>by
  by_cases e:m=n
  ·rw[e];exact fun e2=>hs (by rw[e2,qk])
  ·exact gY m (by omega),bb⟩ (by simp only[push_cast,↓reduceIte,Nat.reduceEqDiff,intOf,fr];omega)
open Go.RowKit
abbrev ady:ByteArray:=ByteArray.mk #[99,117,114,114,101,110,116]
abbrev acA:ByteArray:=ByteArray.mk #[105,110,105,116,105,97,108]
abbrev adE:ByteArray:=ByteArray.mk #[115,116,101,112,115]
abbrev ahk:ByteArray:=ByteArray.mk #[100,101,108,97,121]
abbrev ahp:ByteArray:=ByteArray.mk #[107,101,101,112]
abbrev ahq:ByteArray:=ByteArray.mk #[118,101,105,108]
noncomputable def abo(p:Pj)(s x:ByteArray)(L:List ByteArray)(aU:Int):List UInt8:=
 if x=ady∨x=acA then(if s=acA then Zu p else Zt p)else if x=adE then UC p aU else if x=ahk then Zv p else if x=ahp then Qs p else if x=ahq then GY p else Mr p L
theorem ab6:(ByteArray.mk #[98,97,100,32])=⟨([98,97,100,32]:List UInt8).toArray⟩:=rfl
theorem acF:(ByteArray.mk #[118,101,105,108,32])=⟨([118,101,105,108,32]:List UInt8).toArray⟩:=rfl
theorem aeu{p:Pj}(hF:p.Ip):(mF p).m.events=p.E.length:=hF.ev
theorem acQ{E:List ByteArray}(hn:qm E){b:Bool}{u:List Int}(hu:ye u E.length)(lu:u.length≤100000):(uG E b u).length≤4000000:=by
 have h1:=yx hn hu
 unfold uG
 split
 ·simp only[List.length_append,List.length_cons,List.length_nil];omega
 ·decide
set_option maxHeartbeats 4000000 in
theorem abK{w:World}(hP:G5 w){a:JV}{p:Pj}(hJ:C9 (·<w.heap.size) w a p)(hF:p.Ip)(s:ByteArray){A:Option Addr}{c:Nat}{x:ByteArray}{L:List ByteArray}(hW:dE (·<w.heap.size) w A (x :: L))(hl:L.length≤17592186043904)(aU:Int):
  dw Tryz.prog 11 [a.val p,.string s,.slice A (x :: L).length c,.int .i64 aU] w fun v w'=>(v= .string ⟨(abo p s x L aU).toArray⟩∧(abo p s x L aU).length≤4000000)∧Below w.heap.size w w':=by
 have nE:p.E.length≤17592186043904:=Nat.le_trans hF.e8 (by decide)
 have nS:p.S.length≤17592186043904:=Nat.le_trans hF.s6 (by decide)
 refine abA (by simp) 10000 fun Q hQ=>?_
 simp(disch:=omega)only[push_cast,aa,↓reduceIte,Nat.reduceEqDiff,Int.reduceEq,aaB]
 refine au (aO _ (a.cells p)) ?_
 intro w1 k1 b1 z1
 simp(disch:=omega)only[push_cast,aa,↓reduceIte,Nat.reduceEqDiff,Int.reduceEq,k1.jM,k1.j1,k1.j4,Tc]
 refine au (cs:=[.int .i64 0,.int .i64 0,.slice none 0 0,.slice none 0 0,.slice none 0 0,.slice none 0 0,.slice none 0 0]) abi ?_
 intro w2 k2 b2 z2
 simp(disch:=omega)only[push_cast,aa,↓reduceIte,Nat.reduceEqDiff,Int.reduceEq]
 refine aC k2 (cs:=(Ta a).cells (mF p)) wh rfl (by simp[Value.oneCell']) ?_
 intro w3 k3 g3 z3
 have ML:=g3.below b2 b2.size (by intro a ha;injection ha with ha;subst ha;exact Nat.le_refl _)
 have b3:=b1.trans (ML.mono b1.size)
 have kJ:=k1.below ML k1.lt
 have QX:=hJ.up b3
 have hW3:=dE.Vh hW b3
 have sA:=hW.isSome (by simp)
 have l0:(0:Int)<((x :: L).length:Nat):=by rw[List.length_cons];omega
 simp(disch:=omega)only[push_cast,aa,↓reduceIte,Nat.reduceEqDiff,Int.reduceEq,l0,sA,Int.toNat_zero,dE.ld (i:=0) hW3 (s:=x) rfl]
 have iP:=QX.FZ
 have cx:=ML
 by_cases hci:x=ady∨x=acA
 ·have hq:abo p s x L aU=if s=acA then Zu p else Zt p:=if_pos hci
  rw[hq]at hQ
  rcases hci with hx|hx
  case' inl=>simp(disch:=omega)only[push_cast,aa,↓reduceIte,Nat.reduceEqDiff,Int.reduceEq,eq_true hx]
  case' inr=>
   have QQ:¬x=ady:=by rw[hx];decide
   simp(disch:=omega)only[push_cast,aa,↓reduceIte,Nat.reduceEqDiff,Int.reduceEq,QQ,eq_true hx]
  all_goals
   simp(disch:=omega)only[push_cast,aa,↓reduceIte,Nat.reduceEqDiff,Int.reduceEq,k3.J4]
   refine ah (QC hF iP) ?_
   rintro v w4 ⟨b,O,co,o,e,rfl,hO,ho,b4,⟨e',hI⟩,fN⟩
   replace cx:=cx.trans (b4.mono cx.size)
   by_cases hs:s=acA
   case' pos=>
    rw[if_pos hs]at hQ
    have iP4:=(QX.up b4).FZ
    have k4:=k3.below b4 k3.lt
    simp(disch:=omega)only[push_cast,aa,↓reduceIte,Nat.reduceEqDiff,Int.reduceEq,wy,wz,wC,eq_true hs,k4.J4]
    refine ah (QD hF iP4) ?_
    rintro v w5 ⟨b,O,co,o,e,rfl,hO,ho,b5,⟨e',hI⟩,fN⟩
    replace cx:=cx.trans (b5.mono cx.size)
    rw[Kv hI]at hQ
    simp(disch:=omega)only[push_cast,aa,↓reduceIte,Nat.reduceEqDiff,Int.reduceEq,wy,wz,wC]
   case' neg=>
    rw[if_neg hs,Ku hI]at hQ
    simp(disch:=omega)only[push_cast,aa,↓reduceIte,Nat.reduceEqDiff,Int.reduceEq,wy,wz,wC,hs]
  all_goals
   have bb:=b1.trans (cx.mono b1.size)
   have hl5:=acQ hF.E (b:=b) fN ho
   have hJ5:=hJ.up bb
   have kJ5:=k1.below cx k1.lt
   cases b with
   |false=>
    simp(disch:=omega)only[push_cast,aa,↓reduceIte,Nat.reduceEqDiff,Int.reduceEq]
    exact aF (hQ _ _ ⟨⟨rfl,hl5⟩,bb⟩)
   |true=>
    simp(disch:=omega)only[push_cast,aa,↓reduceIte,Nat.reduceEqDiff,Int.reduceEq,kJ5.jE,G6]
    refine ah (aak [108,101,97,107] (by decide) hJ5.E a.cE hF.E nE hO co fN ho) ?_
    rintro v w6 ⟨rfl,s6⟩
    simp(disch:=omega)only[push_cast,aa,↓reduceIte,Nat.reduceEqDiff,Int.reduceEq]
    exact aF (hQ _ _ ⟨⟨rfl,hl5⟩,bb.trans (s6.below _)⟩)
 have QQ:¬x=ady:=fun e=>hci (.inl e)
 have Tq:¬x=acA:=fun e=>hci (.inr e)
 unfold abo at hQ
 rw[if_neg hci]at hQ
 by_cases h1:x=adE
 ·rw[if_pos h1]at hQ
  simp(disch:=omega)only[push_cast,aa,↓reduceIte,Nat.reduceEqDiff,Int.reduceEq,QQ,Tq,eq_true h1,k3.J4]
  refine ah (IE iP hF.fits aU) ?_
  rintro v w4 ⟨b,U,cu,u,V,cv,y,e4,rfl,hU,hV,lU,lV,b4,hI⟩
  replace cx:=cx.trans (b4.mono cx.size)
  have bb:=b1.trans (cx.mono b1.size)
  have hJ5:=hJ.up bb
  have kJ5:=k1.below cx k1.lt
  obtain⟨iu,iv⟩:=hI.Zs
  rw[aeu hF]at iu iv
  have Vl:=Mt hF.E (b:=b) iu iv lU lV
  rw[UD hI]at hQ
  simp(disch:=omega)only[push_cast,aa,↓reduceIte,Nat.reduceEqDiff,Int.reduceEq,Jl,Jm,Jn,Jo]
  cases b with
  |false=>
   simp(disch:=omega)only[push_cast,aa,↓reduceIte,Nat.reduceEqDiff,Int.reduceEq]
   exact aF (hQ _ _ ⟨⟨rfl,Vl⟩,bb⟩)
  |true=>
   have su:=yx hF.E iu
   simp(disch:=omega)only[push_cast,aa,↓reduceIte,Nat.reduceEqDiff,Int.reduceEq,kJ5.jE,G6]
   refine ah (aak [108,101,97,107] (by decide) hJ5.E a.cE hF.E nE hU cu iu lU) ?_
   rintro v w5 ⟨rfl,s5⟩
   have kJ6:=kJ5.same s5
   simp(disch:=first|with_reducible assumption|omega|(simp only[List.length_append,List.length_cons,List.length_nil];omega))only[push_cast,aa,↓reduceIte,Nat.reduceEqDiff,Int.reduceEq,UL,wH,kJ6.jE]
   refine ah (aak ([108,101,97,107]++sp (D8 p.E u)++[32,124]) (by simp only[List.length_append,List.length_cons,List.length_nil];omega) (dE.same hJ5.E s5) a.cE hF.E nE (hV.same s5) cv iv lV) ?_
   rintro v w6 ⟨rfl,s6⟩
   simp(disch:=omega)only[push_cast,aa,↓reduceIte,Nat.reduceEqDiff,Int.reduceEq]
   exact aF (hQ _ _ ⟨⟨rfl,Vl⟩,bb.trans ((s5.trans s6).below _)⟩)
 rw[if_neg h1]at hQ
 by_cases h2:x=ahk
 ·rw[if_pos h2]at hQ
  simp(disch:=omega)only[push_cast,aa,↓reduceIte,Nat.reduceEqDiff,Int.reduceEq,QQ,Tq,h1,eq_true h2,kJ.jM,kJ.j1,kJ.j3]
  refine ah (Ca QX.m hF.J1 QX.seen hF.sm.n1 QX.av hF.sm.n3) ?_
  rintro v w4 ⟨d,e,rfl,Co,hD,b4⟩
  replace cx:=cx.trans (b4.mono cx.size)
  have bb:=b1.trans (cx.mono b1.size)
  have hA:=UF hD
  simp(disch:=omega)only[push_cast,aa,↓reduceIte,Nat.reduceEqDiff,Int.reduceEq,ef,eh]
  by_cases c:d<0
  ·rw[UE,if_pos c]at hA
   rw[hA]at hQ
   simp(disch:=omega)only[push_cast,aa,↓reduceIte,Nat.reduceEqDiff,Int.reduceEq,c]
   exact aF (hQ _ _ ⟨⟨rfl,by decide⟩,bb⟩)
  ·rw[UE,if_neg c]at hA
   obtain⟨n,rfl⟩:∃n:Nat,d=n:=⟨d.toNat,by omega⟩
   rw[hA,SG]at hQ
   have hdl:=ZB (n:=n) (by omega)
   simp(disch:=omega)only[push_cast,aa,↓reduceIte,Nat.reduceEqDiff,Int.reduceEq,c]
   refine ah (Jc n (by omega) w4) ?_
   rintro v w5 ⟨rfl,b5⟩
   simp(disch:=omega)only[push_cast,aa,↓reduceIte,Nat.reduceEqDiff,Int.reduceEq]
   exact aF (hQ _ _ ⟨⟨rfl,by omega⟩,bb.trans (b5.mono bb.size)⟩)
 rw[if_neg h2]at hQ
 by_cases h3:x=ahp
 ·rw[if_pos h3]at hQ
  simp(disch:=omega)only[push_cast,aa,↓reduceIte,Nat.reduceEqDiff,Int.reduceEq,QQ,Tq,h1,h2,eq_true h3,kJ.jM,kJ.j2,kJ.j4]
  refine ah (EL QX.m hF.J1 QX.free QX.aK hF.sm.n2 hF.sm.n4) ?_
  rintro v w4 ⟨O,co,o,e,rfl,hO,b4,q1,q2⟩
  have hK:qC p.m p.free p.aK o:=⟨fun c=>(q1 c).2,fun c=>(q2 c).2⟩
  obtain⟨fN,hol⟩:=QE hF hK
  have hs:=yx hF.S fN
  replace cx:=cx.trans (b4.mono cx.size)
  have bb:=b1.trans (cx.mono b1.size)
  have hJ5:=hJ.up bb
  have kJ5:=k1.below cx k1.lt
  rw[GX hK]at hQ
  simp(disch:=omega)only[push_cast,aa,↓reduceIte,Nat.reduceEqDiff,Int.reduceEq,ef,eh,kJ5.jS,Qu]
  refine ah (aak [107,101,101,112] (by decide) hJ5.S a.cS hF.S nS (cQ.ints hO) co fN (by omega)) ?_
  rintro v w5 ⟨rfl,s5⟩
  simp(disch:=omega)only[push_cast,aa,↓reduceIte,Nat.reduceEqDiff,Int.reduceEq]
  exact aF (hQ _ _ ⟨⟨rfl,by
   rw[List.length_append]
   simp only[List.length_cons,List.length_nil];omega⟩,bb.trans (s5.below _)⟩)
 rw[if_neg h3]at hQ
 by_cases h4:x=ahq
 ·rw[if_pos h4]at hQ
  simp(disch:=omega)only[push_cast,aa,↓reduceIte,Nat.reduceEqDiff,Int.reduceEq,QQ,Tq,h1,h2,h3,eq_true h4,k3.J4,kJ.j2]
  refine ah (yw iP hF.fits (hP.on b3).t.t QX.free hF.sm.n2) ?_
  rintro v w4 hv
  obtain⟨An,n,cn,Am,m,cm,ok,e,rfl,hT,he,hn,hm,b4⟩:=vH hv
  replace cx:=cx.trans (b4.mono cx.size)
  simp(disch:=omega)only[push_cast,aa,↓reduceIte,Nat.reduceEqDiff,Int.reduceEq,wy,wz,wC]
  refine au (cs:=ko) Fs ?_
  intro w5 k5 b5 z5
  simp(disch:=omega)only[push_cast,aa,↓reduceIte,Nat.reduceEqDiff,Int.reduceEq]
  refine aC k5 (cs:=CY An n cn Am m cm) (iX _ _ _ _ _ _) rfl rfl ?_
  intro w6 k6 g6 z6
  have Hy:=cx.size
  replace cx:=cx.trans (b5.mono cx.size)
  replace cx:=g6.below cx cx.size (by intro a ha;injection ha with ha;subst ha;exact Hy)
  have bb:=b1.trans (cx.mono b1.size)
  have hl6:=yy (ok:=ok) he hn hm
  rw[Ch hT]at hQ
  obtain⟨j,rfl⟩:∃j:Nat,e=j:=⟨e.toNat,by omega⟩
  by_cases h0:(j:Int)=0
  case neg=>
   have hdl:=ZB (n:=j) (by omega)
   simp(disch:=omega)only[push_cast,aa,↓reduceIte,Nat.reduceEqDiff,Int.reduceEq,h0]
   refine ah (Jc j (by omega) w6) ?_
   rintro v w7 ⟨rfl,b7⟩
   simp(disch:=first|with_reducible assumption|omega|(simp only[List.length_append,List.length_cons,List.length_nil];omega))only[push_cast,aa,↓reduceIte,Nat.reduceEqDiff,Int.reduceEq,ab6,wH]
   exact aF (hQ _ _ ⟨⟨by unfold DK qt;rw[if_neg h0,List.flatMap_singleton,SG];rfl,hl6⟩,bb.trans (b7.mono bb.size)⟩)
  cases ok with
  |false=>
   simp(disch:=omega)only[push_cast,aa,↓reduceIte,Nat.reduceEqDiff,Int.reduceEq,h0,QB]
   exact aF (hQ _ _ ⟨⟨by unfold DK;rw[if_pos h0];rfl,hl6⟩,bb⟩)
  |true=>
   have sd:=(Same.refl w6).drew
   have k7:=k6.same sd
   have dn:=ZB (n:=n) (by omega)
   have dm:=ZB (n:=m) (by omega)
   simp(disch:=omega)only[push_cast,aa,↓reduceIte,Nat.reduceEqDiff,Int.reduceEq,h0]
   generalize hu:w6.drew=w7 at*
   simp(disch:=omega)only[push_cast,aa,↓reduceIte,Nat.reduceEqDiff,Int.reduceEq,hu,k7.ld (P:=Tryz.prog) Fq 0 (by simp),k7.ld (P:=Tryz.prog) A4 1 (by simp),List.getD_cons_zero,List.getD_cons_succ]
   refine ah (Jc n (by omega) w7) ?_
   rintro v w8 ⟨rfl,b8⟩
   refine⟨b8,?_⟩
   simp(disch:=first|with_reducible assumption|omega|(simp only[List.length_append,List.length_cons,List.length_nil];omega))only[push_cast,aa,↓reduceIte,Nat.reduceEqDiff,Int.reduceEq,acF,Db,wH]
   refine ah (Jc m (by omega) w8) ?_
   rintro v w9 ⟨rfl,b9⟩
   have b89:=b8.trans (b9.mono b8.size)
   refine⟨b89,?_⟩
   simp(disch:=first|with_reducible assumption|omega|(simp only[List.length_append,List.length_cons,List.length_nil];omega))only[push_cast,aa,↓reduceIte,Nat.reduceEqDiff,Int.reduceEq,wH]
   have Cr:=bb.trans (sd.below w.heap.size)
   exact aF (hQ _ _ ⟨⟨by
    unfold DK qt
    rw[if_pos h0,if_pos rfl]
    simp[SG,UQ],hl6⟩,Cr.trans (b89.mono Cr.size)⟩)
 rw[if_neg h4]at hQ
 simp(disch:=omega)only[push_cast,aa,↓reduceIte,Nat.reduceEqDiff,Int.reduceEq,QQ,Tq,h1,h2,h3,h4]
 refine ax (fun f w'=>∃(k:Nat) (O:Option Addr) (co:Nat),k≤L.length∧(f 2= .slice A (x :: L).length c∧f 4= .pointer (some ⟨w.heap.size,0,none⟩)∧f 25= .slice O (I8 p.E (L.take k)).length co∧f 26= .int .i64 ((k+1:Nat):Int))∧(∀y∈I8 p.E (L.take k),0≤y)∧cQ w1.heap.size 3 w' O co (I8 p.E (L.take k))∧Below w1.heap.size w1 w')
  (fun f _=>L.length+1-(intOf (f 26)).toNat) ⟨0,none,0,Nat.zero_le _,⟨rfl,rfl,rfl,rfl⟩,(fun y hy=>by cases hy),Own.nil _ _ _ _,cx⟩ ?_
 clear cx
 rintro f w4 ⟨k,O,co,hk,fr,L8,o4,cx⟩ J hJ'
 have gZ:(intOf (f 26)).toNat=k+1:=by rw[fr.2.2.2];simp[intOf]
 have bb:=b1.trans (cx.mono b1.size)
 have hJ4:=hJ.up bb
 have kJ4:=k1.below cx k1.lt
 have sG:(I8 p.E (L.take k)).length=k:=by rw[UN,List.length_take];omega
 by_cases aI:k<L.length
 case neg=>
  obtain rfl:k=L.length:=by omega
  rw[List.take_length]at L8 o4 sG fr
  have hn:¬((L.length:Int)+1<((x :: L).length:Nat)):=by rw[List.length_cons];omega
  have h6:=hF.s6
  have e6:=hF.st
  simp(disch:=omega)only[push_cast,aa,↓reduceIte,Nat.reduceEqDiff,Int.reduceEq,aai,fr,hn,kJ4.jM,kJ4.jst]
  refine ah (CL hJ4.m hF.J1 (hP.on bb).t.t hJ4.m.aB (Ints.lt (cQ.ints o4)) hF.sm.s (by omega)) ?_
  rintro v w5 ⟨O2,c2,o,e,rfl,o2,b5,r1,r2,r3⟩
  have ho:ER p.m (I8 p.E L)=o:=UG ⟨fun c=>(r1 c).2,fun c=>(r2 c).2,fun c=>(r3 c).2⟩
  have XX:=Qz (m:=p.m) (l:=I8 p.E L)
  have fN:=UH (m:=p.m) (l:=I8 p.E L)
  rw[ho]at XX fN
  rw[show p.m.aj=p.S.length from hF.st]at fN
  have hs:=yx hF.S fN
  have re:=bb.trans (b5.mono bb.size)
  have hJ5:=hJ4.up b5
  have kJ5:=kJ4.below b5 kJ4.lt
  simp(disch:=omega)only[push_cast,aa,↓reduceIte,Nat.reduceEqDiff,Int.reduceEq,fr,ef,eh,kJ5.jS,Zw]
  refine ah (aak [97,116] (by decide) hJ5.S a.cS hF.S nS (cQ.ints o2) c2 fN (by omega)) ?_
  rintro v w6 ⟨rfl,s6⟩
  simp(disch:=omega)only[push_cast,aa,↓reduceIte,Nat.reduceEqDiff,Int.reduceEq]
  exact aF (hQ _ _ ⟨⟨by rw[Kw L8,ho];rfl,by
   rw[Kw L8,ho,List.length_append]
   simp only[List.length_cons,List.length_nil];omega⟩,re.trans (s6.below _)⟩)
 have hy:L[k]? =some L[k]:=List.getElem?_eq_getElem aI
 have HP:L[k]∈L:=List.getElem_mem aI
 generalize L[k]=y at hy HP
 have pC:(x :: L)[k+1]? =some y:=by simpa using hy
 have pD:=Qy p.E hy
 have ahs:(k:Int)+1<((x :: L).length:Nat):=by rw[List.length_cons];omega
 have tn:Int.toNat ((k:Int)+1)=k+1:=by omega
 have e8:=hF.e8
 have sd:=(Same.refl w4).drew
 have hW4:=dE.same (dE.Vh hW bb) sd
 have hJd:=hJ4.up (sd.below _)
 have kd:=kJ4.same sd
 have od:=o4.same sd
 have cd:=cx.trans (sd.below _)
 simp(disch:=omega)only[push_cast,aa,↓reduceIte,Nat.reduceEqDiff,Int.reduceEq,aai,fr,ahs]
 generalize hu:w4.drew=u at*
 simp(disch:=omega)only[push_cast,aa,↓reduceIte,Nat.reduceEqDiff,Int.reduceEq,fr,hu,ahs,sA,tn,dE.ld hW4 pC,kd.jE]
 refine ah (acf hJd.E a.cE (by omega) y) ?_
 rintro v w5 ⟨rfl,s5⟩
 have re:=(bb.trans (by rw[←hu];exact(Same.refl w4).drew.below _:Below w.heap.size w4 u)).trans (s5.below _)
 by_cases hn:jW y p.E<0
 case pos=>
  simp(disch:=omega)only[push_cast,aa,↓reduceIte,Nat.reduceEqDiff,Int.reduceEq,fr,hn]
  exact aF (hQ _ _ ⟨⟨by rw[G8 HP hn];rfl,by rw[G8 HP hn];decide⟩,re⟩)
 have o5:=od.same s5
 have c5:=cd.trans (s5.below _)
 simp(disch:=omega)only[push_cast,aa,↓reduceIte,Nat.reduceEqDiff,Int.reduceEq,fr,hn,yS]
 refine tu fq o5 (jW y p.E) (by omega) c5.size ?_
 intro O' co' w6 o6 g6 _ _ z6
 simp(disch:=omega)only[push_cast,aa,↓reduceIte,Nat.reduceEqDiff,Int.reduceEq,fr]
 exact hJ' _ _ ⟨k+1,O',co',aI,(by simp only[push_cast,↓reduceIte,Nat.reduceEqDiff,true_and,and_true,and_self,eq_self,fr,pD,List.length_append,List.length_singleton]),(fun z hz=>by
  rw[pD]at hz
  rcases List.mem_append.1 hz with hz|hz
  ·exact L8 z hz
  ·rw[List.mem_singleton.1 hz];omega),by rw[pD];exact o6,g6.below c5 c5.size o5.uh⟩ (by simp only[push_cast,↓reduceIte,Nat.reduceEqDiff,intOf,fr];omega)
open Go.RowKit
theorem QK{P:Program}{K:Fr→World→Prop}{u:World}{f:Fr}{d:Option Nat}{w:World}{t:TypeId}(ht:P.underlying t=some .string)(s:ByteArray)(b:Nat)(hb:b≤s.size):
  aq P K (Instr.sliceAt t (.string s) none (some (.int .i64 b)) none) u f d w=K (ai f d (.string (s.extract 0 b))) w:=
 aM u f d w fun w' _=>by
  have h2:(0:Int)≤(b:Int)∧(b:Int)≤(s.size:Int):=by omega
  simp[Instr.sliceAt,run_underlying ht,Instr.slice,Instr.sliceBounds,Instr.sliceBound,asIntOf,h2,hb]
theorem aek:(ByteArray.mk #[63])=⟨([63]:List UInt8).toArray⟩:=rfl
open Go.RowKit
theorem aam{P:Program}{Rc:Value→World→Prop}{a t t' g s r:Nat}{cs:List Value}{f:Fr}{w:World}(hk:aE w g t' cs)(ht:aR P t=some true)(hs:aL P t=some cs.length)
  (hf:f a= .pointer (some ⟨g,0,none⟩))(h:Rc (.tuple #[f s,.agg cs.toArray,f r]) w):iM P #[.tmp s,.cell a t,.tmp r] Rc f w:=by
 refine⟨_,fun fn tmps hr fO=>?_,h⟩
 have e:tmps.getD a undef= .pointer (some ⟨g,0,none⟩):=by rw[fO,hf]
 have e2:tmps[a]?.getD undef= .pointer (some ⟨g,0,none⟩):=by simpa using e
 have e3:tmps[s]?.getD undef=f s:=by simpa using fO s
 have e4:tmps[r]?.getD undef=f r:=by simpa using fO r
 unfold aR at ht
 unfold aL at hs
 cases hu:P.underlying t with
 |none=>simp[hu]at ht
 |some de=>
  cases hi:P.info? t with
  |none=>simp[hi]at hs
  |some ie=>
   simp only[hi,Option.map_some,Option.some.injEq]at hs
   simp only[hu,Option.map_some,Option.some.injEq]at ht
   have eM:=run_loadCells_list (P:=P) w ⟨g,0,none⟩ cs (fun j v hv=>by rw[addr_add,Nat.zero_add,hk.cell,hv])
   cases de<;>simp at ht<;>simp[results,hr,e2,e3,e4,asAddr,loadVar,isAgg,run_underlying hu,sizeOf,typeInfo,hi,hs,eM]
theorem adm{P:Program}{K:Fr→World→Prop}{u:World}{f:Fr}{d:Option Nat}{w:World}{t:TypeId}(ht:P.underlying t=some .string)(s:ByteArray)(a:Nat)(ha:a≤s.size):
  aq P K (Instr.sliceAt t (.string s) (some (.int .i64 a)) none none) u f d w=K (ai f d (.string (s.extract a s.size))) w:=
 aM u f d w fun w' _=>by
  have h2:(0:Int)≤(a:Int)∧(a:Int)≤(s.size:Int):=by omega
  simp[Instr.sliceAt,run_underlying ht,Instr.slice,Instr.sliceBounds,Instr.sliceBound,asIntOf,h2,ha]
theorem abl{K:Fr→World→Prop}{u:World}{f:Fr}{d:Option Nat}{w:World}(s:ByteArray)(b:Nat)(x:Int)(hx:(b:Int)=x)(hb:b≤s.size):
  aq Tryz.prog K (Instr.sliceAt 9 (.string s) none (some (.int .i64 x)) none) u f d w=K (ai f d (.string (s.extract 0 b))) w:=hx▸QK Fz s b hb
theorem aca{K:Fr→World→Prop}{u:World}{f:Fr}{d:Option Nat}{w:World}(s:ByteArray)(b:Nat)(x:Int)(hx:(b:Int)=x)(hb:b≤s.size):
  aq Tryz.prog K (Instr.sliceAt 9 (.string s) (some (.int .i64 x)) none none) u f d w=K (ai f d (.string (s.extract b s.size))) w:=hx▸adm Fz s b hb
theorem abV(s p:ByteArray):Lib.hasPrefix s.data.toList p.data.toList=true↔p.size≤s.size∧s.extract 0 p.size=p:=by
 rw[←Lib.hasPrefix_raw,Bool.and_eq_true,HK,decide_eq_true_iff,decide_eq_true_iff]
theorem acb{s p:ByteArray}(h:Lib.hasPrefix s.data.toList p.data.toList=true):(⟨(Lib.trimPrefix s.data.toList p.data.toList).toArray⟩:ByteArray)=s.extract p.size s.size:=by
 obtain⟨h1,h2⟩:=(abV s p).1 h
 exact Lib.trimPrefix_hit s p h1 (by rw[h2,HK];simp)
theorem acR{s:ByteArray}(h:s∈G9):EU s.data.toList=[s]:=by
 simp only[List.mem_cons,List.not_mem_nil,or_false]at h
 rcases h with rfl|rfl|rfl|rfl|rfl<;>rfl
theorem acS{S:List UInt8}(h:Lib.hasPrefix S G3=true):∃L,EU S=adE :: L:=by
 obtain⟨R,rfl⟩:=List.isPrefixOf_iff_prefix.1 h
 refine⟨EU R,?_⟩
 unfold EU
 have e:G3++R=[115,116,101,112,115]++32 :: R:=rfl
 rw[e,vg,List.map_append]
 rfl
theorem adH:(ByteArray.mk #[111,107,32])=⟨([111,107,32]:List UInt8).toArray⟩:=rfl
def abr(g:Nat)(st:Option Pj)(S:List UInt8)(w:World)(v:Value)(w':World):Prop:=
 ∃(a:JV) (p:Pj),v= .tuple #[.string ⟨(fe st S).1.toArray⟩,a.val p,.bool (fe st S).2.isSome]∧(fe st S).1.length≤4000000∧C9 (fun b=>b<w'.heap.size∧b≠g) w' a p∧(∀q,(fe st S).2=some q→p=q)∧Below w.heap.size w w'
theorem adI{p:Pj}{s:ByteArray}(h:s∈G9)(aU:Int):abo p s s [] aU=Ms p s.data.toList:=by
 rw[UO]
 simp only[List.mem_cons,List.not_mem_nil,or_false]at h
 unfold abo
 rcases h with rfl|rfl|rfl|rfl|rfl
 ·rw[if_pos (.inl rfl),if_neg (by decide),if_pos rfl]
 ·rw[if_pos (.inr rfl),if_pos rfl,if_neg (by decide),if_pos rfl]
 ·rw[if_neg (by decide),if_neg (by decide),if_pos rfl,if_neg (by decide),if_neg (by decide),if_pos rfl]
 ·rw[if_neg (by decide),if_neg (by decide),if_neg (by decide),if_pos rfl,if_neg (by decide),if_neg (by decide),if_neg (by decide),if_pos rfl]
 ·rw[if_neg (by decide),if_neg (by decide),if_neg (by decide),if_neg (by decide),if_pos rfl,if_neg (by decide),if_neg (by decide),if_neg (by decide),if_neg (by decide)]
theorem adJ{p:Pj}{s:ByteArray}{L:List ByteArray}{aU:Int}:abo p s adE L aU=UC p aU:=by
 unfold abo
 rw[if_neg (by decide),if_pos rfl]
abbrev alT:ByteArray:=ByteArray.mk #[114,117,110]
theorem adK{p:Pj}{s:ByteArray}{L:List ByteArray}{aU:Int}:abo p s alT L aU=Mr p L:=by
 unfold abo
 rw[if_neg (by decide),if_neg (by decide),if_neg (by decide),if_neg (by decide),if_neg (by decide)]
theorem adn{w:World}{s:ByteArray}(hs:s.size≤1000000000):
  dw Tryz.prog 5 [.string s,.int .u8 32] w fun v w'=>∃(L:List ByteArray) (A:Option Addr) (c:Nat),L.map (·.data.toList)=ck 32 s.data.toList∧v= .slice A L.length c∧bH zC w.heap.size 9 1 w' A c L∧Below w.heap.size w w':=abJ 32 hs
theorem ads{w:World}{s:ByteArray}(hs:s.size≤1000000000):
  dw Tryz.prog 5 [.string s,.int .u8 10] w fun v w'=>∃(L:List ByteArray) (A:Option Addr) (c:Nat),L.map (·.data.toList)=ck 10 s.data.toList∧v= .slice A L.length c∧bH zC w.heap.size 9 1 w' A c L∧Below w.heap.size w w':=abJ 10 hs
theorem adL{S:List UInt8}{n:Int}(h:td S=some n): -1≤n:=by
 unfold td at h
 split at h
 ·injection h with h;omega
 ·split at h
  ·split at h
   ·rename_i c
    injection h with h
    omega
   ·cases h
  ·cases h
set_option maxHeartbeats 4000000 in
theorem acT{w:World}(hP:G5 w){a:JV}{p:Pj}{st:Option Pj}{g:Nat}(hg:g<w.heap.size)(hG:C9 (fun b=>b<w.heap.size∧b≠g) w a p)(eU:∀q,st=some q→p=q)(hO:G4 st){s:ByteArray}(hs:s.size≤1000000000):
  dw Tryz.prog 6 [a.val p,.bool st.isSome,.string s] w (abr g st s.data.toList w):=by
 have hJ:C9 (·<w.heap.size) w a p:=hG.mono fun _ hy=>hy.1
 have hup:∀{w':World},Below w.heap.size w w'→C9 (fun b=>b<w'.heap.size∧b≠g) w' a p:=fun bb=>(hG.keep fun y hy=>bb.block y hy.1).mono fun y hy=>⟨Nat.lt_of_lt_of_le hy.1 bb.size,hy.2⟩
 refine abL (by simp) 10000 fun Q hQ=>?_
 simp(disch:=omega)only[push_cast,aa,↓reduceIte,Nat.reduceEqDiff,Int.reduceEq,abp]
 refine au (aO _ (a.cells p)) ?_
 intro w1 k1 b1 z1
 simp(disch:=omega)only[push_cast,aa,↓reduceIte,Nat.reduceEqDiff,Int.reduceEq]
 refine au (cs:=xv) N8 ?_
 intro w2 k2 b2 z2
 have y6:=k1.below b2 k1.lt
 have Hy:w1.heap.size≤w1.heap.size:=Nat.le_refl _
 have e1:(ByteArray.mk #[112,114,111,106,101,99,116,32]).data.toList=G1:=rfl
 have p1:=abV s (ByteArray.mk #[112,114,111,106,101,99,116,32])
 have p1':= @acb s (ByteArray.mk #[112,114,111,106,101,99,116,32])
 have z8:(ByteArray.mk #[112,114,111,106,101,99,116,32]).size=8:=rfl
 rw[e1,z8]at p1 p1'
 cases c1:Lib.hasPrefix s.data.toList G1 with
 |true=>
  obtain⟨h8,h8'⟩:=p1.1 c1
  replace p1':=p1' c1
  have h8i:(8:Int)≤(s.size:Nat):=by omega
  have hd8:=fun{K u f d w}=>abl (K:=K) (u:=u) (f:=f) (d:=d) (w:=w) s 8 8 rfl h8
  have tl8:=fun{K u f d w}=>aca (K:=K) (u:=u) (f:=f) (d:=d) (w:=w) s 8 8 rfl h8
  simp(disch:=omega)only[push_cast,aa,↓reduceIte,Nat.reduceEqDiff,Int.reduceEq,h8i,hd8,h8',tl8,zS,Option.map_none,Option.map_some]
  rw[←p1']
  have hz:=DL s G1
  refine ah (Gb (s:=⟨(Lib.trimPrefix s.data.toList G1).toArray⟩) (by omega) (hP.on (b1.trans (b2.mono b1.size))).t.p) ?_
  have e3:(⟨(Lib.trimPrefix s.data.toList G1).toArray⟩:ByteArray).data.toList=Lib.trimPrefix s.data.toList G1:=rfl
  rw[e3]
  have hla:fe st s.data.toList=(XQ (bf (Lib.trimPrefix s.data.toList G1)),XR st (bf (Lib.trimPrefix s.data.toList G1))):=by
   unfold fe
   rw[if_pos c1]
  have hal:=QI (l:=Lib.trimPrefix s.data.toList G1)
  have alV:= @Dv (Lib.trimPrefix s.data.toList G1)
  have abz:= @BI (Lib.trimPrefix s.data.toList G1)
  unfold abr at hQ
  rw[hla]at hQ
  rintro v w3 ⟨⟨b,rfl,hb,_⟩,b3⟩
  have cx:=b2.trans (b3.mono b2.size)
  generalize bf (Lib.trimPrefix s.data.toList G1)=r at*
  cases r with
  |error fl=>
   obtain⟨c,y⟩:=fl
   obtain⟨⟨c1,c2⟩,y1,y2⟩:=abz rfl
   simp only[oc,El]at hb
   simp(disch:=omega)only[push_cast,aa,↓reduceIte,Nat.reduceEqDiff,Int.reduceEq,oc,El,ef,eh]
   refine au (cs:=xv) N8 ?_
   intro w4 k4 b4 z4
   simp(disch:=omega)only[push_cast,aa,↓reduceIte,Nat.reduceEqDiff,Int.reduceEq]
   refine au (cs:=[.int .i64 0,.int .i64 0]) N9 ?_
   intro w5 k5 b5 z5
   simp(disch:=omega)only[push_cast,aa,↓reduceIte,Nat.reduceEqDiff,Int.reduceEq]
   refine aC (k4.below b5 k4.lt) (cs:=b.cells Xx) ml rfl (by simp[Value.oneCell']) ?_
   intro w6 k6 g6 z6
   simp(disch:=omega)only[push_cast,aa,↓reduceIte,Nat.reduceEqDiff,Int.reduceEq]
   refine aC (k5.grown g6.aJ (by simp;omega)) (cs:=[.int .i64 c,.int .i64 y]) mn rfl rfl ?_
   intro w7 k7 g7 z7
   have c45:=b4.trans (b5.mono b4.size)
   have c46:=g6.below c45 c45.size (by intro x hx;injection hx with hx;subst hx;exact Nat.le_refl _)
   have c47:=g7.below c46 c46.size (by intro x hx;injection hx with hx;subst hx;simp only;omega)
   have sd:=(Same.refl w7).drew
   have cy:=(b3.trans (c47.mono b3.size)).trans (sd.below _)
   replace cx:=(cx.trans (c47.mono cx.size)).trans (sd.below _)
   have kP:=(y6.below (b3.trans (c47.mono b3.size)) y6.lt).same sd
   have kR:=k2.below cy k2.lt
   have k7d:=k7.same sd
   obtain⟨n,rfl⟩:∃n:Nat,c=n:=⟨c.toNat,by omega⟩
   obtain⟨m,rfl⟩:∃m:Nat,y=m:=⟨y.toNat,by omega⟩
   have dn:=ZB (n:=n) (by omega)
   have dm:=ZB (n:=m) (by omega)
   have c0:¬(n:Int)=0:=by omega
   simp(disch:=omega)only[push_cast,aa,↓reduceIte,Nat.reduceEqDiff,Int.reduceEq,k7.ld (P:=Tryz.prog) Fo 0 (by simp),List.getD_cons_zero,List.getD_cons_succ,c0]
   generalize hu:w7.drew=u at*
   simp(disch:=omega)only[push_cast,aa,↓reduceIte,Nat.reduceEqDiff,Int.reduceEq,hu,k7d.ld (P:=Tryz.prog) Fo 0 (by simp),k7d.ld (P:=Tryz.prog) ak 1 (by simp),List.getD_cons_zero,List.getD_cons_succ,kP.jA]
   refine ah (Jc n (by omega) u) ?_
   rintro v w8 ⟨rfl,b8⟩
   refine⟨b8,?_⟩
   simp(disch:=first|with_reducible assumption|omega|(simp only[List.length_append,List.length_cons,List.length_nil];omega))only[push_cast,aa,↓reduceIte,Nat.reduceEqDiff,Int.reduceEq,ab6,Db,wH]
   refine ah (Jc m (by omega) w8) ?_
   rintro v w9 ⟨rfl,b9⟩
   have b89:=b8.trans (b9.mono b8.size)
   refine⟨b89,?_⟩
   simp(disch:=first|with_reducible assumption|omega|(simp only[List.length_append,List.length_cons,List.length_nil];omega))only[push_cast,aa,↓reduceIte,Nat.reduceEqDiff,Int.reduceEq,wH]
   replace cx:=cx.trans (b89.mono cx.size)
   refine aC (kR.below b89 kR.lt) (cs:=a.cells p) ml rfl (by simp[Value.oneCell']) ?_
   intro ws ks gs zs
   have bs:=gs.below cx cx.size (by intro a ha;injection ha with ha;subst ha;exact Hy)
   have bb:=b1.trans (bs.mono b1.size)
   simp(disch:=omega)only[push_cast,aa,↓reduceIte,Nat.reduceEqDiff,Int.reduceEq]
   exact aam ks Fm ml (by simp only[push_cast,↓reduceIte,Nat.reduceEqDiff,Int.reduceEq]) (hQ _ _ ⟨a,p,by simp[XQ,XR,qt,SG,UQ],hal,hup bb,eU,bb⟩)
  |ok q=>
   have hq:=alV rfl
   simp only[oc,El]at hb
   simp(disch:=omega)only[push_cast,aa,↓reduceIte,Nat.reduceEqDiff,Int.reduceEq,oc,El,ef,eh]
   refine au (cs:=xv) N8 ?_
   intro w4 k4 b4 z4
   simp(disch:=omega)only[push_cast,aa,↓reduceIte,Nat.reduceEqDiff,Int.reduceEq]
   refine au (cs:=[.int .i64 0,.int .i64 0]) N9 ?_
   intro w5 k5 b5 z5
   simp(disch:=omega)only[push_cast,aa,↓reduceIte,Nat.reduceEqDiff,Int.reduceEq]
   refine aC (k4.below b5 k4.lt) (cs:=b.cells q) ml rfl (by simp[Value.oneCell']) ?_
   intro w6 k6 g6 z6
   simp(disch:=omega)only[push_cast,aa,↓reduceIte,Nat.reduceEqDiff,Int.reduceEq]
   refine aC (k5.grown g6.aJ (by simp;omega)) (cs:=[.int .i64 0,.int .i64 0]) mn rfl rfl ?_
   intro w7 k7 g7 z7
   have c45:=b4.trans (b5.mono b4.size)
   have c46:=g6.below c45 c45.size (by intro x hx;injection hx with hx;subst hx;exact Nat.le_refl _)
   have c47:=g7.below c46 c46.size (by intro x hx;injection hx with hx;subst hx;simp only;omega)
   have sd:=(Same.refl w7).drew
   have cy:=(b3.trans (c47.mono b3.size)).trans (sd.below _)
   have cz:=c47.trans (sd.below w3.heap.size)
   replace cx:=(cx.trans (c47.mono cx.size)).trans (sd.below _)
   have kR:=k2.below cy k2.lt
   have kQ:=(k6.grown g7.aJ (by simp;omega)).same sd
   have h6:=hq.s6
   have h8:=hq.e8
   have f1:=hq.st
   have f2:=hq.ev
   have f3:=hq.sm.a
   obtain⟨n,hn⟩:∃n:Nat,q.m.aj=n:=⟨q.m.aj.toNat,by omega⟩
   obtain⟨m,hm⟩:∃m:Nat,q.m.events=m:=⟨q.m.events.toNat,by omega⟩
   have dn:=ZB (n:=n) (by omega)
   have dm:=ZB (n:=m) (by omega)
   have dl:=ZB (n:=q.m.ag.length) (by omega)
   simp(disch:=omega)only[push_cast,aa,↓reduceIte,Nat.reduceEqDiff,Int.reduceEq,k7.ld (P:=Tryz.prog) Fo 0 (by simp),List.getD_cons_zero,List.getD_cons_succ]
   generalize hu:w7.drew=u at*
   simp(disch:=omega)only[push_cast,aa,↓reduceIte,Nat.reduceEqDiff,Int.reduceEq,hu,kQ.ld (P:=Tryz.prog) ak 2 (by simp),kQ.ld (P:=Tryz.prog) ak 3 (by simp),kQ.jar,List.getD_cons_zero,List.getD_cons_succ,kQ.jA,hn,hm]
   refine ah (Jc n (by omega) u) ?_
   rintro v w8 ⟨rfl,b8⟩
   refine⟨b8,?_⟩
   simp(disch:=first|with_reducible assumption|omega|(simp only[List.length_append,List.length_cons,List.length_nil];omega))only[push_cast,aa,↓reduceIte,Nat.reduceEqDiff,Int.reduceEq,adH,Db,wH]
   refine ah (Jc m (by omega) w8) ?_
   rintro v w9 ⟨rfl,b9⟩
   have b89:=b8.trans (b9.mono b8.size)
   refine⟨b89,?_⟩
   simp(disch:=first|with_reducible assumption|omega|(simp only[List.length_append,List.length_cons,List.length_nil];omega))only[push_cast,aa,↓reduceIte,Nat.reduceEqDiff,Int.reduceEq,Db,wH]
   refine ah (Jc q.m.ag.length (by omega) w9) ?_
   rintro v uv ⟨rfl,fM⟩
   have b8a:=b89.trans (fM.mono b89.size)
   refine⟨b8a,?_⟩
   simp(disch:=first|with_reducible assumption|omega|(simp only[List.length_append,List.length_cons,List.length_nil];omega))only[push_cast,aa,↓reduceIte,Nat.reduceEqDiff,Int.reduceEq,wH]
   replace cx:=cx.trans (b8a.mono cx.size)
   replace cz:=cz.trans (b8a.mono cz.size)
   refine aC (kR.below b8a kR.lt) (cs:=b.cells q) ml rfl (by simp[Value.oneCell']) ?_
   intro ws ks gs zs
   have bs:=gs.below cx cx.size (by intro a ha;injection ha with ha;subst ha;exact Hy)
   have bb:=b1.trans (bs.mono b1.size)
   have bt:ff w3.heap.size w1.heap.size w3 ws:=(ff.of cz (Nat.le_refl _)).trans (ff.cell gs cz.size)
   simp(disch:=omega)only[push_cast,aa,↓reduceIte,Nat.reduceEqDiff,Int.reduceEq]
   exact aam ks Fm ml (by simp only[push_cast,↓reduceIte,Nat.reduceEqDiff,Int.reduceEq]) (hQ _ _ ⟨b,q,by simp[XQ,XR,qt,SG,UQ,hn,hm],hal,(hb.keep fun y hy=>bt.block y hy.2 (by omega)).mono fun y hy=>⟨Nat.lt_of_lt_of_le hy.2 bt.size,by have:=b1.size;have:=b2.size;omega⟩,fun q' e=>by injection e,bb⟩)
 |false=>
 have hz0:s.data.toList.length=s.size:=by rw[Array.length_toList];rfl
 have hlr:Lib.hasPrefix s.data.toList G3=false→fe st s.data.toList=Cj st s.data.toList (s.data.toList∈UK) ((ck 32 s.data.toList).getD 0 []=UI) (EU s.data.toList).tail:=fun c2=>by
  unfold fe
  rw[if_neg (by rw[c1];decide),if_neg (by rw[c2];decide)]
 have hls:Lib.hasPrefix s.data.toList G3=true→fe st s.data.toList=(match td (Lib.trimPrefix s.data.toList G3)with
   |none=>[63]
   |some n=>I9 st fun p=>UC p n,st):=fun c2=>by
  unfold fe
  rw[if_neg (by rw[c1];decide),if_pos c2]
  cases td (Lib.trimPrefix s.data.toList G3)with
  |none=>rfl
  |some n=>cases st<;>rfl
 have e6:(ByteArray.mk #[115,116,101,112,115,32]).data.toList=G3:=rfl
 have p2:=abV s (ByteArray.mk #[115,116,101,112,115,32])
 have p2':= @acb s (ByteArray.mk #[115,116,101,112,115,32])
 have z6:(ByteArray.mk #[115,116,101,112,115,32]).size=6:=rfl
 rw[e6,z6]at p2 p2'
 by_cases h8:8≤s.size
 case' pos=>
  have n8:¬s.extract 0 8=ByteArray.mk #[112,114,111,106,101,99,116,32]:=fun e=>by
   have:=p1.2 ⟨h8,e⟩
   rw[c1]at this;cases this
  have h8i:(8:Int)≤(s.size:Nat):=by omega
  have hd8:=fun{K u f d w}=>abl (K:=K) (u:=u) (f:=f) (d:=d) (w:=w) s 8 8 rfl h8
  simp(disch:=omega)only[push_cast,aa,↓reduceIte,Nat.reduceEqDiff,Int.reduceEq,h8i,hd8,n8,zS,Option.map_none,Option.map_some]
 case' neg=>
  have h8i:¬(8:Int)≤(s.size:Nat):=by omega
  simp(disch:=omega)only[push_cast,aa,↓reduceIte,Nat.reduceEqDiff,Int.reduceEq,h8i]
 all_goals
  refine ah (adn (w:=w2) hs) ?_
  rintro v w3 ⟨L0,A,c,hL,rfl,oL,b3⟩
  have hL0:=Mw hL
  have hl0:=congrArg List.length hL
  rw[List.length_map]at hl0
  have ahz:=vh 32 s.data.toList
  rw[←hl0,hz0]at ahz
  have apB:L0.length≤s.size+1:=ahz
  cases L0 with
  |nil=>exact absurd hL.symm (tx 32 _)
  |cons x L=>
  have sW:=bq.lt ql (by decide) (bH.fS oL ql (by decide))
  have cx:=b2.trans (b3.mono b2.size)
  have kP:=y6.below b3 y6.lt
  have kR:=k2.below b3 k2.lt
  have sA:=sW.isSome (by simp)
  have l0:(0:Int)<((x :: L).length:Nat):=by rw[List.length_cons];omega
  rw[hL0,←hL]at hlr
  cases c2:Lib.hasPrefix s.data.toList G3 with
  |true=>
   obtain⟨h6,h6'⟩:=p2.1 c2
   have q2:=p2' c2
   obtain⟨L1,QQ⟩:=acS c2
   rw[hL0]at QQ
   injection QQ with hxs hL1
   have h6i:(6:Int)≤(s.size:Nat):=by omega
   have hd6:=fun{K u f d w}=>abl (K:=K) (u:=u) (f:=f) (d:=d) (w:=w) s 6 6 rfl h6
   have tl6:=fun{K u f d w}=>aca (K:=K) (u:=u) (f:=f) (d:=d) (w:=w) s 6 6 rfl h6
   replace hls:=hls c2
   simp(disch:=omega)only[push_cast,aa,↓reduceIte,Nat.reduceEqDiff,Int.reduceEq,h6i,hd6,h6',tl6,zS,Option.map_none,Option.map_some]
   rw[←q2]
   refine ah acz ?_
   rintro v w4 ⟨rfl,b4⟩
   have e9:(⟨(Lib.trimPrefix s.data.toList G3).toArray⟩:ByteArray).data.toList=Lib.trimPrefix s.data.toList G3:=rfl
   rw[e9]
   replace sW:=dE.Vh sW b4
   replace cx:=cx.trans (b4.mono cx.size)
   replace kP:=kP.below b4 kP.lt
   replace kR:=kR.below b4 kR.lt
   unfold abR
   cases hn:td (Lib.trimPrefix s.data.toList G3)with
   |none=>
    have hl:fe st s.data.toList=([63],st):=by rw[hls,hn]
    have hm2:(-2:Int)< -1:=by decide
    simp(disch:=omega)only[push_cast,aa,↓reduceIte,Nat.reduceEqDiff,Int.reduceEq,hm2]
    have bd:=drawn cx
    simp(disch:=omega)only[push_cast,aa,↓reduceIte,Nat.reduceEqDiff,Int.reduceEq,kP.drew.jA]
    refine aC kR.drew (cs:=a.cells p) ml rfl (by simp[Value.oneCell']) ?_
    intro ws ks gs zs
    have bs:=gs.below bd bd.size (by intro a ha;injection ha with ha;subst ha;exact Hy)
    have bb:=b1.trans (bs.mono b1.size)
    simp(disch:=omega)only[push_cast,aa,↓reduceIte,Nat.reduceEqDiff,Int.reduceEq]
    unfold abr at hQ
    rw[hl]at hQ
    exact aam ks Fm ml (by simp only[push_cast,↓reduceIte,Nat.reduceEqDiff,Int.reduceEq]) (hQ _ _ ⟨a,p,(by simp only[push_cast,↓reduceIte,Nat.reduceEqDiff,Int.reduceEq,Option.isSome_none,Option.isSome_some,aek]),(by first|exact hal|exact(show([63]:List UInt8).length≤4000000 by decide)|exact(show DI.length≤4000000 by decide)),hup bb,eU,bb⟩)
   |some n=>
   have asg:=adL hn
   have Tg:¬n< -1:=by omega
   have hl:fe st s.data.toList=(I9 st fun p=>abo p s x L n,st):=by
    rw[hls,hn,hxs]
    simp only[adJ]
   simp(disch:=omega)only[push_cast,aa,↓reduceIte,Nat.reduceEqDiff,Int.reduceEq,Tg]
   have bb0:=b1.trans (cx.mono b1.size)
   cases st with
   |none=>
    simp(disch:=omega)only[push_cast,aa,↓reduceIte,Nat.reduceEqDiff,Int.reduceEq,Option.isSome_none,Bool.not_false]
    have bd:=drawn cx
    simp(disch:=omega)only[push_cast,aa,↓reduceIte,Nat.reduceEqDiff,Int.reduceEq,kP.drew.jA]
    refine aC kR.drew (cs:=a.cells p) ml rfl (by simp[Value.oneCell']) ?_
    intro ws ks gs zs
    have bs:=gs.below bd bd.size (by intro a ha;injection ha with ha;subst ha;exact Hy)
    have bb:=b1.trans (bs.mono b1.size)
    simp(disch:=omega)only[push_cast,aa,↓reduceIte,Nat.reduceEqDiff,Int.reduceEq]
    unfold abr at hQ
    rw[hl]at hQ
    exact aam ks Fm ml (by simp only[push_cast,↓reduceIte,Nat.reduceEqDiff,Int.reduceEq]) (hQ _ _ ⟨a,p,(by simp only[push_cast,↓reduceIte,Nat.reduceEqDiff,Int.reduceEq,Option.isSome_none,Option.isSome_some,ab5,I9]),(by first|exact hal|exact(show([63]:List UInt8).length≤4000000 by decide)|exact(show DI.length≤4000000 by decide)),hup bb,eU,bb⟩)
   |some q=>
    obtain rfl:=eU q rfl
    simp(disch:=omega)only[push_cast,aa,↓reduceIte,Nat.reduceEqDiff,Int.reduceEq,Option.isSome_some,Bool.not_true,kP.jA]
    refine ah (abK (hP.on bb0) (hJ.up bb0) (hO _ rfl) s sW (by rw[List.length_cons]at apB;omega) _) ?_
    rintro v w5 ⟨⟨rfl,hal⟩,b5⟩
    replace cx:=cx.trans (b5.mono cx.size)
    replace kP:=kP.below b5 kP.lt
    replace kR:=kR.below b5 kR.lt
    simp(disch:=omega)only[push_cast,aa,↓reduceIte,Nat.reduceEqDiff,Int.reduceEq]
    have bd:=drawn cx
    simp(disch:=omega)only[push_cast,aa,↓reduceIte,Nat.reduceEqDiff,Int.reduceEq,kP.drew.jA]
    refine aC kR.drew (cs:=a.cells p) ml rfl (by simp[Value.oneCell']) ?_
    intro ws ks gs zs
    have bs:=gs.below bd bd.size (by intro a ha;injection ha with ha;subst ha;exact Hy)
    have bb:=b1.trans (bs.mono b1.size)
    simp(disch:=omega)only[push_cast,aa,↓reduceIte,Nat.reduceEqDiff,Int.reduceEq]
    unfold abr at hQ
    rw[hl]at hQ
    exact aam ks Fm ml (by simp only[push_cast,↓reduceIte,Nat.reduceEqDiff,Int.reduceEq]) (hQ _ _ ⟨a,p,(by simp only[push_cast,↓reduceIte,Nat.reduceEqDiff,Int.reduceEq,Option.isSome_none,Option.isSome_some,I9]),(by first|exact hal|exact(show([63]:List UInt8).length≤4000000 by decide)|exact(show DI.length≤4000000 by decide)),hup bb,eU,bb⟩)
  |false=>
  by_cases h6:6≤s.size
  case' pos=>
   have n6:¬s.extract 0 6=ByteArray.mk #[115,116,101,112,115,32]:=fun e=>by
    have:=p2.2 ⟨h6,e⟩
    rw[c2]at this;cases this
   have h6i:(6:Int)≤(s.size:Nat):=by omega
   have hd6:=fun{K u f d w}=>abl (K:=K) (u:=u) (f:=f) (d:=d) (w:=w) s 6 6 rfl h6
   simp(disch:=omega)only[push_cast,aa,↓reduceIte,Nat.reduceEqDiff,Int.reduceEq,h6i,hd6,n6,zS,Option.map_none,Option.map_some,ju]
  case' neg=>
   have h6i:¬(6:Int)≤(s.size:Nat):=by omega
   simp(disch:=omega)only[push_cast,aa,↓reduceIte,Nat.reduceEqDiff,Int.reduceEq,h6i,ju]
  all_goals
   replace hlr:=hlr c2
   by_cases ho:s∈G9
   case' pos=>
    have Jh:=(Ha s).1 ho
    have hw1:=acR ho
    rw[hL0]at hw1
    injection hw1 with hxs hL1
    have hl:fe st s.data.toList=(I9 st fun p=>abo p s x L 0,st):=by
     rw[hlr,hxs,hL1]
     unfold Cj
     rw[if_neg fun hh=>hh.1 Jh]
     simp only[if_pos Jh,adI ho]
    simp only[List.mem_cons,List.not_mem_nil,or_false]at ho
    rcases ho with ho|ho|ho|ho|ho
    case' inl=>simp(disch:=omega)only[push_cast,aa,↓reduceIte,Nat.reduceEqDiff,Int.reduceEq,eq_true ho,ne_eq,not_true_eq_false,decide_false]
    case' inr.inl=>
     have o1:¬s=ByteArray.mk #[99,117,114,114,101,110,116]:=by rw[ho];decide
     simp(disch:=omega)only[push_cast,aa,↓reduceIte,Nat.reduceEqDiff,Int.reduceEq,o1,eq_true ho,ne_eq,not_true_eq_false,not_false_eq_true,decide_false,decide_true,ju]
    case' inr.inr.inl=>
     have o1:¬s=ByteArray.mk #[99,117,114,114,101,110,116]:=by rw[ho];decide
     have o2:¬s=ByteArray.mk #[105,110,105,116,105,97,108]:=by rw[ho];decide
     simp(disch:=omega)only[push_cast,aa,↓reduceIte,Nat.reduceEqDiff,Int.reduceEq,o1,o2,eq_true ho,ne_eq,not_true_eq_false,not_false_eq_true,decide_false,decide_true,ju]
    case' inr.inr.inr.inl=>
     have o1:¬s=ByteArray.mk #[99,117,114,114,101,110,116]:=by rw[ho];decide
     have o2:¬s=ByteArray.mk #[105,110,105,116,105,97,108]:=by rw[ho];decide
     have o3:¬s=ByteArray.mk #[100,101,108,97,121]:=by rw[ho];decide
     simp(disch:=omega)only[push_cast,aa,↓reduceIte,Nat.reduceEqDiff,Int.reduceEq,o1,o2,o3,eq_true ho,ne_eq,not_true_eq_false,not_false_eq_true,decide_false,decide_true,ju]
    case' inr.inr.inr.inr=>
     have o1:¬s=ByteArray.mk #[99,117,114,114,101,110,116]:=by rw[ho];decide
     have o2:¬s=ByteArray.mk #[105,110,105,116,105,97,108]:=by rw[ho];decide
     have o3:¬s=ByteArray.mk #[100,101,108,97,121]:=by rw[ho];decide
     have o4:¬s=ByteArray.mk #[107,101,101,112]:=by rw[ho];decide
     simp(disch:=omega)only[push_cast,aa,↓reduceIte,Nat.reduceEqDiff,Int.reduceEq,o1,o2,o3,o4,eq_true ho,ne_eq,not_true_eq_false,not_false_eq_true,decide_false,decide_true,ju]
   case' neg=>
    have Jh:¬s.data.toList∈UK:=fun e=>ho ((Ha s).2 e)
    simp only[List.mem_cons,List.not_mem_nil,or_false,not_or]at ho
    obtain⟨o1,o2,o3,o4,o5⟩:=ho
    by_cases hr:x=ByteArray.mk #[114,117,110]
    case neg=>
     have eM:¬(List.map (fun x:ByteArray=>x.data.toList) (x :: L)).getD 0 []=UI:=fun e=>hr (sy e)
     have hl:fe st s.data.toList=([63],st):=by rw[hlr];unfold Cj;rw[if_pos ⟨Jh,eM⟩]
     simp(disch:=omega)only[push_cast,aa,↓reduceIte,Nat.reduceEqDiff,Int.reduceEq,o1,o2,o3,o4,o5,hr,ne_eq,not_false_eq_true,decide_true,ju,sA,l0,Int.toNat_zero,dE.ld (i:=0) sW (s:=x) rfl]
     have bd:=drawn cx
     simp(disch:=omega)only[push_cast,aa,↓reduceIte,Nat.reduceEqDiff,Int.reduceEq,kP.drew.jA]
     refine aC kR.drew (cs:=a.cells p) ml rfl (by simp[Value.oneCell']) ?_
     intro ws ks gs zs
     have bs:=gs.below bd bd.size (by intro a ha;injection ha with ha;subst ha;exact Hy)
     have bb:=b1.trans (bs.mono b1.size)
     simp(disch:=omega)only[push_cast,aa,↓reduceIte,Nat.reduceEqDiff,Int.reduceEq]
     unfold abr at hQ
     rw[hl]at hQ
     exact aam ks Fm ml (by simp only[push_cast,↓reduceIte,Nat.reduceEqDiff,Int.reduceEq]) (hQ _ _ ⟨a,p,(by simp only[push_cast,↓reduceIte,Nat.reduceEqDiff,Int.reduceEq,Option.isSome_none,Option.isSome_some,aek]),(by first|exact hal|exact(show([63]:List UInt8).length≤4000000 by decide)|exact(show DI.length≤4000000 by decide)),hup bb,eU,bb⟩)
    have eM:(List.map (fun x:ByteArray=>x.data.toList) (x :: L)).getD 0 []=UI:=by rw[hr];rfl
    have hl:fe st s.data.toList=(I9 st fun p=>abo p s x L 0,st):=by
     rw[hlr]
     unfold Cj
     rw[if_neg fun hh=>hh.2 eM]
     simp only[if_neg Jh,hr,adK]
     rfl
    simp(disch:=omega)only[push_cast,aa,↓reduceIte,Nat.reduceEqDiff,Int.reduceEq,o1,o2,o3,o4,o5,eq_true hr,ne_eq,not_true_eq_false,not_false_eq_true,decide_false,decide_true,ju,sA,l0,Int.toNat_zero,dE.ld (i:=0) sW (s:=x) rfl]
   all_goals
    have bb0:=b1.trans (cx.mono b1.size)
    cases st with
    |none=>
     simp(disch:=omega)only[push_cast,aa,↓reduceIte,Nat.reduceEqDiff,Int.reduceEq,Option.isSome_none,Bool.not_false]
     have bd:=drawn cx
     simp(disch:=omega)only[push_cast,aa,↓reduceIte,Nat.reduceEqDiff,Int.reduceEq,kP.drew.jA]
     refine aC kR.drew (cs:=a.cells p) ml rfl (by simp[Value.oneCell']) ?_
     intro ws ks gs zs
     have bs:=gs.below bd bd.size (by intro a ha;injection ha with ha;subst ha;exact Hy)
     have bb:=b1.trans (bs.mono b1.size)
     simp(disch:=omega)only[push_cast,aa,↓reduceIte,Nat.reduceEqDiff,Int.reduceEq]
     unfold abr at hQ
     rw[hl]at hQ
     exact aam ks Fm ml (by simp only[push_cast,↓reduceIte,Nat.reduceEqDiff,Int.reduceEq]) (hQ _ _ ⟨a,p,(by simp only[push_cast,↓reduceIte,Nat.reduceEqDiff,Int.reduceEq,Option.isSome_none,Option.isSome_some,ab5,I9]),(by first|exact hal|exact(show([63]:List UInt8).length≤4000000 by decide)|exact(show DI.length≤4000000 by decide)),hup bb,eU,bb⟩)
    |some q=>
     obtain rfl:=eU q rfl
     simp(disch:=omega)only[push_cast,aa,↓reduceIte,Nat.reduceEqDiff,Int.reduceEq,Option.isSome_some,Bool.not_true,kP.jA]
     refine ah (abK (hP.on bb0) (hJ.up bb0) (hO _ rfl) s sW (by rw[List.length_cons]at apB;omega) _) ?_
     rintro v w5 ⟨⟨rfl,hal⟩,b5⟩
     replace cx:=cx.trans (b5.mono cx.size)
     replace kP:=kP.below b5 kP.lt
     replace kR:=kR.below b5 kR.lt
     simp(disch:=omega)only[push_cast,aa,↓reduceIte,Nat.reduceEqDiff,Int.reduceEq]
     have bd:=drawn cx
     simp(disch:=omega)only[push_cast,aa,↓reduceIte,Nat.reduceEqDiff,Int.reduceEq,kP.drew.jA]
     refine aC kR.drew (cs:=a.cells p) ml rfl (by simp[Value.oneCell']) ?_
     intro ws ks gs zs
     have bs:=gs.below bd bd.size (by intro a ha;injection ha with ha;subst ha;exact Hy)
     have bb:=b1.trans (bs.mono b1.size)
     simp(disch:=omega)only[push_cast,aa,↓reduceIte,Nat.reduceEqDiff,Int.reduceEq]
     unfold abr at hQ
     rw[hl]at hQ
     exact aam ks Fm ml (by simp only[push_cast,↓reduceIte,Nat.reduceEqDiff,Int.reduceEq]) (hQ _ _ ⟨a,p,(by simp only[push_cast,↓reduceIte,Nat.reduceEqDiff,Int.reduceEq,Option.isSome_none,Option.isSome_some,I9]),(by first|exact hal|exact(show([63]:List UInt8).length≤4000000 by decide)|exact(show DI.length≤4000000 by decide)),hup bb,eU,bb⟩)
open Go.RowKit
set_option maxHeartbeats 4000000 in
theorem abQ{w:World}(hP:G5 w){s:ByteArray}(hs:s.size≤10000000):
  dw Tryz.prog 3 [.string s] w fun v w'=>v= .bool true∧Below w.heap.size w w':=by
 refine aaz (by simp) 10000 fun Q hQ=>?_
 simp(disch:=omega)only[push_cast,aa,↓reduceIte,Nat.reduceEqDiff,Int.reduceEq,aap]
 refine ah (ads (w:=w) (s:=s) (by omega)) ?_
 rintro v w2 ⟨L,A,cap,hL,rfl,oL,b2⟩
 have hl:=congrArg List.length hL
 rw[List.length_map]at hl
 have hls:=vh 10 s.data.toList
 rw[←hl,Array.length_toList]at hls
 have apB:L.length≤s.size+1:=hls
 have cY:=tx 10 s.data.toList
 obtain⟨n,hn⟩:∃n,L.length=n+1:=by
  cases L with
  |nil=>exact absurd hL.symm cY
  |cons x L=>exact⟨L.length,rfl⟩
 have X4:=oL.cap
 have sL:=bq.lt ql (by decide) (bH.fS oL ql (by decide))
 have hx:L[n]? =some L[n]:=List.getElem?_eq_getElem (by omega)
 have Fv:(ck 10 s.data.toList).getLast?=some L[n].data.toList:=by
  have e:L.length-1=n:=by omega
  rw[←hL,List.getLast?_eq_getElem?,List.length_map,e,List.getElem?_map,hx]
  rfl
 have Zz:CJ (ck 10 s.data.toList)=if L[n].data.toList=[]then(ck 10 s.data.toList).dropLast else ck 10 s.data.toList:=by
  unfold CJ
  rw[Fv]
  simp only[Option.some.injEq]
 generalize L[n]=x at hx Fv Zz
 have sS:=sL.isSome (by omega)
 have Ws:n≤cap:=by omega
 by_cases hc:x=ByteArray.mk #[]
 case' pos=>
  have hM:(L.take n).map (·.data.toList)=CJ (ck 10 s.data.toList):=by
   have e:L.take n=L.dropLast:=by rw[List.dropLast_eq_take,hn,Nat.add_sub_cancel]
   rw[e,Zz,if_pos (by rw[hc]),←hL,List.map_dropLast]
  have hMl:(L.take n).length=n:=by rw[List.length_take];omega
  have sM:=dE.take sL n
  generalize L.take n=M at hM hMl sM
  simp(disch:=omega)only[push_cast,aa,↓reduceIte,Nat.reduceEqDiff,Int.reduceEq,hn,Int.add_sub_cancel,sS,Int.toNat_natCast,dE.ld sL hx,eq_true hc,yV xT n Ws]
 case' neg=>
  have hM:L.map (·.data.toList)=CJ (ck 10 s.data.toList):=by rw[Zz,if_neg (fun e=>hc (sy e)),←hL]
  have hMl:L.length=n+1:=hn
  have sM:=sL
  simp(disch:=omega)only[push_cast,aa,↓reduceIte,Nat.reduceEqDiff,Int.reduceEq,hn,Int.add_sub_cancel,sS,Int.toNat_natCast,dE.ld sL hx,hc]
  generalize L=M at hM hMl sM
 all_goals
  simp(disch:=omega)only[push_cast,aa,↓reduceIte,Nat.reduceEqDiff,Int.reduceEq,Ts]
  refine au (cs:=xv) N8 ?_
  intro w3 k3 b3 z3
  simp(disch:=omega)only[push_cast,aa,↓reduceIte,Nat.reduceEqDiff,Int.reduceEq]
  refine aC k3 (cs:=jv0.cells Xx) ml rfl rfl ?_
  intro w4 k4 g4 z4
  have Hh:=g4.below b3 b3.size (by intro a ha;injection ha with ha;subst ha;exact Nat.le_refl _)
  have b4:=b2.trans (Hh.mono b2.size)
  have Z0:w.heap.size≤w2.heap.size:=b2.size
  have ad0:eb s.data.toList=(M.map (·.data.toList)).take 40:=by unfold eb;rw[hM]
  obtain⟨q,hq⟩:∃q,q=min M.length 40:=⟨_,rfl⟩
  have Hi:(eb s.data.toList).length=q:=by rw[ad0,List.length_take,List.length_map,hq];omega
  have sM4:=sM.below Hh
  simp(disch:=omega)only[push_cast,aa,↓reduceIte,Nat.reduceEqDiff,Int.reduceEq]
  refine ax (fun f w'=>∃(k:Nat) (a:JV) (p:Pj),k≤q∧(f 0= .string s∧f 3= .slice A M.length cap∧f 4= .pointer (some ⟨w2.heap.size,0,none⟩)∧f 5= .bool (js fe none ((eb s.data.toList).take k)).isSome∧f 6= .string ⟨(iU fe none ((eb s.data.toList).take k)).toArray⟩∧f 7= .int .i64 k)∧
    (iU fe none ((eb s.data.toList).take k)).length≤4000001*k∧aE w' w2.heap.size 29 (a.cells p)∧C9 (fun b=>b<w'.heap.size∧b≠w2.heap.size) w' a p∧(∀q',js fe none ((eb s.data.toList).take k)=some q'→p=q')∧G4 (js fe none ((eb s.data.toList).take k))∧G5 w'∧dE (·<w2.heap.size) w' A M∧Below w.heap.size w w')
   (fun f _=>q-(intOf (f 7)).toNat) ⟨0,jv0,Xx,Nat.zero_le _,⟨rfl,by rw[hMl];rfl,rfl,rfl,rfl,rfl⟩,Nat.le_refl _,k4,O6 _ _,(fun q' h=>by cases h),(fun q' h=>by cases h),hP.on b4,sM4,b4⟩ ?_
  rintro f w5 ⟨k,a,p,hk,fr,Vo,kP,hJ,eU,hO,hW5,sM5,b5⟩ J hJ'
  have gZ:(intOf (f 7)).toNat=k:=by rw[fr.2.2.2.2.2];simp[intOf]
  by_cases aI:k<q
  case neg=>
   obtain rfl:k=q:=by omega
   rw[List.take_of_length_le (by omega)]at Vo fr
   by_cases h1:k<M.length
   case' pos=>
    have h2:¬(k:Int)<40:=by omega
    simp(disch:=omega)only[push_cast,aa,↓reduceIte,Nat.reduceEqDiff,Int.reduceEq,Oj,fr,h1,h2]
   case' neg=>
    simp(disch:=omega)only[push_cast,aa,↓reduceIte,Nat.reduceEqDiff,Int.reduceEq,Oj,fr,h1]
   all_goals
    refine ah (yz hW5 (s:=s) (by omega)) ?_
    rintro v w6 ⟨⟨rfl,_⟩,b6⟩
    simp(disch:=omega)only[push_cast,aa,↓reduceIte,Nat.reduceEqDiff,Int.reduceEq,fr,eq_self,decide_true]
    exact aF (hQ _ _ ⟨(by simp only[push_cast,↓reduceIte,Nat.reduceEqDiff,Int.reduceEq]),b5.trans (b6.mono b5.size)⟩)
  have h1:k<M.length:=by omega
  have h2:(k:Int)<40:=by omega
  have hx5:M[k]? =some M[k]:=List.getElem?_eq_getElem (by omega)
  generalize M[k]=l at hx5
  have hl5:(eb s.data.toList)[k]? =some l.data.toList:=by
   rw[ad0,List.getElem?_take,if_pos (by omega),List.getElem?_map,hx5];rfl
  have kq:l.data.toList.length≤s.data.toList.length:=My (List.mem_of_getElem? hl5)
  rw[Array.length_toList,Array.length_toList]at kq
  have apE:l.size≤s.size:=kq
  obtain⟨p1,p2⟩:=Mz fe hl5 none
  have sAk:=sM5.isSome (by omega)
  have sd:=(Same.refl w5).drew
  have bd:=b5.trans (sd.below _)
  have hWu:=hW5.on (sd.below _)
  have sMu:=bq.same sM5 sd
  have kPu:=kP.same sd
  have hJu:C9 (fun b=>b<w5.drew.heap.size∧b≠w2.heap.size) w5.drew a p:=hJ.keep fun _ _=>rfl
  generalize js fe none ((eb s.data.toList).take k)=st at*
  simp(disch:=omega)only[push_cast,aa,↓reduceIte,Nat.reduceEqDiff,Int.reduceEq,Oj,fr,h1,h2]
  generalize hu:w5.drew=u at*
  obtain⟨S0,ib⟩:∃S0:World→Prop,∀w',S0 w'↔(aE w' w2.heap.size 29 (a.cells p)∧dE (·<w2.heap.size) w' A M):=⟨_,fun _=>Iff.rfl⟩
  have po:=(ib u).2 ⟨kPu,sMu⟩
  refine⟨S0,po,?_⟩
  have q1:=fun{K f d}=>cK (P:=Tryz.prog) (S:=S0) (K:=K) (f:=f) (d:=d) (w:=u) (s:=Instr.loadAt 29 (.pointer (some ⟨w2.heap.size,0,none⟩))) (v:=a.val p) (fun w' hw=>by rw[((ib w').1 hw).1.jA];rfl) po
  have q2:=fun{K f d}=>cK (P:=Tryz.prog) (S:=S0) (K:=K) (f:=f) (d:=d) (w:=u) (s:=Instr.loadAt 9 (.pointer (some (eA A k)))) (v:= .string l) (fun w' hw=>by rw[dE.ld ((ib w').1 hw).2 hx5];rfl) po
  simp(disch:=omega)only[push_cast,aa,↓reduceIte,Nat.reduceEqDiff,Int.reduceEq,fr,q1,q2,sAk,h1,Int.toNat_natCast]
  refine ah (acT (g:=w2.heap.size) hWu kPu.lt hJu eU hO (s:=l) (by omega)) ?_
  rintro v w6 ⟨a',p',rfl,hal,hJ6,alZ,b6⟩
  have kP6:=kPu.below b6 kPu.lt
  have asl:=kPu.lt
  have sM6:dE (·<w2.heap.size) w6 A M:=sMu.keep fun b hb=>b6.block b (by omega)
  refine⟨(ib w6).2 ⟨kP6,sM6⟩,?_⟩
  simp(disch:=omega)only[push_cast,aa,↓reduceIte,Nat.reduceEqDiff,Int.reduceEq,fr,aeX,ad2,ad7,ad8]
  refine aC kP6 (cs:=a'.cells p') ml rfl (by simp[Value.oneCell']) ?_
  intro ws ks gs zs
  refine⟨fun _=>True,trivial,?_⟩
  have bt:=ff.cell gs (Nat.le_refl w6.heap.size)
  have asm:=b6.size
  have sMs:dE (·<w2.heap.size) ws A M:=sM6.keep fun b hb=>bt.block b (Nat.lt_of_lt_of_le hb (by omega)) (Nat.ne_of_lt hb)
  have XO:=bd.trans (b6.mono bd.size)
  have hap:=hP.apart Z0
  simp(disch:=first|with_reducible assumption|omega|(simp only[List.length_append,List.length_cons,List.length_nil];omega))only[push_cast,aa,↓reduceIte,Nat.reduceEqDiff,Int.reduceEq,fr,QJ,wH]
  exact hJ' _ _ ⟨k+1,a',p',aI,⟨(by simp only[push_cast,↓reduceIte,Nat.reduceEqDiff,Int.reduceEq,fr]),(by simp only[push_cast,↓reduceIte,Nat.reduceEqDiff,Int.reduceEq,fr]),(by simp only[push_cast,↓reduceIte,Nat.reduceEqDiff,Int.reduceEq,fr]),by simp only[push_cast,↓reduceIte,Nat.reduceEqDiff,p2],by
   simp only[push_cast,↓reduceIte,Nat.reduceEqDiff,fr]
   rw[p1],(by simp only[push_cast,↓reduceIte,Nat.reduceEqDiff,Int.reduceEq,fr])⟩,by
   rw[p1]
   simp only[List.length_append,List.length_cons,List.length_nil];omega,ks,(hJ6.keep fun y hy=>bt.block y hy.1 hy.2).mono fun y hy=>⟨Nat.lt_of_lt_of_le hy.1 bt.size,hy.2⟩,by rw[p2];exact alZ,by rw[p2];exact hO.line _,(hWu.on b6).but bt hap,sMs,gs.below XO XO.size (by intro a ha;injection ha with ha;subst ha;exact Z0)⟩ (by simp only[push_cast,↓reduceIte,Nat.reduceEqDiff,intOf,fr];omega)
end Go.Proofs.YtcefeihlkpmejaaGreatDoor
