/- A part of the proof. -/
import Derived.Test.YtcefeihlkpmejaaGreatDoorYM10
import Derived.Test.YtcefeihlkpmejaaGreatDoorYM9
import Derived.Deep.Strs
import Derived.Shelf.SlSortCmp.NoneTotal
namespace Go.Proofs.YtcefeihlkpmejaaGreatDoor
set_option linter.unusedSimpArgs false
set_option linter.unusedVariables false
set_option linter.unusedSectionVars false
open Go.RowKit
theorem Dq{P:Program}{K:Fr→World→Prop}{u:World}{f:Fr}{d:Option Nat}{w:World}{t:TypeId}(ht:P.underlying t=some .string)(s:ByteArray)(a b:Nat)(tB:a≤b)(hb:b≤s.size):
  aq P K (Instr.sliceAt t (.string s) (some (.int .i64 a)) (some (.int .i64 b)) none) u f d w=K (ai f d (.string (s.extract a b))) w:=
 aM u f d w fun w' _=>by
  have h1:(0:Int)≤(a:Int)∧(a:Int)≤(b:Int):=by omega
  have h2:(0:Int)≤(b:Int)∧(b:Int)≤(s.size:Int):=by omega
  simp[Instr.sliceAt,run_underlying ht,Instr.slice,Instr.sliceBounds,Instr.sliceBound,asIntOf,h1,h2,tB,hb]
theorem H4{P:Program}{K:Fr→World→Prop}{u:World}{f:Fr}{d:Option Nat}{w:World}{t:TypeId}(ht:P.underlying t=some .string)(s:ByteArray)(a:Nat)(hb:a<s.size):
  aq P K (Instr.sliceAt t (.string s) (some (.int .i64 a)) (some (.int .i64 ((a:Int)+1))) none) u f d w=K (ai f d (.string (s.extract a (a+1)))) w:=
 Dq ht s a (a+1) (by omega) hb
theorem BB(s:ByteArray)(a b:Nat):s.extract a b=⟨((s.data.toList.drop a).take (b-a)).toArray⟩:=by
 refine sy ?_
 rw[ByteArray.data_extract]
 simp[Array.toList_extract,List.extract_eq_take_drop]
theorem H5{K:Fr→World→Prop}{u:World}{f:Fr}{d:Option Nat}{w:World}(k:Int)(s:ByteArray)(a:Int):aq Tryz.prog K (Instr.build 60 #[(0,.int .i64 k),(1,.string s),(2,.int .i64 a)]) u f d w=K (ai f d (.agg (ui.cells ⟨k,s,a⟩).toArray)) w:=
 Js (z:=[.int .i64 0,.string ⟨#[]⟩,.int .i64 0]) (o0:=0) (s0:=1) (o1:=1) (s1:=1) (o2:=2) (s2:=1) (by kernel_rfl) rfl rfl rfl rfl rfl rfl rfl
abbrev ZN(s:ByteArray)(i:Nat):UInt8:=s.data.toList.getD i 0
theorem drop_cons{s:ByteArray}{i:Nat}(h:i<s.size):s.data.toList.drop i=ZN s i :: s.data.toList.drop (i+1):=by
 rw[tz]at h
 rw[List.drop_eq_getElem_cons h]
 unfold ZN
 rw[List.getD_eq_getElem?_getD,List.getElem?_eq_getElem h];rfl
theorem wV{s:ByteArray}{i:Nat}(h:i<s.size)(a:Nat):dp a (s.data.toList.drop i)=
  if iH (wF s i)then dp (a+1) (s.data.toList.drop (i+1))
  else if n9 (wF s i)then(⟨3,⟨#[ZN s i]⟩,a⟩::(dp (a+1) (s.data.toList.drop (i+1))).1,(dp (a+1) (s.data.toList.drop (i+1))).2)
  else if¬pa (wF s i)then([],some (2,(a:Int)))
  else if 16<dh (s.data.toList.drop (i+1))+1 then([],some (1,(a:Int)))
  else(⟨1,⟨(ZN s i ::(s.data.toList.drop (i+1)).take (dh (s.data.toList.drop (i+1)))).toArray⟩,a⟩::(dp (a+1+dh (s.data.toList.drop (i+1))) ((s.data.toList.drop (i+1)).drop (dh (s.data.toList.drop (i+1))))).1,(dp (a+1+dh (s.data.toList.drop (i+1))) ((s.data.toList.drop (i+1)).drop (dh (s.data.toList.drop (i+1))))).2):=by
 rw[drop_cons h,pj];rfl
theorem sub_one{s:ByteArray}{i:Nat}(h:i<s.size):s.extract i (i+1)=⟨#[ZN s i]⟩:=by
 rw[BB,drop_cons h,show i+1-i=1 by omega];rfl
theorem OO{s:ByteArray}{i n:Nat}(h:i<s.size):s.extract i (i+1+n)=⟨(ZN s i ::(s.data.toList.drop (i+1)).take n).toArray⟩:=by
 rw[BB,drop_cons h,show i+1+n-i=n+1 by omega,List.take_succ_cons]
theorem JJ{s:ByteArray}{i t:Nat}(h0:i+1≤t)(h:t≤s.size)(h1:∀j,i+1≤j→j<t→zz (wF s j))(h2:t<s.size→¬zz (wF s t)):dh (s.data.toList.drop (i+1))=t-(i+1):=by
 rw[tz]at h h2
 have hg:∀j,(s.data.toList.drop (i+1)).getD j 0=s.data.toList.getD (i+1+j) 0:=fun j=>by
  rw[List.getD_eq_getElem?_getD,List.getD_eq_getElem?_getD,List.getElem?_drop]
 refine FT _ _ (by rw[List.length_drop];omega) (fun j hj=>?_) fun hn=>?_
 ·rw[hg];exact h1 (i+1+j) (by omega) (by omega)
 ·rw[hg,show i+1+(t-(i+1))=t by omega];exact h2 (by rw[List.length_drop]at hn;omega)
def fW(s:ByteArray)(i:Nat)(acc:List ui):Prop:=dp 0 s.data.toList=(acc++(dp i (s.data.toList.drop i)).1,(dp i (s.data.toList.drop i)).2)∧acc.length≤i
theorem fW.zero(s:ByteArray):fW s 0 []:=⟨rfl,Nat.le_refl _⟩
theorem fW.blank{s:ByteArray}{i:Nat}{acc:List ui}(h:fW s i acc)(hi:i<s.size)(hb:iH (wF s i)):fW s (i+1) acc:=by
 refine⟨?_,by have:=h.2;omega⟩
 have h1:=h.1
 rw[wV hi,if_pos hb]at h1
 exact h1
theorem fW.sign{s:ByteArray}{i:Nat}{acc:List ui}(h:fW s i acc)(hi:i<s.size)(hb:¬iH (wF s i))(hg:n9 (wF s i)):fW s (i+1) (acc++[⟨3,s.extract i (i+1),i⟩]):=by
 refine⟨?_,by rw[List.length_append];have:=h.2;simp;omega⟩
 have h1:=h.1
 rw[wV hi,if_neg hb,if_pos hg]at h1
 rw[h1,sub_one hi]
 simp only[List.append_assoc,List.singleton_append]
theorem fW.bad{s:ByteArray}{i:Nat}{acc:List ui}(h:fW s i acc)(hi:i<s.size)(hb:¬iH (wF s i))(hg:¬n9 (wF s i))(hl:¬pa (wF s i)):(dp 0 s.data.toList).2=some (2,(i:Int)):=by
 have h1:=h.1
 rw[wV hi,if_neg hb,if_neg hg,if_pos hl]at h1
 rw[h1]
theorem fW.long{s:ByteArray}{i t:Nat}{acc:List ui}(h:fW s i acc)(hi:i<s.size)(hb:¬iH (wF s i))(hg:¬n9 (wF s i))(hl:pa (wF s i))(h0:i+1≤t)(hn:dh (s.data.toList.drop (i+1))=t-(i+1))(Lb:i+16<t):(dp 0 s.data.toList).2=some (1,(i:Int)):=by
 have h1:=h.1
 rw[wV hi,if_neg hb,if_neg hg,if_neg (fun c=>c hl),hn,if_pos (by omega)]at h1
 rw[h1]
theorem fW.word{s:ByteArray}{i t:Nat}{acc:List ui}(h:fW s i acc)(hi:i<s.size)(hb:¬iH (wF s i))(hg:¬n9 (wF s i))(hl:pa (wF s i))(h0:i+1≤t)(hn:dh (s.data.toList.drop (i+1))=t-(i+1))(Lb:¬i+16<t):fW s t (acc++[⟨1,s.extract i t,i⟩]):=by
 refine⟨?_,by rw[List.length_append];have:=h.2;simp;omega⟩
 have h1:=h.1
 rw[wV hi,if_neg hb,if_neg hg,if_neg (fun c=>c hl),hn,if_neg (by omega),List.drop_drop,show i+1+(t-(i+1))=t by omega]at h1
 rw[h1]
 have:=OO (n:=t-(i+1)) hi
 rw[show i+1+(t-(i+1))=t by omega]at this
 rw[this]
 simp only[List.append_assoc,List.singleton_append]
theorem fW.done{s:ByteArray}{acc:List ui}(h:fW s s.size acc):dp 0 s.data.toList=(acc,none):=by
 have h1:=h.1
 rw[List.drop_eq_nil_of_le (by rw[tz];exact Nat.le_refl _),sJ,List.append_nil]at h1
 exact h1
set_option maxHeartbeats 1000000 in
theorem Lm(s:ByteArray)(hs:s.size≤4000)(w:World):
  mO Tryz.prog 16 [.string s] w
   (fun v w'=>(∃A c,v= .slice A (dp 0 s.data.toList).1.length c∧bH ui.cells w.heap.size 60 3 w' A c (dp 0 s.data.toList).1)∧(dp 0 s.data.toList).2=none∧Below w.heap.size w w')
   (fun ch w'=>∃c a,(dp 0 s.data.toList).2=some (c,a)∧ch=[{v:=jt c a,recovered:=false}]∧Below w.heap.size w w'):=by
 refine Ax (by simp) 100000 fun Q Qp hQ hP=>?_
 simp(disch:=omega)only[push_cast,aa,↓reduceIte,Nat.reduceEqDiff,Int.reduceEq,ru]
 refine ax (fun f w'=>∃(i:Nat) (acc:List ui) (A:Option Addr) (c:Nat),i≤s.size∧(f 0= .string s∧f 3= .slice A acc.length c∧f 4= .int .i64 i)∧fW s i acc∧bH ui.cells w.heap.size 60 3 w' A c acc∧Below w.heap.size w w')
  (fun f _=>s.size-(intOf (f 4)).toNat) ⟨0,[],none,0,Nat.zero_le _,⟨rfl,rfl,rfl⟩,fW.zero s,Own.nil _ _ _ _,Below.refl _ _⟩ ?_
 rintro f w1 ⟨i,acc,A,c,hi,fr,hT,o1,b1⟩ J hJ
 have gZ:(intOf (f 4)).toNat=i:=by rw[fr.2.2];simp[intOf]
 have hal:=hT.2
 by_cases aI:i<s.size
 case neg=>
  obtain rfl:i=s.size:=by omega
  have hd:=hT.done
  simp(disch:=omega)only[push_cast,aa,↓reduceIte,Nat.reduceEqDiff,Int.reduceEq,dZ,fr,Nat.lt_irrefl]
  refine aF (hQ _ _ ⟨⟨A,c,by rw[hd];simp only[push_cast,↓reduceIte,Nat.reduceEqDiff],by rw[hd];exact o1⟩,by rw[hd],b1⟩)
 have QZ:=fun hb=>hT.blank aI hb
 have W7:=fun hb hg=>hT.sign aI hb hg
 have hT3:=fun hb hg hl=>hT.bad aI hb hg hl
 have hT4:=fun t hb hg hl h0 hn Lb=>fW.long (t:=t) hT aI hb hg hl h0 hn Lb
 have hT5:=fun t hb hg hl h0 hn Lb=>fW.word (t:=t) hT aI hb hg hl h0 hn Lb
 have hcx:∃x:Int,x=wF s i:=⟨_,rfl⟩
 obtain⟨x,hx⟩:=hcx
 have sx:=fun{K u f d w}=>D7 (K:=K) (u:=u) (f:=f) (d:=d) (w:=w) s .i64 i aI
 rw[←hx]at QZ W7 hT3 hT4 hT5
 simp only[←hx]at sx
 have Oo:=fun{K u f d w}=>H4 (K:=K) (u:=u) (f:=f) (d:=d) (w:=w) Fz s i aI
 have Ln:∀{f':Fr} {j:Nat},i<j→f' 4= .int .i64 j→s.size-(intOf (f' 4)).toNat<s.size-(intOf (f 4)).toNat:=fun hj he=>by rw[gZ,he];simp only[intOf];omega
 by_cases c1:x=32
 ·have e1:=eq_true c1
  simp(disch:=omega)only[push_cast,aa,↓reduceIte,Nat.reduceEqDiff,Int.reduceEq,dZ,fr,aI,sx,e1]
  exact hJ _ _ ⟨i+1,acc,A,c,aI,(by simp only[push_cast,↓reduceIte,Nat.reduceEqDiff,true_and,and_true,and_self,eq_self,fr]),QZ (.inl c1),o1,b1⟩ (Ln (j:=i+1) (by omega) (by simp only[push_cast,↓reduceIte,Nat.reduceEqDiff]))
 by_cases c2:x=10
 ·have e2:=eq_true c2
  simp(disch:=omega)only[push_cast,aa,↓reduceIte,Nat.reduceEqDiff,Int.reduceEq,dZ,fr,aI,sx,c1,e2]
  exact hJ _ _ ⟨i+1,acc,A,c,aI,(by simp only[push_cast,↓reduceIte,Nat.reduceEqDiff,true_and,and_true,and_self,eq_self,fr]),QZ (.inr c2),o1,b1⟩ (Ln (j:=i+1) (by omega) (by simp only[push_cast,↓reduceIte,Nat.reduceEqDiff]))
 have nb:¬iH x:=by unfold iH;omega
 by_cases c3:x=59
 ·have e3:=eq_true c3
  simp(disch:=omega)only[push_cast,aa,↓reduceIte,Nat.reduceEqDiff,Int.reduceEq,dZ,fr,aI,sx,c1,c2,e3,Oo,H5,ea fL j6 ⟨3,s.extract i (i+1),i⟩ (by decide)]
  refine dA fL j6 o1 ⟨3,s.extract i (i+1),i⟩ (by omega) (by omega) b1.size ?_
  intro A' c' w2 o2 g2 _ _ z2
  simp(disch:=omega)only[push_cast,aa,↓reduceIte,Nat.reduceEqDiff,Int.reduceEq,fr]
  exact hJ _ _ ⟨i+1,_,A',c',aI,(by simp only[push_cast,↓reduceIte,Nat.reduceEqDiff,true_and,and_true,and_self,eq_self,fr,List.length_append,List.length_singleton]),W7 nb (.inl c3),o2,g2.below b1 b1.size o1.uh⟩ (Ln (j:=i+1) (by omega) (by simp only[push_cast,↓reduceIte,Nat.reduceEqDiff]))
 by_cases c4:x=44
 ·have e4:=eq_true c4
  simp(disch:=omega)only[push_cast,aa,↓reduceIte,Nat.reduceEqDiff,Int.reduceEq,dZ,fr,aI,sx,c1,c2,c3,e4,Oo,H5,ea fL j6 ⟨3,s.extract i (i+1),i⟩ (by decide)]
  refine dA fL j6 o1 ⟨3,s.extract i (i+1),i⟩ (by omega) (by omega) b1.size ?_
  intro A' c' w2 o2 g2 _ _ z2
  simp(disch:=omega)only[push_cast,aa,↓reduceIte,Nat.reduceEqDiff,Int.reduceEq,fr]
  exact hJ _ _ ⟨i+1,_,A',c',aI,(by simp only[push_cast,↓reduceIte,Nat.reduceEqDiff,true_and,and_true,and_self,eq_self,fr,List.length_append,List.length_singleton]),W7 nb (.inr c4),o2,g2.below b1 b1.size o1.uh⟩ (Ln (j:=i+1) (by omega) (by simp only[push_cast,↓reduceIte,Nat.reduceEqDiff]))
 have ng:¬n9 x:=by unfold n9;omega
 simp(disch:=omega)only[push_cast,aa,↓reduceIte,Nat.reduceEqDiff,Int.reduceEq,dZ,fr,aI,sx,c1,c2,c3,c4]
 refine ah (yU x w1) ?_
 rintro v w2 ⟨rfl,s2⟩
 simp(disch:=omega)only[push_cast,aa,↓reduceIte,Nat.reduceEqDiff,Int.reduceEq,fr]
 refine aT (eD (decide (pa x)) 2 i w2) ?_ ?_
 ·rintro ch w3 ⟨kH,hl,s3⟩
  exact hP _ _ ⟨2,i,hT3 nb ng (of_decide_eq_false hl),kH,b1.trans ((s2.trans s3).below _)⟩
 rintro v w3 ⟨rfl,hl,s3⟩
 replace hl:=of_decide_eq_true hl
 have s13:=s2.trans s3
 simp(disch:=omega)only[push_cast,↓reduceIte,Nat.reduceEqDiff,fr]
 refine cut (fun f' w'=>∃t:Nat,(i+1≤t∧t≤s.size)∧(f' 0= .string s∧f' 3= .slice A acc.length c∧f' 4= .int .i64 i∧f' 6= .int .i64 t)∧dh (s.data.toList.drop (i+1))=t-(i+1)∧Same w1 w') 40000 40000 (by decide) ?_ ?_
 ·intro E hE
  simp(disch:=omega)only[push_cast,aa,↓reduceIte,Nat.reduceEqDiff,Int.reduceEq]
  refine ax (fun f' w'=>∃t:Nat,(i+1≤t∧t≤s.size)∧(f' 0= .string s∧f' 3= .slice A acc.length c∧f' 4= .int .i64 i∧f' 6= .int .i64 t)∧(∀j,i+1≤j→j<t→zz (wF s j))∧Same w1 w')
   (fun f' _=>s.size-(intOf (f' 6)).toNat) ⟨i+1,⟨Nat.le_refl _,by omega⟩,(by simp only[push_cast,↓reduceIte,Nat.reduceEqDiff,true_and,and_true,and_self,eq_self,fr,fr]),fun j h1 h2=>absurd h1 (by omega),s13⟩ ?_
  clear fr gZ Ln
  rintro f w4 ⟨t,⟨ht,MF⟩,fr,fN,s4⟩ J2 jH
  have gZ:(intOf (f 6)).toNat=t:=by rw[fr.2.2.2];simp[intOf]
  by_cases Xh:t<s.size
  case neg=>
   obtain rfl:t=s.size:=by omega
   simp(disch:=omega)only[push_cast,aa,↓reduceIte,Nat.reduceEqDiff,Int.reduceEq,nO,fr,Nat.lt_irrefl]
   exact hE _ _ ⟨s.size,⟨ht,MF⟩,(by simp only[push_cast,↓reduceIte,Nat.reduceEqDiff,true_and,and_true,and_self,eq_self,fr]),JJ ht MF fN (fun h=>absurd h (Nat.lt_irrefl _)),s4⟩
  simp(disch:=omega)only[push_cast,aa,↓reduceIte,Nat.reduceEqDiff,Int.reduceEq,nO,fr,Xh,D7 s .i64 t Xh]
  refine ah (K9 (wF s t) w4) ?_
  rintro v w5 ⟨rfl,s5⟩
  by_cases q:zz (wF s t)
  ·simp(disch:=omega)only[push_cast,aa,↓reduceIte,Nat.reduceEqDiff,Int.reduceEq,fr,decide_eq_true q]
   exact jH _ _ ⟨t+1,⟨by omega,Xh⟩,(by simp only[push_cast,↓reduceIte,Nat.reduceEqDiff,true_and,and_true,and_self,eq_self,fr]),fun j h1 h2=>by
    by_cases e:j=t
    ·subst e;exact q
    ·exact fN j h1 (by omega),s4.trans s5⟩ (by rw[gZ];simp only[push_cast,↓reduceIte,Nat.reduceEqDiff,intOf,fr];omega)
  ·simp(disch:=omega)only[push_cast,aa,↓reduceIte,Nat.reduceEqDiff,Int.reduceEq,fr,decide_eq_false q]
   exact hE _ _ ⟨t,⟨ht,MF⟩,(by simp only[push_cast,↓reduceIte,Nat.reduceEqDiff,true_and,and_true,and_self,eq_self,fr]),JJ ht MF fN (fun _=>q),s4.trans s5⟩
 ·clear fr gZ
  rintro f w4 ⟨t,⟨ht,MF⟩,fr,hw,s4⟩
  have agx:((t:Int)-(i:Int)≤16)=¬(i+16<t):=propext (by omega)
  have eU:=fun{K u f d w}=>Dq (K:=K) (u:=u) (f:=f) (d:=d) (w:=w) Fz s i t (by omega) MF
  simp(disch:=omega)only[push_cast,aa,↓reduceIte,Nat.reduceEqDiff,Int.reduceEq,fr,agx]
  refine aT (eD (decide (¬i+16<t)) 1 i w4) ?_ ?_
  ·rintro ch w5 ⟨kH,Lb,s5⟩
   exact hP _ _ ⟨1,i,hT4 t nb ng hl ht hw (Classical.not_not.1 (of_decide_eq_false Lb)),kH,b1.trans ((s4.trans s5).below _)⟩
  rintro v w5 ⟨rfl,Lb,s5⟩
  replace Lb:=of_decide_eq_true Lb
  have o5:=o1.same (s4.trans s5)
  have b5:=b1.trans ((s4.trans s5).below w.heap.size)
  simp(disch:=omega)only[push_cast,aa,↓reduceIte,Nat.reduceEqDiff,Int.reduceEq,fr,eU,H5,ea fL j6 ⟨1,s.extract i t,i⟩ (by decide)]
  refine dA fL j6 o5 ⟨1,s.extract i t,i⟩ (by omega) (by omega) b5.size ?_
  intro A' c' w6 o6 g6 _ _ z6
  simp(disch:=omega)only[push_cast,aa,↓reduceIte,Nat.reduceEqDiff,Int.reduceEq,fr]
  exact hJ _ _ ⟨t,_,A',c',MF,(by simp only[push_cast,↓reduceIte,Nat.reduceEqDiff,true_and,and_true,and_self,eq_self,fr,List.length_append,List.length_singleton]),hT5 t nb ng hl ht hw Lb,o6,g6.below b5 b5.size o5.uh⟩ (Ln (j:=t) (by omega) (by simp only[push_cast,↓reduceIte,Nat.reduceEqDiff,fr]))
open Go.RowKit
abbrev eY(At:Option Addr)(n ct:Nat)(i en:Int)(nv:List Value):List Value:= .slice At n ct :: .int .i64 i :: .int .i64 en ::(nv++[.int .i64 0])
structure FV(g:Nat)(w:World)(ts:List ui)(i:Nat)(en:Int)(At:Option Addr)(ct:Nat)(nv:List Value):Prop where
 k:aE w g 56 (eY At ts.length ct i en nv)
 t:bq ui.cells 3 (·<g) w At ts
 le:ts.length≤4000
theorem FV.below{g:Nat}{w w':World}{ts:List ui}{i:Nat}{en:Int}{At:Option Addr}{ct:Nat}{nv:List Value}(h:FV g w ts i en At ct nv)(b:Below w.heap.size w w'):FV g w' ts i en At ct nv:=
 ⟨h.k.below b h.k.lt,h.t.keep fun b' hb=>b.block _ (Nat.lt_trans hb h.k.lt),h.le⟩
section
variable {K:Fr→World→Prop} {u w:World} {f:Fr} {d:Option Nat} {g t:Nat} {At:Option Addr} {n ct:Nat} {i en:Int} {nv:List Value}
theorem aE.pT(h:aE u g t (eY At n ct i en nv)):aq Tryz.prog K (Instr.loadAt 52 (.pointer (some ⟨g,0,none⟩))) u f d w=K (ai f d (.slice At n ct)) w:=h.ld AW 0 (by simp)
theorem aE.pA(h:aE u g t (eY At n ct i en nv)):aq Tryz.prog K (Instr.loadAt 3 (.pointer (some ⟨g,1,none⟩))) u f d w=K (ai f d (.int .i64 i)) w:=h.ld ak 1 (by simp)
theorem aE.pE(h:aE u g t (eY At n ct i en nv)):aq Tryz.prog K (Instr.loadAt 3 (.pointer (some ⟨g,2,none⟩))) u f d w=K (ai f d (.int .i64 en)) w:=h.ld ak 2 (by simp)
end
section
variable {K:Fr→World→Prop} {u w:World} {f:Fr} {d:Option Nat} {g t:Nat} {T:ui}
theorem aE.t0(h:aE u g t T.cells):aq Tryz.prog K (Instr.loadAt 3 (.pointer (some ⟨g,0,none⟩))) u f d w=K (ai f d (.int .i64 T.k)) w:=h.ld ak 0 (by simp[ui.cells])
theorem aE.t1(h:aE u g t T.cells):aq Tryz.prog K (Instr.loadAt 9 (.pointer (some ⟨g,1,none⟩))) u f d w=K (ai f d (.string T.s)) w:=h.ld zQ 1 (by simp[ui.cells])
theorem aE.t2(h:aE u g t T.cells):aq Tryz.prog K (Instr.loadAt 3 (.pointer (some ⟨g,2,none⟩))) u f d w=K (ai f d (.int .i64 T.at_)) w:=h.ld ak 2 (by simp[ui.cells])
theorem aE.tA(h:aE u g t T.cells):aq Tryz.prog K (Instr.loadAt 60 (.pointer (some ⟨g,0,none⟩))) u f d w=K (ai f d (.agg T.cells.toArray)) w:=h.dC oW ez
end
def Lo:List Value:=[.int .i64 0,.string ⟨#[]⟩,.int .i64 0]
theorem S8{K:Fr→World→Prop}{u:World}{f:Fr}{d:Option Nat}{w:World}(a:Int):aq Tryz.prog K (Instr.build 60 #[(2,.int .i64 a)]) u f d w=K (ai f d (.agg (ui.cells (eX a)).toArray)) w:=gF (by kernel_rfl)
theorem qq(t:ui):t.cells.all (·.oneCell')=true:=by simp[ui.cells,Value.oneCell']
theorem vn.CH{K:Fr→World→Prop}{u w:World}{f:Fr}{d:Option Nat}{ok:Nat→Prop}{A:Option Addr}{ts:List ui}(h:bq ui.cells 3 ok u A ts){i:Nat}{t:ui}(hi:ts[i]? =some t):
  aq Tryz.prog K (Instr.loadAt 60 (.pointer (some (eA A (i*3))))) u f d w=K (ai f d (.agg t.cells.toArray)) w:=
 h.dC fL oW hi ez
def aX(ts:List ui)(en:Int)(i:Nat):ui:=ts.getD i (eX en)
theorem lg{g:Nat}{w:World}{ts:List ui}{i:Nat}{en:Int}{At:Option Addr}{ct:Nat}{nv:List Value}(h:FV g w ts i en At ct nv):
  dw Tryz.prog 18 [.pointer (some ⟨g,0,none⟩)] w fun v w'=>v= .agg (aX ts en i).cells.toArray∧Below w.heap.size w w':=by
 refine rv (by simp) 1000 fun Q hQ=>?_
 simp(disch:=omega)only[push_cast,aa,↓reduceIte,Nat.reduceEqDiff,Int.reduceEq,gh]
 refine au (cs:=Lo) C7 ?_
 intro w1 k1 b1 z1
 have sd:Same w1 w1.drew:=(Same.refl w1).drew
 have h1:=(h.below b1)
 have hu:=h1.below (sd.below _)
 have ku:=k1.same sd
 have bu:=b1.trans (sd.below _)
 generalize Xi:w1.drew=u1 at*
 by_cases aI:i<ts.length
 ·have ZO:ts[i]? =some (aX ts en i):=by unfold aX;rw[List.getD_eq_getElem?_getD,List.getElem?_eq_getElem aI];rfl
  have Lp:Same u1 u1.drew:=(Same.refl u1).drew
  have hv:=hu.below (Lp.below _)
  have kv:=ku.same Lp
  have bv:=bu.trans (Lp.below _)
  generalize Bx:u1.drew=u2 at*
  have sA:=h.t.isSome (by omega)
  simp(disch:=omega)only[push_cast,aa,↓reduceIte,Nat.reduceEqDiff,Int.reduceEq,Xi,hu.k.pT,hu.k.pA,aI,Bx,hv.k.pT,hv.k.pA,sA,vn.CH hv.t ZO]
  refine aC kv (cs:=(aX ts en i).cells) ez rfl (qq _) ?_
  intro w3 k3 g3 z3
  simp(disch:=omega)only[push_cast,aa,↓reduceIte,Nat.reduceEqDiff,Int.reduceEq]
  exact zk k3 oW ez (by simp only[push_cast,↓reduceIte,Nat.reduceEqDiff,Int.reduceEq]) (hQ _ _ ⟨rfl,g3.below bv bv.size (by intro a ha;injection ha with ha;subst ha;exact Nat.le_refl _)⟩)
 ·have ZO:aX ts en i=eX en:=by unfold aX;rw[List.getD_eq_getElem?_getD,List.getElem?_eq_none (by omega)];rfl
  simp(disch:=omega)only[push_cast,aa,↓reduceIte,Nat.reduceEqDiff,Int.reduceEq,Xi,hu.k.pT,hu.k.pA,aI,hu.k.pE,S8]
  refine aC ku (cs:=(eX en).cells) ez rfl (qq _) ?_
  intro w3 k3 g3 z3
  simp(disch:=omega)only[push_cast,aa,↓reduceIte,Nat.reduceEqDiff,Int.reduceEq]
  exact zk k3 oW ez (by simp only[push_cast,↓reduceIte,Nat.reduceEqDiff,Int.reduceEq]) (hQ _ _ ⟨by rw[ZO],g3.below bu bu.size (by intro a ha;injection ha with ha;subst ha;exact Nat.le_refl _)⟩)
set_option maxHeartbeats 1000000 in
theorem yb{g:Nat}{w:World}{ts:List ui}{i:Nat}{en:Int}{At:Option Addr}{ct:Nat}{nv:List Value}(h:FV g w ts i en At ct nv)(CN:i≤100000)(hc:FuncId)(cap:List Value)(p:ui→Bool)
  (S9:∀w',Below w.heap.size w w'→dw Tryz.prog hc ([.agg (aX ts en i).cells.toArray]++cap) w' fun v C1=>v= .bool (p (aX ts en i))∧Below w'.heap.size w' C1):
  mO Tryz.prog 40 [.pointer (some ⟨g,0,none⟩),.func (.func hc) #[] cap.toArray] w
   (fun v w'=>v= .agg (aX ts en i).cells.toArray∧p (aX ts en i)=true∧FV g w' ts (i+1) en At ct nv∧ff w.heap.size g w w')
   (fun ch w'=>ch=[{v:=jt 2 (aX ts en i).at_,recovered:=false}]∧p (aX ts en i)=false∧ff w.heap.size g w w'):=by
 refine qS (by simp) 10000 fun Q Qp hQ hP=>?_
 simp(disch:=omega)only[push_cast,aa,↓reduceIte,Nat.reduceEqDiff,Int.reduceEq,gp]
 refine au (cs:=Lo) C7 ?_
 intro w1 k1 b1 z1
 have hg:=h.k.lt
 have h1:=h.below b1
 simp(disch:=omega)only[push_cast,aa,↓reduceIte,Nat.reduceEqDiff,Int.reduceEq]
 refine ah (lg h1) ?_
 rintro v w2 ⟨rfl,b2⟩
 have h2:=h1.below b2
 have k2:=k1.below b2 k1.lt
 have BC:=b1.trans (b2.mono b1.size)
 simp(disch:=omega)only[push_cast,aa,↓reduceIte,Nat.reduceEqDiff,Int.reduceEq]
 refine au (cs:=Lo) C7 ?_
 intro w3 k3 b3 z3
 have k2':=k2.below b3 k2.lt
 generalize hT:aX ts en i=T at*
 simp(disch:=omega)only[push_cast,aa,↓reduceIte,Nat.reduceEqDiff,Int.reduceEq]
 refine aC k3 (cs:=T.cells) ez rfl (qq _) ?_
 intro w4 k4 g4 z4
 have Hh:=g4.below b3 b3.size (by intro a ha;injection ha with ha;subst ha;exact Nat.le_refl _)
 have h4:=h2.below Hh
 have JK:=k2.below Hh k2.lt
 have kh:=BC.trans (Hh.mono BC.size)
 have sd:=(Same.refl w4).drew
 have h5:=h4.below (sd.below _)
 have k5:=k4.same sd
 have mD:=JK.same sd
 have re:=kh.trans (sd.below _)
 generalize hu:w4.drew=u at*
 simp(disch:=omega)only[push_cast,aa,↓reduceIte,Nat.reduceEqDiff,Int.reduceEq,hu,k5.tA,k5.t2]
 refine ah (S9 u re) ?_
 rintro v w6 ⟨rfl,b6⟩
 refine⟨b6,?_⟩
 have h6:=h5.below b6
 have k6:=k5.below b6 k5.lt
 have JL:=mD.below b6 mD.lt
 have CO:=re.trans (b6.mono re.size)
 simp(disch:=omega)only[push_cast,aa,↓reduceIte,Nat.reduceEqDiff,Int.reduceEq]
 refine aT (eD (p T) 2 T.at_ w6) ?_ ?_
 ·rintro ch w7 ⟨kH,hp,s7⟩
  exact hP _ _ ⟨kH,hp,ff.of (CO.trans (s7.below _)) (Nat.le_refl _)⟩
 rintro v w7 ⟨rfl,hp,s7⟩
 have h7:=h6.below (s7.below _)
 have k7:=k6.same s7
 have ZP:=JL.same s7
 have Cr:=CO.trans (s7.below _)
 have agy:w.heap.size≠g:=by omega
 have hg7:=h7.k.lt
 simp(disch:=omega)only[push_cast,aa,↓reduceIte,Nat.reduceEqDiff,Int.reduceEq,h7.k.pA]
 refine ft h7.k oU 1 (by simp) .i64 _ ?_
 intro w8 k8 g8 z8
 have t8:=h7.t.keep (w:=w8) fun b hb=>g8.aJ.block b (by omega) (by simp;omega)
 have Q0:aE w8 _ _ _:=k7.grown g8.aJ (by
  have:w2.heap.size≠g:=by have:=h2.k.lt;omega
  simpa using this)
 have agz:=ZP.grown g8.aJ (by simpa using agy)
 have bu8:=(ff.of Cr (Nat.le_refl _)).trans (ff.cell g8 Cr.size)
 simp(disch:=omega)only[push_cast,aa,↓reduceIte,Nat.reduceEqDiff,Int.reduceEq,Q0.tA]
 refine aC agz (cs:=T.cells) ez rfl (qq _) ?_
 intro w9 k9 g9 z9
 simp(disch:=omega)only[push_cast,aa,↓reduceIte,Nat.reduceEqDiff,Int.reduceEq]
 have k89:aE w9 g _ _:=aE.grown k8 g9.aJ (by
  have:g≠w.heap.size:=by omega
  simpa using this)
 have b9:Below w.heap.size w8 w9:=g9.below (Below.refl _ _) (by have:=bu8.size;omega) (by intro a ha;injection ha with ha;subst ha;exact Nat.le_refl _)
 refine zk k9 oW ez (by simp only[push_cast,↓reduceIte,Nat.reduceEqDiff,Int.reduceEq]) (hQ _ _ ⟨rfl,hp,⟨k89,t8.keep fun b hb=>b9.block b (by omega),h.le⟩,bu8.trans (ff.of b9 (Nat.le_refl _))⟩)
def isName(t:ui):Bool:=decide (t.k=1)
def uy(s:ByteArray)(t:ui):Bool:=decide (t.k=3∧t.s=s)
def yc(k:Nat)(t:ui):Bool:=decide (t.k=1∧t.s=mB.getD k ⟨#[]⟩)
theorem Xj(t:ui)(w:World):dw Tryz.prog 89 [.agg t.cells.toArray] w fun v w'=>v= .bool (isName t)∧Below w.heap.size w w':=by
 refine pL (by simp) 1000 fun Q hQ=>?_
 simp(disch:=omega)only[push_cast,aa,↓reduceIte,Nat.reduceEqDiff,Int.reduceEq,fk]
 refine au (aO _ t.cells) ?_
 intro w1 k1 b1 z1
 simp(disch:=omega)only[push_cast,aa,↓reduceIte,Nat.reduceEqDiff,Int.reduceEq,k1.t0]
 exact aF (hQ _ _ ⟨by simp only[push_cast,↓reduceIte,Nat.reduceEqDiff,isName],b1⟩)
theorem aE.agA{K:Fr→World→Prop}{u w:World}{f:Fr}{d:Option Nat}{g t:Nat}{s:ByteArray}(h:aE u g t [.string s]):aq Tryz.prog K (Instr.loadAt 9 (.pointer (some ⟨g,0,none⟩))) u f d w=K (ai f d (.string s)) w:=h.ld zQ 0 (by simp)
theorem aE.FX{K:Fr→World→Prop}{u w:World}{f:Fr}{d:Option Nat}{g t:Nat}{x:Int}(h:aE u g t [.int .i64 x]):aq Tryz.prog K (Instr.loadAt 3 (.pointer (some ⟨g,0,none⟩))) u f d w=K (ai f d (.int .i64 x)) w:=h.ld ak 0 (by simp)
theorem Xk(t:ui){w:World}{b:Nat}{s:ByteArray}(hb:aE w b 9 [.string s]):dw Tryz.prog 90 [.agg t.cells.toArray,.pointer (some ⟨b,0,none⟩)] w fun v w'=>v= .bool (uy s t)∧Below w.heap.size w w':=by
 refine pO (by simp) 1000 fun Q hQ=>?_
 simp(disch:=omega)only[push_cast,aa,↓reduceIte,Nat.reduceEqDiff,Int.reduceEq,fm]
 refine au (aO _ t.cells) ?_
 intro w1 k1 b1 z1
 have ZQ:=hb.below b1 hb.lt
 by_cases c:t.k=3
 ·have ec:=eq_true c
  simp(disch:=omega)only[push_cast,aa,↓reduceIte,Nat.reduceEqDiff,Int.reduceEq,k1.t0,ec,k1.t1,ZQ.agA]
  exact aF (hQ _ _ ⟨by simp only[push_cast,↓reduceIte,Nat.reduceEqDiff,uy,c,true_and],b1⟩)
 ·simp(disch:=omega)only[push_cast,aa,↓reduceIte,Nat.reduceEqDiff,Int.reduceEq,k1.t0,c]
  exact aF (hQ _ _ ⟨by simp only[push_cast,↓reduceIte,Nat.reduceEqDiff,uy,c,false_and],b1⟩)
structure mE(w:World):Prop where
 cell:∀i,i<9→w.cell? ⟨0,i,none⟩=some (.string (mB.getD i ⟨#[]⟩))
theorem mE.lt{w:World}(h:mE w):0<w.heap.size:=World.block_lt_of_cell? w _ (h.cell 0 (by decide))
theorem mE.below{B:Nat}{w w':World}(h:mE w)(hb:Below B w w')(hB:0<B):mE w':=⟨fun i hi=>(hb.cell (p:=⟨0,i,none⟩) hB).trans (h.cell i hi)⟩
theorem mE.on{w w':World}(h:mE w)(hb:Below w.heap.size w w'):mE w':=h.below hb h.lt
theorem mE.same{w w':World}(h:mE w)(hs:Same w w'):mE w':=h.on (hs.below _)
theorem mE.but{B g:Nat}{w w':World}(h:mE w)(hb:ff B g w w')(hB:0<B)(hg:0≠g):mE w':=
 ⟨fun i hi=>(World.cell?_of_block (a:=⟨0,i,none⟩) (hb.block _ hB hg)).trans (h.cell i hi)⟩
theorem mE.ld{K:Fr→World→Prop}{u w:World}{f:Fr}{d:Option Nat}(h:mE u){i:Nat}(hi:i<9):aq Tryz.prog K (Instr.loadAt 9 (.pointer (some ⟨0,i,none⟩))) u f d w=K (ai f d (.string (mB.getD i ⟨#[]⟩))) w:=
 eG u f d w zQ (h.cell i hi)
theorem Xl(t:ui){w:World}{b:Nat}{k:Nat}(hk:k<9)(hP:mE w)(hb:aE w b 3 [.int .i64 k]):dw Tryz.prog 41 [.agg t.cells.toArray,.pointer (some ⟨b,0,none⟩)] w fun v w'=>v= .bool (yc k t)∧Below w.heap.size w w':=by
 refine pI (by simp) 1000 fun Q hQ=>?_
 simp(disch:=omega)only[push_cast,aa,↓reduceIte,Nat.reduceEqDiff,Int.reduceEq,fi]
 refine au (aO _ t.cells) ?_
 intro w1 k1 b1 z1
 have ZQ:=hb.below b1 hb.lt
 have ZR:=hP.on b1
 have sd:=(Same.refl w1).drew
 replace k1:=k1.same sd
 replace ZQ:=ZQ.same sd
 replace ZR:=ZR.same sd
 replace b1:=b1.trans (sd.below _)
 generalize hu:w1.drew=u at*
 by_cases c:t.k=1
 ·have ec:=eq_true c
  simp(disch:=omega)only[push_cast,aa,↓reduceIte,Nat.reduceEqDiff,Int.reduceEq,hu,k1.t0,ec,k1.t1,ZQ.FX,ZR.ld hk,hk]
  exact aF (hQ _ _ ⟨by simp only[push_cast,↓reduceIte,Nat.reduceEqDiff,yc,c,true_and],b1⟩)
 ·simp(disch:=omega)only[push_cast,aa,↓reduceIte,Nat.reduceEqDiff,Int.reduceEq,hu,k1.t0,c]
  exact aF (hQ _ _ ⟨by simp only[push_cast,↓reduceIte,Nat.reduceEqDiff,yc,c,false_and],b1⟩)
section
variable {g:Nat} {w:World} {ts:List ui} {i:Nat} {en:Int} {At:Option Addr} {ct:Nat} {nv:List Value}
theorem tH(h:FV g w ts i en At ct nv)(CN:i≤100000):
  mO Tryz.prog 42 [.pointer (some ⟨g,0,none⟩)] w
   (fun v w'=>v= .agg (aX ts en i).cells.toArray∧isName (aX ts en i)=true∧FV g w' ts (i+1) en At ct nv∧ff w.heap.size g w w')
   (fun ch w'=>ch=[{v:=jt 2 (aX ts en i).at_,recovered:=false}]∧isName (aX ts en i)=false∧ff w.heap.size g w w'):=by
 refine qT (by simp) 10000 fun Q Qp hQ hP=>?_
 simp(disch:=omega)only[push_cast,aa,↓reduceIte,Nat.reduceEqDiff,Int.reduceEq,gq]
 refine au (cs:=Lo) C7 ?_
 intro w1 k1 b1 z1
 have hg:=h.k.lt
 have h1:=h.below b1
 simp(disch:=omega)only[push_cast,aa,↓reduceIte,Nat.reduceEqDiff,Int.reduceEq]
 refine aT (yb h1 CN 89 [] isName fun w' _=>Xj _ w') ?_ ?_
 ·rintro ch w2 ⟨kH,hp,b2⟩
  exact hP _ _ ⟨kH,hp,(ff.of b1 (Nat.le_refl _)).trans (b2.mono b1.size)⟩
 rintro v w2 ⟨rfl,hp,h2,b2⟩
 have k2:=k1.but b2 k1.lt (by omega)
 have BC:=(ff.of b1 (Nat.le_refl _)).trans (b2.mono b1.size)
 simp(disch:=omega)only[push_cast,aa,↓reduceIte,Nat.reduceEqDiff,Int.reduceEq]
 refine aC k2 (cs:=(aX ts en i).cells) ez rfl (qq _) ?_
 intro w3 k3 g3 z3
 simp(disch:=omega)only[push_cast,aa,↓reduceIte,Nat.reduceEqDiff,Int.reduceEq]
 have b3:Below w.heap.size w2 w3:=g3.below (Below.refl _ _) (by have:=k2.lt;omega) (by intro a ha;injection ha with ha;subst ha;exact Nat.le_refl _)
 have b3g:Below (g+1) w2 w3:=g3.below (Below.refl _ _) (by have:=h2.k.lt;omega) (by intro a ha;injection ha with ha;subst ha;show g+1≤w.heap.size;omega)
 exact zk k3 oW ez (by simp only[push_cast,↓reduceIte,Nat.reduceEqDiff,Int.reduceEq]) (hQ _ _ ⟨rfl,hp,⟨h2.k.below b3g (Nat.lt_succ_self _),h2.t.keep fun b hb=>b3g.block b (by omega),h.le⟩,BC.trans (ff.of b3 (Nat.le_refl _))⟩)
theorem Dr(h:FV g w ts i en At ct nv)(CN:i≤100000)(s:ByteArray):
  mO Tryz.prog 43 [.pointer (some ⟨g,0,none⟩),.string s] w
   (fun v w'=>v= .tuple #[]∧uy s (aX ts en i)=true∧FV g w' ts (i+1) en At ct nv∧ff w.heap.size g w w')
   (fun ch w'=>ch=[{v:=jt 2 (aX ts en i).at_,recovered:=false}]∧uy s (aX ts en i)=false∧ff w.heap.size g w w'):=by
 refine qU (by simp) 10000 fun Q Qp hQ hP=>?_
 simp(disch:=omega)only[push_cast,aa,↓reduceIte,Nat.reduceEqDiff,Int.reduceEq,gu]
 refine au (cs:=[.string s]) (Hz _ (.string s)) ?_
 intro w1 k1 b1 z1
 have hg:=h.k.lt
 have h1:=h.below b1
 simp(disch:=omega)only[push_cast,aa,↓reduceIte,Nat.reduceEqDiff,Int.reduceEq]
 refine aT (yb h1 CN 90 [.pointer (some ⟨w.heap.size,0,none⟩)] (uy s) fun w' b'=>Xk _ (k1.below b' k1.lt)) ?_ ?_
 ·rintro ch w2 ⟨kH,hp,b2⟩
  exact hP _ _ ⟨kH,hp,(ff.of b1 (Nat.le_refl _)).trans (b2.mono b1.size)⟩
 rintro v w2 ⟨rfl,hp,h2,b2⟩
 simp(disch:=omega)only[push_cast,aa,↓reduceIte,Nat.reduceEqDiff,Int.reduceEq]
 exact qH (hQ _ _ ⟨rfl,hp,h2,(ff.of b1 (Nat.le_refl _)).trans (b2.mono b1.size)⟩)
end
open Go.RowKit
theorem FY:Tryz.prog.globalNamed "internal/strconv.uint64pow10" =some 7:=by kernel_rfl
abbrev Pow(w:World):Prop:=Lib.TabIs Tryz.prog w "internal/strconv.uint64pow10" .u64 Lib.pow10Tab
theorem Pow.on{w w':World}(h:Pow w)(b:Below w.heap.size w w'):Pow w':=by
 unfold Pow Lib.TabIs at h ⊢
 rw[←h]
 unfold World.var?
 rw[FY]
 have aI:7<w.heap.size:=by
  rcases Nat.lt_or_ge 7 w.heap.size with h1|h1
  ·exact h1
  ·unfold World.var? at h
   rw[FY]at h
   simp[Array.getElem?_eq_none h1]at h
 have:=b.block _ aI
 simp only[Option.bind_eq_bind,Option.bind_some]
 rw[this]
structure Q1(w:World):Prop where
 p:mE w
 t:xq w
 pow:Pow w
 m:∃m:Int,w.cell? ⟨1,0,none⟩=some (.int .i64 m)
theorem Q1.on{w w':World}(h:Q1 w)(b:Below w.heap.size w w'):Q1 w':=by
 obtain⟨m,hm⟩:=h.m
 exact⟨h.p.on b,h.t.below b h.t.lt,h.pow.on b,m,(b.cell (p:=⟨1,0,none⟩) (World.block_lt_of_cell? w _ hm)).trans hm⟩
def qt(l:List Int):List UInt8:=l.flatMap fun n=>32 :: Lib.itoa n
theorem Lr(l:List Int)(n:Int):qt (l++[n])=qt l++32 :: Lib.itoa n:=by simp[qt]
theorem sO{l:List Int}(h:∀x∈l,(Lib.itoa x).length≤30):(qt l).length≤31*l.length:=by
 induction l with
 |nil=>simp[qt]
 |cons x l ih=>
  have h1:=h x List.mem_cons_self
  have h2:=ih fun y hy=>h y (List.mem_cons_of_mem _ hy)
  unfold qt at*
  rw[List.flatMap_cons,List.length_append,List.length_cons,List.length_cons]
  omega
set_option maxHeartbeats 1000000 in
theorem wW{w:World}(hP:Q1 w)(pt:List UInt8)(hpt:pt.length≤1000){A:Option Addr}{l:List Int}(h:Ints (·<w.heap.size) w A l)(c:Nat)(hl:l.length≤10)(QU:∀x∈l,ug x)(h30:∀x∈l,(Lib.itoa x).length≤30):
  dw Tryz.prog 81 [.string ⟨pt.toArray⟩,.slice A l.length c] w fun v w'=>v= .string ⟨(pt++qt l).toArray⟩∧Below w.heap.size w w':=by
 refine D0 (by simp) 1000 fun Q hQ=>?_
 simp(disch:=omega)only[push_cast,aa,↓reduceIte,Nat.reduceEqDiff,Int.reduceEq,AH]
 refine ax (fun f w'=>∃k:Nat,k≤l.length∧(f 0= .string ⟨(pt++qt (l.take k)).toArray⟩∧f 7= .slice A l.length c∧f 8= .int .i64 l.length∧f 9= .int .i64 k)∧Below w.heap.size w w')
  (fun f _=>l.length-(intOf (f 9)).toNat) ⟨0,Nat.zero_le _,⟨by simp[qt,UQ,xn],rfl,rfl,rfl⟩,Below.refl _ _⟩ ?_
 rintro f w1 ⟨k,hk,fr,b1⟩ J hJ
 have gZ:(intOf (f 9)).toNat=k:=by rw[fr.2.2.2];simp[intOf]
 have Ls:=sO (l:=l.take k) fun x hx=>h30 x (List.mem_of_mem_take hx)
 rw[List.length_take]at Ls
 generalize hX:qt (l.take k)=X at*
 by_cases aI:k<l.length
 case neg=>
  obtain rfl:k=l.length:=by omega
  rw[List.take_length]at hX
  simp(disch:=first|with_reducible assumption|omega|(simp only[List.length_append,List.length_cons,List.length_nil];omega))only[push_cast,aa,↓reduceIte,Nat.reduceEqDiff,Int.reduceEq,pK,fr,Nat.lt_irrefl,wH]
  exact aF (hQ _ _ ⟨by simp only[push_cast,↓reduceIte,Nat.reduceEqDiff,fr,hX],b1⟩)
 have Cp:l.getD k 0∈l:=by rw[List.getD_eq_getElem?_getD,List.getElem?_eq_getElem aI];exact List.getElem_mem aI
 have MF:l.take (k+1)=l.take k++[l.getD k 0]:=bS l 0 k aI
 have i1:=h.below b1
 have sA:=h.isSome (by omega)
 have ld:=fun{K:Fr→World→Prop} {f:Fr} {d:Option Nat} {w':World}=>i1.ld (P:=Tryz.prog) (K:=K) (f:=f) (d:=d) (w:=w') ak k aI
 have hx:=QU _ Cp
 have amM:=h30 _ Cp
 generalize l.getD k 0=x at*
 simp(disch:=first|with_reducible assumption|omega|(simp only[List.length_append,List.length_cons,List.length_nil];omega))only[push_cast,aa,↓reduceIte,Nat.reduceEqDiff,Int.reduceEq,pK,fr,aI,sA,ld,wH]
 refine ah (strconv_Itoa x hx.1 hx.2 w1 (hP.on b1).pow) ?_
 rintro v w2 ⟨rfl,b2⟩
 simp(disch:=first|with_reducible assumption|omega|(simp only[List.length_append,List.length_cons,List.length_nil];omega))only[push_cast,aa,↓reduceIte,Nat.reduceEqDiff,Int.reduceEq,fr,Db,wH]
 exact hJ _ _ ⟨k+1,aI,⟨by
  simp only[push_cast,↓reduceIte,Nat.reduceEqDiff,fr]
  rw[MF,Lr,hX]
  simp,(by simp only[push_cast,↓reduceIte,Nat.reduceEqDiff,Int.reduceEq,fr]),(by simp only[push_cast,↓reduceIte,Nat.reduceEqDiff,Int.reduceEq,fr]),(by simp only[push_cast,↓reduceIte,Nat.reduceEqDiff,Int.reduceEq,fr])⟩,b1.trans (b2.mono b1.size)⟩ (by rw[gZ];simp only[push_cast,↓reduceIte,Nat.reduceEqDiff,intOf,fr];omega)
open Go.RowKit Go.ChangeShapes Go.WideShapes Go.Deep Go.Joins
open Go.RowKit
abbrev H6(a:JV)(p:Pj)(t:Bool):List Value:=a.cells p++[.bool t]
abbrev Ta(a:JV):PV:=⟨a.m,a.Ap,a.cp,a.Aq,a.cq⟩
abbrev mF(p:Pj):cO:=⟨p.m,p.seen,p.aK⟩
theorem C9.FZ{ok:Nat→Prop}{w:World}{a:JV}{p:Pj}(h:C9 ok w a p):tv ok w (Ta a) (mF p):=⟨h.m,h.seen,h.aK⟩
section
variable {K:Fr→World→Prop} {u w:World} {f:Fr} {d:Option Nat} {g t:Nat} {a:JV} {p:Pj} {b:Bool}
theorem aE.lM(h:aE u g t (H6 a p b)):aq Tryz.prog K (Instr.loadAt 27 (.pointer (some ⟨g,2,none⟩))) u f d w=K (ai f d (a.m.val p.m)) w:=
 h.oZ iC 2 (vs:=a.m.cells p.m) fR fun k v hv=>by
  match k,hv with
  |0,hv=>exact hv
  |1,hv=>exact hv
  |2,hv=>exact hv
  |3,hv=>exact hv
  |4,hv=>exact hv
  |k+5,hv=>simp at hv
theorem aE.lS(h:aE u g t (H6 a p b)):aq Tryz.prog K (Instr.loadAt 22 (.pointer (some ⟨g,0,none⟩))) u f d w=K (ai f d (.slice a.AS p.S.length a.cS)) w:=h.ld we 0 (by simp)
theorem aE.lE(h:aE u g t (H6 a p b)):aq Tryz.prog K (Instr.loadAt 22 (.pointer (some ⟨g,1,none⟩))) u f d w=K (ai f d (.slice a.AE p.E.length a.cE)) w:=h.ld we 1 (by simp)
theorem aE.lst(h:aE u g t (H6 a p b)):aq Tryz.prog K (Instr.loadAt 24 (.pointer (some ⟨g,4,none⟩))) u f d w=K (ai f d (.slice a.m.As p.m.aB.length a.m.cs)) w:=h.ld aS 4 (by simp)
theorem aE.l1(h:aE u g t (H6 a p b)):aq Tryz.prog K (Instr.loadAt 24 (.pointer (some ⟨g,7,none⟩))) u f d w=K (ai f d (.slice a.Ap p.seen.length a.cp)) w:=h.ld aS 7 (by simp)
theorem aE.l2(h:aE u g t (H6 a p b)):aq Tryz.prog K (Instr.loadAt 24 (.pointer (some ⟨g,8,none⟩))) u f d w=K (ai f d (.slice a.Af p.free.length a.cf)) w:=h.ld aS 8 (by simp)
theorem aE.l3(h:aE u g t (H6 a p b)):aq Tryz.prog K (Instr.loadAt 24 (.pointer (some ⟨g,9,none⟩))) u f d w=K (ai f d (.slice a.Au p.av.length a.cu)) w:=h.ld aS 9 (by simp)
theorem aE.l4(h:aE u g t (H6 a p b)):aq Tryz.prog K (Instr.loadAt 24 (.pointer (some ⟨g,10,none⟩))) u f d w=K (ai f d (.slice a.Aq p.aK.length a.cq)) w:=h.ld aS 10 (by simp)
theorem aE.lB(h:aE u g t (H6 a p b)):aq Tryz.prog K (Instr.loadAt 4 (.pointer (some ⟨g,11,none⟩))) u f d w=K (ai f d (.bool b)) w:=h.ld Jj 11 (by simp)
end
theorem Tb:iE Tryz.prog 67=some ([(0,5),(5,1),(6,1)],[.int .i64 0,.int .i64 0,.slice none 0 0,.slice none 0 0,.slice none 0 0,.slice none 0 0,.slice none 0 0]):=by kernel_rfl
theorem Tc{K:Fr→World→Prop}{u:World}{f:Fr}{d:Option Nat}{w:World}(a:JV)(p:Pj):
  aq Tryz.prog K (Instr.build 67 #[(0,a.m.val p.m),(1,.slice a.Ap p.seen.length a.cp),(2,.slice a.Aq p.aK.length a.cq)]) u f d w=K (ai f d (.agg ((Ta a).cells (mF p)).toArray)) w:=by
 have:=Js (P:=Tryz.prog) (K:=K) (u:=u) (f:=f) (d:=d) (w:=w) Tb rfl rfl rfl rfl (v0:=a.m.val p.m) (v1:= .slice a.Ap p.seen.length a.cp) (v2:= .slice a.Aq p.aK.length a.cq) rfl rfl rfl
 rw[this];rfl
theorem qu{w:World}{g:Nat}{a:JV}{p:Pj}{b:Bool}(h:aE w g 46 (H6 a p b)):
  dw Tryz.prog 84 [.pointer (some ⟨g,0,none⟩)] w fun v w'=>v=(Ta a).val (mF p)∧Below w.heap.size w w':=by
 refine qW (by simp) 1000 fun Q hQ=>?_
 simp(disch:=omega)only[push_cast,aa,↓reduceIte,Nat.reduceEqDiff,Int.reduceEq,ke]
 refine au (cs:=[.int .i64 0,.int .i64 0,.slice none 0 0,.slice none 0 0,.slice none 0 0,.slice none 0 0,.slice none 0 0]) abi ?_
 intro w1 k1 b1 z1
 have hd:=(h.below b1 h.lt).drew
 simp(disch:=omega)only[push_cast,aa,↓reduceIte,Nat.reduceEqDiff,Int.reduceEq,hd.lM,hd.l1,hd.l4,Tc]
 refine aC k1.drew (cs:=(Ta a).cells (mF p)) wh rfl (by simp[Value.oneCell']) ?_
 intro w2 k2 g2 z2
 simp(disch:=omega)only[push_cast,aa,↓reduceIte,Nat.reduceEqDiff,Int.reduceEq]
 exact zk k2 A3 wh (by simp only[push_cast,↓reduceIte,Nat.reduceEqDiff,Int.reduceEq]) (hQ _ _ ⟨rfl,g2.below ((b1).trans ((Same.refl w1).drew.below _)) (by simp only[World.drew];omega) (by intro x hx;injection hx with hx;subst hx;exact Nat.le_refl _)⟩)
open Go.RowKit
def OP(P:Program)(s:TypeId)(k:Nat):Option Nat:=match P.underlying s with
 |some (.struct fs)=>match(fs[k]? :Option Field)with
  |some f=>if aR P f.type=some false then some f.offset else none
  |none=>none
 |_=>none
def Xm(ts:List ui):Prop:=∀t∈ts,t.s=BA∨t.s=comma→t.k=3
theorem zW:∀(n:Nat) (l:List UInt8),l.length≤n→∀a,Xm (dp a l).1
 |_,[],_,a=>by rw[sJ];exact fun t ht=>by cases ht
 |0,c :: r,h,_=>by simp at h
 |n+1,c :: r,h,a=>by
  have hr:r.length≤n:=by simpa using h
  rw[pj]
  split
  ·exact zW n r hr (a+1)
  ·split
   ·intro t ht hs
    rcases List.mem_cons.1 ht with rfl|ht
    ·rfl
    ·exact zW n r hr (a+1) t ht hs
   ·split
    ·intro t ht;cases ht
    ·rename_i hb hg hl
     split
     ·intro t ht;cases ht
     ·intro t ht hs
      rcases List.mem_cons.1 ht with rfl|ht
      ·exfalso
       have Fx:pa (c.toNat:Int):=Classical.not_not.1 hl
       have hc:∀x:UInt8,(⟨(c :: r.take (dh r)).toArray⟩:ByteArray)=⟨#[x]⟩→c=x:=fun x he=>by
        have:=congrArg (fun b:ByteArray=>b.data.toList) he
        simp at this
        exact this.1
       rcases hs with hs|hs
       ·rw[hc _ hs]at Fx;revert Fx;decide
       ·rw[hc _ hs]at Fx;revert Fx;decide
      ·exact zW n _ (by rw[List.length_drop];omega) _ t ht hs
theorem JM{ts:List ui}(h:Xm ts)(en:Int)(i:Nat):(aX ts en i).s=BA∨(aX ts en i).s=comma→(aX ts en i).k=3:=by
 unfold aX
 rw[List.getD_eq_getElem?_getD]
 cases he:ts[i]?with
 |none=>intro hs;rcases hs with hs|hs<;>(simp[eX,BA,comma]at hs)
 |some t=>exact h t (List.mem_of_getElem? he)
structure Xn(ts:List ui)(en a:Int):Prop where
 no:¬((cD xr ts).1.length=ts.length∧(cD xr ts).2.part=9)
 at_:a=(ts.getD (cD xr ts).1.length (eX en)).at_
theorem eL.Lt{ts:List ui}{i:Nat}{st:nB}{of:List Int}{en:Int}(h:eL ts i st of)(hs:dX st (aX ts en i)=none)(hp:st.part≠9):Xn ts en (aX ts en i).at_:=by
 have h1:=h.stuck hs
 refine⟨by rw[h1];exact fun c=>hp c.2,by rw[h1,h.len];rfl⟩
theorem qv{st:nB}{T:ui}(hn:st.next= .n∨st.next= .m)(hT:T.k=1):dX st T=some (⟨st.part,st.names+1,if st.part=8 then(if 0<(st.names+1)%3 then .n else .z)else .m⟩,(st.part:Int)):=by
 unfold dX pk
 rcases hn with hn|hn<;>simp only[hn,hT,if_true]
theorem zX{st:nB}{T:ui}(hn:st.next= .n)(hT:T.k≠1):dX st T=none:=by
 unfold dX
 simp only[hn,hT,if_false]
theorem JN{st:nB}{T:ui}{k:Nat}(hk:st.part=k)(h9:k<9)(hn:st.next= .p):dX st T=if yc k T=true then some (⟨k,0,if k=0 then .n else .m⟩,-1)else none:=by
 unfold dX yc
 subst hk
 simp only[hn,h9,true_and,decide_eq_true_eq]
theorem H7{st:nB}{T:ui}(hT:T.s=BA∨T.s=comma→T.k=3)(hn:(st.next= .m∧T.k≠1)∨(st.next= .z∧T.s≠comma)):dX st T=if uy BA T=true then some (⟨st.part+1,st.names,.p⟩,-1)else none:=by
 unfold dX uy
 by_cases hs:T.s=BA
 ·have h3:=hT (.inl hs)
  rcases hn with⟨hn,h1⟩|⟨hn,h1⟩<;>simp[hn,hs,h3]
 ·rcases hn with⟨hn,h1⟩|⟨hn,h1⟩<;>simp[hn,hs,h1]
theorem F0{st:nB}{T:ui}(hT:T.s=BA∨T.s=comma→T.k=3)(hn:st.next= .z)(hc:T.s=comma):uy comma T=true∧dX st T=some (⟨st.part,st.names,.n⟩,-1):=by
 have h3:=hT (.inr hc)
 refine⟨by unfold uy;simp[hc,h3],?_⟩
 unfold dX
 simp only[hn,hc,if_true]
 rw[if_neg (by decide)]
theorem Ej{P:Program}{K:Fr→World→Prop}{u:World}{f:Fr}{d:Option Nat}{w:World}{t k off:Nat}(hk:OP P t k=some off)(cs:List Value){v:Value}(hv:cs[off]? =some v):
  aq P K (Instr.field t (.agg cs.toArray) k) u f d w=K (ai f d v) w:=
 aM u f d w fun w' _=>by
  unfold OP at hk
  cases hu:P.underlying t with
  |none=>simp[hu]at hk
  |some de=>
   rw[hu]at hk
   cases de<;>first|(simp at hk;done)|skip
   rename_i fs
   simp only at hk
   cases hf:(fs[k]? :Option Field)with
   |none=>simp[hf]at hk
   |some fl=>
    simp only[hf]at hk
    cases Bx:P.underlying fl.type with
    |none=>simp[aR,Bx]at hk
    |some de2=>
     cases de2<;>simp[aR,Bx]at hk<;>(subst hk;simp[Instr.field,run_underlying hu,hf,part,isAgg,asAgg,run_underlying Bx,hv])
section
variable {K:Fr→World→Prop} {u:World} {f:Fr} {d:Option Nat} {w:World} (T:ui)
theorem OQ:aq Tryz.prog K (Instr.field 60 (.agg T.cells.toArray) 0) u f d w=K (ai f d (.int .i64 T.k)) w:=Ej (off:=0) (by kernel_rfl) T.cells rfl
theorem Vb:aq Tryz.prog K (Instr.field 60 (.agg T.cells.toArray) 1) u f d w=K (ai f d (.string T.s)) w:=Ej (off:=1) (by kernel_rfl) T.cells rfl
theorem Vc:aq Tryz.prog K (Instr.field 60 (.agg T.cells.toArray) 2) u f d w=K (ai f d (.int .i64 T.at_)) w:=Ej (off:=2) (by kernel_rfl) T.cells rfl
end
theorem ju{P:Program}{K:Fr→World→Prop}{u:World}{f:Fr}{d:Option Nat}{w:World}(t:TypeId)(xo yo:Operand)(a b:ByteArray):aq P K (bW .neq t xo yo (.string a) (.string b)) u f d w=K (ai f d (.bool (decide (a≠b)))) w:=
 aM u f d w fun w' _=>by
  by_cases h:a=b
  ·subst h;simp[bW,eqGuard,binOp,Op.stringOp,HK]
  ·simp[bW,eqGuard,binOp,Op.stringOp,HK,h]
theorem JO{At:Option Addr}{n ct:Nat}{i en:Int}{nv:List Value}{k:Nat}(hk:k<nv.length):(eY At n ct i en nv)[3+k]? =nv[k]? :=by
 rw[show 3+k=k+1+1+1 by omega]
 simp only[eY,List.getElem?_cons_succ]
 rw[List.getElem?_append_left hk]
theorem Td{At:Option Addr}{n ct:Nat}{i en:Int}{nv:List Value}{k:Nat}(hk:k<nv.length)(v:Value):(eY At n ct i en nv).set (3+k) v=eY At n ct i en (nv.set k v):=by
 rw[show 3+k=k+1+1+1 by omega]
 simp only[eY,List.set_cons_succ]
 rw[List.set_append_left _ _ hk]
structure PM(g B k:Nat)(ts:List ui)(en:Int)(At:Option Addr)(ct:Nat)(nv:List Value)(xu:List Int)(w0 w:World)(i:Nat)(st:nB)(of:List Int)(A:Option Addr)(c:Nat):Prop where
 r:eL ts i st of
 h:FV g w ts i en At ct (nv.set k (.slice A (cA ts of k).length c))
 o:bH ui.cells (B+1) 60 3 w A c (cA ts of k)
 kb:aE w B 3 [.int .i64 k]
 b:ff B g w0 w
 Te:∀j,j≠k→cA ts of j=cA ts xu j
 p:st.part=k
theorem BD(ts:List ui)(of:List Int)(j:Nat)(h:of.length<ts.length):cA ts (of++[-1]) j=cA ts of j:=by
 rw[FU ts of (-1) j 0 h,if_neg (by omega),List.append_nil]
section
variable {g B k:Nat} {ts:List ui} {en:Int} {At:Option Addr} {ct:Nat} {nv:List Value} {xu:List Int} {w0 w:World} {i:Nat} {st:nB} {of:List Int} {A:Option Addr} {c:Nat}
theorem PM.sign{w':World}{st':nB}(h:PM g B k ts en At ct nv xu w0 w i st of A c)(hg:g<B)(hs:dX st (aX ts en i)=some (st',-1))(hp:st'.part=k)(h':FV g w' ts (i+1) en At ct (nv.set k (.slice A (cA ts of k).length c)))(b:ff w.heap.size g w w'):
  PM g B k ts en At ct nv xu w0 w' (i+1) st' (of++[-1]) A c:=by
 obtain⟨hi,hr⟩:=h.r.next hs
 have e:∀j,cA ts (of++[-1]) j=cA ts of j:=fun j=>BD ts of j (by rw[h.r.len];exact hi)
 have hB:=h.kb.lt
 refine⟨hr,by rw[e];exact h',?_,h.kb.but b hB (by omega),h.b.trans (b.mono (by omega)),fun j hj=>by rw[e];exact h.Te j hj,hp⟩
 rw[e]
 refine h.o.keep fun b' sH=>?_
 have hf:=h.o.form
 rcases hf with⟨h0,_⟩|⟨q,h0,BE,ub⟩
 ·rw[h0]at sH;cases sH
 ·rw[h0]at sH
  injection sH with sH
  simp only at sH
  subst sH
  exact b.block _ ub (by omega)
theorem PM.same{w':World}(h:PM g B k ts en At ct nv xu w0 w i st of A c)(s:Same w w'):PM g B k ts en At ct nv xu w0 w' i st of A c:=
 ⟨h.r,h.h.below (s.below _),h.o.same s,h.kb.same s,h.b.trans (ff.of (s.below B) (Nat.le_refl _)),h.Te,h.p⟩
theorem PM.below{w':World}(h:PM g B k ts en At ct nv xu w0 w i st of A c)(b:Below w.heap.size w w'):PM g B k ts en At ct nv xu w0 w' i st of A c:=
 ⟨h.r,h.h.below b,h.o.below b (Nat.le_refl _),h.kb.below b h.kb.lt,h.b.trans (ff.of b (Nat.le_of_lt h.kb.lt)),h.Te,h.p⟩
theorem PM.Vd(h:PM g B k ts en At ct nv xu w0 w i st of A c):i≤4000:=Nat.le_trans h.r.le h.h.le
theorem wY(ts:List ui)(of:List Int)(j:Nat):(cA ts of j).length≤ts.length:=by
 unfold cA
 rw[List.length_map]
 refine Nat.le_trans (List.length_filter_le _ _) ?_
 rw[List.length_zip];omega
theorem aE.pN{K:Fr→World→Prop}{u w:World}{f:Fr}{d:Option Nat}{g t n k:Nat}{i:Int}{v:Value}(h:aE u g t (eY At n ct i en (nv.set k v)))(hk:k<nv.length):aq Tryz.prog K (Instr.loadAt 52 (.pointer (some ⟨g,3+k,none⟩))) u f d w=K (ai f d v) w:=
 eG u f d w AW (by rw[h.cell,JO (by rw[List.length_set];exact hk),List.getElem?_set,if_pos rfl,if_pos hk])
theorem PM.own{w':World}(h:PM g B k ts en At ct nv xu w0 w i st of A c)(hg:g<B)(b:ff w.heap.size g w w'):bH ui.cells (B+1) 60 3 w' A c (cA ts of k):=by
 refine h.o.keep fun b' sH=>?_
 have hf:=h.o.form
 rcases hf with⟨h0,_⟩|⟨q,h0,BE,ub⟩
 ·rw[h0]at sH;cases sH
 ·rw[h0]at sH
  injection sH with sH
  simp only at sH
  subst sH
  exact b.block _ ub (by omega)
theorem sQ{st':nB}(hr:eL ts i st of)(hs:dX st (aX ts en i)=some (st',(k:Int))):eL ts (i+1) st' (of++[(k:Int)])∧∀j,cA ts (of++[(k:Int)]) j=cA ts of j++(if j=k then [aX ts en i]else []):=by
 obtain⟨hi,eM⟩:=hr.next hs
 refine⟨eM,fun j=>?_⟩
 rw[FU ts of k j en (by rw[hr.len];exact hi),hr.len]
 by_cases e:j=k
 ·rw[if_pos e,if_pos (by omega)];rfl
 ·rw[if_neg e,if_neg (by omega)]
theorem Lu{st' abM:nB}(hr:eL ts i st of)(hs:dX st (aX ts en i)=some (st',(k:Int)))(EW:dX st' (aX ts en (i+1))=some (abM,(k:Int))):eL ts (i+2) abM (of++[(k:Int)]++[(k:Int)])∧∀j,cA ts (of++[(k:Int)]++[(k:Int)]) j=cA ts of j++(if j=k then [aX ts en i,aX ts en (i+1)]else []):=by
 obtain⟨h1,e1⟩:=sQ hr hs
 obtain⟨h2,e2⟩:=sQ h1 EW
 refine⟨h2,fun j=>?_⟩
 rw[e2,e1]
 by_cases e:j=k
 ·simp only[if_pos e,List.append_assoc,List.singleton_append]
 ·simp only[if_neg e,List.append_nil]
theorem PM.names{w1 w3 w4:World}{st':nB}{A':Option Addr}{c' i':Nat}{Lv:List Int}{X:List ui}(h:PM g B k ts en At ct nv xu w0 w i st of A c)(hg:g<B)(MK:k<nv.length)(hr:eL ts i' st' Lv)(e:∀j,cA ts Lv j=cA ts of j++(if j=k then X else []))(hp:st'.part=k)
  (h1:FV g w1 ts i' en At ct (nv.set k (.slice A (cA ts of k).length c)))(b1:ff w.heap.size g w w1)
  (o3:bH ui.cells (B+1) 60 3 w3 A' c' (cA ts of k++X))(g3:bJ w1 w3 A)
  (k4:aE w4 g 56 ((eY At ts.length ct i' en (nv.set k (.slice A (cA ts of k).length c))).set (3+k) (.slice A' ((cA ts of k).length+X.length) c')))(g4:bJ w3 w4 (some ⟨g,0,none⟩)):
  PM g B k ts en At ct nv xu w0 w4 i' st' Lv A' c':=by
 have ek:cA ts Lv k=cA ts of k++X:=by rw[e,if_pos rfl]
 have hB:=h.kb.lt
 have hz1:=b1.size
 have Sx:=g3.aJ.size
 have hA:∀a,A=some a→B+1≤a.block:=h.o.uh
 have g3g:∀b,b<w1.heap.size→b≤B→w3.heap[b]? =w1.heap[b]? :=fun b hb hbB=>g3.aJ.block b hb (by
  cases A with
  |none=>simp
  |some a=>have:=hA a rfl;simp;omega)
 have Tf:(eY At ts.length ct (i':Int) en (nv.set k (.slice A (cA ts of k).length c))).set (3+k) (.slice A' ((cA ts of k).length+X.length) c')=eY At ts.length ct (i':Int) en (nv.set k (.slice A' (cA ts Lv k).length c')):=by
  rw[Td (by rw[List.length_set];exact MK),List.set_set,ek,List.length_append]
 rw[Tf]at k4
 refine⟨hr,⟨k4,?_,h.h.le⟩,?_,?_,?_,fun j hj=>?_,hp⟩
 ·refine h1.t.keep fun b hb=>?_
  have ZQ:=h1.k.lt
  rw[g4.aJ.block b (by omega) (by simp;omega),g3g b (by omega) (by omega)]
 ·rw[ek]
  refine o3.keep fun b' sH=>?_
  have hf:=o3.form
  rcases hf with⟨h0,_⟩|⟨q,h0,BE,ub⟩
  ·rw[h0]at sH;cases sH
  ·rw[h0]at sH
   injection sH with sH
   simp only at sH
   subst sH
   exact g4.aJ.block _ ub (by simp;omega)
 ·have k1:=h.kb.but b1 hB (by omega)
  have:w4.heap[B]? =w1.heap[B]? :=by rw[g4.aJ.block B (by omega) (by simp;omega),g3g B (by omega) (Nat.le_refl _)]
  exact this.trans k1
 ·have q1:=b1.mono (B:=B) (by omega)
  have q3:ff B g w1 w3:=ff.bQ g3 (fun a ha=>by have:=hA a ha;omega) (by omega)
  have q4:ff B g w3 w4:=ff.cell g4 (by omega)
  exact h.b.trans (q1.trans (q3.trans q4))
 ·rw[e,if_neg hj,List.append_nil];exact h.Te j hj
end
structure PD(g B k:Nat)(ts:List ui)(en:Int)(At:Option Addr)(ct:Nat)(nv:List Value)(xu:List Int)(w0 w:World)(i:Nat)(st:nB)(of:List Int)(A:Option Addr)(c:Nat):Prop where
 r:eL ts i st of
 h:FV g w ts i en At ct (nv.set k (.slice A (cA ts of k).length c))
 o:bH ui.cells (B+1) 60 3 w A c (cA ts of k)
 b:ff B g w0 w
 Te:∀j,j≠k→cA ts of j=cA ts xu j
 p:st.part=k+1
 n:st.next= .p
theorem OR{nv:List Value}{k:Nat}{v:Value}(h:nv.getD k undef=v)(hk:k<nv.length):nv.set k v=nv:=by
 apply List.ext_getElem?
 intro j
 rw[List.getElem?_set]
 by_cases e:k=j
 ·subst e
  rw[if_pos rfl,if_pos hk,List.getElem?_eq_getElem hk]
  rw[List.getD_eq_getElem?_getD,List.getElem?_eq_getElem hk]at h
  rw[←h];rfl
 ·rw[if_neg e]
theorem H8:aL Tryz.prog 52=some 1:=by kernel_rfl
theorem Xo(x0 x1 x2 x3 x4 x5:Value)(a b:ui):Instr.fill (fun i=>some (i*3,3)) #[x0,x1,x2,x3,x4,x5] [(0,.agg a.cells.toArray),(1,.agg b.cells.toArray)]=some (a.cells++b.cells).toArray:=by
 simp[Instr.fill,Value.cells,ui.cells]
theorem OS{P:Program}{K:Fr→World→Prop}{f:Fr}{d:Option Nat}{w:World}{t e bytes:Nat}(hT:uJ P t e 3 bytes)(a b:ui):
  cG P K (Instr.buildSlice t 2 #[(0,.agg a.cells.toArray),(1,.agg b.cells.toArray)]) f d w=K (ai f d (.slice (some ⟨w.heap.size,0,none⟩) 2 2)) (w.alloc (.cells (a.cells++b.cells).toArray e)):=by
 obtain⟨i,z,hi,hz,hs,hb,hc⟩:=hT.get
 refine fa ?_
 have ZS:(Array.range 6).map (z.cells[·%z.cells.size]!)= #[z.cells[0%z.cells.size]!,z.cells[1%z.cells.size]!,z.cells[2%z.cells.size]!,z.cells[3%z.cells.size]!,z.cells[4%z.cells.size]!,z.cells[5%z.cells.size]!]:=by
  apply Array.ext';simp[List.range_succ]
 have hf:=Xo (z.cells[0%z.cells.size]!) (z.cells[1%z.cells.size]!) (z.cells[2%z.cells.size]!) (z.cells[3%z.cells.size]!) (z.cells[4%z.cells.size]!) (z.cells[5%z.cells.size]!) a b
 rw[←ZS]at hf
 simp only[Instr.buildSlice,run_underlying hT.under,sizeOf,typeInfo,Sem.run_bind,Result.andThen_ok]
 simp[hi,hs,zeroValue,typeInfo,hz,newRow,hf]
theorem OT{P:Program}{K:Fr→World→Prop}{f:Fr}{d:Option Nat}{w:World}{B t e bytes ty:Nat}{A:Option Addr}{c:Nat}{l:List ui}(hT:uJ P t e 3 bytes)(mR:bH ui.cells B e 3 w A c l)(x y:ui)(hl:(l.length+2)*bytes≤140737488355328)(ZF:l.length+2≤9223372036854775807)(hB:B≤w.heap.size)
  (hk:∀A' c' w',bH ui.cells B e 3 w' A' c' (l++[x,y])→bJ w w' A→w.heap.size≤w'.heap.size→K (ai f d (.slice A' (l.length+2) c')) w'):
  cG P K (Builtin.append_ #[t,t] ty #[.slice A l.length c,.slice (some ⟨w.heap.size,0,none⟩) 2 2]) f d (w.alloc (.cells (x.cells++y.cells).toArray e)):=by
 refine pH hT ty (mR.alloc _) (HA w (x.cells++y.cells) e) (by simp[ui.cells]) (by simp[ui.cells,Value.oneCell']) hl ZF (by simp;omega) ?_
 intro A' c' w' ho hg hA hs hz
 have Cw:w.heap.size≤w'.heap.size:=by have:(w.alloc (.cells (x.cells++y.cells).toArray e)).heap.size=w.heap.size+1:=by simp
                                      omega
 refine hk A' c' w' ?_ ⟨⟨hg.aJ.os,hg.aJ.tape,hg.aJ.output,Cw,fun k hk cY=>?_⟩⟩ Cw
 ·unfold bH
  rw[List.flatMap_append,List.length_append]
  simpa using ho
 ·rw[hg.aJ.block k (by simp;omega) cY,Below.heap_alloc w _ k hk]
set_option maxHeartbeats 4000000 in
theorem F1{g k i ct:Nat}{w:World}{ts:List ui}{en:Int}{At:Option Addr}{nv:List Value}{st:nB}{xu:List Int}(h:FV g w ts i en At ct nv)(hr:eL ts i st xu)(hp:st.part=k)(hn:st.next= .p)(hk:k<9)
  (MK:nv.length=9)(hnk:nv.getD k undef= .slice none 0 0)(qX:cA ts xu k=[])(hP:mE w)(hPg:0≠g)(hTk:Xm ts):
  mO Tryz.prog 17 [.pointer (some ⟨g,0,none⟩),.int .i64 k] w
   (fun v w'=>v= .tuple #[]∧∃(i':Nat) (st':nB) (Lv:List Int) (A:Option Addr) (c:Nat),PD g w.heap.size k ts en At ct nv xu w w' i' st' Lv A c)
   (fun ch w'=>∃a,Xn ts en a∧ch=[{v:=jt 2 a,recovered:=false}]∧ff w.heap.size g w w'):=by
 have hg:=h.k.lt
 have S5:k<nv.length:=by omega
 refine qP (by simp) 1000000 fun Q Qp hQ ZT=>?_
 simp(disch:=omega)only[push_cast,aa,↓reduceIte,Nat.reduceEqDiff,Int.reduceEq,gb]
 refine au (cs:=[.int .i64 k]) (Hz _ (.int .i64 k)) ?_
 intro w1 k1 b1 z1
 have h1:=h.below b1
 have ZR:=hP.on b1
 simp(disch:=omega)only[push_cast,aa,↓reduceIte,Nat.reduceEqDiff,Int.reduceEq]
 have CN:i≤4000:=Nat.le_trans hr.le h.le
 refine aT (yb h1 (by omega) 41 [.pointer (some ⟨w.heap.size,0,none⟩)] (yc k) fun w' b'=>Xl _ hk (ZR.on b') (k1.below b' k1.lt)) ?_ ?_
 ·rintro ch w2 ⟨kH,hq,b2⟩
  refine ZT _ _ ⟨_,hr.Lt (by rw[JN hp hk hn,hq];rfl) (by omega),kH,(ff.of b1 (Nat.le_refl _)).trans (b2.mono b1.size)⟩
 rintro v w2 ⟨rfl,hq,h2,b2⟩
 have k2:=k1.but b2 k1.lt (by omega)
 have BC:=(ff.of b1 (Nat.le_refl _)).trans (b2.mono b1.size)
 have eU:=JN hp hk hn (T:=aX ts en i)
 rw[hq,if_pos rfl]at eU
 have hM:PM g w.heap.size k ts en At ct nv xu w w2 (i+1) ⟨k,0,if k=0 then .n else .m⟩ (xu++[-1]) none 0:=by
  obtain⟨hi,OU⟩:=hr.next eU
  have e:∀j,cA ts (xu++[-1]) j=cA ts xu j:=fun j=>BD ts xu j (by rw[hr.len];exact hi)
  refine⟨OU,?_,?_,k2,BC,fun j _=>e j,rfl⟩
  ·rw[e,qX,List.length_nil,OR hnk S5];exact h2
  ·rw[e,qX];exact Own.nil _ _ _ _
 rw[Rr]
 refine cut (fun f w'=>∃(i:Nat) (st:nB) (of:List Int) (A:Option Addr) (c:Nat),(f 0= .pointer (some ⟨g,0,none⟩)∧f 3= .pointer (some ⟨w.heap.size,0,none⟩))∧PM g w.heap.size k ts en At ct nv xu w w' i st of A c∧st.next= .m∧(k=8→st.names%3=0)) 400000 400000 (by decide) ?_ ?_
 ·intro E hE
  by_cases W9:(k:Int)=0
  case neg=>
   simp(disch:=omega)only[push_cast,aa,↓reduceIte,Nat.reduceEqDiff,Int.reduceEq,hM.kb.FX,W9]
   exact hE _ _ ⟨_,_,_,_,_,by simp only[push_cast,↓reduceIte,Nat.reduceEqDiff,true_and,and_true,and_self,eq_self],hM,by simp only;rw[if_neg (by omega)],fun _=>rfl⟩
  have ek:=eq_true W9
  obtain⟨wX,Ve⟩:∃wX,wX=w2:=⟨_,rfl⟩
  rw[←Ve]at hM ⊢
  clear Ve
  obtain⟨i1,st1,zF,A1,c1,ZU,Tg,hm1⟩:∃i1 st1 zF A1 c1,PM g w.heap.size k ts en At ct nv xu w wX i1 st1 zF A1 c1∧st1.next= .n∧st1.names=0:=⟨_,_,_,_,_,hM,by simp only;rw[if_pos (by omega)],rfl⟩
  clear hM
  have hM:=ZU
  clear ZU
  simp(disch:=omega)only[push_cast,aa,↓reduceIte,Nat.reduceEqDiff,Int.reduceEq,hM.kb.FX,ek]
  have mG:=hM.same (Same.refl wX).drew
  have OV:=mG.kb.lt
  have abN:=wY ts zF k
  have Xh:=mG.h.le
  have CN:=mG.Vd
  generalize hu:wX.drew=u at*
  obtain⟨S0,ib⟩:∃S0:World→Prop,∀w',S0 w'↔(aE w' w.heap.size 3 [.int .i64 k]∧∃j:Int,aE w' g 56 (eY At ts.length ct j en (nv.set k (.slice A1 (cA ts zF k).length c1)))):=⟨_,fun _=>Iff.rfl⟩
  have po:=(ib u).2 ⟨mG.kb,_,mG.h.k⟩
  refine⟨S0,po,?_⟩
  have q1:=fun{K f d}=>cK (P:=Tryz.prog) (S:=S0) (K:=K) (f:=f) (d:=d) (w:=u) (s:=Instr.loadAt 3 (.pointer (some ⟨w.heap.size,0,none⟩))) (v:= .int .i64 k) (fun w' hw=>by rw[((ib w').1 hw).1.FX];rfl) po
  have q2:=fun{K f d}=>cK (P:=Tryz.prog) (S:=S0) (K:=K) (f:=f) (d:=d) (w:=u) (s:=Instr.loadAt 52 (.pointer (some ⟨g,3+k,none⟩))) (v:= .slice A1 (cA ts zF k).length c1) (fun w' hw=>by obtain⟨_,j,hj⟩:=(ib w').1 hw;rw[hj.pN S5];rfl) po
  simp(disch:=omega)only[push_cast,aa,↓reduceIte,Nat.reduceEqDiff,Int.reduceEq,q1,q2,hk]
  refine aT (tH mG.h (by omega)) ?_ ?_
  ·rintro ch wP ⟨kH,EX,bP⟩
   refine ZT _ _ ⟨_,hM.r.Lt (zX (by exact Tg) (by unfold isName at EX;exact of_decide_eq_false EX)) (by rw[hM.p];omega),kH,mG.b.trans (bP.mono (by omega))⟩
  rintro v wN ⟨rfl,Q2,hN,bN⟩
  have SN:=(ib wN).2 ⟨mG.kb.but bN OV (by omega),_,hN.k⟩
  simp(disch:=omega)only[push_cast,aa,↓reduceIte,Nat.reduceEqDiff,Int.reduceEq,ea fL j6 (aX ts en i1) (by decide),hk]
  have oN:=mG.own hg (by exact bN)
  have Vf:=mG.kb.but bN OV (by omega)
  have bA:Below wN.heap.size wN (wN.alloc (.cells (aX ts en i1).cells.toArray 60)):=(Below.refl _ _).alloc (Nat.le_refl _) _
  have hzN:=bN.size
  refine⟨SN,(ib _).2 ⟨Vf.below bA Vf.lt,_,hN.k.below bA hN.k.lt⟩,?_⟩
  refine dA fL j6 oN (aX ts en i1) (by omega) (by omega) (by omega) ?_
  intro A2 c2 w3 o3 g3 _ _ z3
  simp(disch:=omega)only[push_cast,aa,↓reduceIte,Nat.reduceEqDiff,Int.reduceEq,hk]
  have Lw:∀b,b≤w.heap.size→some b≠A1.map (·.block):=fun b hb=>by
   cases hA:A1 with
   |none=>simp
   |some a=>have:=mG.o.uh a hA;simp;omega
  have k3:=hN.k.grown g3.aJ (Lw g (by omega))
  have Xp:=Vf.grown g3.aJ (Lw _ (Nat.le_refl _))
  refine⟨(ib w3).2 ⟨Xp,_,k3⟩,?_⟩
  refine cg k3 H8 (3+k) (by simp;omega) A2 ((cA ts zF k).length+1) c2 ?_
  intro w4 k4 g4 z4
  refine⟨fun _=>True,trivial,?_⟩
  have QZ:(aX ts en i1).k=1:=by unfold isName at Q2;exact of_decide_eq_true Q2
  obtain⟨hrN,eN⟩:=sQ (k:=k) mG.r (by rw[qv (.inl Tg) QZ,mG.p])
  have EY:=mG.names (X:=[aX ts en i1]) hg S5 hrN eN rfl hN bN o3 g3 k4 g4
  simp(disch:=omega)only[push_cast,aa,↓reduceIte,Nat.reduceEqDiff,Int.reduceEq]
  exact hE _ _ ⟨_,_,_,_,_,by simp only[push_cast,↓reduceIte,Nat.reduceEqDiff,true_and,and_true,and_self,eq_self],EY,by simp only;rw[if_neg (by omega)],fun e=>by omega⟩
 clear h1 h2 k2 BC b2 eU hq ZR k1 b1 z1 hr CN qX hnk hp hn hM
 rintro f w3 ⟨i1,st1,zF,A1,c1,fr,hM,Tg,hm1⟩
 rw[Rr]
 refine cut (fun f w'=>∃(i:Nat) (st:nB) (of:List Int) (A:Option Addr) (c:Nat),f 0= .pointer (some ⟨g,0,none⟩)∧PM g w.heap.size k ts en At ct nv xu w w' i st of A c∧((st.next= .m∧(aX ts en i).k≠1)∨(st.next= .z∧(aX ts en i).s≠comma))) 190000 190000 (by decide) ?_ ?_
 ·intro E hE
  simp(disch:=omega)only[push_cast,aa,↓reduceIte,Nat.reduceEqDiff,Int.reduceEq]
  refine wE (fun n f w'=>∃(i:Nat) (st:nB) (of:List Int) (A:Option Addr) (c:Nat),n+i=5000∧(f 0= .pointer (some ⟨g,0,none⟩)∧f 3= .pointer (some ⟨w.heap.size,0,none⟩))∧PM g w.heap.size k ts en At ct nv xu w w' i st of A c∧((st.next= .m∧(k=8→st.names%3=0))∨(st.next= .n∧k=8∧st.names%3=0∧(aX ts en i).k=1)))
   (n0:=5000-i1) ⟨i1,st1,zF,A1,c1,by have:=hM.Vd;omega,fr,hM,.inl ⟨Tg,hm1⟩⟩ ?_
  clear fr hM Tg hm1
  rintro n f w3 ⟨i1,st1,zF,A1,c1,MC,fr,hM,eU⟩ J hJ
  have ajG:=hM.Vd
  simp(disch:=omega)only[push_cast,aa,↓reduceIte,Nat.reduceEqDiff,Int.reduceEq,jI,fr]
  refine ah (lg hM.h) ?_
  rintro v w4 ⟨rfl,b4⟩
  have Vg:=hM.below b4
  clear hM
  by_cases hk1:(aX ts en i1).k=1
  case neg=>
   simp(disch:=omega)only[push_cast,aa,↓reduceIte,Nat.reduceEqDiff,Int.reduceEq,fr,OQ,hk1]
   refine hE _ _ ⟨i1,st1,zF,A1,c1,(by simp only[push_cast,↓reduceIte,Nat.reduceEqDiff,true_and,and_true,and_self,eq_self,fr]),Vg,.inl ⟨?_,hk1⟩⟩
   rcases eU with h|h
   ·exact h.1
   ·exact absurd h.2.2.2 hk1
  have ek1:=eq_true hk1
  have Xq:st1.next= .n∨st1.next= .m:=by
   rcases eU with h|h
   ·exact .inr h.1
   ·exact .inl h.1
  obtain⟨wX,Ve⟩:∃wX,wX=w4:=⟨_,rfl⟩
  rw[←Ve]at Vg ⊢
  have hM:=Vg
  clear Vg Ve
  simp(disch:=omega)only[push_cast,aa,↓reduceIte,Nat.reduceEqDiff,Int.reduceEq,fr,OQ,ek1]
  have mG:=hM.same (Same.refl wX).drew
  have OV:=mG.kb.lt
  have abN:=wY ts zF k
  have Xh:=mG.h.le
  have CN:=mG.Vd
  generalize hu:wX.drew=u at*
  obtain⟨S0,ib⟩:∃S0:World→Prop,∀w',S0 w'↔(aE w' w.heap.size 3 [.int .i64 k]∧∃j:Int,aE w' g 56 (eY At ts.length ct j en (nv.set k (.slice A1 (cA ts zF k).length c1)))):=⟨_,fun _=>Iff.rfl⟩
  have po:=(ib u).2 ⟨mG.kb,_,mG.h.k⟩
  refine⟨S0,po,?_⟩
  have q1:=fun{K f d}=>cK (P:=Tryz.prog) (S:=S0) (K:=K) (f:=f) (d:=d) (w:=u) (s:=Instr.loadAt 3 (.pointer (some ⟨w.heap.size,0,none⟩))) (v:= .int .i64 k) (fun w' hw=>by rw[((ib w').1 hw).1.FX];rfl) po
  have q2:=fun{K f d}=>cK (P:=Tryz.prog) (S:=S0) (K:=K) (f:=f) (d:=d) (w:=u) (s:=Instr.loadAt 52 (.pointer (some ⟨g,3+k,none⟩))) (v:= .slice A1 (cA ts zF k).length c1) (fun w' hw=>by obtain⟨_,j,hj⟩:=(ib w').1 hw;rw[hj.pN S5];rfl) po
  simp(disch:=omega)only[push_cast,aa,↓reduceIte,Nat.reduceEqDiff,Int.reduceEq,fr,q1,q2,hk]
  refine aT (tH mG.h (by omega)) ?_ ?_
  ·rintro ch wP ⟨_,EX,_⟩
   unfold isName at EX
   exact absurd hk1 (of_decide_eq_false EX)
  rintro v wN ⟨rfl,Q2,hN,bN⟩
  have SN:=(ib wN).2 ⟨mG.kb.but bN OV (by omega),_,hN.k⟩
  simp(disch:=omega)only[push_cast,aa,↓reduceIte,Nat.reduceEqDiff,Int.reduceEq,fr,ea fL j6 (aX ts en i1) (by decide),hk]
  have oN:=mG.own hg (by exact bN)
  have Vf:=mG.kb.but bN OV (by omega)
  have bA:Below wN.heap.size wN (wN.alloc (.cells (aX ts en i1).cells.toArray 60)):=(Below.refl _ _).alloc (Nat.le_refl _) _
  have hzN:=bN.size
  refine⟨SN,(ib _).2 ⟨Vf.below bA Vf.lt,_,hN.k.below bA hN.k.lt⟩,?_⟩
  refine dA fL j6 oN (aX ts en i1) (by omega) (by omega) (by omega) ?_
  intro A2 c2 w3 o3 g3 _ _ z3
  simp(disch:=omega)only[push_cast,aa,↓reduceIte,Nat.reduceEqDiff,Int.reduceEq,hk]
  have Lw:∀b,b≤w.heap.size→some b≠A1.map (·.block):=fun b hb=>by
   cases hA:A1 with
   |none=>simp
   |some a=>have:=mG.o.uh a hA;simp;omega
  have k3:=hN.k.grown g3.aJ (Lw g (by omega))
  have Xp:=Vf.grown g3.aJ (Lw _ (Nat.le_refl _))
  refine⟨(ib w3).2 ⟨Xp,_,k3⟩,?_⟩
  refine cg k3 H8 (3+k) (by simp;omega) A2 ((cA ts zF k).length+1) c2 ?_
  intro w4 k4 g4 z4
  refine⟨fun _=>True,trivial,?_⟩
  have QZ:(aX ts en i1).k=1:=by unfold isName at Q2;exact of_decide_eq_true Q2
  obtain⟨hrN,eN⟩:=sQ (k:=k) mG.r (by rw[qv Xq QZ,mG.p])
  have EY:=mG.names (X:=[aX ts en i1]) hg S5 hrN eN rfl hN bN o3 g3 k4 g4
  have Li:=hM.p
  by_cases ZV:(k:Int)<8
  ·simp(disch:=omega)only[push_cast,aa,↓reduceIte,Nat.reduceEqDiff,Int.reduceEq,fr,EY.kb.FX,ZV]
   refine hJ (n-1) _ _ ⟨i1+1,_,_,_,_,by omega,(by simp only[push_cast,↓reduceIte,Nat.reduceEqDiff,true_and,and_true,and_self,eq_self,fr]),EY,.inl ⟨?_,fun e=>by omega⟩⟩ (by omega)
   simp only
   rw[if_neg (by omega)]
  have OW:k=8:=by omega
  have Xr:st1.names%3=0:=by
   rcases eU with h|h
   ·exact h.2 OW
   ·exact h.2.2.1
  simp(disch:=omega)only[push_cast,aa,↓reduceIte,Nat.reduceEqDiff,Int.reduceEq,fr,EY.kb.FX,ZV]
  obtain⟨st2,of2,Th⟩:∃st2 of2,PM g w.heap.size k ts en At ct nv xu w w4 (i1+1) st2 of2 A2 c2∧st2.next= .n∧st2.names=st1.names+1:=⟨_,_,EY,by
   simp only;rw[if_pos OW,if_pos (by omega)],rfl⟩
  clear EY hM mG q1 q2 po ib SN hN bN oN Vf bA o3 g3 k3 Xp k4 g4 hrN eN Lw QZ Q2 OV hu Xq eU
  obtain⟨hM,hn2,agC⟩:=Th
  have hm2:st2.names%3=1:=by omega
  clear agC Xr
  obtain⟨wX,Ve⟩:∃wX,wX=w4:=⟨_,rfl⟩
  rw[←Ve]at hM ⊢
  clear Ve Li
  obtain⟨zF,ZW⟩:∃zF,zF=of2:=⟨_,rfl⟩
  obtain⟨A1,hA1⟩:∃A1,A1=A2:=⟨_,rfl⟩
  obtain⟨c1,EV⟩:∃c1,c1=c2:=⟨_,rfl⟩
  rw[←ZW,←hA1,←EV]at hM
  clear ZW hA1 EV
  have mG:=hM.same (Same.refl wX).drew
  have OV:=mG.kb.lt
  have abN:=wY ts zF k
  have Xh:=mG.h.le
  have CN:=mG.Vd
  generalize hu:wX.drew=u at*
  obtain⟨S0,ib⟩:∃S0:World→Prop,∀w',S0 w'↔(aE w' w.heap.size 3 [.int .i64 k]∧∃j:Int,aE w' g 56 (eY At ts.length ct j en (nv.set k (.slice A1 (cA ts zF k).length c1)))):=⟨_,fun _=>Iff.rfl⟩
  have po:=(ib u).2 ⟨mG.kb,_,mG.h.k⟩
  refine⟨S0,po,?_⟩
  have q1:=fun{K f d}=>cK (P:=Tryz.prog) (S:=S0) (K:=K) (f:=f) (d:=d) (w:=u) (s:=Instr.loadAt 3 (.pointer (some ⟨w.heap.size,0,none⟩))) (v:= .int .i64 k) (fun w' hw=>by rw[((ib w').1 hw).1.FX];rfl) po
  have q2:=fun{K f d}=>cK (P:=Tryz.prog) (S:=S0) (K:=K) (f:=f) (d:=d) (w:=u) (s:=Instr.loadAt 52 (.pointer (some ⟨g,3+k,none⟩))) (v:= .slice A1 (cA ts zF k).length c1) (fun w' hw=>by obtain⟨_,j,hj⟩:=(ib w').1 hw;rw[hj.pN S5];rfl) po
  simp(disch:=omega)only[push_cast,aa,↓reduceIte,Nat.reduceEqDiff,Int.reduceEq,fr,q1,q2,hk]
  refine aT (tH mG.h (by omega)) ?_ ?_
  ·rintro ch wP ⟨kH,EX,bP⟩
   refine ZT _ _ ⟨_,hM.r.Lt (zX (by exact hn2) (by unfold isName at EX;exact of_decide_eq_false EX)) (by rw[hM.p];omega),kH,mG.b.trans (bP.mono (by omega))⟩
  rintro v wN ⟨rfl,Q2,hN,bN⟩
  have SN:=(ib wN).2 ⟨mG.kb.but bN OV (by omega),_,hN.k⟩
  simp(disch:=omega)only[push_cast,aa,↓reduceIte,Nat.reduceEqDiff,Int.reduceEq,fr]
  refine⟨SN,?_⟩
  have QZ:(aX ts en (i1+1)).k=1:=by unfold isName at Q2;exact of_decide_eq_true Q2
  have EZ:dX st2 (aX ts en (i1+1))=some (⟨k,st2.names+1,.n⟩,(k:Int)):=by
   rw[qv (.inl hn2) QZ,hM.p,if_pos OW,if_pos (by omega)]
  obtain⟨OU,e1⟩:=sQ (k:=k) mG.r EZ
  refine aT (tH hN (by omega)) ?_ ?_
  ·rintro ch wP ⟨kH,EX,bP⟩
   exact ZT _ _ ⟨_,OU.Lt (zX rfl (by unfold isName at EX;exact of_decide_eq_false EX)) (by simp only;omega),kH,mG.b.trans ((bN.mono (by omega)).trans (bP.mono (by have:=bN.size;omega)))⟩
  rintro v wM ⟨rfl,hqM,hNM,bM⟩
  have bNM:ff u.heap.size g u wM:=bN.trans (bM.mono bN.size)
  have SM:=(ib wM).2 ⟨mG.kb.but bNM OV (by omega),_,hNM.k⟩
  have W7:(aX ts en (i1+1+1)).k=1:=by unfold isName at hqM;exact of_decide_eq_true hqM
  have EW:dX ⟨k,st2.names+1,.n⟩ (aX ts en (i1+1+1))=some (⟨k,st2.names+2,.z⟩,(k:Int)):=by
   rw[qv (.inl rfl) W7]
   simp only
   rw[if_pos OW,if_neg (by omega)]
  obtain⟨xp,e2⟩:=Lu (k:=k) mG.r EZ EW
  simp(disch:=omega)only[push_cast,aa,↓reduceIte,Nat.reduceEqDiff,Int.reduceEq,fr,OS j6 (aX ts en (i1+1)) (aX ts en (i1+1+1)),hk]
  have oM:=mG.own hg bNM
  have kbM:=mG.kb.but bNM OV (by omega)
  have bA:Below wM.heap.size wM (wM.alloc (.cells ((aX ts en (i1+1)).cells++(aX ts en (i1+1+1)).cells).toArray 60)):=(Below.refl _ _).alloc (Nat.le_refl _) _
  have hzM:=bNM.size
  refine⟨SM,(ib _).2 ⟨kbM.below bA kbM.lt,_,hNM.k.below bA hNM.k.lt⟩,?_⟩
  refine OT j6 oM (aX ts en (i1+1)) (aX ts en (i1+1+1)) (by omega) (by omega) (by omega) ?_
  intro A2 c2 w3 o3 g3 z3
  simp(disch:=omega)only[push_cast,aa,↓reduceIte,Nat.reduceEqDiff,Int.reduceEq,hk]
  have Lw:∀b,b≤w.heap.size→some b≠A1.map (·.block):=fun b hb=>by
   cases hA:A1 with
   |none=>simp
   |some a=>have:=mG.o.uh a hA;simp;omega
  have k3:=hNM.k.grown g3.aJ (Lw g (by omega))
  have Xp:=kbM.grown g3.aJ (Lw _ (Nat.le_refl _))
  refine⟨(ib w3).2 ⟨Xp,_,k3⟩,?_⟩
  refine cg k3 H8 (3+k) (by simp;omega) A2 ((cA ts zF k).length+2) c2 ?_
  intro w4 k4 g4 z4
  refine⟨fun _=>True,trivial,?_⟩
  have EY:=mG.names (X:=[aX ts en (i1+1),aX ts en (i1+1+1)]) hg S5 xp e2 rfl hNM bNM o3 g3 k4 g4
  clear q1 q2 po ib SN hN bN kbM bA o3 g3 k3 Xp k4 g4 Lw Q2 hqM OV hu hM mG
  have hi3:i1+1+2=i1+3:=rfl
  rw[hi3]at EY
  have ajL:=EY.Vd
  simp(disch:=omega)only[push_cast,aa,↓reduceIte,Nat.reduceEqDiff,Int.reduceEq,fr]
  refine ah (lg EY.h) ?_
  rintro v w5 ⟨rfl,b5⟩
  have hM5:=EY.below b5
  by_cases hcm:(aX ts en (i1+3)).s=comma
  case neg=>
   have Xs:((aX ts en (i1+3)).s≠⟨#[44]⟩)=True:=eq_true hcm
   simp(disch:=omega)only[push_cast,aa,↓reduceIte,Nat.reduceEqDiff,Int.reduceEq,fr,Vb,ju,Xs]
   exact hE _ _ ⟨_,_,_,_,_,(by simp only[push_cast,↓reduceIte,Nat.reduceEqDiff,true_and,and_true,and_self,eq_self,fr]),hM5,.inr ⟨rfl,hcm⟩⟩
  have Xs:((aX ts en (i1+3)).s≠⟨#[44]⟩)=False:=eq_false (fun h=>h hcm)
  obtain⟨hsg,hs3⟩:=F0 (st:=⟨k,st2.names+2,.z⟩) (JM hTk en (i1+3)) rfl hcm
  simp(disch:=omega)only[push_cast,aa,↓reduceIte,Nat.reduceEqDiff,Int.reduceEq,fr,Vb,ju,Xs]
  refine aT (Dr hM5.h (by omega) comma) ?_ ?_
  ·rintro ch wP ⟨_,EX,_⟩
   rw[hsg]at EX;cases EX
  rintro v w6 ⟨rfl,_,h6,b6⟩
  have JP:=hM5.sign hg hs3 rfl h6 b6
  have ajM:=JP.Vd
  simp(disch:=omega)only[push_cast,aa,↓reduceIte,Nat.reduceEqDiff,Int.reduceEq,fr]
  refine ah (lg JP.h) ?_
  rintro v w7 ⟨rfl,b7⟩
  have Ti:=JP.below b7
  simp(disch:=omega)only[push_cast,aa,↓reduceIte,Nat.reduceEqDiff,Int.reduceEq,fr,OQ]
  refine ah (lg Ti.h) ?_
  rintro v w8 ⟨rfl,b8⟩
  have Q3:=Ti.below b8
  simp(disch:=omega)only[push_cast,aa,↓reduceIte,Nat.reduceEqDiff,Int.reduceEq,fr,Vc]
  refine aT (eD (decide ((aX ts en (i1+3+1)).k=1)) 2 (aX ts en (i1+3+1)).at_ w8) ?_ ?_
  ·rintro ch wP ⟨kH,EX,sP⟩
   exact ZT _ _ ⟨_,Q3.r.Lt (zX rfl (of_decide_eq_false EX)) (by simp only;omega),kH,(Q3.same sP).b⟩
  rintro v w9 ⟨rfl,hq9,s9⟩
  have hM9:=Q3.same s9
  simp(disch:=omega)only[push_cast,aa,↓reduceIte,Nat.reduceEqDiff,Int.reduceEq,fr]
  exact hJ (n-4) _ _ ⟨i1+3+1,_,_,_,_,by omega,(by simp only[push_cast,↓reduceIte,Nat.reduceEqDiff,true_and,and_true,and_self,eq_self,fr]),hM9,.inr ⟨rfl,OW,by simp only;omega,of_decide_eq_true hq9⟩⟩ (by omega)
 ·rintro f w3 ⟨i1,st1,zF,A1,c1,fr,hM,eU⟩
  have CN:=hM.Vd
  simp(disch:=omega)only[push_cast,aa,↓reduceIte,Nat.reduceEqDiff,Int.reduceEq,fr]
  have Tj:=H7 (JM hTk en i1) eU
  refine aT (Dr hM.h (by omega) BA) ?_ ?_
  ·rintro ch wP ⟨kH,EX,bP⟩
   rw[EX]at Tj
   exact ZT _ _ ⟨_,hM.r.Lt Tj (by rw[hM.p];omega),kH,hM.b.trans (bP.mono (Nat.le_of_lt hM.kb.lt))⟩
  rintro v w4 ⟨rfl,hq,h4,b4⟩
  rw[hq,if_pos rfl]at Tj
  obtain⟨hi,hr4⟩:=hM.r.next Tj
  have e:∀j,cA ts (zF++[-1]) j=cA ts zF j:=fun j=>BD ts zF j (by rw[hM.r.len];exact hi)
  simp(disch:=omega)only[push_cast,aa,↓reduceIte,Nat.reduceEqDiff,Int.reduceEq,fr]
  exact qH (hQ _ _ ⟨rfl,_,_,_,A1,c1,⟨hr4,by rw[e];exact h4,by rw[e];exact hM.own hg b4,hM.b.trans (b4.mono (Nat.le_of_lt hM.kb.lt)),fun j hj=>by rw[e];exact hM.Te j hj,by simp only;rw[hM.p],rfl⟩⟩)
open Go.RowKit
abbrev len8:ByteArray:=ByteArray.mk (List.toArray (List.append (List.append [0,1,2,2,3,3,3,3,4,4,4,4,4,4,4,4,5,5,5,5,5,5,5,5,5,5,5,5,5,5,5,5,6,6,6,6,6,6,6,6,6,6,6,6,6,6,6,6,6,6,6,6,6,6,6,6,6,6,6,6,6,6,6,6] [7,7,7,7,7,7,7,7,7,7,7,7,7,7,7,7,7,7,7,7,7,7,7,7,7,7,7,7,7,7,7,7,7,7,7,7,7,7,7,7,7,7,7,7,7,7,7,7,7,7,7,7,7,7,7,7,7,7,7,7,7,7,7,7]) (List.append [8,8,8,8,8,8,8,8,8,8,8,8,8,8,8,8,8,8,8,8,8,8,8,8,8,8,8,8,8,8,8,8,8,8,8,8,8,8,8,8,8,8,8,8,8,8,8,8,8,8,8,8,8,8,8,8,8,8,8,8,8,8,8,8] [8,8,8,8,8,8,8,8,8,8,8,8,8,8,8,8,8,8,8,8,8,8,8,8,8,8,8,8,8,8,8,8,8,8,8,8,8,8,8,8,8,8,8,8,8,8,8,8,8,8,8,8,8,8,8,8,8,8,8,8,8,8,8,8])))
theorem Lx:len8.size=256:=by kernel_rfl
theorem H9{w:World}(n:Nat)(hn:n<256):dw Tryz.prog 125 [.int .u64 n] w fun v w'=>(∃q:Int,v= .int .i64 q)∧Same w w':=by
 refine tZ (by simp) 10000 fun Q hQ=>?_
 have h1:¬(4294967296:Int)≤(n:Int):=by omega
 have h2:¬(65536:Int)≤(n:Int):=by omega
 have h3:¬(256:Int)≤(n:Int):=by omega
 simp(disch:=omega)only[push_cast,aa,↓reduceIte,Nat.reduceEqDiff,Int.reduceEq,nh,h1,h2,h3,Ed]
 rw[fa (v:= .int .u8 n) (w':=w) (by simp[convert,run_underlying Tryz.underlying5,run_underlying Tryz.underlying105,Conv.intToInt,IntKind.wrap,IntKind.bits,IntKind.signed];omega)]
 have hb:wF len8 n<256:=by unfold wF;have:=UInt8.toNat_lt (len8.data.toList.getD n 0);omega
 have Xt:0≤wF len8 n:=by unfold wF;omega
 have OB:=fun{K u f d w}=>D7 (K:=K) (u:=u) (f:=f) (d:=d) (w:=w) len8 .u8 n (by rw[Lx];exact hn)
 generalize wF len8 n=y at*
 simp(disch:=omega)only[push_cast,aa,↓reduceIte,Nat.reduceEqDiff,Int.reduceEq,OB,Ed]
 rw[fa (v:= .int .i64 y) (w':=w) (by simp[convert,run_underlying Tryz.underlying5,run_underlying Tryz.underlying3,Conv.intToInt,wrap_i64 y (by omega) (by omega)])]
 simp(disch:=omega)only[push_cast,aa,↓reduceIte,Nat.reduceEqDiff,Int.reduceEq,Int.zero_add]
 exact aF (hQ _ _ ⟨⟨y,(by simp only[push_cast,↓reduceIte,Nat.reduceEqDiff,Int.reduceEq])⟩,Same.refl w⟩)
theorem OX{w:World}(n:Nat)(hn:n<256):dw Tryz.prog 93 [.int .u64 n] w fun v w'=>(∃q:Int,v= .int .i64 q)∧Same w w':=by
 refine v7 (by simp) 10000 fun Q hQ=>?_
 simp(disch:=omega)only[push_cast,aa,↓reduceIte,Nat.reduceEqDiff,Int.reduceEq,qL]
 refine ah (H9 n hn) ?_
 rintro v w1 ⟨⟨q,rfl⟩,s1⟩
 simp(disch:=omega)only[push_cast,aa,↓reduceIte,Nat.reduceEqDiff,Int.reduceEq]
 exact aF (hQ _ _ ⟨⟨q,(by simp only[push_cast,↓reduceIte,Nat.reduceEqDiff,Int.reduceEq])⟩,s1⟩)
theorem OY(a b:Int)(w:World):dw Tryz.prog 121 [.int .i64 a,.int .i64 b] w fun v w'=>v= .bool (decide (a<b))∧Same w w':=by
 refine D1 (by simp) 10000 fun Q hQ=>?_
 simp(disch:=omega)only[push_cast,aa,↓reduceIte,Nat.reduceEqDiff,Int.reduceEq,AJ]
 refine ah (xV a w) ?_
 rintro v w1 ⟨rfl,s1⟩
 by_cases h:a<b
 ·have e:=eq_true h
  simp(disch:=omega)only[push_cast,aa,↓reduceIte,Nat.reduceEqDiff,Int.reduceEq,e]
  exact aF (hQ _ _ ⟨by simp only[push_cast,↓reduceIte,Nat.reduceEqDiff,e],s1⟩)
 ·have e:=eq_false h
  simp(disch:=omega)only[push_cast,aa,↓reduceIte,Nat.reduceEqDiff,Int.reduceEq,e]
  exact aF (hQ _ _ ⟨by simp only[push_cast,↓reduceIte,Nat.reduceEqDiff,e],s1⟩)
structure Ia(l0 m:List Int)(i j:Nat):Prop where
 perm:m.Perm l0
 ord:∀p q,p<q→q≤i→p≠j→q≠j→m.getD p 0<m.getD q 0
 gt:∀q,j<q→q≤i→m.getD j 0<m.getD q 0
structure Ly(l0 m:List Int)(i:Nat):Prop where
 perm:m.Perm l0
 ord:∀p q,p<q→q<i→m.getD p 0<m.getD q 0
theorem Ly.go{l0 m:List Int}{i:Nat}(h:Ly l0 m i):Ia l0 m i i:=⟨h.perm,fun p q hpq hq _ hn=>h.ord p q hpq (by omega),fun q h1 h2=>by omega⟩
theorem Lz(m:List Int)(q:Nat)(hq:q+1<m.length)(r:Nat):((m.set (q+1) (m.getD q 0)).set q (m.getD (q+1) 0)).getD r 0=if r=q then m.getD (q+1) 0 else if r=q+1 then m.getD q 0 else m.getD r 0:=by
 simp only[List.getD_eq_getElem?_getD,List.getElem?_set,List.length_set]
 by_cases h1:r=q
 ·subst h1;simp;rw[if_pos (by omega)];rfl
 ·rw[if_neg h1,if_neg (fun e=>h1 e.symm)]
  by_cases h2:r=q+1
  ·subst h2;simp[hq]
  ·rw[if_neg h2,if_neg (fun e=>h2 e.symm)]
theorem Ia.swap{l0 m:List Int}{i q:Nat}(h:Ia l0 m i (q+1))(hi:i<m.length)(hq:q+1≤i)(aI:m.getD (q+1) 0<m.getD q 0):Ia l0 ((m.set (q+1) (m.getD q 0)).set q (m.getD (q+1) 0)) i q:=by
 have hg:=Lz m q (by omega)
 refine⟨?_,fun p r Q4 hr hp eM=>?_,fun r h1 h2=>?_⟩
 ·have:=List.set_set_perm (show q+1<m.length by omega) (show q<m.length by omega)
  rw[List.getD_eq_getElem?_getD,List.getElem?_eq_getElem (show q<m.length by omega),List.getD_eq_getElem?_getD,List.getElem?_eq_getElem (show q+1<m.length by omega)]
  exact this.trans h.perm
 ·rw[hg,hg,if_neg hp,if_neg eM]
  by_cases a:p=q+1
  ·rw[if_pos a,if_neg (by omega)];exact h.ord q r (by omega) hr (by omega) (by omega)
  ·rw[if_neg a]
   by_cases b:r=q+1
   ·rw[if_pos b];exact h.ord p q (by omega) (by omega) (by omega) (by omega)
   ·rw[if_neg b];exact h.ord p r Q4 hr (by omega) (by omega)
 ·rw[hg,hg,if_pos rfl,if_neg (by omega)]
  by_cases b:r=q+1
  ·rw[if_pos b];exact aI
  ·rw[if_neg b];exact h.gt r (by omega) h2
theorem Ia.done{l0 m:List Int}{i j:Nat}(h:Ia l0 m i j)(hn:l0.Nodup)(hi:i<m.length)(hj:j≤i)(hx:j=0∨¬m.getD j 0<m.getD (j-1) 0):Ly l0 m (i+1):=by
 have Xq:m.Nodup:=h.perm.nodup_iff.2 hn
 have cY:∀p q,p<q→q<m.length→m.getD p 0≠m.getD q 0:=fun p q hpq hq he=>by
  rw[List.getD_eq_getElem?_getD,List.getD_eq_getElem?_getD,List.getElem?_eq_getElem (show p<m.length by omega),List.getElem?_eq_getElem hq]at he
  exact List.pairwise_iff_getElem.1 Xq p q (by omega) hq hpq he
 refine⟨h.perm,fun p r Q4 hr=>?_⟩
 by_cases a:p=j
 ·subst a;exact h.gt r Q4 (by omega)
 by_cases b:r=j
 ·subst b
  have zh:=hx.resolve_left (by omega)
  have h1:=cY (r-1) r (by omega) (by omega)
  have h2:m.getD (r-1) 0<m.getD r 0:=by omega
  by_cases c:p=r-1
  ·rw[c];exact h2
  ·have:=h.ord p (r-1) (by omega) (by omega) a (by omega);omega
 ·exact h.ord p r Q4 (by omega) a b
theorem Ly.sorted{l0 m:List Int}(h:Ly l0 m m.length):m=aD l0:=by
 have hs:aW m:=List.pairwise_iff_getElem.2 fun p q hp hq hpq=>by
  have:=h.ord p q hpq hq
  rwa [List.getD_eq_getElem?_getD,List.getD_eq_getElem?_getD,List.getElem?_eq_getElem hp,List.getElem?_eq_getElem hq]at this
 exact aW.ext hs (dW l0).1 fun x=>by rw[(dW l0).2];exact h.perm.mem_iff
theorem bJ.tr{w w1 w2:World}{A:Option Addr}(h:bJ w w1 A)(h':bJ w1 w2 A):bJ w w2 A:=
 ⟨⟨h'.aJ.os.trans h.aJ.os,h'.aJ.tape.trans h.aJ.tape,h'.aJ.output.trans h.aJ.output,Nat.le_trans h.aJ.size h'.aJ.size,fun k hk hn=>(h'.aJ.block k (Nat.lt_of_lt_of_le hk h.aJ.size) hn).trans (h.aJ.block k hk hn)⟩⟩
theorem bJ.rf(w:World)(A:Option Addr):bJ w w A:=⟨World.grownBy.refl w _⟩
theorem bJ.sm{w w1:World}(h:Same w w1)(A:Option Addr):bJ w w1 A:=⟨⟨(h.below 0).os,(h.below 0).tape,(h.below 0).output,(h.below 0).size,fun k hk _=>by rw[h.heap]⟩⟩
set_option maxHeartbeats 1000000 in
theorem OZ{B:Nat}{w:World}{A:Option Addr}{c:Nat}{l:List Int}(o:cQ B 3 w A c l)(hn:l.Nodup)(hl:l.length≤100):
  dw Tryz.prog 115 [.slice A l.length c,.int .i64 0,.int .i64 l.length] w fun v w'=>v= .tuple #[]∧cQ B 3 w' A c (aD l)∧bJ w w' A∧(aD l).length=l.length:=by
 refine iN (by simp) 100000 fun Q hQ=>?_
 simp(disch:=omega)only[push_cast,aa,↓reduceIte,Nat.reduceEqDiff,Int.reduceEq,eH]
 refine ax (fun f w'=>∃(i:Nat) (m:List Int),1≤i∧(i≤l.length∨i=1)∧m.length=l.length∧(f 0= .slice A m.length c∧f 1= .int .i64 0∧f 2= .int .i64 m.length∧f 6= .int .i64 i)∧Ly l m i∧cQ B 3 w' A c m∧bJ w w' A)
  (fun f _=>200-(intOf (f 6)).toNat) ⟨1,l,Nat.le_refl _,.inr rfl,rfl,⟨rfl,rfl,rfl,rfl⟩,⟨List.Perm.refl _,fun p q h1 h2=>by omega⟩,o,bJ.rf _ _⟩ ?_
 rintro f w1 ⟨i,m,hi1,hi,ZG,fr,hI,o1,g1⟩ J hJ
 have gZ:(intOf (f 6)).toNat=i:=by rw[fr.2.2.2];simp[intOf]
 by_cases aI:i<m.length
 case neg=>
  simp(disch:=omega)only[push_cast,aa,↓reduceIte,Nat.reduceEqDiff,Int.reduceEq,cX,fr,aI]
  have hs:m=aD l:=by
   by_cases e:i=m.length
   ·subst e;exact hI.sorted
   ·have h1:i=1:=by omega
    have h0:m.length=0:=by omega
    have hm:m=[]:=List.eq_nil_of_length_eq_zero h0
    have hl0:l=[]:=List.eq_nil_of_length_eq_zero (by omega)
    rw[hm,hl0];rfl
  exact qH (hQ _ _ ⟨rfl,by rw[←hs];exact o1,g1,by rw[←hs];exact ZG⟩)
 simp(disch:=omega)only[push_cast,aa,↓reduceIte,Nat.reduceEqDiff,Int.reduceEq,cX,fr,aI]
 have sA:=o1.isSome (by omega)
 refine ax (fun f w'=>∃(j:Nat) (m:List Int),j≤i∧m.length=l.length∧(f 0= .slice A m.length c∧f 1= .int .i64 0∧f 2= .int .i64 m.length∧f 6= .int .i64 i∧f 7= .int .i64 j)∧Ia l m i j∧cQ B 3 w' A c m∧bJ w w' A)
  (fun f _=>(intOf (f 7)).toNat) ⟨i,m,Nat.le_refl _,ZG,(by simp only[push_cast,↓reduceIte,Nat.reduceEqDiff,true_and,and_true,and_self,eq_self,fr,fr]),hI.go,o1,g1⟩ ?_
 clear hI o1 g1 fr
 rintro f w2 ⟨j,m',hj,Xu,fr,hI,o2,g2⟩ J2 jH
 have ob:(intOf (f 7)).toNat=j:=by rw[fr.2.2.2.2];simp[intOf]
 have sd:=(Same.refl w2).drew
 have o3:=o2.same sd
 have g3:=g2.tr (bJ.sm sd A)
 generalize hu:w2.drew=u at*
 cases j with
 |zero=>
  simp(disch:=omega)only[push_cast,aa,↓reduceIte,Nat.reduceEqDiff,Int.reduceEq,cW,fr,hu]
  exact hJ _ _ ⟨i+1,m',by omega,.inl (by omega),Xu,(by simp only[push_cast,↓reduceIte,Nat.reduceEqDiff,true_and,and_true,and_self,eq_self,fr,fr]),hI.done hn (by omega) (Nat.zero_le _) (.inl rfl),o3,g3⟩ (by rw[gZ];simp only[push_cast,↓reduceIte,Nat.reduceEqDiff,intOf,fr];omega)
 |succ q=>
 have t1:((q:Int)+1).toNat=q+1:=by omega
 have t2:(q:Int)+1-1=(q:Int):=by omega
 have BE:q+1<m'.length:=by omega
 have ZX:q<m'.length:=by omega
 have MH:(0:Int)<(q:Int)+1:=by omega
 have EV:(q:Int)+1<(m'.length:Int):=by omega
 have Nf:=fun{K f d w}=>(cQ.ints o3).ld (P:=Tryz.prog) (K:=K) (f:=f) (d:=d) (w:=w) ak q ZX
 have ld1:=fun{K f d w}=>(cQ.ints o3).ld (P:=Tryz.prog) (K:=K) (f:=f) (d:=d) (w:=w) ak (q+1) BE
 simp(disch:=omega)only[push_cast,aa,↓reduceIte,Nat.reduceEqDiff,Int.reduceEq,cW,fr,hu,sA,t1,t2,EV,ZX,Nf,ld1,MH]
 refine ah (OY (m'.getD (q+1) 0) (m'.getD q 0) u) ?_
 rintro v w3 ⟨rfl,s3⟩
 by_cases kI:m'.getD (q+1) 0<m'.getD q 0
 case neg=>
  simp(disch:=omega)only[push_cast,aa,↓reduceIte,Nat.reduceEqDiff,Int.reduceEq,fr,kI]
  exact hJ _ _ ⟨i+1,m',by omega,.inl (by omega),Xu,(by simp only[push_cast,↓reduceIte,Nat.reduceEqDiff,true_and,and_true,and_self,eq_self,fr,fr]),hI.done hn (by omega) hj (.inr (by rw[Nat.add_sub_cancel];exact kI)),o3.same s3,g3.tr (bJ.sm s3 A)⟩ (by rw[gZ];simp only[push_cast,↓reduceIte,Nat.reduceEqDiff,intOf,fr];omega)
 have el:=eq_true kI
 simp(disch:=omega)only[push_cast,aa,↓reduceIte,Nat.reduceEqDiff,Int.reduceEq,fr,el]
 clear Nf ld1
 have Lp:=s3.trans (Same.refl w3).drew
 have o4:=o3.same Lp
 have g4:=g3.tr (bJ.sm Lp A)
 generalize Bx:w3.drew=u2 at*
 obtain⟨S0,ib⟩:∃S0:World→Prop,∀w',S0 w'↔cQ B 3 w' A c m':=⟨_,fun _=>Iff.rfl⟩
 have po:=(ib u2).2 o4
 refine⟨S0,po,?_⟩
 have q1:=fun{K f d}=>cK (P:=Tryz.prog) (S:=S0) (K:=K) (f:=f) (d:=d) (w:=u2) (s:=Instr.loadAt 3 (.pointer (some (eA A q)))) (v:= .int .i64 (m'.getD q 0)) (fun w' hw=>by rw[(cQ.ints ((ib w').1 hw)).ld ak q ZX];rfl) po
 have q2:=fun{K f d}=>cK (P:=Tryz.prog) (S:=S0) (K:=K) (f:=f) (d:=d) (w:=u2) (s:=Instr.loadAt 3 (.pointer (some (eA A (q+1))))) (v:= .int .i64 (m'.getD (q+1) 0)) (fun w' hw=>by rw[(cQ.ints ((ib w').1 hw)).ld ak (q+1) BE];rfl) po
 simp(disch:=omega)only[push_cast,aa,↓reduceIte,Nat.reduceEqDiff,Int.reduceEq,fr,q1,q2,sA,t1,t2,EV,ZX]
 refine Jk ak oU o4 (q+1) BE _ ?_
 intro w5 o5 g5 z5
 refine⟨fun _=>True,trivial,?_⟩
 simp(disch:=omega)only[push_cast,aa,↓reduceIte,Nat.reduceEqDiff,Int.reduceEq,fr,sA,t1,t2,EV,ZX]
 refine Jk ak oU o5 q (by rw[List.length_set];exact ZX) _ ?_
 intro w6 o6 g6 z6
 refine⟨fun _=>True,trivial,?_⟩
 simp(disch:=omega)only[push_cast,aa,↓reduceIte,Nat.reduceEqDiff,Int.reduceEq,fr,t2]
 exact jH _ _ ⟨q,_,by omega,by rw[List.length_set,List.length_set];exact Xu,(by simp only[push_cast,↓reduceIte,Nat.reduceEqDiff,true_and,and_true,and_self,eq_self,fr,List.length_set,t2]),hI.swap (by omega) hj kI,o6,g4.tr (g5.tr g6)⟩ (by rw[ob];simp only[push_cast,↓reduceIte,Nat.reduceEqDiff,intOf,fr,t2];omega)
theorem O0{B:Nat}{w:World}{A:Option Addr}{c:Nat}{l:List Int}(o:cQ B 3 w A c l)(hn:l.Nodup)(hl:l.length≤12)(q:Int):
  dw Tryz.prog 92 [.slice A l.length c,.int .i64 0,.int .i64 l.length,.int .i64 q] w fun v w'=>v= .tuple #[]∧cQ B 3 w' A c (aD l)∧bJ w w' A∧(aD l).length=l.length:=by
 refine mQ (by simp) 100000 fun Q hQ=>?_
 simp(disch:=omega)only[push_cast,aa,↓reduceIte,Nat.reduceEqDiff,Int.reduceEq,gJ]
 refine ax (fun f w'=>(f 0= .slice A l.length c∧f 1= .int .i64 0∧f 2= .int .i64 l.length)∧w'=w) (fun _ _=>0) ⟨⟨rfl,rfl,rfl⟩,rfl⟩ ?_
 rintro f w1 ⟨fr,rfl⟩ J _
 have hc:((l.length:Int)≤12)=True:=eq_true (by omega)
 simp(disch:=omega)only[push_cast,aa,↓reduceIte,Nat.reduceEqDiff,Int.reduceEq,fG,fr,Int.sub_zero,hc]
 refine ah (OZ o hn (by omega)) ?_
 rintro v w2 ⟨rfl,h⟩
 simp(disch:=omega)only[push_cast,aa,↓reduceIte,Nat.reduceEqDiff,Int.reduceEq]
 exact qH (hQ _ _ ⟨rfl,h⟩)
theorem F2{B:Nat}{w:World}{A:Option Addr}{c:Nat}{l:List Int}(o:cQ B 3 w A c l)(hn:l.Nodup)(hl:l.length≤12):
  dw Tryz.prog 46 [.slice A l.length c] w fun v w'=>v= .tuple #[]∧cQ B 3 w' A c (aD l)∧bJ w w' A∧(aD l).length=l.length:=by
 refine zo (by simp) 10000 fun Q hQ=>?_
 simp(disch:=omega)only[push_cast,aa,↓reduceIte,Nat.reduceEqDiff,Int.reduceEq,uj,Ed]
 rw[fa (v:= .int .u64 l.length) (w':=w) (by simp[convert,run_underlying Tryz.underlying3,run_underlying Tryz.underlying161,Conv.intToInt,IntKind.wrap,IntKind.bits,IntKind.signed];omega)]
 simp(disch:=omega)only[push_cast,aa,↓reduceIte,Nat.reduceEqDiff,Int.reduceEq]
 refine ah (OX l.length (by omega)) ?_
 rintro v w1 ⟨⟨q,rfl⟩,s1⟩
 simp(disch:=omega)only[push_cast,aa,↓reduceIte,Nat.reduceEqDiff,Int.reduceEq]
 refine ah (O0 (o.same s1) hn hl q) ?_
 rintro v w2 ⟨rfl,h1,h2,h3⟩
 simp(disch:=omega)only[push_cast,aa,↓reduceIte,Nat.reduceEqDiff,Int.reduceEq]
 exact qH (hQ _ _ ⟨rfl,h1,(bJ.sm s1 A).tr h2,h3⟩)
open Go.RowKit
theorem dE.Vh{w w':World}{A:Option Addr}{l:List ByteArray}(h:dE (·<w.heap.size) w A l)(b:Below w.heap.size w w'):dE (·<w'.heap.size) w' A l:=
 (bq.keep h fun _ hl=>b.block _ hl).mono fun _ hl=>Nat.lt_of_lt_of_le hl b.size
theorem vn.up{w w':World}{A:Option Addr}{l:List ui}(h:bq ui.cells 3 (·<w.heap.size) w A l)(b:Below w.heap.size w w'):bq ui.cells 3 (·<w'.heap.size) w' A l:=
 (bq.keep h fun _ hl=>b.block _ hl).mono fun _ hl=>Nat.lt_of_lt_of_le hl b.size
theorem jR{w:World}{A:Option Addr}{names:List ByteArray}(h:dE (·<w.heap.size) w A names)(c:Nat)(hl:names.length≤100)(t:ui):
  mO Tryz.prog 44 [.slice A names.length c,.agg t.cells.toArray] w (fun v w'=>v= .int .i64 (jW t.s names)∧0≤jW t.s names∧Below w.heap.size w w')
   (fun ch w'=>ch=[{v:=jt 4 t.at_,recovered:=false}]∧jW t.s names<0∧Below w.heap.size w w'):=by
 refine xE (by simp) 1000 fun Q Qp hQ hP=>?_
 simp(disch:=omega)only[push_cast,aa,↓reduceIte,Nat.reduceEqDiff,Int.reduceEq,nX]
 refine au (aO _ t.cells) ?_
 intro w1 k1 b1 z1
 simp(disch:=omega)only[push_cast,aa,↓reduceIte,Nat.reduceEqDiff,Int.reduceEq,k1.t1]
 refine ah (xW (h.Vh b1) c (by omega) t.s) ?_
 rintro v w2 ⟨rfl,s2⟩
 have bb:=b1.trans (s2.below _)
 simp(disch:=omega)only[push_cast,aa,↓reduceIte,Nat.reduceEqDiff,Int.reduceEq,(k1.same s2).t2]
 refine aT (eD (decide (0≤jW t.s names)) 4 t.at_ w2) ?_ ?_
 ·rintro ch w3 ⟨kH,hp,s3⟩
  exact hP _ _ ⟨kH,by have:=of_decide_eq_false hp;omega,bb.trans (s3.below _)⟩
 rintro v w3 ⟨rfl,hp,s3⟩
 simp(disch:=omega)only[push_cast,aa,↓reduceIte,Nat.reduceEqDiff,Int.reduceEq]
 exact aF (hQ _ _ ⟨by simp only[push_cast,↓reduceIte,Nat.reduceEqDiff],of_decide_eq_true hp,bb.trans (s3.below _)⟩)
set_option maxHeartbeats 1000000 in
theorem uz{w:World}{At:Option Addr}{ts:List ui}(h:bq ui.cells 3 (·<w.heap.size) w At ts)(ct:Nat)(hl:ts.length≤4000)(aU:Nat)(hm:aU≤100):
  mO Tryz.prog 19 [.slice At ts.length ct,.int .i64 aU] w
   (fun v w'=>∃S A c,decl aU [] ts= .ok S∧S.length≤aU∧v= .slice A S.length c∧bH zC w.heap.size 9 1 w' A c S∧Below w.heap.size w w')
   (fun ch w'=>∃e a,decl aU [] ts= .error (e,a)∧ch=[{v:=jt e a,recovered:=false}]∧Below w.heap.size w w'):=by
 refine uO (by simp) 100000 fun Q Qp hQ hP=>?_
 simp(disch:=omega)only[push_cast,aa,↓reduceIte,Nat.reduceEqDiff,Int.reduceEq,j0]
 refine ax (fun f w'=>∃(k:Nat) (S:List ByteArray) (A:Option Addr) (c:Nat),k≤ts.length∧(f 1= .int .i64 aU∧f 5= .slice A S.length c∧f 8= .slice At ts.length ct∧f 9= .int .i64 ts.length∧f 10= .int .i64 k)∧decl aU [] ts=decl aU S (ts.drop k)∧S.length≤aU∧bH zC w.heap.size 9 1 w' A c S∧Below w.heap.size w w')
  (fun f _=>ts.length-(intOf (f 10)).toNat) ⟨0,[],none,0,Nat.zero_le _,⟨rfl,rfl,rfl,rfl,rfl⟩,rfl,Nat.zero_le _,Own.nil _ _ _ _,Below.refl _ _⟩ ?_
 rintro f w1 ⟨k,S,A,c,hk,fr,hd,hS,o1,b1⟩ J hJ
 have gZ:(intOf (f 10)).toNat=k:=by rw[fr.2.2.2.2];simp[intOf]
 by_cases aI:k<ts.length
 case neg=>
  obtain rfl:k=ts.length:=by omega
  rw[List.drop_length]at hd
  simp(disch:=omega)only[push_cast,aa,↓reduceIte,Nat.reduceEqDiff,Int.reduceEq,iq,fr,Nat.lt_irrefl]
  exact aF (hQ _ _ ⟨S,A,c,hd,hS,by simp only[push_cast,↓reduceIte,Nat.reduceEqDiff],o1,b1⟩)
 have hx:ts[k]? =some ts[k]:=List.getElem?_eq_getElem aI
 have hdk:ts.drop k=ts[k]:: ts.drop (k+1):=List.drop_eq_getElem_cons aI
 rw[hdk,decl]at hd
 generalize ts[k]=t at*
 have h1:=vn.up h b1
 have sA:=h.isSome (by omega)
 simp(disch:=omega)only[push_cast,aa,↓reduceIte,Nat.reduceEqDiff,Int.reduceEq,iq,fr,aI,sA,vn.CH h1 hx]
 refine au (cs:=Lo) C7 ?_
 intro w2 k2 b2 z2
 simp(disch:=omega)only[push_cast,aa,↓reduceIte,Nat.reduceEqDiff,Int.reduceEq,fr]
 refine aC k2 (cs:=t.cells) ez rfl (qq _) ?_
 intro w3 k3 g3 z3
 have ML:=g3.below b2 b2.size (by intro a ha;injection ha with ha;subst ha;exact Nat.le_refl _)
 have o3:=o1.below ML (Nat.le_refl _)
 have ot:=b1.trans (ML.mono b1.size)
 have sd:=(Same.refl w3).drew
 have o4:=o3.same sd
 have k4:=k3.same sd
 have kh:=ot.trans (sd.below _)
 generalize hu:w3.drew=u at*
 have hSt:=bq.lt ql (by decide) (bH.fS o4 ql (by decide))
 simp(disch:=omega)only[push_cast,aa,↓reduceIte,Nat.reduceEqDiff,Int.reduceEq,fr,hu,k4.t1,k4.t2]
 refine ah (wG hSt c (by omega) t.s) ?_
 rintro v w5 ⟨rfl,s5⟩
 simp(disch:=omega)only[push_cast,aa,↓reduceIte,Nat.reduceEqDiff,Int.reduceEq,fr]
 refine⟨s5.below _,?_⟩
 refine aT (eD (!decide (t.s∈S)) 5 t.at_ w5) ?_ ?_
 ·rintro ch w6 ⟨kH,hp,s6⟩
  have fN:t.s∈S:=by simpa using hp
  rw[if_pos fN]at hd
  exact hP _ _ ⟨5,_,hd,kH,kh.trans ((s5.trans s6).below _)⟩
 rintro v w6 ⟨rfl,hp,s6⟩
 have fN:t.s∉S:=by simpa using hp
 rw[if_neg fN]at hd
 have s46:=s5.trans s6
 have k6:=k4.same s46
 simp(disch:=omega)only[push_cast,aa,↓reduceIte,Nat.reduceEqDiff,Int.reduceEq,fr,k6.t2]
 refine aT (eD (decide (S.length<aU)) 1 t.at_ w6) ?_ ?_
 ·rintro ch w7 ⟨kH,hp,s7⟩
  rw[if_pos (by have:=of_decide_eq_false hp;omega)]at hd
  exact hP _ _ ⟨1,_,hd,kH,kh.trans ((s46.trans s7).below _)⟩
 rintro v w7 ⟨rfl,hp,s7⟩
 have hlm:=of_decide_eq_true hp
 rw[if_neg (by omega)]at hd
 have s47:=s46.trans s7
 have k7:=k4.same s47
 have o7:=o4.same s47
 have Cr:=kh.trans (s47.below w.heap.size)
 simp(disch:=omega)only[push_cast,aa,↓reduceIte,Nat.reduceEqDiff,Int.reduceEq,fr,k7.t1,UW]
 refine dA ql xT o7 t.s (by omega) (by omega) Cr.size ?_
 intro A' c' w8 o8 g8 _ _ z8
 simp(disch:=omega)only[push_cast,aa,↓reduceIte,Nat.reduceEqDiff,Int.reduceEq,fr]
 exact hJ _ _ ⟨k+1,_,A',c',aI,(by simp only[push_cast,↓reduceIte,Nat.reduceEqDiff,true_and,and_true,and_self,eq_self,fr,List.length_append,List.length_singleton]),hd,by rw[List.length_append,List.length_singleton];omega,o8,g8.below Cr Cr.size o7.uh⟩ (by rw[gZ];simp only[push_cast,↓reduceIte,Nat.reduceEqDiff,intOf,fr];omega)
theorem F3{l:List Int}{n:Nat}(h:l.Nodup)(hb:∀x∈l,0≤x∧x<(n:Int)):l.length≤n:=by
 have:=cP n (l.map Int.toNat) (by
  refine List.Pairwise.map _ (fun a b tB=>tB) ?_
  refine List.Pairwise.imp_of_mem (fun{a b} ha sH tB=>?_) h
  have:=hb a ha
  have:=hb b sH
  show a.toNat≠b.toNat
  omega) (fun x hx=>by
  obtain⟨y,hy,rfl⟩:=List.mem_map.1 hx
  have:=hb y hy
  omega)
 simpa using this
theorem BF{s:ByteArray}{l:List ByteArray}(h:0≤jW s l):jW s l<l.length:=by
 have hm:=Ju.1 h
 unfold jW
 rw[if_pos hm]
 have:l.findIdx (fun x=>decide (x=s))<l.length:=List.findIdx_lt_length_of_exists ⟨s,hm,by simp⟩
 omega
set_option maxHeartbeats 1000000 in
theorem lh{w:World}{An:Option Addr}{names:List ByteArray}(hn:dE (·<w.heap.size) w An names)(cn:Nat)(Ls:names.length≤12){At:Option Addr}{ts:List ui}(h:bq ui.cells 3 (·<w.heap.size) w At ts)(ct:Nat)(hl:ts.length≤4000):
  mO Tryz.prog 20 [.slice An names.length cn,.slice At ts.length ct] w
   (fun v w'=>∃r A c,ee names [] ts= .ok r∧v= .slice A (aD r).length c∧cQ w.heap.size 3 w' A c (aD r)∧Below w.heap.size w w')
   (fun ch w'=>∃e a,ee names [] ts= .error (e,a)∧ch=[{v:=jt e a,recovered:=false}]∧Below w.heap.size w w'):=by
 refine Ay (by simp) 100000 fun Q Qp hQ hP=>?_
 simp(disch:=omega)only[push_cast,aa,↓reduceIte,Nat.reduceEqDiff,Int.reduceEq,ry]
 refine ax (fun f w'=>∃(k:Nat) (S:List Int) (A:Option Addr) (c:Nat),k≤ts.length∧(f 0= .slice An names.length cn∧f 5= .slice A S.length c∧f 9= .slice At ts.length ct∧f 10= .int .i64 ts.length∧f 11= .int .i64 k)∧ee names [] ts=ee names S (ts.drop k)∧S.Nodup∧(∀x∈S,0≤x∧x<(names.length:Int))∧cQ w.heap.size 3 w' A c S∧Below w.heap.size w w')
  (fun f _=>ts.length-(intOf (f 11)).toNat) ⟨0,[],none,0,Nat.zero_le _,⟨rfl,rfl,rfl,rfl,rfl⟩,rfl,List.nodup_nil,(fun x hx=>by cases hx),Own.nil _ _ _ _,Below.refl _ _⟩ ?_
 rintro f w1 ⟨k,S,A,c,hk,fr,hd,Cq,hb,o1,b1⟩ J hJ
 have gZ:(intOf (f 11)).toNat=k:=by rw[fr.2.2.2.2];simp[intOf]
 have hSl:=F3 Cq hb
 by_cases aI:k<ts.length
 case neg=>
  obtain rfl:k=ts.length:=by omega
  rw[List.drop_length,ee]at hd
  simp(disch:=omega)only[push_cast,aa,↓reduceIte,Nat.reduceEqDiff,Int.reduceEq,nR,fr,Nat.lt_irrefl]
  refine ah (F2 o1 Cq (by omega)) ?_
  rintro v w2 ⟨rfl,o2,g2,hlen⟩
  simp(disch:=omega)only[push_cast,aa,↓reduceIte,Nat.reduceEqDiff,Int.reduceEq,fr]
  exact aF (hQ _ _ ⟨S,A,c,hd,by simp only[push_cast,↓reduceIte,Nat.reduceEqDiff,fr,hlen],o2,g2.below b1 b1.size o1.uh⟩)
 have hx:ts[k]? =some ts[k]:=List.getElem?_eq_getElem aI
 have hdk:ts.drop k=ts[k]:: ts.drop (k+1):=List.drop_eq_getElem_cons aI
 rw[hdk,ee]at hd
 generalize ts[k]=t at*
 have h1:=vn.up h b1
 have sA:=h.isSome (by omega)
 simp(disch:=omega)only[push_cast,aa,↓reduceIte,Nat.reduceEqDiff,Int.reduceEq,nR,fr,aI,sA,vn.CH h1 hx]
 refine au (cs:=Lo) C7 ?_
 intro w2 k2 b2 z2
 simp(disch:=omega)only[push_cast,aa,↓reduceIte,Nat.reduceEqDiff,Int.reduceEq,fr]
 refine aC k2 (cs:=t.cells) ez rfl (qq _) ?_
 intro w3 k3 g3 z3
 have ML:=g3.below b2 b2.size (by intro a ha;injection ha with ha;subst ha;exact Nat.le_refl _)
 have o3:=o1.below ML (Nat.le_refl _)
 have ot:=b1.trans (ML.mono b1.size)
 simp(disch:=omega)only[push_cast,aa,↓reduceIte,Nat.reduceEqDiff,Int.reduceEq,fr,k3.tA]
 refine aT (jR (hn.Vh ot) cn (by omega) t) ?_ ?_
 ·rintro ch w4 ⟨kH,hp,b4⟩
  rw[if_pos hp]at hd
  exact hP _ _ ⟨4,_,hd,kH,ot.trans (b4.mono ot.size)⟩
 rintro v w4 ⟨rfl,hp,b4⟩
 rw[if_neg (by omega)]at hd
 have hxl:=BF hp
 generalize jW t.s names=x at*
 have k4:=k3.below b4 k3.lt
 have o4:=o3.below b4 (Nat.le_refl _)
 have kh:=ot.trans (b4.mono ot.size)
 have sd:=(Same.refl w4).drew
 have o5:=o4.same sd
 have k5:=k4.same sd
 have re:=kh.trans (sd.below _)
 simp(disch:=omega)only[push_cast,aa,↓reduceIte,Nat.reduceEqDiff,Int.reduceEq,fr]
 generalize hu:w4.drew=u at*
 simp(disch:=omega)only[push_cast,aa,↓reduceIte,Nat.reduceEqDiff,Int.reduceEq,fr,k5.t2]
 refine ah (nt (cQ.ints o5) c x (by omega)) ?_
 rintro v w6 ⟨rfl,s6⟩
 simp(disch:=omega)only[push_cast,aa,↓reduceIte,Nat.reduceEqDiff,Int.reduceEq,fr]
 refine⟨s6.below _,?_⟩
 refine aT (eD (!decide (x∈S)) 5 t.at_ w6) ?_ ?_
 ·rintro ch w7 ⟨kH,hp,s7⟩
  have fN:x∈S:=by simpa using hp
  rw[if_pos fN]at hd
  exact hP _ _ ⟨5,_,hd,kH,re.trans ((s6.trans s7).below _)⟩
 rintro v w7 ⟨rfl,hp7,s7⟩
 have fN:x∉S:=by simpa using hp7
 rw[if_neg fN]at hd
 have o7:=o5.same (s6.trans s7)
 have Cr:=re.trans ((s6.trans s7).below w.heap.size)
 simp(disch:=omega)only[push_cast,aa,↓reduceIte,Nat.reduceEqDiff,Int.reduceEq,fr,yS]
 refine tu fq o7 x (by omega) Cr.size ?_
 intro A' c' w8 o8 g8 _ _ z8
 simp(disch:=omega)only[push_cast,aa,↓reduceIte,Nat.reduceEqDiff,Int.reduceEq,fr]
 exact hJ _ _ ⟨k+1,_,A',c',aI,(by simp only[push_cast,↓reduceIte,Nat.reduceEqDiff,true_and,and_true,and_self,eq_self,fr,List.length_append,List.length_singleton]),hd,(List.nodup_append.2 ⟨Cq,by simp,fun a ha b sH=>by rw[List.mem_singleton.1 sH];exact fun e=>fN (e▸ha)⟩),(fun y hy=>by
  rcases List.mem_append.1 hy with hy|hy
  ·exact hb y hy
  ·rw[List.mem_singleton.1 hy];exact⟨hp,hxl⟩),o8,g8.below Cr Cr.size o7.uh⟩ (by rw[gZ];simp only[push_cast,↓reduceIte,Nat.reduceEqDiff,intOf,fr];omega)
open Go.RowKit
theorem cH.lt_irrefl(x:cH):¬x.lt x:=by unfold cH.lt;omega
theorem cH.O1{x y:cH}(h:¬x.lt y)(hn:x≠y):y.lt x:=by
 obtain⟨a,b,c⟩:=x
 obtain⟨d,e,f⟩:=y
 unfold cH.lt at*
 simp only at*
 by_cases h1:a=d
 ·by_cases h2:b=e
  ·by_cases h3:c=f
   ·subst h1 h2 h3;exact absurd rfl hn
   ·omega
  ·omega
 ·omega
theorem LA(x y:cH)(o:List cH):ua x (y :: o)=if y.lt x then y :: ua x o else if y=x then y :: o else x :: y :: o:=by
 by_cases h:y.lt x
 ·have ha:MJ x (y :: o)=MJ x o+1:=by show(if y.lt x then MJ x o+1 else 0)=_;rw[if_pos h]
  unfold ua
  rw[if_pos h,ha]
  simp only[List.length_cons,Nat.add_lt_add_iff_right,List.getD_cons_succ,List.take_succ_cons,List.drop_succ_cons]
  split
  ·rfl
  ·rfl
 ·have ha:MJ x (y :: o)=0:=by show(if y.lt x then MJ x o+1 else 0)=_;rw[if_neg h]
  unfold ua
  rw[if_neg h,ha]
  simp only[List.length_cons,List.getD_cons_zero,Nat.zero_lt_succ,true_and,List.take_zero,List.nil_append,List.drop_zero]
theorem Ds(x:cH):∀{o:List cH},nZ o→nZ (ua x o)∧∀z,z∈ua x o↔z=x∨z∈o
 |[],_=>⟨by simp[ua,MJ,nZ],fun z=>by simp[ua,MJ]⟩
 |y :: o,h=>by
  have h':=List.pairwise_cons.1 (show(y :: o).Pairwise cH.lt from h)
  have ih:=Ds x (show nZ o from h'.2)
  rw[LA]
  split
  ·rename_i hyx
   refine⟨List.pairwise_cons.2 ⟨fun z hz=>?_,ih.1⟩,fun z=>?_⟩
   ·rcases(ih.2 z).1 hz with rfl|hz
    ·exact hyx
    ·exact h'.1 z hz
   ·rw[List.mem_cons,ih.2,List.mem_cons]
    exact⟨fun h=>by rcases h with h|h|h<;>simp[h],fun h=>by rcases h with h|h|h<;>simp[h]⟩
  ·rename_i hyx
   split
   ·rename_i e
    subst e
    exact⟨h,fun z=>by simp⟩
   ·rename_i cY
    have F4:=cH.O1 hyx cY
    refine⟨List.pairwise_cons.2 ⟨fun z hz=>?_,h⟩,fun z=>by simp⟩
    rcases List.mem_cons.1 hz with rfl|hz
    ·exact F4
    ·exact cH.lt_trans F4 (h'.1 z hz)
theorem vo(l:List cH):nZ (fV l)∧∀z,z∈fV l↔z∈l:=by
 have key:∀(l o:List cH),nZ o→nZ (l.foldl (fun o x=>ua x o) o)∧∀z,z∈l.foldl (fun o x=>ua x o) o↔z∈o∨z∈l:=by
  intro l
  induction l with
  |nil=>intro o h;exact⟨h,fun z=>by simp⟩
  |cons x l ih=>
   intro o h
   have h1:=Ds x h
   have h2:=ih (ua x o) h1.1
   refine⟨h2.1,fun z=>?_⟩
   rw[List.foldl_cons,h2.2,h1.2,List.mem_cons]
   exact⟨fun h=>by rcases h with(h|h)|h<;>simp[h],fun h=>by rcases h with h|h|h<;>simp[h]⟩
 have:=key l [] (by simp[nZ])
 exact⟨this.1,fun z=>by rw[show fV l=l.foldl (fun o x=>ua x o) [] from rfl,this.2];simp⟩
theorem Ib(l:List cH):(fV l).length≤l.length:=by
 have:=x9 l l.length
 rwa [List.take_length]at this
theorem nZ.ext:∀{l m:List cH},nZ l→nZ m→(∀x,x∈l↔x∈m)→l=m
 |[],[],_,_,_=>rfl
 |[],y :: m,_,_,h=>absurd ((h y).2 (List.mem_cons_self ..)) (by simp)
 |x :: l,[],_,_,h=>absurd ((h x).1 (List.mem_cons_self ..)) (by simp)
 |x :: l,y :: m,hl,hm,h=>by
  have Fx:=List.pairwise_cons.1 (show(x :: l).Pairwise cH.lt from hl)
  have HJ:=List.pairwise_cons.1 (show(y :: m).Pairwise cH.lt from hm)
  have F4:x=y:=by
   rcases List.mem_cons.1 ((h x).1 (List.mem_cons_self ..))with e|hx
   ·exact e
   ·rcases List.mem_cons.1 ((h y).2 (List.mem_cons_self ..))with e|hy
    ·exact e.symm
    ·exact absurd (cH.lt_trans (HJ.1 x hx) (Fx.1 y hy)) (cH.lt_irrefl _)
  subst F4
  rw[nZ.ext (l:=l) (m:=m) Fx.2 HJ.2 fun z=>by
   have:=h z
   simp only[List.mem_cons]at this
   constructor
   ·intro hz
    rcases this.1 (.inr hz)with e|Cw
    ·subst e;exact absurd (Fx.1 z hz) (cH.lt_irrefl _)
    ·exact Cw
   ·intro hz
    rcases this.2 (.inr hz)with e|Cw
    ·subst e;exact absurd (HJ.1 z hz) (cH.lt_irrefl _)
    ·exact Cw]
def Q5(a:cH):Prop:=(0≤a.bK∧a.bK<1000000)∧(0≤a.dI∧a.dI<1000000)∧0≤a.dt∧a.dt<1000000
def F5(a b:cH):Int:=if a.bK≠b.bK then a.bK-b.bK else if a.dI≠b.dI then a.dI-b.dI else a.dt-b.dt
theorem tI(a b:cH):F5 a b<0↔a.lt b:=by
 unfold F5 cH.lt
 by_cases h1:a.bK=b.bK
 ·by_cases h2:a.dI=b.dI
  ·rw[if_neg (fun h=>h h1),if_neg (fun h=>h h2)];constructor<;>intro h<;>omega
  ·rw[if_neg (fun h=>h h1),if_pos h2];constructor<;>intro h<;>omega
 ·rw[if_pos h1];constructor<;>intro h<;>omega
theorem Ic{P:Program}{K:Fr→World→Prop}{f:Fr}{d:Option Nat}{w:World}{t:TypeId}{cs:List Value}{s:Sem Value}{v:Value}(he:cG P K s f d w=K (ai f d v) (w.alloc (.cells cs.toArray t)))
  (h:∀w1,w1=w.alloc (.cells cs.toArray t)→aE w1 w.heap.size t cs→Below w.heap.size w w1→w1.heap.size=w.heap.size+1→K (ai f d v) w1):cG P K s f d w:=by
 rw[he]
 exact h _ rfl (aE.new w t cs) ((Below.refl _ _).alloc (Nat.le_refl _) _) (by simp)
theorem Tk{ok:Nat→Prop}{w:World}{A:Option Addr}{l:List Int}(h:Ints ok w A l)(c:Nat)(hl:l.length≤9223372036854775807):
  dw Tryz.prog 50 [.slice A l.length c] w fun v w'=>v= .int .i64 (yT l)∧w'=w:=by
 refine AB (by simp) 100000 fun Q hQ=>?_
 simp(disch:=omega)only[push_cast,aa,↓reduceIte,Nat.reduceEqDiff,Int.reduceEq,AA]
 refine ax (fun f w'=>∃k:Nat,k≤l.length∧f 3= .int .i64 0∧f 6= .slice A l.length c∧f 7= .int .i64 l.length∧f 8= .int .i64 k∧(∀i,i<k→l.getD i 0=0)∧w'=w)
  (fun f _=>l.length-(intOf (f 8)).toNat) ⟨0,Nat.zero_le _,rfl,rfl,rfl,rfl,fun i hi=>absurd hi (by omega),rfl⟩ ?_
 rintro f w1 ⟨k,hk,h3,h6,h7,h8,hp,rfl⟩ J hJ
 have hI:=h
 by_cases aI:k<l.length
 ·have hA:=h.isSome (by omega)
  by_cases c1:l.getD k 0=0
  ·simp(disch:=omega)only[push_cast,aa,↓reduceIte,Nat.reduceEqDiff,Int.reduceEq,gv,h3,h6,h7,h8,aI,c1,hI.ld ak]
   exact hJ _ _ ⟨k+1,aI,(by simp only[push_cast,↓reduceIte,Nat.reduceEqDiff,Int.reduceEq,h3]),(by simp only[push_cast,↓reduceIte,Nat.reduceEqDiff,Int.reduceEq,h6]),(by simp only[push_cast,↓reduceIte,Nat.reduceEqDiff,Int.reduceEq,h7]),(by simp only[push_cast,↓reduceIte,Nat.reduceEqDiff,Int.reduceEq]),fun i hi=>if e:i=k then e▸c1 else hp i (by omega),rfl⟩ (by simp only[push_cast,↓reduceIte,Nat.reduceEqDiff,h8,intOf];omega)
  ·have r:=Fy l k aI hp c1
   simp(disch:=omega)only[push_cast,aa,↓reduceIte,Nat.reduceEqDiff,Int.reduceEq,gv,h3,h6,h7,h8,aI,c1,hI.ld ak]
   exact aF (hQ _ _ ⟨(by simp only[push_cast,↓reduceIte,Nat.reduceEqDiff,Int.reduceEq,r]),rfl⟩)
 ·have r:yT l=0:=by rw[D6 l k hp,List.drop_eq_nil_of_le (by omega)];rfl
  simp(disch:=omega)only[push_cast,aa,↓reduceIte,Nat.reduceEqDiff,Int.reduceEq,gv,h3,h6,h7,h8,aI]
  exact aF (hQ _ _ ⟨(by simp only[push_cast,↓reduceIte,Nat.reduceEqDiff,Int.reduceEq,r]),rfl⟩)
theorem Tl(a b:cH):yT [a.bK-b.bK,a.dI-b.dI,a.dt-b.dt]=F5 a b:=by
 unfold F5
 simp only[yT]
 repeat' split
 all_goals omega
theorem Tm(x y z:Value)(a b c:Int):Instr.fill (fun i=>some (i*1,1)) #[x,y,z] [(0,.int .i64 a),(1,.int .i64 b),(2,.int .i64 c)]=some #[.int .i64 a,.int .i64 b,.int .i64 c]:=by
 simp[Instr.fill,Value.cells]
theorem O3{P:Program}{K:Fr→World→Prop}{f:Fr}{d:Option Nat}{w:World}{t e bytes:Nat}(hT:uJ P t e 1 bytes)(a b c:Int):
  cG P K (Instr.buildSlice t 3 #[(0,.int .i64 a),(1,.int .i64 b),(2,.int .i64 c)]) f d w=K (ai f d (.slice (some ⟨w.heap.size,0,none⟩) 3 3)) (w.alloc (.cells [.int .i64 a,.int .i64 b,.int .i64 c].toArray e)):=by
 obtain⟨i,z,hi,hz,hs,hb,hc⟩:=hT.get
 refine fa ?_
 have Sx:(Array.range 3).map (z.cells[·%z.cells.size]!)= #[z.cells[0%z.cells.size]!,z.cells[1%z.cells.size]!,z.cells[2%z.cells.size]!]:=by
  apply Array.ext';simp[List.range_succ]
 have hf:=Tm (z.cells[0%z.cells.size]!) (z.cells[1%z.cells.size]!) (z.cells[2%z.cells.size]!) a b c
 rw[←Sx]at hf
 simp only[Instr.buildSlice,run_underlying hT.under,sizeOf,typeInfo,Sem.run_bind,Result.andThen_ok]
 simp only[Nat.mul_one]at hf
 simp[hi,hs,zeroValue,typeInfo,hz,newRow,hf]
theorem Tn{a b:cH}(ha:Q5 a)(hb:Q5 b)(w:World):
  dw Tryz.prog 49 [iD a,iD b] w fun v w'=>v= .int .i64 (F5 a b)∧∃q os,w'=Go.Sort.grow (w.drewN q) os:=by
 obtain⟨a1,a2,a3⟩:=ha
 obtain⟨b1,b2,b3⟩:=hb
 refine vS (by simp) 100000 fun Q hQ=>?_
 simp(disch:=omega)only[push_cast,aa,↓reduceIte,Nat.reduceEqDiff,Int.reduceEq,aac]
 refine Ic (aO _ (ay a)) ?_
 intro w1 e1 k1 bb1 z1
 simp(disch:=omega)only[push_cast,aa,↓reduceIte,Nat.reduceEqDiff,Int.reduceEq]
 refine Ic (aO _ (ay b)) ?_
 intro w2 e2 k2 BC z2
 replace k1:=k1.below BC k1.lt
 simp(disch:=omega)only[push_cast,aa,↓reduceIte,Nat.reduceEqDiff,Int.reduceEq,k1.a0 ak,k2.a0 ak,k1.a1 ak,k2.a1 ak,k1.a2 ak,k2.a2 ak]
 refine Ic (O3 fq (a.bK-b.bK) (a.dI-b.dI) (a.dt-b.dt)) ?_
 intro w3 e3 k3 ot z3
 have hw:w3=Go.Sort.grow (w.drewN 0) (#[.cells (ay a).toArray 97]++ #[.cells (ay b).toArray 97]++ #[.cells [.int .i64 (a.bK-b.bK),.int .i64 (a.dI-b.dI),.int .i64 (a.dt-b.dt)].toArray 3]):=by
  rw[e3,e2,e1,Go.Sort.alloc_eq_grow,Go.Sort.alloc_eq_grow,Go.Sort.alloc_eq_grow,Go.Sort.grow_grow,Go.Sort.grow_grow];rfl
 simp(disch:=omega)only[push_cast,aa,↓reduceIte,Nat.reduceEqDiff,Int.reduceEq]
 refine ah (Tk (Bi (l:=[a.bK-b.bK,a.dI-b.dI,a.dt-b.dt]) k3) 3 (by simp)) ?_
 rintro v w4 ⟨rfl,rfl⟩
 rw[Tl]
 simp(disch:=omega)only[push_cast,aa,↓reduceIte,Nat.reduceEqDiff,Int.reduceEq]
 exact aF (hQ _ _ ⟨(by simp only[push_cast,↓reduceIte,Nat.reduceEqDiff,Int.reduceEq]),_,_,hw⟩)
def To:Go.Shelf.Ren:=⟨fun|6=>48|14=>95|15=>93|20=>126|21=>127|22=>128|23=>129|24=>130|25=>131|26=>132|27=>133|28=>124|29=>125|46=>154|47=>150|48=>151|49=>155|50=>156|57=>167|n=>n,fun|0=>0|3=>3|4=>4|5=>5|9=>9|22=>25|24=>97|25=>101|39=>161|45=>180|46=>181|50=>146|53=>187|55=>105|66=>203|70=>207|76=>227|77=>228|n=>n,fun|n=>n⟩
theorem F6:Go.Proofs.SlLaysF0.n6 Tryz.prog To:={
 mixed:=by kernel_rfl
 f6:=⟨Tryz.f48.name,by kernel_rfl,Tryz.func48.trans (congrArg some (by kernel_rfl))⟩
 f14:=⟨Tryz.f95.name,by kernel_rfl,Tryz.func95.trans (congrArg some (by kernel_rfl))⟩
 f15:=Tryz.func93.trans (congrArg some (by kernel_rfl))
 f20:=⟨Tryz.f126.name,by kernel_rfl,Tryz.func126.trans (congrArg some (by kernel_rfl))⟩
 f21:=⟨Tryz.f127.name,by kernel_rfl,Tryz.func127.trans (congrArg some (by kernel_rfl))⟩
 f22:=⟨Tryz.f128.name,by kernel_rfl,Tryz.func128.trans (congrArg some (by kernel_rfl))⟩
 f23:=⟨Tryz.f129.name,by kernel_rfl,Tryz.func129.trans (congrArg some (by kernel_rfl))⟩
 f24:=⟨Tryz.f130.name,by kernel_rfl,Tryz.func130.trans (congrArg some (by kernel_rfl))⟩
 f25:=⟨Tryz.f131.name,by kernel_rfl,Tryz.func131.trans (congrArg some (by kernel_rfl))⟩
 f26:=⟨Tryz.f132.name,by kernel_rfl,Tryz.func132.trans (congrArg some (by kernel_rfl))⟩
 f27:=⟨Tryz.f133.name,by kernel_rfl,Tryz.func133.trans (congrArg some (by kernel_rfl))⟩
 f28:=Tryz.func124.trans (congrArg some (by kernel_rfl))
 f29:=Tryz.func125.trans (congrArg some (by kernel_rfl))
 f46:=⟨Tryz.f154.name,by kernel_rfl,Tryz.func154.trans (congrArg some (by kernel_rfl))⟩
 f47:=Tryz.func150.trans (congrArg some (by kernel_rfl))
 f48:=Tryz.func151.trans (congrArg some (by kernel_rfl))
 f49:=⟨Tryz.f155.name,by kernel_rfl,Tryz.func155.trans (congrArg some (by kernel_rfl))⟩
 f50:=⟨Tryz.f156.name,by kernel_rfl,Tryz.func156.trans (congrArg some (by kernel_rfl))⟩
 f57:=⟨Tryz.f167.name,by kernel_rfl,Tryz.func167.trans (congrArg some (by kernel_rfl))⟩
 t0:=Tryz.underlying0
 a0:=Tryz.isAgg0
 z0:=Tryz.sizeOf0
 v0:=Tryz.zeroValue0
 t3:=Tryz.underlying3
 a3:=Tryz.isAgg3
 z3:=Tryz.sizeOf3
 v3:=Tryz.zeroValue3
 t4:=Tryz.underlying4
 a4:=Tryz.isAgg4
 z4:=Tryz.sizeOf4
 v4:=Tryz.zeroValue4
 t5:=Tryz.underlying5
 a5:=Tryz.isAgg5
 z5:=Tryz.sizeOf5
 v5:=Tryz.zeroValue5
 t9:=Tryz.underlying9
 a9:=Tryz.isAgg9
 z9:=Tryz.sizeOf9
 v9:=Tryz.zeroValue9
 t22:=Tryz.underlying25
 a22:=Tryz.isAgg25
 z22:=Tryz.sizeOf25
 v22:=Tryz.zeroValue25
 t25:=Tryz.underlying101
 a25:=Tryz.isAgg101
 z25:=Tryz.sizeOf101
 v25:=Tryz.zeroValue101
 t39:=Tryz.underlying161
 a39:=Tryz.isAgg161
 z39:=Tryz.sizeOf161
 v39:=Tryz.zeroValue161
 t45:=Tryz.underlying180
 a45:=Tryz.isAgg180
 z45:=Tryz.sizeOf180
 v45:=Tryz.zeroValue180
 t46:=Tryz.underlying181
 a46:=Tryz.isAgg181
 z46:=Tryz.sizeOf181
 v46:=Tryz.zeroValue181
 t50:=Tryz.underlying146
 a50:=Tryz.isAgg146
 z50:=Tryz.sizeOf146
 v50:=Tryz.zeroValue146
 t53:=Tryz.underlying187
 a53:=Tryz.isAgg187
 z53:=Tryz.sizeOf187
 v53:=Tryz.zeroValue187
 t55:=Tryz.underlying105
 a55:=Tryz.isAgg105
 z55:=Tryz.sizeOf105
 v55:=Tryz.zeroValue105
 t66:=Tryz.underlying203
 a66:=Tryz.isAgg203
 z66:=Tryz.sizeOf203
 v66:=Tryz.zeroValue203
 t70:=Tryz.underlying207
 a70:=Tryz.isAgg207
 z70:=Tryz.sizeOf207
 v70:=Tryz.zeroValue207
 t76:=Tryz.underlying227
 a76:=Tryz.isAgg227
 z76:=Tryz.sizeOf227
 v76:=Tryz.zeroValue227
 t77:=Tryz.underlying228
 a77:=Tryz.isAgg228
 z77:=Tryz.sizeOf228
 v77:=Tryz.zeroValue228}
abbrev SA:={a:cH//Q5 a}
instance:Inhabited SA:=⟨⟨⟨0,0,0⟩,by unfold Q5;decide⟩⟩
theorem agH:Go.Sort.SWO (Go.Proofs.ltOf fun x y:SA=>F5 x.1 y.1) where
 irrefl x:=decide_eq_false fun h=>cH.lt_irrefl _ ((tI _ _).1 h)
 trans x y z h1 h2:=decide_eq_true ((tI _ _).2 (cH.lt_trans ((tI _ _).1 (of_decide_eq_true h1)) ((tI _ _).1 (of_decide_eq_true h2))))
 ntrans x y z h1 h2:=decide_eq_false fun h=>by
  have KC:=of_decide_eq_false h1
  have JQ:=of_decide_eq_false h2
  rw[tI]at KC JQ h
  unfold cH.lt at*
  omega
def kj:(l:List cH)→(∀a∈l,Q5 a)→List SA
 |[],_=>[]
 |a :: l,h=>⟨a,h a (List.mem_cons_self ..)⟩:: kj l fun x hx=>h x (List.mem_cons_of_mem _ hx)
theorem tJ:∀(l:List cH) (h:∀a∈l,Q5 a),(kj l h).map (·.1)=l
 |[],_=>rfl
 |a :: l,h=>by unfold kj;rw[List.map_cons,tJ l]
theorem F7{α:Type}[Inhabited α]{enc:α→List Value}{k:Nat}(E:C8 enc k)(hk:0<k)(l:List α):(Go.Sort.flatK enc k l.toArray).toList=l.flatMap enc:=by
 apply List.ext_getElem?
 intro i
 have hs:(Go.Sort.flatK enc k l.toArray).size=l.length*k:=by rw[Go.Sort.size_flatK];simp
 by_cases hi:i<l.length*k
 ·have hdiv:i/k<l.length:=Nat.div_lt_of_lt_mul (by rw[Nat.mul_comm];exact hi)
  have abY:i%k<k:=Nat.mod_lt _ hk
  have h1:=ve E l (i/k) l[i/k] (i%k) (List.getElem?_eq_getElem hdiv) abY
  rw[show i/k*k+i%k=i by rw[Nat.mul_comm];exact Nat.div_add_mod i k]at h1
  rw[h1,Array.getElem?_toList,Array.getElem?_eq_getElem (by rw[hs];exact hi)]
  have h2:=Go.Sort.get_flatK enc k l.toArray i (by simpa using hi)
  rw[getElem!_pos _ _ (by rw[hs];exact hi)]at h2
  rw[h2]
  have hl:i/k<l.toArray.size:=by simpa using hdiv
  rw[getElem!_pos l.toArray _ hl]
  have he:(enc l[i/k]).length=k:=E.len _
  rw[List.getElem!_eq_getElem?_getD]
  simp only[List.getElem_toArray]
  rw[List.getElem?_eq_getElem (by rw[he];exact abY)]
  simp
 ·rw[List.getElem?_eq_none (by rw[Array.length_toList,hs];omega),List.getElem?_eq_none (by rw[aaa E];omega)]
theorem CP(F cur:Array Value)(h:F.size≤cur.size):(Go.Sort.putCells id 0 F cur).toList.take F.size=F.toList:=by
 apply List.ext_getElem?
 intro j
 rw[List.getElem?_take,Array.getElem?_toList,Array.getElem?_toList]
 by_cases hj:j<F.size
 ·have hjc:j<cur.size:=by omega
  simp only[if_pos hj,Go.Sort.putCells,Array.getElem?_mapIdx,Array.getElem?_eq_getElem hjc,Option.map_some]
  rw[if_pos (by omega)]
  simp[getElem!_pos,hj]
 ·rw[if_neg hj,Array.getElem?_eq_none (by omega)]
theorem O4{B:Nat}{w:World}{A:Option Addr}{c:Nat}{l:List cH}(h:bH ay B 97 3 w A c l)(hl:l.length≤1000000)(hs:∀a∈l,Q5 a)(hn:l.Nodup):
  dw Tryz.prog 48 [.slice A l.length c,.func (.func 49) #[] #[]] w fun v w'=>v= .tuple #[]∧(fV l).length=l.length∧bH ay B 97 3 w' A c (fV l)∧bJ w w' A:=by
 refine⟨by kernel_rfl,?_⟩
 rcases h.form with⟨rfl,h0,rfl,_⟩|⟨g,rfl,hB,hg⟩
 ·have hn:l=[]:=List.eq_nil_of_length_eq_zero h0
  subst hn
  exact(Go.Proofs.AnyF.slices_SortFunc_none F6 none 0 _ w).mono fun e W ⟨h1,h2⟩=>⟨_,h1,rfl,rfl,by rw[h2];exact h,by rw[h2];exact⟨World.grownBy.refl w _⟩⟩
 ·have E:C8 (fun x:SA=>ay x.1) 3:=⟨fun x=>rfl,fun x u hu=>by
   simp[ay]at hu
   rcases hu with rfl|rfl|rfl<;>rfl⟩
  have hfl:(kj l hs).flatMap (fun x:SA=>ay x.1)=l.flatMap ay:=by
   conv=>rhs;rw[←tJ l hs]
   rw[List.flatMap_map]
  have Hi:(kj l hs).length=l.length:=by
   have:=congrArg List.length (tJ l hs)
   simpa using this
  have eg:∀args w,(callFunc 49 args).run Tryz.prog w= .ok (.enter 49 args) w:=enters_of Tryz.func49 (by kernel_rfl) rfl
  have agJ:Go.Proofs.CmpLays Tryz.prog 49 #[] (fun x:SA=>ay x.1) 3 (fun x y=>F5 x.1 y.1) g 0 (kj l hs).toArray.size w:=fun m os dk _ x y=>
   (Tn x.2 y.2 _).calls.mono fun e W ⟨v,he,hv,q,os',hW⟩=>⟨by rw[he,hv],q,os',hW⟩
  rcases h.own.2 with⟨e0,_⟩|⟨g',cap,cur,e0,Xv,hgc,Ws,hmx,E0,O5⟩
  ·cases e0
  injection e0 with e1 _ e3
  injection e1 with e1
  injection e1 with e1
  subst e1 e3
  have hH:Go.Sort.HoldsK (fun x:SA=>ay x.1) 3 w g 0 (kj l hs).toArray:=by
   intro j hj
   rw[Go.Sort.size_flatK]at hj
   have Hf:j<l.length*3:=by simpa[Hi]using hj
   rw[Nat.zero_add]
   have hd:=h.own.cells (g:=g) rfl j
   have hfz:=h.own.frozenAt (g:=g) j
   have hF:=F7 E (by decide) (kj l hs)
   rw[hfl]at hF
   have hlen:j<(l.flatMap ay).length:=by rw[h.own.1];exact Hf
   have h3:=hd _ (List.getElem?_eq_getElem hlen)
   rw[addr_add,Nat.zero_add]at h3
   refine⟨?_,hfz⟩
   rw[h3]
   congr 1
   show _=(Go.Sort.flatK _ 3 (kj l hs).toArray)[j]!
   have kq:j<(Go.Sort.flatK (fun x:SA=>ay x.1) 3 (kj l hs).toArray).size:=by rw[Go.Sort.size_flatK];simpa[Hi]using Hf
   rw[getElem!_pos (Go.Sort.flatK (fun x:SA=>ay x.1) 3 (kj l hs).toArray) _ kq,←Array.getElem_toList]
   simp only[hF]
  have abZ:=Go.Proofs.AnyQ.slices_SortFunc F6 3 Tryz.isAgg97 Tryz.sizeOf97 (fun x:SA=>ay x.1) (fun x=>rfl) (fun x v hv=>E.one x v hv) (fun x y=>F5 x.1 y.1) agH 49 #[] g 0 c (kj l hs).toArray w eg agJ hH hg (by simp[Hi];omega)
  have kq:(kj l hs).toArray.size=l.length:=by simp[Hi]
  rw[kq]at abZ
  refine(show Calls Tryz.prog 48 _ _ _ from abZ).mono ?_
  rintro e W ⟨rfl,d',n,os,⟨Li,_,hp3⟩,hso,rfl⟩
  have Xw:d'.size=l.length:=by rw[Li,kq]
  have hpm:d'.toList.Perm (kj l hs):=by
   have e1:(d'.extract 0 l.length).toList=d'.toList:=by rw[←Xw];simp
   have e2:((kj l hs).toArray.extract 0 l.length).toList=kj l hs:=by rw[←kq];simp
   rw[e1,e2]at hp3
   exact hp3
  have ab0:(d'.toList.map (·.1)).Perm l:=by
   have:=hpm.map (·.1)
   rwa [tJ]at this
  have Cq:(d'.toList.map (·.1)).Nodup:=ab0.symm.nodup hn
  have agK:nZ (d'.toList.map (·.1)):=by
   unfold nZ
   rw[List.pairwise_iff_getElem]
   intro i j hi hj D4
   have ZJ:i<d'.size:=by simpa using hi
   have Hf:j<d'.size:=by simpa using hj
   have h1:=hso i j (Nat.zero_le _) D4 (by omega)
   have h2:=of_decide_eq_false h1
   rw[tI,getElem!_pos d' _ Hf,getElem!_pos d' _ ZJ]at h2
   have h3:(d'.toList.map (·.1))[i]'hi≠(d'.toList.map (·.1))[j]'hj:=List.pairwise_iff_getElem.1 Cq i j hi hj D4
   simp only[List.getElem_map,Array.getElem_toList]at h3 ⊢
   exact cH.O1 h2 (fun e=>h3 e.symm)
  have heq:d'.toList.map (·.1)=fV l:=agK.ext (vo l).1 fun x=>by rw[(vo l).2,ab0.mem_iff]
  have hlen:(fV l).length=l.length:=by rw[←heq,List.length_map,Array.length_toList,Xw]
  have hF:=F7 E (by decide) d'.toList
  have hfm:d'.toList.flatMap (fun x:SA=>ay x.1)=(fV l).flatMap ay:=by rw[←heq,List.flatMap_map]
  rw[hfm]at hF
  have hFs:(Go.Sort.flatK (fun x:SA=>ay x.1) 3 d').size=l.length*3:=by rw[Go.Sort.size_flatK,Xw]
  refine⟨_,rfl,rfl,hlen,⟨⟨by rw[aaa vl],.inr ⟨g,c,Go.Sort.putCells id 0 (Go.Sort.flatK (fun x:SA=>ay x.1) 3 d') cur,by rw[hlen],Xv,?_,by omega,hmx,by simpa[Go.Sort.putCells]using E0,?_⟩⟩⟩,?_⟩
  ·unfold Go.Proofs.sortWorldK
   rw[Go.Sort.heap_grow_old _ _ (by simp[Go.Sort.putRowK,Go.Sort.putRow,Go.Sort.mapBlock,Go.Sort.ahead];exact hg)]
   simp[Go.Sort.putRowK,Go.Sort.putRow,Go.Sort.mapBlock,Go.Sort.ahead,Array.getElem?_modify,hgc,Go.Sort.onCells]
  ·have:=CP (Go.Sort.flatK (fun x:SA=>ay x.1) 3 d') cur (by rw[hFs,E0];exact Nat.mul_le_mul_right _ Ws)
   rw[hFs]at this
   rw[hlen,this,←hF]
  ·refine⟨⟨rfl,rfl,rfl,by simp[Go.Proofs.sortWorldK,Go.Sort.grow,Go.Sort.putRowK,Go.Sort.putRow,Go.Sort.mapBlock,Go.Sort.ahead],fun k hk cY=>?_⟩⟩
   have om:g≠k:=fun e=>cY (by rw[e];rfl)
   unfold Go.Proofs.sortWorldK
   rw[Go.Sort.heap_grow_old _ _ (by simp[Go.Sort.putRowK,Go.Sort.putRow,Go.Sort.mapBlock,Go.Sort.ahead];exact hk)]
   simp[Go.Sort.putRowK,Go.Sort.putRow,Go.Sort.mapBlock,Go.Sort.ahead,Array.getElem?_modify,om]
open Go.RowKit
theorem LB{w:World}{A:Option Addr}{l:List cH}(h:il (·<w.heap.size) w A l)(c:Nat)(hl:l.length≤100000)(y:cH):
  dw Tryz.prog 94 [.slice A l.length c,iD y] w fun v w'=>(∃q:Int,v= .int .i64 q∧(0≤q↔y∈l))∧Below w.heap.size w w':=by
 refine sb (by simp) 10000 fun Q hQ=>?_
 simp(disch:=omega)only[push_cast,aa,↓reduceIte,Nat.reduceEqDiff,Int.reduceEq,mg]
 refine au (aO _ (ay y)) ?_
 intro w1 k1 b1 z1
 simp(disch:=omega)only[push_cast,aa,↓reduceIte,Nat.reduceEqDiff,Int.reduceEq]
 refine ax (fun f w'=>∃k:Nat,k≤l.length∧(f 0= .slice A l.length c∧f 3= .pointer (some ⟨w.heap.size,0,none⟩)∧f 7= .int .i64 l.length∧f 8= .int .i64 k)∧(∀j,j<k→l.getD j default≠y)∧Same w1 w')
  (fun f _=>l.length-(intOf (f 8)).toNat) ⟨0,Nat.zero_le _,⟨rfl,rfl,rfl,rfl⟩,fun j hj=>absurd hj (by omega),Same.refl _⟩ ?_
 rintro f w2 ⟨k,hk,fr,gY,s2⟩ J hJ
 have gZ:(intOf (f 8)).toNat=k:=by rw[fr.2.2.2];simp[intOf]
 by_cases aI:k<l.length
 case neg=>
  obtain rfl:k=l.length:=by omega
  simp(disch:=omega)only[push_cast,aa,↓reduceIte,Nat.reduceEqDiff,Int.reduceEq,dU,fr,Nat.lt_irrefl]
  refine aF (hQ _ _ ⟨⟨-1,by simp only[push_cast,↓reduceIte,Nat.reduceEqDiff],by omega,fun hm=>?_⟩,b1.trans (s2.below _)⟩)
  obtain⟨j,hj,he⟩:=List.mem_iff_getElem.1 hm
  exact absurd (by rw[List.getD_eq_getElem?_getD,List.getElem?_eq_getElem hj];exact he) (gY j hj)
 have s3:=s2.trans (Same.refl w2).drew
 have k3:=k1.same s3
 have h3:=(h.below b1).same s3
 have bb:=b1.trans (s3.below w.heap.size)
 generalize hu:w2.drew=u at*
 have sA:=h.isSome (by omega)
 have kG:l.getD k default∈l:=by rw[List.getD_eq_getElem?_getD,List.getElem?_eq_getElem aI];exact List.getElem_mem aI
 have ldk:=fun{K f d w}=>h3.CH (K:=K) (f:=f) (d:=d) (w:=w) vI bz k aI
 generalize hz:l.getD k default=z at*
 by_cases he:y=z
 ·subst he
  simp(disch:=omega)only[push_cast,aa,↓reduceIte,Nat.reduceEqDiff,Int.reduceEq,dU,fr,aI,hu,sA,k3.aA vI bz,ldk,JH,decide_true]
  exact aF (hQ _ _ ⟨⟨k,by simp only[push_cast,↓reduceIte,Nat.reduceEqDiff,fr],fun _=>kG,fun _=>by omega⟩,bb⟩)
 ·simp(disch:=omega)only[push_cast,aa,↓reduceIte,Nat.reduceEqDiff,Int.reduceEq,dU,fr,aI,hu,sA,k3.aA vI bz,ldk,JH,decide_eq_false he]
  exact hJ _ _ ⟨k+1,aI,(by simp only[push_cast,↓reduceIte,Nat.reduceEqDiff,true_and,and_true,and_self,eq_self,fr]),fun j hj=>by
   by_cases e:j=k
   ·subst e;rw[hz];exact fun e=>he e.symm
   ·exact gY j (by omega),s3⟩ (by rw[gZ];simp only[push_cast,↓reduceIte,Nat.reduceEqDiff,intOf,fr];omega)
theorem Ek{w:World}{A:Option Addr}{l:List cH}(h:il (·<w.heap.size) w A l)(c:Nat)(hl:l.length≤100000)(y:cH):
  dw Tryz.prog 47 [.slice A l.length c,iD y] w fun v w'=>v= .bool (decide (y∈l))∧Below w.heap.size w w':=by
 refine oJ (by simp) 10000 fun Q hQ=>?_
 simp(disch:=omega)only[push_cast,aa,↓reduceIte,Nat.reduceEqDiff,Int.reduceEq,iS]
 refine au (aO _ (ay y)) ?_
 intro w1 k1 b1 z1
 have h1:il (·<w1.heap.size) w1 A l:=(h.below b1).mono fun _ hb=>Nat.lt_of_lt_of_le hb b1.size
 simp(disch:=omega)only[push_cast,aa,↓reduceIte,Nat.reduceEqDiff,Int.reduceEq,k1.aA vI bz]
 refine ah (LB h1 c hl y) ?_
 rintro v w2 ⟨⟨q,rfl,hq⟩,b2⟩
 simp(disch:=omega)only[push_cast,aa,↓reduceIte,Nat.reduceEqDiff,Int.reduceEq]
 refine aF (hQ _ _ ⟨?_,b1.trans (b2.mono b1.size)⟩)
 by_cases h0:0≤q
 ·have hm:=hq.1 h0
  simp only[push_cast,↓reduceIte,Nat.reduceEqDiff,h0,decide_eq_true hm]
 ·have hm:y∉l:=fun c=>h0 (hq.2 c)
  simp only[push_cast,↓reduceIte,Nat.reduceEqDiff,h0,decide_eq_false hm]
theorem JR{K:Fr→World→Prop}{u:World}{f:Fr}{d:Option Nat}{w:World}(x:Int):aq Tryz.prog K (Instr.build 97 #[(0,.int .i64 x)]) u f d w=K (ai f d (.agg (ay ⟨x,0,0⟩).toArray)) w:=gF (by kernel_rfl)
theorem JS(y:cH):(ay y).all (·.oneCell')=true:=by simp[ay,Value.oneCell']
theorem wZ(S E:List ByteArray)(acc:List cH):mC S E acc []= .ok acc:=by
 rw[mC]
 intro a b c ts h;cases h
theorem tK(S E:List ByteArray)(acc:List cH)(a b c:ui)(ts:List ui):mC S E acc (a :: b :: c :: ts)=if jW a.s S<0 then .error (4,a.at_)else if jW b.s E<0 then .error (4,b.at_)else if jW c.s S<0 then .error (4,c.at_)
   else if(⟨jW a.s S,jW b.s E,jW c.s S⟩:cH)∈acc then .error (5,a.at_)else mC S E (acc++[⟨jW a.s S,jW b.s E,jW c.s S⟩]) ts:=by rw[mC]
theorem vn.ld2{K:Fr→World→Prop}{u w:World}{f:Fr}{d:Option Nat}{ok:Nat→Prop}{A:Option Addr}{ts:List ui}(h:bq ui.cells 3 ok u A ts){i:Nat}{t:ui}(hi:ts[i]? =some t):
  aq Tryz.prog K (Instr.loadAt 3 (.pointer (some (eA A (i*3+2))))) u f d w=K (ai f d (.int .i64 t.at_)) w:=
 bq.ld (j:=2) h ak hi rfl
set_option maxHeartbeats 2000000 in
theorem F8{w:World}{a:JV}{p:Pj}(hS:dE (·<w.heap.size) w a.AS p.S)(hE:dE (·<w.heap.size) w a.AE p.E)(lS:p.S.length≤12)(lE:p.E.length≤12){At:Option Addr}{ts:List ui}(h:bq ui.cells 3 (·<w.heap.size) w At ts)(ct:Nat)(hl:ts.length≤4000)(h3:ts.length%3=0):
  mO Tryz.prog 21 [a.val p,.slice At ts.length ct] w
   (fun v w'=>∃r A c,mC p.S p.E [] ts= .ok r∧r.length≤4000∧v= .slice A (fV r).length c∧bH ay w.heap.size 97 3 w' A c (fV r)∧Below w.heap.size w w')
   (fun ch w'=>∃e x,mC p.S p.E [] ts= .error (e,x)∧ch=[{v:=jt e x,recovered:=false}]∧Below w.heap.size w w'):=by
 refine xA (by simp) 1000000 fun Q Qp hQ hP=>?_
 simp(disch:=omega)only[push_cast,aa,↓reduceIte,Nat.reduceEqDiff,Int.reduceEq,nT]
 refine au (aO _ (a.cells p)) ?_
 intro w0 k0 b0 z0
 simp(disch:=omega)only[push_cast,aa,↓reduceIte,Nat.reduceEqDiff,Int.reduceEq]
 refine ax (fun f w'=>∃(i:Nat) (acc:List cH) (A:Option Addr) (c:Nat),i≤ts.length∧i%3=0∧(f 1= .slice At ts.length ct∧f 2= .pointer (some ⟨w.heap.size,0,none⟩)∧f 5= .slice A acc.length c∧f 6= .int .i64 i)∧mC p.S p.E [] ts=mC p.S p.E acc (ts.drop i)∧acc.length≤i∧acc.Nodup∧(∀x∈acc,Q5 x)∧bH ay (w.heap.size+1) 97 3 w' A c acc∧aE w' w.heap.size 29 (a.cells p)∧Below w.heap.size w w')
  (fun f _=>ts.length-(intOf (f 6)).toNat) ⟨0,[],none,0,Nat.zero_le _,rfl,⟨rfl,rfl,rfl,rfl⟩,rfl,Nat.zero_le _,List.nodup_nil,(fun x hx=>by cases hx),Own.nil _ _ _ _,k0,b0⟩ ?_
 rintro f w1 ⟨i,acc,A,c,hi,hi3,fr,hd,hal,Cq,Hj,o1,k1,b1⟩ J hJ
 have gZ:(intOf (f 6)).toNat=i:=by rw[fr.2.2.2];simp[intOf]
 by_cases aI:i<ts.length
 case neg=>
  obtain rfl:i=ts.length:=by omega
  rw[List.drop_length,wZ]at hd
  simp(disch:=omega)only[push_cast,aa,↓reduceIte,Nat.reduceEqDiff,Int.reduceEq,aab,fr,Nat.lt_irrefl]
  refine ah (O4 o1 (by omega) Hj Cq) ?_
  rintro v w2 ⟨rfl,hlen,o2,g2⟩
  simp(disch:=omega)only[push_cast,aa,↓reduceIte,Nat.reduceEqDiff,Int.reduceEq,fr]
  exact aF (hQ _ _ ⟨acc,A,c,hd,by omega,by simp only[push_cast,↓reduceIte,Nat.reduceEqDiff,fr,hlen],o2.base (Nat.le_succ _),g2.below b1 b1.size fun x hx=>by have:=o1.uh x hx;omega⟩)
 have Tp:i+1<ts.length:=by omega
 have kI:i+2<ts.length:=by omega
 have MG:ts[i]? =some ts[i]:=List.getElem?_eq_getElem aI
 have QQ:ts[i+1]? =some ts[i+1]:=List.getElem?_eq_getElem Tp
 have Tq:ts[i+2]? =some ts[i+2]:=List.getElem?_eq_getElem kI
 have hdk:ts.drop i=ts[i]:: ts[i+1]:: ts[i+2]:: ts.drop (i+3):=by
  rw[List.drop_eq_getElem_cons aI,List.drop_eq_getElem_cons Tp,List.drop_eq_getElem_cons kI]
 rw[hdk,tK]at hd
 generalize ts[i]=t0 at*
 generalize ts[i+1]=t1 at*
 generalize ts[i+2]=t2 at*
 have sA:=h.isSome (by omega)
 have e1:((i:Int)+1).toNat=i+1:=by omega
 have e2:((i:Int)+2).toNat=i+2:=by omega
 have c1:(i:Int)+1<(ts.length:Int):=by omega
 have c2:(i:Int)+2<(ts.length:Int):=by omega
 have sd1:=(Same.refl w1).drew
 have Xi:=vn.up h (b1.trans (sd1.below _))
 have ku1:=k1.same sd1
 have ou1:=o1.same sd1
 have Vi:=b1.trans (sd1.below w.heap.size)
 generalize hue:w1.drew=u1 at*
 simp(disch:=omega)only[push_cast,aa,↓reduceIte,Nat.reduceEqDiff,Int.reduceEq,aab,fr,aI,hue,sA,ku1.jS,vn.CH Xi MG]
 refine WM (fun f' w'=>∃g:Nat,(f' 1= .slice At ts.length ct∧f' 2= .pointer (some ⟨w.heap.size,0,none⟩)∧f' 5= .slice A acc.length c∧f' 6= .int .i64 i∧f' 7= .pointer (some ⟨g,0,none⟩))∧u1.heap.size≤g∧aE w' g 97 (ay ⟨jW t0.s p.S,0,0⟩)∧0≤jW t0.s p.S∧Below u1.heap.size u1 w') 400000 400000 (by decide) ?_ ?_
 ·intro E' hE'
  have ab3:∀{wq:World} {ch:List PanicEntry} {w':World},Below u1.heap.size u1 wq→ch=[{v:=jt 4 t0.at_,recovered:=false}]→jW t0.s p.S<0→Below wq.heap.size wq w'→Qp ch w':=by
   intro wq ch w' b2 kH hp b3
   rw[if_pos hp]at hd
   exact hP _ _ ⟨4,_,hd,kH,Vi.trans ((b2.trans (b3.mono b2.size)).mono Vi.size)⟩
  rw[tj]
  refine⟨?_,?_⟩
  ·simp(disch:=omega)only[push_cast,aa,↓reduceIte,Nat.reduceEqDiff,Int.reduceEq,fr]
   refine aT (jR (hS.Vh Vi) a.cS (by omega) t0) ?_ ?_
   ·rintro ch w2 ⟨kH,hp,b2⟩
    exact ab3 (Below.refl _ _) kH hp b2
   rintro v w2 ⟨rfl,hp,b2⟩
   simp(disch:=omega)only[push_cast,aa,↓reduceIte,Nat.reduceEqDiff,Int.reduceEq,fr,JR]
   refine⟨b2,?_⟩
   refine au sr ?_
   intro w3 k3 b3 z3
   simp(disch:=omega)only[push_cast,aa,↓reduceIte,Nat.reduceEqDiff,Int.reduceEq,fr]
   have ML:=b2.trans (b3.mono b2.size)
   refine⟨ML,?_⟩
   refine aC k3 (cs:=ay ⟨jW t0.s p.S,0,0⟩) bz rfl (JS _) ?_
   intro w4 k4 g4 z4
   simp(disch:=omega)only[push_cast,aa,↓reduceIte,Nat.reduceEqDiff,Int.reduceEq,fr]
   exact hE' _ _ ⟨_,(by simp only[push_cast,↓reduceIte,Nat.reduceEqDiff,true_and,and_true,and_self,eq_self,fr]),b2.size,k4,hp,g4.below ML ML.size (by intro x hx;injection hx with hx;subst hx;exact b2.size)⟩
  ·simp(disch:=omega)only[push_cast,aa,↓reduceIte,Nat.reduceEqDiff,Int.reduceEq,fr]
   refine au sr ?_
   intro w3 k3 b3 z3
   simp(disch:=omega)only[push_cast,aa,↓reduceIte,Nat.reduceEqDiff,Int.reduceEq,fr]
   refine⟨b3,?_⟩
   refine aT (jR (hS.Vh (Vi.trans (b3.mono Vi.size))) a.cS (by omega) t0) ?_ ?_
   ·rintro ch w2 ⟨kH,hp,b2⟩
    exact ab3 b3 kH hp b2
   rintro v w2 ⟨rfl,hp,b2⟩
   have b32:=b3.trans (b2.mono b3.size)
   simp(disch:=omega)only[push_cast,aa,↓reduceIte,Nat.reduceEqDiff,Int.reduceEq,fr,JR]
   refine⟨b32,?_⟩
   refine aC (k3.below b2 k3.lt) (cs:=ay ⟨jW t0.s p.S,0,0⟩) bz rfl (JS _) ?_
   intro w4 k4 g4 z4
   simp(disch:=omega)only[push_cast,aa,↓reduceIte,Nat.reduceEqDiff,Int.reduceEq,fr]
   exact hE' _ _ ⟨_,(by simp only[push_cast,↓reduceIte,Nat.reduceEqDiff,true_and,and_true,and_self,eq_self,fr]),Nat.le_refl _,k4,hp,g4.below b32 b32.size (by intro x hx;injection hx with hx;subst hx;exact Nat.le_refl _)⟩
 clear fr
 rintro f w2 ⟨g,fr,hg,k2,MH,b2⟩
 rw[if_neg (by omega)]at hd
 have hl0:=BF MH
 generalize jW t0.s p.S=n0 at*
 have Lw:A.map (·.block)≠some g:=by
  rcases ou1.form with⟨h0,_⟩|⟨q,h0,_,hq⟩
  ·rw[h0];simp
  ·rw[h0];simp only[Option.map_some,ne_eq,Option.some.injEq];omega
 have BC:=Vi.trans (b2.mono Vi.size)
 have kp2:=ku1.below b2 ku1.lt
 have o2:=ou1.below b2 (Nat.le_refl _)
 have hwu:=Vi.size
 have hlw:=ku1.lt
 clear b2 ku1 ou1 Xi sd1 k1 o1 b1
 have Lp:=(Same.refl w2).drew
 have Bx:=vn.up h (BC.trans (Lp.below _))
 have ku2:=kp2.same Lp
 have ou2:=o2.same Lp
 have kg2:=k2.same Lp
 have ZY:=BC.trans (Lp.below w.heap.size)
 generalize agP:w2.drew=u2 at*
 simp(disch:=omega)only[push_cast,aa,↓reduceIte,Nat.reduceEqDiff,Int.reduceEq,fr,agP,sA,ku2.jE,e1,c1,vn.CH Bx QQ]
 refine aT (jR (hE.Vh ZY) a.cE (by omega) t1) ?_ ?_
 ·rintro ch w3 ⟨kH,hp,b3⟩
  rw[if_pos hp]at hd
  exact hP _ _ ⟨4,_,hd,kH,ZY.trans (b3.mono ZY.size)⟩
 rintro v w3 ⟨rfl,Li,b3⟩
 rw[if_neg (by omega)]at hd
 have ZZ:=BF Li
 generalize jW t1.s p.E=n1 at*
 have kg3:=kg2.below b3 kg2.lt
 have kp3:=ku2.below b3 ku2.lt
 have o3:=ou2.below b3 (Nat.le_refl _)
 have ot:=ZY.trans (b3.mono ZY.size)
 simp(disch:=omega)only[push_cast,aa,↓reduceIte,Nat.reduceEqDiff,Int.reduceEq,fr]
 refine ft kg3 oU 1 (by simp[ay]) .i64 n1 ?_
 intro w4 kg4 g4 z4
 replace kg4:aE w4 g 97 (ay ⟨n0,n1,0⟩):=kg4
 have Z0:w.heap.size<g:=by omega
 have kp4:=kp3.grown g4.aJ (by simp;omega)
 have o4:=o3.bQ g4 (.inr (by simpa using Lw))
 have gz:∀x:Addr,(some ⟨g,0,none⟩:Option Addr)=some x→w.heap.size≤x.block:=by intro x hx;injection hx with hx;subst hx;show w.heap.size≤g;omega
 have kh:=g4.below ot ot.size gz
 clear ot o3 kp3 kg3 b3 ZY kg2 ou2 ku2 Bx Lp BC kp2 o2 k2 g4 z4
 have Z1:=(Same.refl w4).drew
 have hu5:=vn.up h (kh.trans (Z1.below _))
 have ku5:=kp4.same Z1
 have ou5:=o4.same Z1
 have kg5:=kg4.same Z1
 have Z2:=kh.trans (Z1.below w.heap.size)
 generalize agR:w4.drew=u5 at*
 simp(disch:=omega)only[push_cast,aa,↓reduceIte,Nat.reduceEqDiff,Int.reduceEq,fr,agR,sA,ku5.jS,e2,c2,vn.CH hu5 Tq]
 refine aT (jR (hS.Vh Z2) a.cS (by omega) t2) ?_ ?_
 ·rintro ch w3 ⟨kH,hp,b3⟩
  rw[if_pos hp]at hd
  exact hP _ _ ⟨4,_,hd,kH,Z2.trans (b3.mono Z2.size)⟩
 rintro v w6 ⟨rfl,QO,b6⟩
 rw[if_neg (by omega)]at hd
 have Tr:=BF QO
 generalize jW t2.s p.S=n2 at*
 have kg6:=kg5.below b6 kg5.lt
 have kp6:=ku5.below b6 ku5.lt
 have o6:=ou5.below b6 (Nat.le_refl _)
 have CO:=Z2.trans (b6.mono Z2.size)
 simp(disch:=omega)only[push_cast,aa,↓reduceIte,Nat.reduceEqDiff,Int.reduceEq,fr]
 refine ft kg6 oU 2 (by simp[ay]) .i64 n2 ?_
 intro w7 kg7 g7 z7
 replace kg7:aE w7 g 97 (ay ⟨n0,n1,n2⟩):=kg7
 have kp7:=kp6.grown g7.aJ (by simp;omega)
 have o7:=o6.bQ g7 (.inr (by simpa using Lw))
 have Cr:=g7.below CO CO.size gz
 clear CO o6 kp6 kg6 b6 Z2 kg5 ou5 ku5 hu5 Z1 kh kp4 o4 kg4 g7 z7
 have Vj:=(Same.refl w7).drew
 have hu8:=vn.up h (Cr.trans (Vj.below _))
 have ku8:=kp7.same Vj
 have ou8:=o7.same Vj
 have kg8:=kg7.same Vj
 have bu8:=Cr.trans (Vj.below w.heap.size)
 generalize agW:w7.drew=u8 at*
 have hA8:=il.JE (bq.lt vl (by decide) (bH.fS ou8 vl (by decide)))
 generalize hy:(⟨n0,n1,n2⟩:cH)=y at*
 have U5:Q5 y:=by subst hy;unfold Q5;simp only;omega
 simp(disch:=omega)only[push_cast,aa,↓reduceIte,Nat.reduceEqDiff,Int.reduceEq,fr,agW,sA,aI,kg8.aA vI bz,vn.ld2 hu8 MG]
 refine ah (Ek hA8 c (by omega) y) ?_
 rintro v w9 ⟨rfl,b9⟩
 simp(disch:=omega)only[push_cast,aa,↓reduceIte,Nat.reduceEqDiff,Int.reduceEq,fr]
 refine⟨b9,?_⟩
 have kg9:=kg8.below b9 kg8.lt
 have kp9:=ku8.below b9 ku8.lt
 have o9:=ou8.below b9 (Nat.le_refl _)
 have bb9:=bu8.trans (b9.mono bu8.size)
 refine aT (eD (!decide (y∈acc)) 5 t0.at_ w9) ?_ ?_
 ·rintro ch w6 ⟨kH,hp,s6⟩
  have fN:y∈acc:=by simpa using hp
  rw[if_pos fN]at hd
  exact hP _ _ ⟨5,_,hd,kH,bb9.trans (s6.below _)⟩
 rintro v wA ⟨rfl,hpA,sA'⟩
 have fN:y∉acc:=by simpa using hpA
 rw[if_neg fN]at hd
 have kgA:=kg9.same sA'
 have kpA:=kp9.same sA'
 have oA:=o9.same sA'
 have bbA:=bb9.trans (sA'.below w.heap.size)
 have hlA:=kpA.lt
 simp(disch:=omega)only[push_cast,aa,↓reduceIte,Nat.reduceEqDiff,Int.reduceEq,fr,kgA.aA vI bz,ea vl N7 y (by decide)]
 refine dA vl N7 oA y (by omega) (by omega) (by omega) ?_
 intro A' c' wB oB gB _ _ zB
 have kpB:=kpA.grown gB.aJ (oA.bG kpA (by decide)).symm
 simp(disch:=omega)only[push_cast,aa,↓reduceIte,Nat.reduceEqDiff,Int.reduceEq,fr]
 exact hJ _ _ ⟨i+3,_,A',c',by omega,by omega,(by simp only[push_cast,↓reduceIte,Nat.reduceEqDiff,true_and,and_true,and_self,eq_self,fr,List.length_append,List.length_singleton,Int.add_assoc,Int.reduceAdd]),hd,by rw[List.length_append,List.length_singleton];omega,(List.nodup_append.2 ⟨Cq,by simp,fun a ha b sH=>by rw[List.mem_singleton.1 sH];exact fun e=>fN (e▸ha)⟩),(fun z hz=>by
  rcases List.mem_append.1 hz with hz|hz
  ·exact Hj z hz
  ·rw[List.mem_singleton.1 hz];exact U5),oB,kpB,gB.below bbA bbA.size (fun x hx=>by have:=oA.uh x hx;omega)⟩ (by rw[gZ];simp only[push_cast,↓reduceIte,Nat.reduceEqDiff,intOf,fr];omega)
open Go.RowKit
end Go.Proofs.YtcefeihlkpmejaaGreatDoor
