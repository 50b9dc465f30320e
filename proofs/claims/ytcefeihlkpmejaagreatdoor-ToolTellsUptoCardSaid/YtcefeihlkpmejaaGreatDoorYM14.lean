/- A part of the proof. -/
import Derived.Test.YtcefeihlkpmejaaGreatDoorYM13
import Derived.Test.YtcefeihlkpmejaaGreatDoorYM10
import Derived.Test.YtcefeihlkpmejaaGreatDoorYM12
namespace Go.Proofs.YtcefeihlkpmejaaGreatDoor
set_option linter.unusedSimpArgs false
set_option linter.unusedVariables false
set_option linter.unusedSectionVars false
open Go.RowKit
theorem Ya{P:Program}{K:Fr→World→Prop}{ty:TypeId}{f:Fr}{d:Option Nat}{w:World}(t:TypeId)(o p q r:Operand):fZ P K (.buildSlice t 4 #[(0,o),(1,p),(2,q),(3,r)]) ty f d w=cG P K (Instr.buildSlice t 4 #[(0,ev f o),(1,ev f p),(2,ev f q),(3,ev f r)]) f d w:=by simp[fZ,valOf]
theorem Yb(x y z u:Value)(a b c d:Int):Instr.fill (fun i=>some (i*1,1)) #[x,y,z,u] [(0,.int .i64 a),(1,.int .i64 b),(2,.int .i64 c),(3,.int .i64 d)]=some #[.int .i64 a,.int .i64 b,.int .i64 c,.int .i64 d]:=by
 simp[Instr.fill,Value.cells]
theorem TU{P:Program}{K:Fr→World→Prop}{f:Fr}{r:Option Nat}{w:World}{t e bytes:Nat}(hT:uJ P t e 1 bytes)(a b c d:Int):
  cG P K (Instr.buildSlice t 4 #[(0,.int .i64 a),(1,.int .i64 b),(2,.int .i64 c),(3,.int .i64 d)]) f r w=K (ai f r (.slice (some ⟨w.heap.size,0,none⟩) 4 4)) (w.alloc (.cells [.int .i64 a,.int .i64 b,.int .i64 c,.int .i64 d].toArray e)):=by
 obtain⟨i,z,hi,hz,hs,hb,hc⟩:=hT.get
 refine fa ?_
 have hz4:(Array.range 4).map (z.cells[·%z.cells.size]!)= #[z.cells[0%z.cells.size]!,z.cells[1%z.cells.size]!,z.cells[2%z.cells.size]!,z.cells[3%z.cells.size]!]:=by
  apply Array.ext';simp[List.range_succ]
 have hf:=Yb (z.cells[0%z.cells.size]!) (z.cells[1%z.cells.size]!) (z.cells[2%z.cells.size]!) (z.cells[3%z.cells.size]!) a b c d
 rw[←hz4]at hf
 simp only[Instr.buildSlice,run_underlying hT.under,sizeOf,typeInfo,Sem.run_bind,Result.andThen_ok]
 simp only[Nat.mul_one]at hf
 simp[hi,hs,zeroValue,typeInfo,hz,newRow,hf]
section
variable {K:Fr→World→Prop} {u:World} {f:Fr} {d:Option Nat} {w:World} {g t ty:Nat} {p:Kn}
theorem aE.kn0(h:aE u g t (Kn.cells p))(ht:aR Tryz.prog ty=some false):aq Tryz.prog K (Instr.loadAt ty (.pointer (some ⟨g,0,none⟩))) u f d w=K (ai f d (.slice p.R p.r.length p.cr)) w:=h.ld ht 0 (by simp[Kn.cells])
theorem aE.kn1(h:aE u g t (Kn.cells p))(ht:aR Tryz.prog ty=some false):aq Tryz.prog K (Instr.loadAt ty (.pointer (some ⟨g,1,none⟩))) u f d w=K (ai f d (.slice p.W p.w.length p.cw)) w:=h.ld ht 1 (by simp[Kn.cells])
end
theorem Kb{a b:Int}(h:a<b):fT a b= -1:=if_pos h
theorem Kc{a b:Int}(h:a=b):fT a b=0:=by unfold fT;rw[if_neg (by omega),if_neg (by omega)]
theorem Kd{a b:Int}(h:b<a):fT a b=1:=by unfold fT;rw[if_neg (by omega),if_pos h]
theorem Yc{u v u' v':List Int}{x3 x4:Int}(hx3:u.length=u'.length→(x3<0↔hZ u u')∧(x3=0↔u=u'))(Yd:v.length=v'.length→(x4<0↔hZ v v')∧(x4=0↔v=v')):
  yT [fT ((u.length:Int)+v.length) ((u'.length:Int)+v'.length),fT v.length v'.length,x3,x4]<0↔DB (u,v) (u',v'):=by
 unfold DB
 simp only
 rcases Nat.lt_trichotomy (u.length+v.length) (u'.length+v'.length)with h|h|h
 ·rw[Kb (show(u.length:Int)+v.length<(u'.length:Int)+v'.length by omega),yT,if_neg (by decide)]
  exact⟨fun _=>.inl h,fun _=>by decide⟩
 ·rw[Kc (show(u.length:Int)+v.length=(u'.length:Int)+v'.length by omega),yT,if_pos rfl]
  rcases Nat.lt_trichotomy v.length v'.length with k|k|k
  ·rw[Kb (show(v.length:Int)<v'.length by omega),yT,if_neg (by decide)]
   exact⟨fun _=>.inr ⟨h,.inl k⟩,fun _=>by decide⟩
  ·rw[Kc (show(v.length:Int)=v'.length by omega),yT,if_pos rfl]
   have hr:=hx3 (by omega)
   have hw:=Yd k
   by_cases c3:u=u'
   ·have mL:¬hZ u u':=by rw[c3];exact hZ.irrefl _
    rw[yT,if_pos (hr.2.2 c3),yT]
    by_cases c4:x4=0
    ·rw[if_pos c4]
     have hv:=hw.2.1 c4
     refine⟨fun hh=>absurd hh (by simp[yT]),?_⟩
     rintro(hh|⟨_,hh|⟨_,hh|⟨_,hh⟩⟩⟩)
     ·omega
     ·omega
     ·exact absurd hh mL
     ·rw[hv]at hh;exact absurd hh (hZ.irrefl _)
    ·rw[if_neg c4,hw.1]
     refine⟨fun hh=>.inr ⟨h,.inr ⟨k,.inr ⟨c3,hh⟩⟩⟩,?_⟩
     rintro(hh|⟨_,hh|⟨_,hh|⟨_,hh⟩⟩⟩)
     ·omega
     ·omega
     ·exact absurd hh mL
     ·exact hh
   ·rw[yT,if_neg (fun hh=>c3 (hr.2.1 hh)),hr.1]
    refine⟨fun hh=>.inr ⟨h,.inr ⟨k,.inl hh⟩⟩,?_⟩
    rintro(hh|⟨_,hh|⟨_,hh|⟨hh,_⟩⟩⟩)
    ·omega
    ·omega
    ·exact hh
    ·exact absurd hh c3
  ·rw[Kd (show(v'.length:Int)<v.length by omega),yT,if_neg (by decide)]
   refine⟨fun hh=>absurd hh (by decide),?_⟩
   rintro(hh|⟨_,hh|⟨hh,_⟩⟩)<;>omega
 ·rw[Kd (show(u'.length:Int)+v'.length<(u.length:Int)+v.length by omega),yT,if_neg (by decide)]
  refine⟨fun hh=>absurd hh (by decide),?_⟩
  rintro(hh|⟨hh,_⟩)<;>omega
structure ED(w:World)(p:Kn):Prop where
 r:Ints (·<w.heap.size) w p.R p.r
 w:Ints (·<w.heap.size) w p.W p.w
 nr:p.r.length≤100000
 nw:p.w.length≤100000
theorem ED.up{w w':World}{p:Kn}(h:ED w p)(b:Below w.heap.size w w'):ED w' p:=⟨h.r.up b,h.w.up b,h.nr,h.nw⟩
set_option maxHeartbeats 2000000 in
theorem Gx{w:World}{a b:Kn}(ha:ED w a)(hb:ED w b):
  dw Tryz.prog 63 [.agg a.cells.toArray,.agg b.cells.toArray] w fun v w'=>∃z:Int,v= .int .i64 z∧(z<0↔DB a.abs b.abs)∧Below w.heap.size w w':=by
 have n1:=ha.nr
 have n2:=ha.nw
 have n3:=hb.nr
 have n4:=hb.nw
 refine zt (by simp) 100000 fun Q hQ=>?_
 simp(disch:=omega)only[push_cast,aa,↓reduceIte,Nat.reduceEqDiff,Int.reduceEq,um]
 refine au (aO _ (Kn.cells a)) ?_
 intro w1 k1 b1 z1
 simp(disch:=omega)only[push_cast,aa,↓reduceIte,Nat.reduceEqDiff,Int.reduceEq]
 refine au (aO _ (Kn.cells b)) ?_
 intro w2 k2 b2 z2
 have bb:Below w.heap.size w w2:=b1.trans (b2.mono b1.size)
 have k3:=(k1.below b2 (by omega)).drew
 have k4:=k2.drew
 simp(disch:=omega)only[push_cast,aa,↓reduceIte,Nat.reduceEqDiff,Int.reduceEq,k4.kn0 aS,k4.kn1 aS,k3.kn0 aS,k3.kn1 aS]
 refine ah (gL _ _ _) ?_
 rintro v w3 ⟨rfl,s3⟩
 have q3:=s3.below w2.drew.heap.size
 simp(disch:=omega)only[push_cast,aa,↓reduceIte,Nat.reduceEqDiff,Int.reduceEq]
 refine⟨q3,?_⟩
 refine ah (gL _ _ _) ?_
 rintro v w4 ⟨rfl,s4⟩
 have q4:=(s3.trans s4).below w2.drew.heap.size
 simp(disch:=omega)only[push_cast,aa,↓reduceIte,Nat.reduceEqDiff,Int.reduceEq]
 refine⟨q4,?_⟩
 have bA:Below w.heap.size w w4:=(drawn bb).trans (q4.mono bb.size)
 refine ah (mH (ha.up bA).r (hb.up bA).r a.cr b.cr (by omega)) ?_
 rintro v w5 ⟨x3,rfl,_,hx3,s5⟩
 have q5:=q4.trans (s5.below _)
 have bB:Below w.heap.size w w5:=(drawn bb).trans (q5.mono bb.size)
 simp(disch:=omega)only[push_cast,aa,↓reduceIte,Nat.reduceEqDiff,Int.reduceEq]
 refine⟨q5,?_⟩
 refine ah (mH (ha.up bB).w (hb.up bB).w a.cw b.cw (by omega)) ?_
 rintro v w6 ⟨x4,rfl,_,Yd,s6⟩
 have q6:=q5.trans (s6.below _)
 simp(disch:=omega)only[push_cast,aa,↓reduceIte,Nat.reduceEqDiff,Int.reduceEq,Ya]
 refine⟨q6,?_⟩
 refine au (TU fq _ _ _ _) ?_
 intro w7 k7 b7 z7
 have q7:=q6.trans (b7.mono q6.size)
 simp(disch:=omega)only[push_cast,aa,↓reduceIte,Nat.reduceEqDiff,Int.reduceEq]
 refine⟨q7,?_⟩
 refine ah (Of (l:=[fT ((a.r.length:Int)+a.w.length) ((b.r.length:Int)+b.w.length),fT a.w.length b.w.length,x3,x4]) (Bi k7) 4 (by simp)) ?_
 rintro v w8 ⟨rfl,s8⟩
 have q8:=q7.trans (s8.below w2.drew.heap.size)
 simp(disch:=omega)only[push_cast,aa,↓reduceIte,Nat.reduceEqDiff,Int.reduceEq]
 refine⟨q8,?_⟩
 exact aF (hQ _ _ ⟨yT [fT ((a.r.length:Int)+a.w.length) ((b.r.length:Int)+b.w.length),fT a.w.length b.w.length,x3,x4],(by simp only[push_cast,↓reduceIte,Nat.reduceEqDiff,Int.reduceEq]),Yc hx3 Yd,(drawn bb).trans (q8.mono bb.size)⟩)
theorem BU(x:Kn):aL Tryz.prog 120=some (Kn.cells x).length:=tq
theorem EE(x:Kn):(Kn.cells x).all (·.oneCell')=true:=List.all_eq_true.2 (uC.one x)
theorem BV{w:World}{A:Option Addr}{c:Nat}{l:List Kn}(hR:bq Kn.cells 2 (·<w.heap.size) w A l)(hg:∀x∈l,ED w x)(h0:0<l.length)(hl:l.length≤100000):
  dw Tryz.prog 62 [.slice A l.length c,.func (.func 63) #[] #[]] w fun v w'=>∃m∈l,v= .agg (Kn.cells m).toArray∧(∀y∈l,¬DB y.abs m.abs)∧Below w.heap.size w w':=by
 have MG:l[0]? =some (l[0]'h0):=List.getElem?_eq_getElem h0
 have hm0:l[0]'h0∈l:=List.getElem_mem h0
 generalize l[0]'h0=x0 at MG hm0
 have hA:=hR.isSome h0
 have Tg:¬(l.length:Int)<1:=by omega
 have MH:(0:Int)<(l.length:Int):=by omega
 refine u0 (by simp) 100000 fun Q hQ=>?_
 simp(disch:=omega)only[push_cast,aa,↓reduceIte,Nat.reduceEqDiff,Int.reduceEq,oP]
 refine au (cs:=Kn.cells ⟨none,0,[],none,0,[]⟩) HC ?_
 intro w1 k1 b1 z1
 have hR1:=hR.below b1
 have Ye:=fun{K:Fr→World→Prop} {f:Fr} {d:Option Nat} {w':World}=>hR1.dC (P:=Tryz.prog) (K:=K) (f:=f) (d:=d) (w:=w') uC kW MG tq
 rw[Nat.zero_mul]at Ye
 simp(disch:=omega)only[push_cast,aa,↓reduceIte,Nat.reduceEqDiff,Int.reduceEq,Tg,MH,Int.toNat_zero,Nat.zero_mul,Ye]
 refine au (cs:=Kn.cells ⟨none,0,[],none,0,[]⟩) HC ?_
 intro w2 k2 b2 z2
 have y6:=k1.below b2 k1.lt
 have bb:=b1.trans (b2.mono b1.size)
 simp(disch:=omega)only[push_cast,aa,↓reduceIte,Nat.reduceEqDiff,Int.reduceEq]
 refine aC k2 (cs:=Kn.cells x0) (BU _) rfl (EE _) ?_
 intro w3 k3 g3 z3
 have Ct:=y6.grown g3.aJ (by simp;omega)
 have ot:=g3.below bb bb.size (by intro a ha;injection ha with ha;subst ha;show w.heap.size≤w1.heap.size;omega)
 simp(disch:=omega)only[push_cast,aa,↓reduceIte,Nat.reduceEqDiff,Int.reduceEq]
 refine ax (fun f w'=>∃(i:Nat) (m:Kn),1≤i∧i≤l.length∧m∈l∧(f 0= .slice A l.length c∧f 1= .func (.func 63) #[] #[]∧f 4= .pointer (some ⟨w.heap.size,0,none⟩)∧f 5= .pointer (some ⟨w1.heap.size,0,none⟩)∧f 6= .int .i64 i)∧
   (∀(j:Nat) (y:Kn),j<i→l[j]? =some y→¬DB y.abs m.abs)∧aE w' w.heap.size 120 (Kn.cells ⟨none,0,[],none,0,[]⟩)∧aE w' w1.heap.size 120 (Kn.cells m)∧Below w.heap.size w w')
  (fun f _=>l.length-(intOf (f 6)).toNat) ⟨1,x0,Nat.le_refl _,h0,hm0,⟨rfl,rfl,rfl,rfl,rfl⟩,fun j y hj hy=>by
   obtain rfl:j=0:=by omega
   rw[MG]at hy
   rw[←Option.some.inj hy]
   exact DB.irrefl _,Ct,k3,ot⟩ ?_
 clear k1 k2 k3 y6 Ct bb ot g3 b2 z2 hR1 Ye
 rintro f w4 ⟨i,m,hi1,hi,ZI,fr,gY,kR,kM,b4⟩ J hJ
 by_cases aI:i<l.length
 case neg=>
  obtain rfl:i=l.length:=by omega
  have Pl:=fun{K:Fr→World→Prop} {f:Fr} {d:Option Nat} {w':World}=>kM.dC (P:=Tryz.prog) (K:=K) (f:=f) (d:=d) (w:=w') kW (BU m)
  simp(disch:=omega)only[push_cast,aa,↓reduceIte,Nat.reduceEqDiff,Int.reduceEq,gE,fr,Nat.lt_irrefl,Pl]
  refine aC kR (cs:=Kn.cells m) (BU _) rfl (EE _) ?_
  intro w5 k5 g5 z5
  simp(disch:=omega)only[push_cast,aa,↓reduceIte,Nat.reduceEqDiff,Int.reduceEq]
  refine zk k5 kW (BU _) (by simp only[push_cast,↓reduceIte,Nat.reduceEqDiff,Int.reduceEq,fr]) (hQ _ _ ⟨m,ZI,rfl,fun y hy=>?_,g5.below b4 b4.size (by intro a ha;injection ha with ha;subst ha;exact Nat.le_refl _)⟩)
  obtain⟨j,hj,rfl⟩:=List.getElem_of_mem hy
  exact gY j _ hj (List.getElem?_eq_getElem hj)
 have Pz:l[i]? =some (l[i]'aI):=List.getElem?_eq_getElem aI
 have hmi:l[i]'aI∈l:=List.getElem_mem aI
 generalize l[i]'aI=x at Pz hmi
 have sd:Same w4 w4.drew:=(Same.refl w4).drew
 have b4d:=b4.trans (sd.below _)
 have kRd:=kR.same sd
 have kMd:=kM.same sd
 have hR4:=hR.below b4d
 have ahH:=fun{K:Fr→World→Prop} {f:Fr} {d:Option Nat} {w':World}=>hR4.dC (P:=Tryz.prog) (K:=K) (f:=f) (d:=d) (w:=w') uC kW Pz tq
 have ahI:=fun{K:Fr→World→Prop} {f:Fr} {d:Option Nat} {w':World}=>kMd.dC (P:=Tryz.prog) (K:=K) (f:=f) (d:=d) (w:=w') kW (BU m)
 simp(disch:=omega)only[push_cast,aa,↓reduceIte,Nat.reduceEqDiff,Int.reduceEq,gE,fr,aI,ahH,ahI]
 refine ah (Gx ((hg x hmi).up b4d) ((hg m ZI).up b4d)) ?_
 rintro v w5 ⟨z,rfl,hz,b5⟩
 have re:=b4d.trans (b5.mono b4d.size)
 have kR5:=kRd.below b5 kRd.lt
 have kM5:=kMd.below b5 kMd.lt
 have X2:=hR.below re
 have ahJ:=fun{K:Fr→World→Prop} {f:Fr} {d:Option Nat} {w':World}=>X2.dC (P:=Tryz.prog) (K:=K) (f:=f) (d:=d) (w:=w') uC kW Pz tq
 by_cases hzz:z<0
 ·simp(disch:=omega)only[push_cast,aa,↓reduceIte,Nat.reduceEqDiff,Int.reduceEq,hzz,fr,aI,ahJ]
  refine aC kM5 (cs:=Kn.cells x) (BU _) rfl (EE _) ?_
  intro w6 k6 g6 z6
  have kR6:=kR5.grown g6.aJ (by simp;omega)
  simp(disch:=omega)only[push_cast,aa,↓reduceIte,Nat.reduceEqDiff,Int.reduceEq,fr]
  exact hJ _ _ ⟨i+1,x,by omega,aI,hmi,(by simp only[push_cast,↓reduceIte,Nat.reduceEqDiff,true_and,and_true,and_self,eq_self,fr]),fun j y hj hy=>by
   by_cases e:j=i
   ·subst e;rw[Pz]at hy;rw[←Option.some.inj hy];exact DB.irrefl _
   ·exact fun hh=>gY j y (by omega) hy (hh.trans (hz.1 hzz)),kR6,k6,g6.below re re.size (by intro a ha;injection ha with ha;subst ha;show w.heap.size≤w1.heap.size;omega)⟩ (by simp only[push_cast,↓reduceIte,Nat.reduceEqDiff,intOf,fr];omega)
 ·simp(disch:=omega)only[push_cast,aa,↓reduceIte,Nat.reduceEqDiff,Int.reduceEq,hzz,fr]
  exact hJ _ _ ⟨i+1,m,by omega,aI,ZI,(by simp only[push_cast,↓reduceIte,Nat.reduceEqDiff,true_and,and_true,and_self,eq_self,fr]),fun j y hj hy=>by
   by_cases e:j=i
   ·subst e;rw[Pz]at hy;rw[←Option.some.inj hy];exact fun hh=>hzz (hz.2 hh)
   ·exact gY j y (by omega) hy,kR5,kM5,re⟩ (by simp only[push_cast,↓reduceIte,Nat.reduceEqDiff,intOf,fr];omega)
def TV(p:cO)(aU:Int)(x:List Int×List Int):Prop:=km x.1 p.seen∧km x.2 p.seen∧(aU<0∨(x.2.length:Int)≤aU)∧dx (fc (XS p x.1) (IA p x.2) true) p.aK
def BW(p:cO)(aU:Int)(ahead back:List (List Int×List Int))(z:List Int×List Int):Prop:=
 ∃y∈back,(aU<0∨(y.2.length:Int)≤aU)∧∃x∈ahead,dx (fc x.1 y.1 true) p.aK∧z=(x.2,y.2)
theorem LZ{p:cO}(p1:p.bZ){k:Nat}(hk:(a8 (bo p) p.seen (bg p) k).length=k){u:List Int}(hu:km u p.seen):∃q∈a8 (bo p) p.seen (bg p) k,q.1=XS p u∧gW q.2 u:=by
 obtain⟨n,i',q,hq,hqs,hle⟩:=Lh (step:=bo p) p1.2.2.1.strict (bg p) u hu
 refine⟨q,?_,hqs,hle⟩
 rcases Nat.le_total k n with c|c
 ·rw[my (Nat.le_of_eq hk) n c]at hq;exact List.mem_of_getElem? hq
 ·exact(iG (step:=bo p) (es:=p.seen) (bg p) c).subset (List.mem_of_getElem? hq)
theorem ack{p:cO}(p1:p.bZ){k:Nat}{q:List Int×List Int}(hq:q∈a8 (bo p) p.seen (bg p) k):q.1=XS p q.2∧km q.2 p.seen:=by
 obtain⟨i,hi⟩:=List.mem_iff_getElem?.1 hq
 exact Dl (step:=bo p) p1.2.2.1.strict hi
theorem Yf{a a' b b':List Int}(h:gW a' a)(k:gW b' b):(a',b')=(a,b)∨DB (a',b') (a,b):=by
 have h1:=h.len
 have h2:=k.len
 rcases Nat.lt_or_ge (a'.length+b'.length) (a.length+b.length)with c|c
 ·exact .inr (.inl c)
 have e1:a'.length=a.length:=by omega
 have e2:b'.length=b.length:=by omega
 rcases h with rfl|h
 ·rcases k with rfl|k
  ·exact .inl rfl
  ·exact .inr (.inr ⟨by simp only;omega,.inr ⟨e2,.inr ⟨rfl,k⟩⟩⟩)
 ·exact .inr (.inr ⟨by simp only;omega,.inr ⟨e2,.inl h⟩⟩)
theorem Gy{p:cO}(p1:p.bZ){aU:Int}{k n:Nat}(hk:(a8 (bo p) p.seen (bg p) k).length=k)(hn:(dQ p n).2=[]){o:Option (List Int×List Int)}
  (h:yj (BW p aU (a8 (bo p) p.seen (bg p) k) (dQ p n).1) o):yj (TV p aU) o:=by
 have up:∀z,BW p aU (a8 (bo p) p.seen (bg p) k) (dQ p n).1 z→TV p aU z:=by
  rintro z ⟨y,hy,hs,x,hx,ht,rfl⟩
  obtain⟨r1,r2⟩:=ack p1 hx
  obtain⟨r3,r4⟩:=Ka p1 hy
  exact⟨r2,r4,hs,by rw[←r1,←r3];exact ht⟩
 have down:∀z,TV p aU z→∃z',BW p aU (a8 (bo p) p.seen (bg p) k) (dQ p n).1 z'∧(z'=z∨DB z' z):=by
  rintro⟨u,v⟩ ⟨h1,h2,h3,h4⟩
  obtain⟨x,hx,QQ,Tq⟩:=LZ p1 hk h1
  obtain⟨y,hy,hy1,hy2⟩:=lay_all p1 hn h2
  have:=hy2.len
  exact⟨(x.2,y.2),⟨y,hy,by rcases h3 with h3|h3;exact .inl h3;exact .inr (by simp only at h3 this;omega),x,hx,by rw[QQ,hy1];exact h4,rfl⟩,Yf Tq hy2⟩
 cases o with
 |none=>
  intro z hz
  obtain⟨z',Cw,_⟩:=down z hz
  exact h z' Cw
 |some m=>
  refine⟨up m h.1,fun z hz aI=>?_⟩
  obtain⟨z',Cw,rfl|hh⟩:=down z hz
  ·exact h.2 _ Cw aI
  ·exact h.2 _ Cw (hh.trans aI)
def ahL(o:Option (List Int×List Int))(b:Bool)(u v:List Int):Prop:=match o with
 |none=>b=false∧u=[]∧v=[]
 |some x=>b=true∧u=x.1∧v=x.2
def y9(p:cO)(aU:Int)(b:Bool)(u v:List Int)(e:Int):Prop:=
 (¬p.bZ∧b=false∧u=[]∧v=[]∧e=2)∨(p.bZ∧¬(-1≤aU∧aU≤1000)∧b=false∧u=[]∧v=[]∧e=6)∨(p.bZ∧(-1≤aU∧aU≤1000)∧e=0∧∃o,yj (TV p aU) o∧ahL o b u v)
def Yg(p:cO)(aU:Int)(w:World)(v:Value)(w':World):Prop:=
 ∃(b:Bool) (U:Option Addr) (cu:Nat) (u:List Int) (V:Option Addr) (cv:Nat) (x:List Int) (e:Int),v= .tuple #[.bool b,.slice U u.length cu,.slice V x.length cv,.int .i64 e]∧Ints (·<w'.heap.size) w' U u∧Ints (·<w'.heap.size) w' V x∧u.length≤100000∧x.length≤100000∧Below w.heap.size w w'∧y9 p aU b u x e
open Go.RowKit
theorem EF{w:World}{a:PV}{p:cO}{g:Nat}(hg:aE w g 67 (a.cells p))(ha:tv (·<w.heap.size) w a p)(hf:p.Fits)(hm:p.m.bZ)(s:List Int)(e:Int):
  dw Tryz.prog 60 [bC s,.int .i64 e,.pointer (some ⟨g,0,none⟩)] w fun v w'=>v=bC (bo p s e)∧Below w.heap.size w w':=by
 refine xG (by simp) 100000 fun Q hQ=>?_
 simp(disch:=omega)only[push_cast,aa,↓reduceIte,Nat.reduceEqDiff,Int.reduceEq,rP]
 refine au (aO _ (setCells (ae s))) ?_
 intro w1 ks b1 z1
 simp(disch:=omega)only[push_cast,aa,↓reduceIte,Nat.reduceEqDiff,Int.reduceEq]
 refine au (cs:=setCells (ae [])) cB ?_
 intro w2 k2 b2 z2
 replace ks:=ks.below b2 ks.lt
 have bb:=b1.trans (b2.mono b1.size)
 have k1:=hg.below bb hg.lt
 simp(disch:=omega)only[push_cast,aa,↓reduceIte,Nat.reduceEqDiff,Int.reduceEq,k1.J4,ks.cM (af _) al aw]
 refine ah (kL (ha.up bb) hf hm s e) ?_
 rintro v w3 ⟨rfl,b3⟩
 replace bb:=bb.trans (b3.mono bb.size)
 simp(disch:=omega)only[push_cast,aa,↓reduceIte,Nat.reduceEqDiff,Int.reduceEq]
 refine aC (k2.below b3 k2.lt) (cs:=setCells (ae (bo p s e))) (bn _) (by rw[ao,ao]) (aH _) ?_
 intro w6 k6 g6 z6
 simp(disch:=omega)only[push_cast,aa,↓reduceIte,Nat.reduceEqDiff,Int.reduceEq]
 exact zk k6 al (bn _) (by simp only[push_cast,↓reduceIte,Nat.reduceEqDiff,Int.reduceEq]) (hQ _ _ ⟨rfl,g6.below bb bb.size (by intro a ha;injection ha with ha;subst ha;show w.heap.size≤w1.heap.size;omega)⟩)
theorem Yh:iE Tryz.prog 120=some ([(0,1),(1,1)],[.slice none 0 0,.slice none 0 0]):=by kernel_rfl
theorem Vt{K:Fr→World→Prop}{u:World}{f:Fr}{d:Option Nat}{w:World}(p:Kn):
  aq Tryz.prog K (Instr.build 120 #[(0,.slice p.R p.r.length p.cr),(1,.slice p.W p.w.length p.cw)]) u f d w=K (ai f d (.agg p.cells.toArray)) w:=by
 have:=UZ (P:=Tryz.prog) (K:=K) (u:=u) (f:=f) (d:=d) (w:=w) Yh rfl rfl rfl (v0:= .slice p.R p.r.length p.cr) (v1:= .slice p.W p.w.length p.cw) rfl rfl
 rw[this];rfl
def vB(p:cO)(aU:Int)(ps qs:List Pc)(i:Nat)(z:List Int×List Int):Prop:=
 ∃(i':Nat) (y:Pc),i'<i∧qs[i']? =some y∧(aU<0∨(y.w.length:Int)≤aU)∧∃x∈ps,dx (fc x.s y.s true) p.aK∧z=(x.w,y.w)
def yk(p:cO)(ps:List Pc)(y:Pc)(j:Nat)(z:List Int×List Int):Prop:=∃(j':Nat) (x:Pc),j'<j∧ps[j']? =some x∧dx (fc x.s y.s true) p.aK∧z=(x.w,y.w)
theorem vB.zZ{p:cO}{aU:Int}{ps qs:List Pc}{i:Nat}{y:Pc}(hy:qs[i]? =some y)(h:¬(aU<0∨(y.w.length:Int)≤aU))(z:List Int×List Int):vB p aU ps qs (i+1) z↔vB p aU ps qs i z:=by
 constructor
 ·rintro⟨i',y',hi,pC,hs,hx⟩
  by_cases e:i'=i
  ·subst e;rw[hy]at pC;obtain rfl:=Option.some.inj pC;exact absurd hs h
  ·exact⟨i',y',by omega,pC,hs,hx⟩
 ·rintro⟨i',y',hi,hr⟩
  exact⟨i',y',by omega,hr⟩
theorem vB.aas{p:cO}{aU:Int}{ps qs:List Pc}{i:Nat}{y:Pc}(hy:qs[i]? =some y)(h:aU<0∨(y.w.length:Int)≤aU)(z:List Int×List Int):vB p aU ps qs (i+1) z↔(vB p aU ps qs i z∨yk p ps y ps.length z):=by
 constructor
 ·rintro⟨i',y',hi,pC,hs,x,hx,ht,hz⟩
  by_cases e:i'=i
  ·subst e;rw[hy]at pC;obtain rfl:=Option.some.inj pC
   obtain⟨j,hj⟩:=List.mem_iff_getElem?.1 hx
   exact .inr ⟨j,x,fx hj,hj,ht,hz⟩
  ·exact .inl ⟨i',y',by omega,pC,hs,x,hx,ht,hz⟩
 ·rintro(⟨i',y',hi,hr⟩|⟨j,x,_,hj,ht,hz⟩)
  ·exact⟨i',y',by omega,hr⟩
  ·exact⟨i,y,by omega,hy,h,x,List.mem_of_getElem? hj,ht,hz⟩
theorem yk.zZ{p:cO}{ps:List Pc}{y:Pc}{j:Nat}{x:Pc}(hx:ps[j]? =some x)(h:¬dx (fc x.s y.s true) p.aK)(z:List Int×List Int):yk p ps y (j+1) z↔yk p ps y j z:=by
 constructor
 ·rintro⟨j',x',hj,zh,ht,hz⟩
  by_cases e:j'=j
  ·subst e;rw[hx]at zh;obtain rfl:=Option.some.inj zh;exact absurd ht h
  ·exact⟨j',x',by omega,zh,ht,hz⟩
 ·rintro⟨j',x',hj,hr⟩
  exact⟨j',x',by omega,hr⟩
theorem yk.aas{p:cO}{ps:List Pc}{y:Pc}{j:Nat}{x:Pc}(hx:ps[j]? =some x)(h:dx (fc x.s y.s true) p.aK)(z:List Int×List Int):yk p ps y (j+1) z↔(yk p ps y j z∨z=(x.w,y.w)):=by
 constructor
 ·rintro⟨j',x',hj,zh,ht,hz⟩
  by_cases e:j'=j
  ·subst e;rw[hx]at zh;obtain rfl:=Option.some.inj zh;exact .inr hz
  ·exact .inl ⟨j',x',by omega,zh,ht,hz⟩
 ·rintro(⟨j',x',hj,hr⟩|hz)
  ·exact⟨j',x',by omega,hr⟩
  ·exact⟨j,x,by omega,hx,h,hz⟩
theorem vB.all{p:cO}{aU:Int}{ps qs:List Pc}(z:List Int×List Int):vB p aU ps qs qs.length z↔BW p aU (ps.map Pc.abs) (qs.map Pc.abs) z:=by
 constructor
 ·rintro⟨i',y,hi,hy,hs,x,hx,ht,rfl⟩
  exact⟨y.abs,List.mem_map.2 ⟨y,List.mem_of_getElem? hy,rfl⟩,hs,x.abs,List.mem_map.2 ⟨x,hx,rfl⟩,ht,rfl⟩
 ·rintro⟨y,hy,hs,x,hx,ht,rfl⟩
  obtain⟨y',pC,rfl⟩:=List.mem_map.1 hy
  obtain⟨x',zh,rfl⟩:=List.mem_map.1 hx
  obtain⟨i,hi⟩:=List.mem_iff_getElem?.1 pC
  exact⟨i,y',fx hi,hi,hs,x',zh,ht,rfl⟩
theorem IE{w:World}{a:PV}{p:cO}(ha:tv (·<w.heap.size) w a p)(hf:p.Fits)(aU:Int):dw Tryz.prog 25 [a.val p,.int .i64 aU] w (Yg p aU w):=by
 refine Az (by simp) 100000 fun Q hQ=>?_
 simp(disch:=omega)only[push_cast,aa,↓reduceIte,Nat.reduceEqDiff,Int.reduceEq,vQ]
 refine au (aO _ (a.cells p)) ?_
 intro w1 k1 b1 z1
 simp(disch:=omega)only[push_cast,aa,↓reduceIte,Nat.reduceEqDiff,Int.reduceEq,k1.J4]
 refine ah (nC (ha.up b1) hf) ?_
 rintro v w2 ⟨rfl,b2⟩
 replace k1:=k1.below b2 k1.lt
 have bb:=b1.trans (b2.mono b1.size)
 by_cases p1:p.bZ
 case neg=>
  simp(disch:=omega)only[push_cast,aa,↓reduceIte,Nat.reduceEqDiff,Int.reduceEq,decide_eq_false p1]
  exact Fa (hQ _ _ ⟨false,none,0,[],none,0,[],2,(by simp only[push_cast,↓reduceIte,Nat.reduceEqDiff,Int.reduceEq,List.length_nil]),Ints.nil _ _ _,Ints.nil _ _ _,by simp,by simp,bb,.inl ⟨p1,rfl,rfl,rfl,rfl⟩⟩)
 by_cases p2:aU< -1
 case pos=>
  simp(disch:=omega)only[push_cast,aa,↓reduceIte,Nat.reduceEqDiff,Int.reduceEq,decide_eq_true p1,p2]
  exact Fa (hQ _ _ ⟨false,none,0,[],none,0,[],6,(by simp only[push_cast,↓reduceIte,Nat.reduceEqDiff,Int.reduceEq,List.length_nil]),Ints.nil _ _ _,Ints.nil _ _ _,by simp,by simp,bb,.inr (.inl ⟨p1,by omega,rfl,rfl,rfl,rfl⟩)⟩)
 by_cases p3:1000<aU
 case pos=>
  simp(disch:=omega)only[push_cast,aa,↓reduceIte,Nat.reduceEqDiff,Int.reduceEq,decide_eq_true p1,p2,p3]
  exact Fa (hQ _ _ ⟨false,none,0,[],none,0,[],6,(by simp only[push_cast,↓reduceIte,Nat.reduceEqDiff,Int.reduceEq,List.length_nil]),Ints.nil _ _ _,Ints.nil _ _ _,by simp,by simp,bb,.inr (.inl ⟨p1,by omega,rfl,rfl,rfl,rfl⟩)⟩)
 have Gz: -1≤aU∧aU≤1000:=by omega
 have hm:=p1.1
 have eU:p.m.aj≤256:=hm.2.1
 have nP:=p1.Gr
 have nQ:=hf.Oh
 have sd:Same w2 w2.drew:=(Same.refl w2).drew
 replace k1:=k1.same sd
 replace bb:=bb.trans (sd.below _)
 generalize hu:w2.drew=u at*
 simp(disch:=omega)only[push_cast,aa,↓reduceIte,Nat.reduceEqDiff,Int.reduceEq,decide_eq_true p1,p2,p3,hu,k1.J4,k1.p5]
 refine ah (aao (ha.up bb) hf hm) ?_
 rintro v w3 ⟨rfl,b3⟩
 have ot:=bb.trans (b3.mono bb.size)
 have k3:=k1.below b3 k1.lt
 simp(disch:=omega)only[push_cast,aa,↓reduceIte,Nat.reduceEqDiff,Int.reduceEq]
 refine⟨b3,?_⟩
 refine ah (sT (step:=bo p) (U:=fun s=>az s 6) (fun s hs=>⟨hs.strict,hs.small (by decide)⟩) (gT p1) (ha.up ot).seen nP (fun s _ e _=>jx p1 s e)
  (fun w' hw s hs e he=>EF (k3.below hw k3.lt) (ha.up (ot.trans (hw.mono ot.size))) hf hm s e)) ?_
 rintro v w4 ⟨A,c,ps,k,rfl,hR,qY,b4,xd,Pk,ahh,TK⟩
 have kh:=ot.trans (b4.mono ot.size)
 have Hh:=b3.trans (b4.mono b3.size)
 have k4:=k3.below b4 k3.lt
 have TH:=Gq (step:=bo p) (es:=p.seen) (gT p1) (fun s _ e _=>jx p1 s e) k 0
 rw[Bu]at TH
 have TF:ps.length=(a8 (bo p) p.seen (bg p) k).length:=by rw[←xd,List.length_map]
 have hke:ps.length=k:=by omega
 have MI:(a8 (bo p) p.seen (bg p) k).length=k:=by omega
 have zE:∀x∈ps,az x.s 6:=fun x hx=>by
  have kG:(x.s,x.w)∈a8 (bo p) p.seen (bg p) k:=by rw[←xd];exact List.mem_map.2 ⟨x,hx,rfl⟩
  exact(mu (step:=bo p) (es:=p.seen) (U:=fun s=>az s 6) (fun s _ e _=>jx p1 s e) (gT p1) k).univ _ kG
 have J7:∀x∈ps,x.w.length≤264:=fun x hx=>by
  obtain⟨i,hi⟩:=List.mem_iff_getElem?.1 hx
  have:(a8 (bo p) p.seen (bg p) k)[i]? =some x.abs:=by rw[←xd,List.getElem?_map,hi];rfl
  have h1:x.w.length≤i:=qp _ _ _ _ this
  have:=fx hi
  omega
 simp(disch:=omega)only[push_cast,aa,↓reduceIte,Nat.reduceEqDiff,Int.reduceEq]
 refine⟨Hh,?_⟩
 simp(disch:=omega)only[push_cast,aa,↓reduceIte,Nat.reduceEqDiff,Int.reduceEq,k4.J4]
 refine ah (sV (ha.up kh) hf p1) ?_
 rintro v w5 ⟨A2,c2,qs,n,rfl,hR2,acU,b5,Vu,LU,QU,LX⟩
 have re:=kh.trans (b5.mono kh.size)
 have k5:=k4.below b5 k4.lt
 have eP:=ll (step:=dv p) (es:=p.seen) (first:=oe p) (U:=UB p) (fun s _ e _=>UB.back hm s e) (UB.all hm) n
 have hqs:∀y∈qs,UB p y.s∧y.w.length≤64:=fun y hy=>by
  have kG:y.abs∈(dQ p n).1:=by rw[←Vu];exact List.mem_map.2 ⟨y,hy,rfl⟩
  exact⟨eP.univ _ kG,by have:=(eP.run _ kG).2.2;exact Nat.le_trans this LX⟩
 have X2:bq Pc.cells 5 (·<w5.heap.size) w5 A ps:=(hR.keep fun b hb=>b5.block b hb.2).mono fun b hb=>by have:=hb.2;have:=b5.size;omega
 have ahM:bq Pc.cells 5 (·<w5.heap.size) w5 A2 qs:=hR2.mono fun b hb=>hb.2
 have hw5:∀x∈ps,Ints (·<w5.heap.size) w5 x.W x.w:=fun x hx=>((qY x hx).keep fun b hb=>b5.block b hb.2).mono fun b hb=>by have:=hb.2;have:=b5.size;omega
 have hv5:∀y∈qs,Ints (·<w5.heap.size) w5 y.W y.w:=fun y hy=>(acU y hy).mono fun b hb=>hb.2
 clear hR qY hR2 acU Hh b3 b4 k4 k3 k1 sd b5
 simp(disch:=omega)only[push_cast,aa,↓reduceIte,Nat.reduceEqDiff,Int.reduceEq]
 refine ax (fun f w'=>∃(i:Nat) (l:List Kn) (L:Option Addr) (cl:Nat),i≤qs.length∧l.length≤264*i∧(f 1= .int .i64 aU∧f 2= .pointer (some ⟨w.heap.size,0,none⟩)∧f 8= .slice L l.length cl∧f 9= .slice A ps.length c∧f 33= .slice A2 qs.length c2∧f 34= .int .i64 qs.length∧f 35= .int .i64 i)∧
   (∀z,z∈l.map Kn.abs↔vB p aU ps qs i z)∧(∀x∈l,ED w5 x)∧bH Kn.cells w5.heap.size 120 2 w' L cl l∧Below w5.heap.size w5 w')
  (fun f _=>qs.length-(intOf (f 35)).toNat) ⟨0,[],none,0,Nat.zero_le _,by simp,⟨rfl,rfl,rfl,rfl,rfl,rfl,rfl⟩,fun z=>⟨fun h=>absurd h (by simp),fun⟨_,_,h,_⟩=>absurd h (by omega)⟩,fun x hx=>absurd hx (by simp),Own.nil _ _ _ _,Below.refl _ _⟩ ?_
 rintro f w6 ⟨i,l,L,cl,hi,Hi,fr,qX,sG,ho,b6⟩ J hJ
 have CO:=re.trans (b6.mono re.size)
 have gZ:(intOf (f 35)).toNat=i:=by rw[fr.2.2.2.2.2.2];simp[intOf]
 by_cases aI:i<qs.length
 case neg=>
  obtain rfl:i=qs.length:=by omega
  have CM:∀z,z∈l.map Kn.abs↔BW p aU (a8 (bo p) p.seen (bg p) k) (dQ p n).1 z:=fun z=>by rw[qX z,vB.all,xd,Vu]
  by_cases hl0:l.length=0
  ·obtain rfl:=List.eq_nil_of_length_eq_zero hl0
   simp(disch:=omega)only[push_cast,aa,↓reduceIte,Nat.reduceEqDiff,Int.reduceEq,iw,fr,Nat.lt_irrefl,List.length_nil,eq_self]
   exact Fa (hQ _ _ ⟨false,none,0,[],none,0,[],0,(by simp only[push_cast,↓reduceIte,Nat.reduceEqDiff,Int.reduceEq,List.length_nil]),Ints.nil _ _ _,Ints.nil _ _ _,by simp,by simp,CO,.inr (.inr ⟨p1,Gz,rfl,none,Gy p1 MI LU (fun z hz=>absurd ((CM z).2 hz) (by simp)),⟨rfl,rfl,rfl⟩⟩)⟩)
  ·have ahN:¬(l.length:Int)=0:=by omega
   have hRl:=bq.lt uC (by decide) (bH.fS ho uC (by decide))
   simp(disch:=omega)only[push_cast,aa,↓reduceIte,Nat.reduceEqDiff,Int.reduceEq,iw,fr,Nat.lt_irrefl,ahN]
   refine ah (BV hRl (fun x hx=>(sG x hx).up b6) (by omega) (by omega)) ?_
   rintro v w7 ⟨m,ZG,rfl,LL,b7⟩
   simp(disch:=omega)only[push_cast,aa,↓reduceIte,Nat.reduceEqDiff,Int.reduceEq]
   refine au (cs:=Kn.cells ⟨none,0,[],none,0,[]⟩) HC ?_
   intro w8 k8 b8 z8
   simp(disch:=omega)only[push_cast,aa,↓reduceIte,Nat.reduceEqDiff,Int.reduceEq]
   refine aC k8 (cs:=Kn.cells m) (BU _) rfl (EE _) ?_
   intro w9 k9 g9 z9
   have J8:=g9.below b8 b8.size (by intro a ha;injection ha with ha;subst ha;exact Nat.le_refl _)
   have Q9:=b7.trans (J8.mono b7.size)
   have TW:=(b6.trans (Q9.mono b6.size)).trans ((Same.refl w9).drew.below _)
   have k9d:=k9.drew
   have MQ:=(sG m ZG).up TW
   have bb9:=re.trans (TW.mono re.size)
   simp(disch:=omega)only[push_cast,aa,↓reduceIte,Nat.reduceEqDiff,Int.reduceEq,k9d.kn0 aS,k9d.kn1 aS]
   refine Fa (hQ _ _ ⟨true,m.R,m.cr,m.r,m.W,m.cw,m.w,0,(by simp only[push_cast,↓reduceIte,Nat.reduceEqDiff,Int.reduceEq]),MQ.r,MQ.w,MQ.nr,MQ.nw,bb9,.inr (.inr ⟨p1,Gz,rfl,some m.abs,Gy p1 MI LU ⟨(CM _).1 (List.mem_map.2 ⟨m,ZG,rfl⟩),fun z hz=>?_⟩,⟨rfl,rfl,rfl⟩⟩)⟩)
   obtain⟨y,hy,rfl⟩:=List.mem_map.1 ((CM z).2 hz)
   exact LL y hy
 have WZ:qs[i]? =some (qs[i]'aI):=List.getElem?_eq_getElem aI
 have HP:qs[i]'aI∈qs:=List.getElem_mem aI
 generalize qs[i]'aI=y at WZ HP
 obtain⟨hyU,hyw⟩:=hqs y HP
 have Vv:=ahM.below b6
 have hA6:=Vv.isSome (by omega)
 have Pv:=fun{K:Fr→World→Prop} {f:Fr} {d:Option Nat} {w':World}=>Vv.dC (P:=Tryz.prog) (K:=K) (f:=f) (d:=d) (w:=w') bc kU WZ dS
 simp(disch:=omega)only[push_cast,aa,↓reduceIte,Nat.reduceEqDiff,Int.reduceEq,iw,fr,aI,Pv]
 refine au (cs:=Pc.cells ⟨[],none,0,[]⟩) xU ?_
 intro w8 k8 b8 z8
 simp(disch:=omega)only[push_cast,aa,↓reduceIte,Nat.reduceEqDiff,Int.reduceEq]
 refine aC k8 (cs:=Pc.cells y) (by rw[bc.len];exact dS) (by rw[bc.len,bc.len]) (List.all_eq_true.2 (bc.one y)) ?_
 intro w9 k9 g9 z9
 have b89:=g9.below b8 b8.size (by intro a ha;injection ha with ha;subst ha;exact Nat.le_refl _)
 have MR:L.map (·.block)≠some w6.heap.size:=fun e=>by have:=ho.QY e.symm;omega
 replace ho:=ho.below b89 (Nat.le_refl _)
 have Q9:=b6.trans (b89.mono b6.size)
 have yi:=fun{K:Fr→World→Prop} {f:Fr} {d:Option Nat} {w':World}=>k9.ld (P:=Tryz.prog) (K:=K) (f:=f) (d:=d) (w:=w') aS 4 (by rw[bc.len];omega)
 have OJ:(Pc.cells y).getD 4 undef= .slice y.W y.w.length y.cw:=by rw[List.getD_eq_getElem?_getD,y.uB];rfl
 rw[OJ]at yi
 have ZS:=b6.size
 by_cases c1:0≤aU
 case neg=>
  have IF:aU<0∨(y.w.length:Int)≤aU:= .inl (by omega)
  simp(disch:=omega)only[push_cast,aa,↓reduceIte,Nat.reduceEqDiff,Int.reduceEq,fr,c1]
  refine ax (fun f' w'=>∃(j:Nat) (l:List Kn) (L:Option Addr) (cl:Nat),j≤ps.length∧l.length≤264*i+j∧(f' 1= .int .i64 aU∧f' 2= .pointer (some ⟨w.heap.size,0,none⟩)∧f' 8= .slice L l.length cl∧f' 9= .slice A ps.length c∧f' 11= .pointer (some ⟨w6.heap.size,0,none⟩)∧f' 33= .slice A2 qs.length c2∧f' 34= .int .i64 qs.length∧f' 35= .int .i64 i∧f' 48= .slice A ps.length c∧f' 49= .int .i64 ps.length∧f' 50= .int .i64 j)∧
    (∀z,z∈l.map Kn.abs↔(vB p aU ps qs i z∨yk p ps y j z))∧(∀x∈l,ED w5 x)∧bH Kn.cells w5.heap.size 120 2 w' L cl l∧L.map (·.block)≠some w6.heap.size∧aE w' w6.heap.size 112 (Pc.cells y)∧Below w5.heap.size w5 w')
   (fun f' _=>ps.length-(intOf (f' 50)).toNat) ⟨0,l,L,cl,Nat.zero_le _,by omega,(by simp only[push_cast,↓reduceIte,Nat.reduceEqDiff,true_and,and_true,and_self,eq_self,fr]),fun z=>(qX z).trans ⟨.inl,fun h=>h.elim id fun⟨_,_,h,_⟩=>absurd h (by omega)⟩,sG,ho,MR,k9,Q9⟩ ?_
  clear qX sG ho MR k9 Q9 fr Pv b6 Hi k8 b8 g9 yi
  rintro f uv ⟨j,l,L,cl,hj,Hi,fr,qX,sG,ho,MR,ky,fM⟩ J2 jH
  by_cases tP:j<ps.length
  case neg=>
   obtain rfl:j=ps.length:=by omega
   simp(disch:=omega)only[push_cast,aa,↓reduceIte,Nat.reduceEqDiff,Int.reduceEq,fh,fr,Nat.lt_irrefl]
   exact hJ _ _ ⟨i+1,l,L,cl,aI,by omega,(by simp only[push_cast,↓reduceIte,Nat.reduceEqDiff,true_and,and_true,and_self,eq_self,fr]),fun z=>(qX z).trans (vB.aas WZ IF z).symm,sG,ho,fM⟩ (by rw[gZ];simp only[push_cast,↓reduceIte,Nat.reduceEqDiff,intOf,fr];omega)
  have MP:ps[j]? =some (ps[j]'tP):=List.getElem?_eq_getElem tP
  have Cp:ps[j]'tP∈ps:=List.getElem_mem tP
  generalize ps[j]'tP=x at MP Cp
  have hxr:=zE x Cp
  have hxw:=J7 x Cp
  have PA:=X2.below fM
  have Yi:=PA.isSome (by omega)
  have ud:=fun{K:Fr→World→Prop} {f:Fr} {d:Option Nat} {w':World}=>PA.dC (P:=Tryz.prog) (K:=K) (f:=f) (d:=d) (w:=w') bc kU MP dS
  simp(disch:=omega)only[push_cast,aa,↓reduceIte,Nat.reduceEqDiff,Int.reduceEq,fh,fr,tP,ud]
  refine au (cs:=Pc.cells ⟨[],none,0,[]⟩) xU ?_
  intro zY Dt vK xv
  simp(disch:=omega)only[push_cast,aa,↓reduceIte,Nat.reduceEqDiff,Int.reduceEq]
  refine aC Dt (cs:=Pc.cells x) (by rw[bc.len];exact dS) (by rw[bc.len,bc.len]) (List.all_eq_true.2 (bc.one x)) ?_
  intro vq y6 g12 z12
  have xh:=g12.below vK vK.size (by intro a ha;injection ha with ha;subst ha;exact Nat.le_refl _)
  have kx:=y6.drew
  have Yj:=(ky.below xh ky.lt).drew
  have eZ:=(fM.trans (xh.mono fM.size)).trans ((Same.refl vq).drew.below _)
  have kp:=k5.below eZ k5.lt
  have PB:=re.trans (eZ.mono re.size)
  have Yk:=fun{K:Fr→World→Prop} {f:Fr} {d:Option Nat} {w':World}=>kx.oZ (P:=Tryz.prog) (K:=K) (f:=f) (d:=d) (w:=w') al 0 (vs:=setCells (ae x.s)) (bn _) x.cell0
  have Yl:=fun{K:Fr→World→Prop} {f:Fr} {d:Option Nat} {w':World}=>Yj.oZ (P:=Tryz.prog) (K:=K) (f:=f) (d:=d) (w:=w') al 0 (vs:=setCells (ae y.s)) (bn _) y.cell0
  simp(disch:=omega)only[push_cast,aa,↓reduceIte,Nat.reduceEqDiff,Int.reduceEq,fr,Yk,Yl,kp.p6]
  refine ah (BS x.s y.s) ?_
  rintro v xw ⟨rfl,iT⟩
  have Ym:=PB.trans (iT.mono PB.size)
  simp(disch:=omega)only[push_cast,aa,↓reduceIte,Nat.reduceEqDiff,Int.reduceEq]
  refine⟨iT,?_⟩
  refine ah (fX (fun z hz=>hxr.small (by decide) z (tD.1 hz).1) (ha.up Ym).aK (by omega) (p1.2.2.2.small eU)) ?_
  rintro v BH ⟨rfl,BG⟩
  have xi:=iT.trans (BG.mono iT.size)
  have EG:=eZ.trans (xi.mono eZ.size)
  have Yn:vq.drew.heap.size=vq.heap.size:=rfl
  have Yo:=xh.size
  have IG:=(ho.below xh (Nat.le_refl _)).same (Same.refl vq).drew|>.below xi (Nat.le_refl _)
  have EH:=Yj.below xi Yj.lt
  have Yp:=kx.below xi kx.lt
  simp(disch:=omega)only[push_cast,aa,↓reduceIte,Nat.reduceEqDiff,Int.reduceEq]
  by_cases ht:dx (fc x.s y.s true) p.aK
  case neg=>
   simp(disch:=omega)only[push_cast,aa,↓reduceIte,Nat.reduceEqDiff,Int.reduceEq,decide_eq_false ht,fr]
   exact jH _ _ ⟨j+1,l,L,cl,tP,by omega,(by simp only[push_cast,↓reduceIte,Nat.reduceEqDiff,true_and,and_true,and_self,eq_self,fr]),fun z=>(qX z).trans (by rw[yk.zZ MP ht z]),sG,IG,MR,EH,EG⟩ (by simp only[push_cast,↓reduceIte,Nat.reduceEqDiff,intOf,fr];omega)
  have PC:=fun{K:Fr→World→Prop} {f:Fr} {d:Option Nat} {w':World}=>Yp.ld (P:=Tryz.prog) (K:=K) (f:=f) (d:=d) (w:=w') aS 4 (by rw[bc.len];omega)
  have PE:=fun{K:Fr→World→Prop} {f:Fr} {d:Option Nat} {w':World}=>EH.ld (P:=Tryz.prog) (K:=K) (f:=f) (d:=d) (w:=w') aS 4 (by rw[bc.len];omega)
  have hcx:(Pc.cells x).getD 4 undef= .slice x.W x.w.length x.cw:=by rw[List.getD_eq_getElem?_getD,x.uB];rfl
  have hcy:(Pc.cells y).getD 4 undef= .slice y.W y.w.length y.cw:=by rw[List.getD_eq_getElem?_getD,y.uB];rfl
  rw[hcx]at PC
  rw[hcy]at PE
  simp(disch:=omega)only[push_cast,aa,↓reduceIte,Nat.reduceEqDiff,Int.reduceEq,decide_eq_true ht,fr,PC,PE,Vt ⟨x.W,x.cw,x.w,y.W,y.cw,y.w⟩,ea uC zR _ (by decide)]
  refine dA uC zR IG ⟨x.W,x.cw,x.w,y.W,y.cw,y.w⟩ (by omega) (by omega) EG.size ?_
  intro A15 Gw Ga oR g15 Yq ahQ z15
  have acW:=EH.lt
  simp(disch:=omega)only[push_cast,aa,↓reduceIte,Nat.reduceEqDiff,Int.reduceEq,fr]
  refine jH _ _ ⟨j+1,l++[⟨x.W,x.cw,x.w,y.W,y.cw,y.w⟩],A15,Gw,tP,by simp;omega,(by simp only[push_cast,↓reduceIte,Nat.reduceEqDiff,true_and,and_true,and_self,eq_self,fr,List.length_append,List.length_cons,List.length_nil]),fun z=>?_,fun r hr=>?_,oR,?_,EH.grown g15.aJ (fun e=>MR e.symm),g15.below EG EG.size IG.uh⟩ (by simp only[push_cast,↓reduceIte,Nat.reduceEqDiff,intOf,fr];omega)
  ·rw[List.map_append,List.mem_append,qX z,yk.aas MP ht z,or_assoc]
   refine or_congr Iff.rfl (or_congr Iff.rfl ?_)
   simp[Kn.abs]
  ·rcases List.mem_append.1 hr with hr|hr
   ·exact sG r hr
   ·rw[List.mem_singleton.1 hr]
    exact⟨hw5 x Cp,hv5 y HP,by simp only;omega,by simp only;omega⟩
  ·rcases Yq with h|⟨g,h,hg⟩
   ·rw[h];exact MR
   ·rw[h]
    intro e
    injection e with e
    omega
 by_cases q2:aU<(y.w.length:Int)
 case pos=>
  simp(disch:=omega)only[push_cast,aa,↓reduceIte,Nat.reduceEqDiff,Int.reduceEq,fr,c1,yi,q2]
  exact hJ _ _ ⟨i+1,l,L,cl,aI,by omega,(by simp only[push_cast,↓reduceIte,Nat.reduceEqDiff,true_and,and_true,and_self,eq_self,fr]),fun z=>(qX z).trans (vB.zZ WZ (by omega) z).symm,sG,ho,Q9⟩ (by rw[gZ];simp only[push_cast,↓reduceIte,Nat.reduceEqDiff,intOf,fr];omega)
 have IF:aU<0∨(y.w.length:Int)≤aU:= .inr (by omega)
 simp(disch:=omega)only[push_cast,aa,↓reduceIte,Nat.reduceEqDiff,Int.reduceEq,fr,c1,yi,q2]
 refine ax (fun f' w'=>∃(j:Nat) (l:List Kn) (L:Option Addr) (cl:Nat),j≤ps.length∧l.length≤264*i+j∧(f' 1= .int .i64 aU∧f' 2= .pointer (some ⟨w.heap.size,0,none⟩)∧f' 8= .slice L l.length cl∧f' 9= .slice A ps.length c∧f' 11= .pointer (some ⟨w6.heap.size,0,none⟩)∧f' 33= .slice A2 qs.length c2∧f' 34= .int .i64 qs.length∧f' 35= .int .i64 i∧f' 48= .slice A ps.length c∧f' 49= .int .i64 ps.length∧f' 50= .int .i64 j)∧
   (∀z,z∈l.map Kn.abs↔(vB p aU ps qs i z∨yk p ps y j z))∧(∀x∈l,ED w5 x)∧bH Kn.cells w5.heap.size 120 2 w' L cl l∧L.map (·.block)≠some w6.heap.size∧aE w' w6.heap.size 112 (Pc.cells y)∧Below w5.heap.size w5 w')
  (fun f' _=>ps.length-(intOf (f' 50)).toNat) ⟨0,l,L,cl,Nat.zero_le _,by omega,(by simp only[push_cast,↓reduceIte,Nat.reduceEqDiff,true_and,and_true,and_self,eq_self,fr]),fun z=>(qX z).trans ⟨.inl,fun h=>h.elim id fun⟨_,_,h,_⟩=>absurd h (by omega)⟩,sG,ho,MR,k9,Q9⟩ ?_
 clear qX sG ho MR k9 Q9 fr Pv b6 Hi k8 b8 g9 yi
 rintro f uv ⟨j,l,L,cl,hj,Hi,fr,qX,sG,ho,MR,ky,fM⟩ J2 jH
 by_cases tP:j<ps.length
 case neg=>
  obtain rfl:j=ps.length:=by omega
  simp(disch:=omega)only[push_cast,aa,↓reduceIte,Nat.reduceEqDiff,Int.reduceEq,fh,fr,Nat.lt_irrefl]
  exact hJ _ _ ⟨i+1,l,L,cl,aI,by omega,(by simp only[push_cast,↓reduceIte,Nat.reduceEqDiff,true_and,and_true,and_self,eq_self,fr]),fun z=>(qX z).trans (vB.aas WZ IF z).symm,sG,ho,fM⟩ (by rw[gZ];simp only[push_cast,↓reduceIte,Nat.reduceEqDiff,intOf,fr];omega)
 have MP:ps[j]? =some (ps[j]'tP):=List.getElem?_eq_getElem tP
 have Cp:ps[j]'tP∈ps:=List.getElem_mem tP
 generalize ps[j]'tP=x at MP Cp
 have hxr:=zE x Cp
 have hxw:=J7 x Cp
 have PA:=X2.below fM
 have Yi:=PA.isSome (by omega)
 have ud:=fun{K:Fr→World→Prop} {f:Fr} {d:Option Nat} {w':World}=>PA.dC (P:=Tryz.prog) (K:=K) (f:=f) (d:=d) (w:=w') bc kU MP dS
 simp(disch:=omega)only[push_cast,aa,↓reduceIte,Nat.reduceEqDiff,Int.reduceEq,fh,fr,tP,ud]
 refine au (cs:=Pc.cells ⟨[],none,0,[]⟩) xU ?_
 intro zY Dt vK xv
 simp(disch:=omega)only[push_cast,aa,↓reduceIte,Nat.reduceEqDiff,Int.reduceEq]
 refine aC Dt (cs:=Pc.cells x) (by rw[bc.len];exact dS) (by rw[bc.len,bc.len]) (List.all_eq_true.2 (bc.one x)) ?_
 intro vq y6 g12 z12
 have xh:=g12.below vK vK.size (by intro a ha;injection ha with ha;subst ha;exact Nat.le_refl _)
 have kx:=y6.drew
 have Yj:=(ky.below xh ky.lt).drew
 have eZ:=(fM.trans (xh.mono fM.size)).trans ((Same.refl vq).drew.below _)
 have kp:=k5.below eZ k5.lt
 have PB:=re.trans (eZ.mono re.size)
 have Yk:=fun{K:Fr→World→Prop} {f:Fr} {d:Option Nat} {w':World}=>kx.oZ (P:=Tryz.prog) (K:=K) (f:=f) (d:=d) (w:=w') al 0 (vs:=setCells (ae x.s)) (bn _) x.cell0
 have Yl:=fun{K:Fr→World→Prop} {f:Fr} {d:Option Nat} {w':World}=>Yj.oZ (P:=Tryz.prog) (K:=K) (f:=f) (d:=d) (w:=w') al 0 (vs:=setCells (ae y.s)) (bn _) y.cell0
 simp(disch:=omega)only[push_cast,aa,↓reduceIte,Nat.reduceEqDiff,Int.reduceEq,fr,Yk,Yl,kp.p6]
 refine ah (BS x.s y.s) ?_
 rintro v xw ⟨rfl,iT⟩
 have Ym:=PB.trans (iT.mono PB.size)
 simp(disch:=omega)only[push_cast,aa,↓reduceIte,Nat.reduceEqDiff,Int.reduceEq]
 refine⟨iT,?_⟩
 refine ah (fX (fun z hz=>hxr.small (by decide) z (tD.1 hz).1) (ha.up Ym).aK (by omega) (p1.2.2.2.small eU)) ?_
 rintro v BH ⟨rfl,BG⟩
 have xi:=iT.trans (BG.mono iT.size)
 have EG:=eZ.trans (xi.mono eZ.size)
 have Yn:vq.drew.heap.size=vq.heap.size:=rfl
 have Yo:=xh.size
 have IG:=(ho.below xh (Nat.le_refl _)).same (Same.refl vq).drew|>.below xi (Nat.le_refl _)
 have EH:=Yj.below xi Yj.lt
 have Yp:=kx.below xi kx.lt
 simp(disch:=omega)only[push_cast,aa,↓reduceIte,Nat.reduceEqDiff,Int.reduceEq]
 by_cases ht:dx (fc x.s y.s true) p.aK
 case neg=>
  simp(disch:=omega)only[push_cast,aa,↓reduceIte,Nat.reduceEqDiff,Int.reduceEq,decide_eq_false ht,fr]
  exact jH _ _ ⟨j+1,l,L,cl,tP,by omega,(by simp only[push_cast,↓reduceIte,Nat.reduceEqDiff,true_and,and_true,and_self,eq_self,fr]),fun z=>(qX z).trans (by rw[yk.zZ MP ht z]),sG,IG,MR,EH,EG⟩ (by simp only[push_cast,↓reduceIte,Nat.reduceEqDiff,intOf,fr];omega)
 have PC:=fun{K:Fr→World→Prop} {f:Fr} {d:Option Nat} {w':World}=>Yp.ld (P:=Tryz.prog) (K:=K) (f:=f) (d:=d) (w:=w') aS 4 (by rw[bc.len];omega)
 have PE:=fun{K:Fr→World→Prop} {f:Fr} {d:Option Nat} {w':World}=>EH.ld (P:=Tryz.prog) (K:=K) (f:=f) (d:=d) (w:=w') aS 4 (by rw[bc.len];omega)
 have hcx:(Pc.cells x).getD 4 undef= .slice x.W x.w.length x.cw:=by rw[List.getD_eq_getElem?_getD,x.uB];rfl
 have hcy:(Pc.cells y).getD 4 undef= .slice y.W y.w.length y.cw:=by rw[List.getD_eq_getElem?_getD,y.uB];rfl
 rw[hcx]at PC
 rw[hcy]at PE
 simp(disch:=omega)only[push_cast,aa,↓reduceIte,Nat.reduceEqDiff,Int.reduceEq,decide_eq_true ht,fr,PC,PE,Vt ⟨x.W,x.cw,x.w,y.W,y.cw,y.w⟩,ea uC zR _ (by decide)]
 refine dA uC zR IG ⟨x.W,x.cw,x.w,y.W,y.cw,y.w⟩ (by omega) (by omega) EG.size ?_
 intro A15 Gw Ga oR g15 Yq ahQ z15
 have acW:=EH.lt
 simp(disch:=omega)only[push_cast,aa,↓reduceIte,Nat.reduceEqDiff,Int.reduceEq,fr]
 refine jH _ _ ⟨j+1,l++[⟨x.W,x.cw,x.w,y.W,y.cw,y.w⟩],A15,Gw,tP,by simp;omega,(by simp only[push_cast,↓reduceIte,Nat.reduceEqDiff,true_and,and_true,and_self,eq_self,fr,List.length_append,List.length_cons,List.length_nil]),fun z=>?_,fun r hr=>?_,oR,?_,EH.grown g15.aJ (fun e=>MR e.symm),g15.below EG EG.size IG.uh⟩ (by simp only[push_cast,↓reduceIte,Nat.reduceEqDiff,intOf,fr];omega)
 ·rw[List.map_append,List.mem_append,qX z,yk.aas MP ht z,or_assoc]
  refine or_congr Iff.rfl (or_congr Iff.rfl ?_)
  simp[Kn.abs]
 ·rcases List.mem_append.1 hr with hr|hr
  ·exact sG r hr
  ·rw[List.mem_singleton.1 hr]
   exact⟨hw5 x Cp,hv5 y HP,by simp only;omega,by simp only;omega⟩
 ·rcases Yq with h|⟨g,h,hg⟩
  ·rw[h];exact MR
  ·rw[h]
   intro e
   injection e with e
   omega
open Go.RowKit
section
variable {T:Type}
inductive xz (E:T→T→Nat→Prop) (s:T):T→Nat→Nat→Prop where
 |nil:xz E s s 0 0
 |snoc {t u:T} {n k c:Nat}:xz E s t n k→E t u c→xz E s u (n+c) (k+1)
def Wk(St:T→Prop)(E:T→T→Nat→Prop)(t:T)(n:Nat):Prop:=∃s k,St s∧xz E s t n k
variable {St:T→Prop} {E:T→T→Nat→Prop}
theorem xz.cast{s t:T}{n m k l:Nat}(h:xz E s t n k)(hn:n=m)(hk:k=l):xz E s t m l:=hn▸hk▸h
theorem xz.trans{s t u:T}{n m k l:Nat}(h:xz E s t n k)(h':xz E t u m l):xz E s u (n+m) (k+l):=by
 induction h' with
 |nil=>exact h
 |snoc _ he ih=>exact(xz.snoc ih he).cast (by omega) (by omega)
theorem xz.zero{s t:T}{n k:Nat}(h:xz E s t n k)(hk:k=0):n=0:=by
 cases h with
 |nil=>rfl
 |snoc=>omega
theorem xz.one{s t:T}{n k:Nat}(Il:∀t u c,E t u c→c≤1)(h:xz E s t n k)(hk:k=1):n≤1:=by
 cases h with
 |nil=>omega
 |snoc g he=>
  have:=Il _ _ _ he
  have:=g.zero (by omega)
  omega
theorem Wk.start{s:T}(h:St s):Wk St E s 0:=⟨s,0,h,.nil⟩
theorem Wk.step{t u:T}{n c:Nat}(h:Wk St E t n)(he:E t u c):Wk St E u (n+c):=by
 obtain⟨s,k,hs,hp⟩:=h
 exact⟨s,k+1,hs,.snoc hp he⟩
theorem Wk.on{t u:T}{n m k:Nat}(h:Wk St E t n)(hp:xz E t u m k):Wk St E u (n+m):=by
 obtain⟨s,k',hs,hq⟩:=h
 exact⟨s,_,hs,hq.trans hp⟩
theorem Wk.acX{u:T}{n c k:Nat}(h:Wk St E u n)(hp:xz E u u c k)(hc:0<c):∀N,∃m,N≤m∧Wk St E u m
 |0=>⟨n,Nat.zero_le _,h⟩
 |N+1=>by
  obtain⟨m,hm,hw⟩:=Wk.acX h hp hc N
  exact⟨m+c,by omega,hw.on hp⟩
theorem xz.trace{s t:T}{n k:Nat}(h:xz E s t n k):∃tr:List (T×Nat),tr.length=k+1∧tr[0]? =some (s,0)∧tr[k]? =some (t,n)∧
  (∀i j p q,i≤j→tr[i]? =some p→tr[j]? =some q→p.2≤q.2∧xz E p.1 q.1 (q.2-p.2) (j-i)):=by
 induction h with
 |nil=>
  refine⟨[(s,0)],rfl,rfl,rfl,fun i j p q D4 hp hq=>?_⟩
  match i,j with
  |0,0=>simp at hp hq;subst hp hq;exact⟨Nat.le_refl _,.nil⟩
  |_,j+1=>simp at hq
  |i+1,0=>omega
 | @snoc t u n k c h he ih=>
   obtain⟨tr,hl,h0,hk,hh⟩:=ih
   refine⟨tr++[(u,n+c)],by simp[hl],by rw[List.getElem?_append_left (by omega)];exact h0,by rw[List.getElem?_append_right (by omega),hl];simp,fun i j p q D4 hp hq=>?_⟩
   rcases Nat.lt_or_ge j (k+1)with c1|c1
   ·rw[List.getElem?_append_left (by omega)]at hp hq
    exact hh i j p q D4 hp hq
   ·have hj:j=k+1:=by
     rcases Nat.lt_or_ge j (k+2)with d|d
     ·omega
     ·rw[List.getElem?_eq_none (by simp;omega)]at hq;cases hq
    subst hj
    rw[List.getElem?_append_right (by omega),hl]at hq
    simp at hq
    subst hq
    rcases Nat.lt_or_ge i (k+1)with d|d
    ·rw[List.getElem?_append_left (by omega)]at hp
     obtain⟨h1,h2⟩:=hh i k p (t,n) (by omega) hp hk
     simp only at h1 h2
     exact⟨by simp only;omega,(xz.snoc h2 he).cast (by simp only;omega) (by omega)⟩
    ·obtain rfl:i=k+1:=by omega
     rw[List.getElem?_append_right (by omega),hl]at hp
     simp at hp
     subst hp
     exact⟨Nat.le_refl _,(xz.nil).cast (by simp) (by simp)⟩
theorem Yr{N n:Nat}(f:Nat→T)(code:T→Nat)(hc:∀v,v≤n→code (f v)<N)(hi:∀v v',v≤n→v'≤n→code (f v)=code (f v')→f v=f v')(h:N≤n):∃v v',v<v'∧v'≤n∧f v=f v':=by
 refine Classical.byContradiction fun gY=>?_
 have Cq:((List.range (n+1)).map fun v=>code (f v)).Nodup:=by
  rw[List.nodup_iff_pairwise_ne,List.pairwise_map]
  refine List.Pairwise.imp_of_mem (fun{a b} ha hb tB he=>?_) List.pairwise_lt_range
  rw[List.mem_range]at ha hb
  exact gY ⟨a,b,tB,by omega,hi a b (by omega) (by omega) he⟩
 have:=cP N _ Cq fun x hx=>by
  obtain⟨v,hv,rfl⟩:=List.mem_map.1 hx
  rw[List.mem_range]at hv
  exact hc v (by omega)
 simp at this
 omega
section
variable (code:T→Nat) (N:Nat) (hc:∀t n,Wk St E t n→code t<N) (hi:∀t u n m,Wk St E t n→Wk St E u m→code t=code u→t=u) (h1:∀t u c,E t u c→c≤1)
include hc hi
theorem Wk.round(Il:∀t u c,E t u c→c≤1){t:T}{n:Nat}(h:Wk St E t n)(hn:N≤n):∃u m c k,Wk St E u m∧xz E u u c k∧0<c:=by
 obtain⟨s,k,hs,hp⟩:=h
 obtain⟨tr,hl,h0,hk,hh⟩:=hp.trace
 have mid:∀v:Nat,v≤n→∃(i:Nat) (u:T),tr[i]? =some (u,v):=by
  intro v hv
  have:∀j:Nat,j≤k→(∃p,tr[j]? =some p∧v≤p.2)→∃(i:Nat) (u:T),tr[i]? =some (u,v):=by
   intro j
   induction j with
   |zero=>
    rintro _ ⟨p,hp,hv⟩
    rw[h0]at hp
    have:=Option.some.inj hp
    subst this
    exact⟨0,s,by rw[h0];simp at hv;subst hv;rfl⟩
   |succ j ih=>
    rintro hj ⟨p,hp,hv⟩
    have mw:j<tr.length:=by omega
    obtain⟨q,hq⟩:∃q,tr[j]? =some q:=⟨_,List.getElem?_eq_getElem mw⟩
    rcases Nat.lt_or_ge q.2 v with c|c
    ·obtain⟨g1,g2⟩:=hh j (j+1) q p (by omega) hq hp
     rw[show j+1-j=1 by omega]at g2
     have:p.2-q.2≤1:=xz.one Il g2 rfl
     exact⟨j+1,p.1,by rw[hp];congr 1;exact Prod.ext rfl (by simp only;omega)⟩
    ·exact ih (by omega) ⟨q,hq,c⟩
  exact this k (Nat.le_refl _) ⟨(t,n),hk,hv⟩
 have walk:∀(i:Nat) (p:T×Nat),tr[i]? =some p→Wk St E p.1 p.2:=fun i p ZJ=>by
  obtain⟨_,g⟩:=hh 0 i (s,0) p (Nat.zero_le _) h0 ZJ
  exact⟨s,i,hs,g.cast (Nat.sub_zero _) (Nat.sub_zero _)⟩
 let f:Nat→T:=fun v=>if hv:v≤n then Classical.choose (Classical.choose_spec (mid v hv))else t
 let g:Nat→Nat:=fun v=>if hv:v≤n then Classical.choose (mid v hv)else 0
 have hf:∀v,v≤n→tr[g v]? =some (f v,v):=fun v hv=>by
  simp only[f,g,dif_pos hv]
  exact Classical.choose_spec (Classical.choose_spec (mid v hv))
 obtain⟨v,v',aI,hle,he⟩:=Yr f code (fun v hv=>hc _ _ (walk _ _ (hf v hv))) (fun v v' hv HH e=>hi _ _ _ _ (walk _ _ (hf v hv)) (walk _ _ (hf v' HH)) e) hn
 have a:=hf v (by omega)
 have b:=hf v' hle
 have hg:g v≤g v':=by
  rcases Nat.le_total (g v) (g v')with d|d
  ·exact d
  ·have:=(hh _ _ _ _ d b a).1
   simp only at this;omega
 obtain⟨_,q⟩:=hh _ _ _ _ hg a b
 simp only at q
 rw[←he]at q
 exact⟨f v,v,v'-v,_,walk _ _ a,q,by omega⟩
end
def tQ(W:T→Nat→Prop)(F:T→Prop)(d:Int):Prop:=
 (d= -1∧∀N,∃t n,N≤n∧F t∧W t n)∨
 (0≤d∧(∀t (n:Nat),F t→W t n→(n:Int)<d)∧(d=0∨∃t n,F t∧W t n∧d=(n:Int)+1))
theorem tQ.unique{W:T→Nat→Prop}{F:T→Prop}{d d':Int}(h:tQ W F d)(h':tQ W F d'):d=d':=by
 rcases h with⟨rfl,h⟩|⟨h0,h,hh⟩<;>rcases h' with⟨rfl,h'⟩|⟨CT,h',ZM⟩
 ·rfl
 ·obtain⟨t,n,hn,hF,hW⟩:=h d'.toNat
  have:=h' t n hF hW
  omega
 ·obtain⟨t,n,hn,hF,hW⟩:=h' d.toNat
  have:=h t n hF hW
  omega
 ·have a:d≤d':=by
   rcases hh with rfl|⟨t,n,hF,hW,rfl⟩
   ·exact CT
   ·have:=h' t n hF hW;omega
  have b:d'≤d:=by
   rcases ZM with rfl|⟨t,n,hF,hW,rfl⟩
   ·exact h0
   ·have:=h t n hF hW;omega
  omega
end
open Go.RowKit
def vL(b:Bool):Nat:=if b then 1 else 0
theorem II(b:Bool):vL b≤1:=by cases b<;>decide
section
variable {T:Type} {St:T→Prop} {E:T→T→Nat→Prop} {F:T→Prop}
theorem mI{α:Type}{l:List α}{i:Nat}{x:α}(h:l[i]? =some x):i<l.length:=by
 rcases Nat.lt_or_ge i l.length with h1|h1
 ·exact h1
 ·rw[List.getElem?_eq_none h1]at h;cases h
end
open Go.RowKit
section
variable {T:Type}
inductive sX:List (T×Nat)→List T→T→Nat→List (T×Nat)→List T→Prop
 |no {M:List (T×Nat)} {W:List T} {t:T} {n n':Nat}:(t,n')∈M→n≤n'→sX M W t n M W
 |new {M:List (T×Nat)} {W:List T} {t:T} {n:Nat}:(∀p∈M,p.1≠t)→sX M W t n (M++[(t,n)]) (W++[t])
 |more {M:List (T×Nat)} {W:List T} {t:T} {n n' j:Nat}:M[j]? =some (t,n')→n'<n→sX M W t n (M.set j (t,n)) (W++[t])
inductive Comes:List (T×Nat)→List T→List (T×Nat)→List (T×Nat)→List T→Prop
 |nil {M:List (T×Nat)} {W:List T}:Comes M W [] M W
 |snoc {M M' M'':List (T×Nat)} {W W' W'':List T} {cs:List (T×Nat)} {t:T} {n:Nat}:Comes M W cs M' W'→sX M' W' t n M'' W''→Comes M W (cs++[(t,n)]) M'' W''
def ue(M:List (T×Nat)):Nat:=(M.map fun p=>p.2+1).sum
theorem PF(M:List (T×Nat))(t:T)(n:Nat):ue (M++[(t,n)])=ue M+(n+1):=by unfold ue;simp
theorem Ke:∀(M:List (T×Nat)) (j:Nat) (t t':T) (n n':Nat),M[j]? =some (t',n')→ue (M.set j (t,n))+n'=ue M+n
 |[],j,_,_,_,_,h=>by simp at h
 |p :: M,0,t,t',n,n',h=>by
    simp at h;subst h
    show ue ((t,n):: M)+n'=ue ((t',n'):: M)+n
    unfold ue;simp only[List.map_cons,List.sum_cons];omega
 |p :: M,j+1,t,t',n,n',h=>by
    have:=Ke M j t t' n n' (by simpa using h)
    show ue (p :: M.set j (t,n))+n'=ue (p :: M)+n
    unfold ue at*;simp only[List.map_cons,List.sum_cons];omega
theorem Ys(M:List (T×Nat))(c:Nat)(h:∀p∈M,p.2+1≤c):ue M≤M.length*c:=by
 induction M with
 |nil=>simp[ue]
 |cons p M ih=>
  have h1:=h p List.mem_cons_self
  have h2:=ih fun q hq=>h q (List.mem_cons_of_mem _ hq)
  unfold ue at*
  simp only[List.map_cons,List.sum_cons,List.length_cons,Nat.succ_mul];omega
structure uE(St:T→Prop)(E:T→T→Nat→Prop)(B:Nat)(M:List (T×Nat))(W:List T):Prop where
 keys:(M.map (·.1)).Nodup
 real:∀p∈M,Wk St E p.1 p.2
 bnd:∀p∈M,p.2≤B
 work:∀x∈W,∃n,(x,n)∈M
variable {St:T→Prop} {E:T→T→Nat→Prop} {B:Nat} {M M':List (T×Nat)} {W W':List T}
theorem uE.one(h:uE St E B M W){x:T}{n n':Nat}(h1:(x,n)∈M)(h2:(x,n')∈M):n=n':=by
 obtain⟨i,hi,OB⟩:=List.getElem_of_mem h1
 obtain⟨j,hj,hjx⟩:=List.getElem_of_mem h2
 have:=(List.getElem?_inj (l:=M.map (·.1)) (i:=i) (j:=j) (by simpa using hi) h.keys).1 (by
  rw[List.getElem?_map,List.getElem?_map,List.getElem?_eq_getElem hi,List.getElem?_eq_getElem hj,OB,hjx];rfl)
 subst this
 rw[OB]at hjx
 exact congrArg (·.2) hjx
theorem sX.eP{t:T}{n:Nat}(hc:sX M W t n M' W')(h:uE St E B M W)(hw:Wk St E t n)(hn:n≤B):uE St E B M' W':=by
 cases hc with
 |no _ _=>exact h
 |new Gj=>
  refine⟨?_,fun p hp=>?_,fun p hp=>?_,fun x hx=>?_⟩
  ·rw[List.map_append,List.map_singleton,List.nodup_append]
   refine⟨h.keys,by simp,fun a ha b hb=>?_⟩
   rw[List.mem_singleton.1 hb]
   obtain⟨p,hp,rfl⟩:=List.mem_map.1 ha
   exact Gj p hp
  ·rcases List.mem_append.1 hp with hp|hp
   ·exact h.real p hp
   ·rw[List.mem_singleton.1 hp];exact hw
  ·rcases List.mem_append.1 hp with hp|hp
   ·exact h.bnd p hp
   ·rw[List.mem_singleton.1 hp];exact hn
  ·rcases List.mem_append.1 hx with hx|hx
   ·obtain⟨k,hk⟩:=h.work x hx
    exact⟨k,List.mem_append_left _ hk⟩
   ·rw[List.mem_singleton.1 hx];exact⟨n,by simp⟩
 | @more n' j hj aI=>
   have mw:j<M.length:=mI hj
   have Tf:∀p∈M.set j (t,n),p∈M∨p=(t,n):=fun p hp=>(List.mem_or_eq_of_mem_set hp)
   have hks:(M.set j (t,n)).map (·.1)=M.map (·.1):=by
    rw[List.map_set]
    refine List.ext_getElem? fun i=>?_
    rw[List.getElem?_set]
    split
    ·rename_i e;subst e
     rw[List.getElem?_map,hj];simp[mw]
    ·rfl
   refine⟨by rw[hks];exact h.keys,fun p hp=>?_,fun p hp=>?_,fun x hx=>?_⟩
   ·rcases Tf p hp with hp|rfl
    ·exact h.real p hp
    ·exact hw
   ·rcases Tf p hp with hp|rfl
    ·exact h.bnd p hp
    ·exact hn
   ·have zh:x=t∨x∈W:=by
     rcases List.mem_append.1 hx with hx|hx
     ·exact .inr hx
     ·exact .inl (List.mem_singleton.1 hx)
    have key:∀y:T,(∃k,(y,k)∈M)→∃k,(y,k)∈M.set j (t,n):=fun y ⟨k,hk⟩=>by
     have:y∈(M.set j (t,n)).map (·.1):=by rw[hks];exact List.mem_map.2 ⟨_,hk,rfl⟩
     obtain⟨p,hp,rfl⟩:=List.mem_map.1 this
     exact⟨p.2,hp⟩
    rcases zh with rfl|zh
    ·exact key x ⟨n',List.mem_of_getElem? hj⟩
    ·exact key x (h.work x zh)
theorem sX.mono{t:T}{n:Nat}(hc:sX M W t n M' W')(h:uE St E B M W):(∀x k,(x,k)∈M→∃k',k≤k'∧(x,k')∈M')∧(∃k',n≤k'∧(t,k')∈M')∧(∀x∈W,x∈W')∧(∀p∈M',p∈M∨p.1∈W'):=by
 cases hc with
 | @no n' fN hle=>exact⟨fun x k hk=>⟨k,Nat.le_refl _,hk⟩,⟨n',hle,fN⟩,fun _ hx=>hx,fun p hp=>.inl hp⟩
 |new Gj=>
  refine⟨fun x k hk=>⟨k,Nat.le_refl _,List.mem_append_left _ hk⟩,⟨n,Nat.le_refl _,by simp⟩,fun x hx=>List.mem_append_left _ hx,fun p hp=>?_⟩
  rcases List.mem_append.1 hp with hp|hp
  ·exact .inl hp
  ·rw[List.mem_singleton.1 hp];exact .inr (by simp)
 | @more n' j hj aI=>
   have mw:j<M.length:=mI hj
   have fN:(t,n)∈M.set j (t,n):=List.mem_iff_getElem?.2 ⟨j,by rw[List.getElem?_set_self mw]⟩
   refine⟨fun x k hk=>?_,⟨n,Nat.le_refl _,fN⟩,fun x hx=>List.mem_append_left _ hx,fun p hp=>?_⟩
   ·obtain⟨i,hi,OB⟩:=List.getElem_of_mem hk
    by_cases e:i=j
    ·subst e
     rw[List.getElem?_eq_getElem hi,OB]at hj
     have e1:=congrArg Prod.fst (Option.some.inj hj)
     have e2:=congrArg Prod.snd (Option.some.inj hj)
     simp only at e1 e2
     subst e1
     exact⟨n,by omega,fN⟩
    ·exact⟨k,Nat.le_refl _,List.mem_iff_getElem?.2 ⟨i,by rw[List.getElem?_set_ne (Ne.symm e),List.getElem?_eq_getElem hi,OB]⟩⟩
   ·rcases List.mem_or_eq_of_mem_set hp with hp|rfl
    ·exact .inl hp
    ·exact .inr (by simp)
theorem sX.ue{t:T}{n:Nat}(hc:sX M W t n M' W'):ue M+W'.length≤ue M'+W.length∧ue M≤ue M':=by
 cases hc with
 |no _ _=>exact⟨Nat.le_refl _,Nat.le_refl _⟩
 |new _=>rw[PF,List.length_append,List.length_singleton];omega
 | @more n' j hj aI=>
   have:=Ke M j t t n n' hj
   rw[List.length_append,List.length_singleton];omega
theorem Comes.all{cs:List (T×Nat)}(hc:Comes M W cs M' W')(h:uE St E B M W)(E0:∀p∈cs,Wk St E p.1 p.2∧p.2≤B):
  uE St E B M' W'∧(∀x k,(x,k)∈M→∃k',k≤k'∧(x,k')∈M')∧(∀p∈cs,∃k',p.2≤k'∧(p.1,k')∈M')∧(∀x∈W,x∈W')∧(∀p∈M',p∈M∨p.1∈W')∧(Go.Proofs.YtcefeihlkpmejaaGreatDoor.ue M+W'.length≤Go.Proofs.YtcefeihlkpmejaaGreatDoor.ue M'+W.length)∧Go.Proofs.YtcefeihlkpmejaaGreatDoor.ue M≤Go.Proofs.YtcefeihlkpmejaaGreatDoor.ue M':=by
 induction hc with
 |nil=>exact⟨h,fun x k hk=>⟨k,Nat.le_refl _,hk⟩,fun p hp=>absurd hp (by simp),fun _ hx=>hx,fun p hp=>.inl hp,Nat.le_refl _,Nat.le_refl _⟩
 | @snoc M1 M2 W W1 W2 cs t n _ hc ih=>
   obtain⟨g1,m1,d1,w1,n1,t1,u1⟩:=ih h fun p hp=>E0 p (List.mem_append_left _ hp)
   obtain⟨hw,hb⟩:=E0 (t,n) (by simp)
   have g2:=hc.eP g1 hw hb
   obtain⟨m2,d2,w2,n2⟩:=hc.mono g1
   obtain⟨t2,u2⟩:=hc.ue
   refine⟨g2,fun x k hk=>?_,fun p hp=>?_,fun x hx=>w2 x (w1 x hx),fun p hp=>?_,by omega,by omega⟩
   ·obtain⟨k',om,hm⟩:=m1 x k hk
    obtain⟨k'',ahT,HJ⟩:=m2 x k' hm
    exact⟨k'',by omega,HJ⟩
   ·rcases List.mem_append.1 hp with hp|hp
    ·obtain⟨k',om,hm⟩:=d1 p hp
     obtain⟨k'',ahT,HJ⟩:=m2 _ _ hm
     exact⟨k'',by omega,HJ⟩
    ·rw[List.mem_singleton.1 hp];exact d2
   ·rcases n2 p hp with hp|hp
    ·rcases n1 p hp with hp|hp
     ·exact .inl hp
     ·exact .inr (w2 _ hp)
    ·exact .inr hp
structure yl(St:T→Prop)(E:T→T→Nat→Prop)(F:T→Prop)(B:Nat)(M:List (T×Nat))(W:List T)(aU:Int):Prop where
 eP:uE St E B M W
 start:∀x,St x→∃n,(x,n)∈M
 acZ:∀p∈M,p.1∈W∨∀y c,E p.1 y c→∃n,p.2+c≤n∧(y,n)∈M
 mst:∀p∈M,F p.1→p.1∈W∨(p.2:Int)≤aU
 one:aU= -1∨∃t n,F t∧Wk St E t n∧aU=(n:Int)
theorem yl.next{F:T→Prop}{aU pq:Int}{x:T}{n:Nat}{cs:List (T×Nat)}(h:yl St E F B M (W++[x]) aU)(hx:(x,n)∈M)(hm:(F x∧pq=max aU n)∨(¬F x∧pq=aU))
  (hc:Comes M W cs M' W')(E0:∀u k,(u,k)∈cs↔∃c,E x u c∧k=n+c)(hb:∀u c,E x u c→n+c≤B):yl St E F B M' W' pq:=by
 have g0:uE St E B M W:=⟨h.eP.keys,h.eP.real,h.eP.bnd,fun y hy=>h.eP.work y (List.mem_append_left _ hy)⟩
 have hw:=h.eP.real _ hx
 have hle:aU≤pq:=by rcases hm with⟨_,rfl⟩|⟨_,rfl⟩<;>omega
 obtain⟨g,m,d,w,nw,_,_⟩:=hc.all g0 fun p hp=>by
  obtain⟨c,he,hk⟩:=(E0 p.1 p.2).1 hp
  rw[hk]
  exact⟨hw.step he,hb _ _ he⟩
 have split:∀p∈M,p.1∈W++[x]→p.1∈W∨p=(x,n):=fun p hp Q7=>by
  rcases List.mem_append.1 Q7 with Q7|Q7
  ·exact .inl Q7
  ·have e:=List.mem_singleton.1 Q7
   obtain⟨a,b⟩:=p
   simp only at e
   subst e
   rw[h.eP.one hp hx]
   exact .inr rfl
 refine⟨g,fun y hy=>?_,fun p hp=>?_,fun p hp hF=>?_,?_⟩
 ·obtain⟨k,hk⟩:=h.start y hy
  obtain⟨k',_,om⟩:=m y k hk
  exact⟨k',om⟩
 ·rcases nw p hp with hp|hp
  ·have done:(∀y c,E p.1 y c→∃k,p.2+c≤k∧(y,k)∈M)→∀y c,E p.1 y c→∃k,p.2+c≤k∧(y,k)∈M':=fun hh y c he=>by
    obtain⟨k,hk,om⟩:=hh y c he
    obtain⟨k2,h2,h3⟩:=m _ _ om
    exact⟨k2,by omega,h3⟩
   rcases h.acZ p hp with h1|h1
   ·rcases split p hp h1 with h1|rfl
    ·exact .inl (w _ h1)
    ·refine .inr fun y c he=>?_
     obtain⟨k',om,QR⟩:=d (y,n+c) ((E0 y (n+c)).2 ⟨c,he,rfl⟩)
     exact⟨k',om,QR⟩
   ·exact .inr (done h1)
  ·exact .inl hp
 ·rcases nw p hp with hp|hp
  ·rcases h.mst p hp hF with h1|h1
   ·rcases split p hp h1 with h1|rfl
    ·exact .inl (w _ h1)
    ·rcases hm with⟨_,rfl⟩|⟨hn,_⟩
     ·exact .inr (by simp only;omega)
     ·exact absurd hF hn
   ·exact .inr (by omega)
  ·exact .inl hp
 ·rcases hm with⟨hF,rfl⟩|⟨_,rfl⟩
  ·rcases Int.le_total aU n with h1|h1
   ·rw[Int.max_eq_right h1];exact .inr ⟨x,n,hF,hw,rfl⟩
   ·rw[Int.max_eq_left h1];exact h.one
  ·exact h.one
theorem yl.done{F:T→Prop}{aU:Int}(h:yl St E F B M [] aU):tQ (Wk St E) F (aU+1):=by
 have all:∀t n,Wk St E t n→∃k,n≤k∧(t,k)∈M:=fun t n hw=>by
  obtain⟨s,k,hs,hp⟩:=hw
  induction hp with
  |nil=>
   obtain⟨k,hk⟩:=h.start s hs
   exact⟨k,Nat.zero_le _,hk⟩
  |snoc _ he ih=>
   obtain⟨k1,h1,h2⟩:=ih
   rcases h.acZ _ h2 with h3|h3
   ·exact absurd h3 (by simp)
   ·obtain⟨k2,h4,h5⟩:=h3 _ _ he
    simp only at h4
    exact⟨k2,by omega,h5⟩
 have h0: -1≤aU:=by
  rcases h.one with h1|⟨_,n,_,_,h1⟩<;>omega
 refine .inr ⟨by omega,fun t n hF hw=>?_,?_⟩
 ·obtain⟨k,h1,h2⟩:=all t n hw
  rcases h.mst _ h2 hF with h3|h3
  ·exact absurd h3 (by simp)
  ·simp only at h3;omega
 ·rcases h.one with h1|⟨t,n,hF,hw,h1⟩
  ·exact .inl (by omega)
  ·exact .inr ⟨t,n,hF,hw,by omega⟩
theorem GA{F:T→Prop}(code:T→Nat)(N:Nat)(hc:∀t n,Wk St E t n→code t<N)(hi:∀t u n m,Wk St E t n→Wk St E u m→code t=code u→t=u)(Il:∀t u c,E t u c→c≤1)
  (hF:∀u c k,xz E u u c k→0<c→F u){t:T}{n:Nat}(h:Wk St E t n)(hn:N≤n):tQ (Wk St E) F (-1):=by
 obtain⟨u,m,c,k,h1,h2,h3⟩:=Wk.round code N hc hi Il h hn
 refine .inl ⟨rfl,fun K=>?_⟩
 obtain⟨m',HJ,hw⟩:=h1.acX h2 h3 K
 exact⟨u,m',HJ,hF u c k h2 h3,hw⟩
theorem yl.first{F:T→Prop}{cs:List (T×Nat)}(hc:Comes [] [] cs M W)(E0:∀u k,(u,k)∈cs↔St u∧k=0):yl St E F B M W (-1):=by
 obtain⟨g,_,d,_,nw,_,_⟩:=hc.all (St:=St) (E:=E) (B:=B) ⟨by simp,fun p hp=>absurd hp (by simp),fun p hp=>absurd hp (by simp),fun x hx=>absurd hx (by simp)⟩ fun p hp=>by
  obtain⟨h1,h2⟩:=(E0 p.1 p.2).1 hp
  rw[h2];exact⟨Wk.start h1,Nat.zero_le _⟩
 have inW:∀p∈M,p.1∈W:=fun p hp=>(nw p hp).elim (fun h=>absurd h (by simp)) id
 exact⟨g,fun x hx=>by
  obtain⟨k,_,hk⟩:=d (x,0) ((E0 x 0).2 ⟨hx,rfl⟩)
  exact⟨k,hk⟩,fun p hp=>.inl (inW p hp),fun p hp _=>.inl (inW p hp),.inl rfl⟩
end
open Go.RowKit
abbrev Tw:=Int×Int×Bool
def qy(m:aN)(s e:Int)(k:Nat):List Int:=((m.ag.take k).filter fun a=>decide (a.bK=s∧a.dI=e)).map (·.dt)
theorem GB{m:aN}{s e:Int}{k:Nat}(h:k<m.ag.length):qy m s e (k+1)=if(m.ag.getD k default).bK=s∧(m.ag.getD k default).dI=e then qy m s e k++[(m.ag.getD k default).dt]else qy m s e k:=by
 unfold qy
 rw[bS m.ag default k h,List.filter_append,List.map_append]
 by_cases c:(m.ag.getD k default).bK=s∧(m.ag.getD k default).dI=e
 ·rw[if_pos c,List.filter_cons_of_pos (by simpa using c)];rfl
 ·rw[if_neg c,List.filter_cons_of_neg (by simpa using c)];simp
theorem IJ{m:aN}(hm:m.bZ)(s e:Int):qy m s e m.ag.length=cb m [s] e:=by
 refine aW.ext ?_ (dW _).1 fun x=>?_
 ·unfold qy
  rw[List.take_length,aW,List.pairwise_map]
  refine List.Pairwise.imp_of_mem (fun{a b} ha hb tB=>?_) (List.Pairwise.filter _ (bZ.ord hm))
  have h1:=of_decide_eq_true (List.mem_filter.1 ha).2
  have h2:=of_decide_eq_true (List.mem_filter.1 hb).2
  rcases tB with h|⟨_,h|⟨_,h⟩⟩
  ·omega
  ·omega
  ·exact h
 ·show _↔x∈cb m [s] e
  rw[fB]
  unfold qy
  rw[List.take_length,List.mem_map]
  constructor
  ·rintro⟨a,ha,rfl⟩
   obtain⟨h1,h2⟩:=List.mem_filter.1 ha
   have:=of_decide_eq_true h2
   exact⟨a,h1,this.2,by simp[this.1],rfl⟩
  ·rintro⟨a,ha,h1,h2,h3⟩
   exact⟨a,List.mem_filter.2 ⟨ha,decide_eq_true ⟨by simpa using h2,h1⟩⟩,h3⟩
def CU(m:aN)(av:List Int)(x:Tw)(e:Int):List Int:=if e∈av then []else cb m [x.2.1] e
def mJ(m:aN)(seen av:List Int)(x:Tw)(e:Int):List (Tw×Bool):=
 if e∈seen then(cb m [x.1] e).flatMap fun a=>(CU m av x e).map fun b=>((a,b,x.2.2),x.2.2)
 else(cb m [x.1] e).map (fun a=>((a,x.2.1,x.2.2||decide (e∈av)),x.2.2))++(CU m av x e).map fun b=>((x.1,b,x.2.2),false)
def iK(m:aN)(seen av:List Int)(x:Tw)(k:Nat):List (Tw×Bool):=(List.range k).flatMap fun(i:Nat)=>mJ m seen av x (i:Int)
theorem zc(m:aN)(seen av:List Int)(x:Tw)(k:Nat):iK m seen av x (k+1)=iK m seen av x k++mJ m seen av x (k:Int):=by
 unfold iK
 rw[List.range_succ,List.flatMap_append]
 simp
def IK(m:aN)(seen av:List Int)(x y:Tw)(c:Nat):Prop:=∃b,(y,b)∈iK m seen av x m.events.toNat∧c=vL b
def Ra(m:aN)(x:Tw):Prop:=x.1∈m.aB∧x.2.1∈m.aB∧x.2.2=false
abbrev FW(x:Tw):Prop:=x.2.2=true
theorem BX{m:aN}{seen av:List Int}{x y:Tw}{e:Int}{b:Bool}:(y,b)∈mJ m seen av x e↔
  (e∈seen∧e∉av∧y.1∈cb m [x.1] e∧y.2.1∈cb m [x.2.1] e∧y.2.2=x.2.2∧b=x.2.2)∨
  (e∉seen∧y.1∈cb m [x.1] e∧y.2.1=x.2.1∧y.2.2=(x.2.2||decide (e∈av))∧b=x.2.2)∨
  (e∉seen∧e∉av∧y.1=x.1∧y.2.1∈cb m [x.2.1] e∧y.2.2=x.2.2∧b=false):=by
 obtain⟨y1,y2,y3⟩:=y
 unfold mJ CU
 by_cases h1:e∈seen<;>by_cases h2:e∈av
 ·simp[h1,h2]
 ·simp only[h1,h2,if_true,if_false,List.mem_flatMap,List.mem_map,Prod.mk.injEq,not_true_eq_false,false_and,or_false,true_and,not_false_eq_true]
  constructor
  ·rintro⟨a,ha,c,hc,⟨rfl,rfl,rfl⟩,rfl⟩;exact⟨ha,hc,rfl,rfl⟩
  ·rintro⟨ha,hc,h3,h4⟩;exact⟨y1,ha,y2,hc,⟨rfl,rfl,h3.symm⟩,h4.symm⟩
 ·simp only[h1,h2,if_true,if_false,List.map_nil,List.append_nil,List.mem_map,Prod.mk.injEq,not_true_eq_false,false_and,and_false,or_false,false_or,true_and,not_false_eq_true,decide_true,Bool.or_true]
  constructor
  ·rintro⟨a,ha,⟨rfl,rfl,rfl⟩,rfl⟩;exact⟨ha,rfl,rfl,rfl⟩
  ·rintro⟨ha,h3,h4,h5⟩;exact⟨y1,ha,⟨rfl,h3.symm,h4.symm⟩,h5.symm⟩
 ·simp only[h1,h2,if_false,List.mem_append,List.mem_map,Prod.mk.injEq,false_and,false_or,true_and,not_false_eq_true,decide_false,Bool.or_false]
  constructor
  ·rintro(⟨a,ha,⟨rfl,rfl,rfl⟩,rfl⟩|⟨a,ha,⟨rfl,rfl,rfl⟩,rfl⟩)
   ·exact .inl ⟨ha,rfl,rfl,rfl⟩
   ·exact .inr ⟨rfl,ha,rfl,rfl⟩
  ·rintro(⟨ha,h3,h4,h5⟩|⟨h3,ha,h4,h5⟩)
   ·exact .inl ⟨y1,ha,⟨rfl,h3.symm,h4.symm⟩,h5.symm⟩
   ·exact .inr ⟨y2,ha,⟨h3.symm,rfl,h4.symm⟩,h5.symm⟩
theorem BY{m:aN}{seen av:List Int}{x:Tw}{p:Tw×Bool}{k:Nat}:p∈iK m seen av x k↔∃i:Nat,i<k∧p∈mJ m seen av x (i:Int):=by
 unfold iK
 simp[List.mem_flatMap,List.mem_range]
theorem aco{m:aN}{seen av:List Int}{x y:Tw}{e:Int}{b:Bool}(h:(y,b)∈mJ m seen av x e):(b=true→x.2.2=true)∧(x.2.2=true→y.2.2=true):=by
 rcases BX.1 h with⟨_,_,_,_,h1,h2⟩|⟨_,_,_,h1,h2⟩|⟨_,_,_,_,h1,h2⟩
 ·exact⟨fun h=>h2▸h,fun h=>h1.trans h⟩
 ·exact⟨fun h=>h2▸h,fun h=>by rw[h1,h];rfl⟩
 ·exact⟨fun h=>Bool.noConfusion (h2.symm.trans h),fun h=>h1.trans h⟩
theorem Kf{m:aN}{seen av:List Int}(x y:Tw)(c:Nat)(h:IK m seen av x y c):c≤1:=by
 obtain⟨b,_,hc⟩:=h
 rw[hc];exact II b
theorem PG{m:aN}{seen av:List Int}{x y:Tw}{c:Nat}(h:IK m seen av x y c):(0<c→FW x)∧(FW x→FW y):=by
 obtain⟨b,hb,rfl⟩:=h
 obtain⟨i,_,h⟩:=BY.1 hb
 obtain⟨h1,h2⟩:=aco h
 exact⟨fun hc=>h1 (by cases b;exact absurd hc (by decide);rfl),h2⟩
theorem L2{m:aN}{seen av:List Int}{x y:Tw}{n k:Nat}(h:xz (IK m seen av) x y n k):(0<n→FW y)∧(FW x→FW y):=by
 induction h with
 |nil=>exact⟨fun h=>absurd h (by omega),id⟩
 | @snoc t u n k c _ he ih=>
   obtain⟨h1,h2⟩:=PG he
   refine⟨fun hc=>?_,fun h=>h2 (ih.2 h)⟩
   rcases Nat.eq_zero_or_pos n with h3|h3
   ·exact h2 (h1 (by omega))
   ·exact h2 (ih.1 h3)
theorem IL{m:aN}{seen av:List Int}(x:Tw)(n k:Nat)(h:xz (IK m seen av) x x n k)(hn:0<n):FW x:=(L2 h).1 hn
def PH(m:aN)(x:Tw):Prop:=(0≤x.1∧x.1<m.aj)∧0≤x.2.1∧x.2.1<m.aj
theorem TX{m:aN}(hm:m.bZ){seen av:List Int}{x y:Tw}{e:Int}{b:Bool}(h:(y,b)∈mJ m seen av x e)(hx:PH m x):PH m y:=by
 rcases BX.1 h with⟨_,_,h1,h2,_,_⟩|⟨_,h1,h2,_,_⟩|⟨_,_,h1,h2,_,_⟩
 ·exact⟨fw hm _ _ _ h1,fw hm _ _ _ h2⟩
 ·exact⟨fw hm _ _ _ h1,by rw[h2];exact hx.2⟩
 ·exact⟨by rw[h1];exact hx.1,fw hm _ _ _ h2⟩
theorem L3{m:aN}(hm:m.bZ){seen av:List Int}{x:Tw}{k:Nat}(hx:PH m x){p:Tw×Bool}(h:p∈iK m seen av x k):PH m p.1:=by
 obtain⟨i,_,h⟩:=BY.1 h
 exact TX hm (y:=p.1) (b:=p.2) h hx
theorem Yt{m:aN}(hm:m.bZ){x:Tw}(h:Ra m x):PH m x:=⟨gS (fu hm) _ h.1,gS (fu hm) _ h.2.1⟩
theorem sY{m:aN}(hm:m.bZ){seen av:List Int}{x:Tw}{n:Nat}(h:Wk (Ra m) (IK m seen av) x n):PH m x:=by
 obtain⟨s,k,hs,hp⟩:=h
 induction hp with
 |nil=>exact Yt hm hs
 |snoc _ he ih=>
  obtain⟨b,hb,_⟩:=he
  exact L3 hm (ih) hb
def BZ(S:Nat)(x:Tw):Nat:=(vL x.2.2*S+x.2.1.toNat)*S+x.1.toNat
theorem GC{m:aN}{x:Tw}(h:PH m x):BZ m.aj.toNat x<2*m.aj.toNat*m.aj.toNat:=by
 obtain⟨⟨h1,h2⟩,h3,h4⟩:=h
 unfold BZ
 have a1:x.1.toNat<m.aj.toNat:=by omega
 have a2:x.2.1.toNat<m.aj.toNat:=by omega
 have a3:=II x.2.2
 generalize m.aj.toNat=S at*
 have b1:vL x.2.2*S+x.2.1.toNat+1≤2*S:=by
  have:vL x.2.2*S≤1*S:=Nat.mul_le_mul_right _ a3
  omega
 have b2:(vL x.2.2*S+x.2.1.toNat+1)*S≤2*S*S:=Nat.mul_le_mul_right _ b1
 rw[Nat.succ_mul]at b2
 omega
theorem DC{m:aN}{x y:Tw}(h:PH m x)(h':PH m y)(he:BZ m.aj.toNat x=BZ m.aj.toNat y):x=y:=by
 obtain⟨⟨h1,h2⟩,h3,h4⟩:=h
 obtain⟨⟨k1,k2⟩,k3,k4⟩:=h'
 unfold BZ at he
 have a1:x.1.toNat<m.aj.toNat:=by omega
 have a2:x.2.1.toNat<m.aj.toNat:=by omega
 have c1:y.1.toNat<m.aj.toNat:=by omega
 have c2:y.2.1.toNat<m.aj.toNat:=by omega
 generalize m.aj.toNat=S at*
 have split:∀a b c d:Nat,b<S→d<S→a*S+b=c*S+d→a=c∧b=d:=fun a b c d hb hd h=>by
  have e1:(a*S+b)%S=b:=by rw[Nat.mul_comm,Nat.mul_add_mod,Nat.mod_eq_of_lt hb]
  have e2:(c*S+d)%S=d:=by rw[Nat.mul_comm,Nat.mul_add_mod,Nat.mod_eq_of_lt hd]
  have e:b=d:=by rw[←e1,←e2,h]
  subst e
  have:a*S=c*S:=by omega
  exact⟨Nat.eq_of_mul_eq_mul_right (by omega) this,rfl⟩
 obtain⟨e1,e2⟩:=split _ _ _ _ a1 c1 he
 obtain⟨e3,e4⟩:=split _ _ _ _ a2 c2 e1
 refine Prod.ext (by omega) (Prod.ext (by omega) ?_)
 cases hx:x.2.2<;>cases hy:y.2.2<;>rw[hx,hy]at e3<;>first|rfl|exact absurd e3 (by decide)
abbrev Vw(m:aN)(seen av:List Int)(d:Int):Prop:=tQ (Wk (Ra m) (IK m seen av)) FW d
theorem GD{l:List Int}{b:Int}(h:az l b):l.length≤b.toNat:=by
 have:=cP b.toNat (l.map Int.toNat) (by
  rw[List.nodup_iff_pairwise_ne,List.pairwise_map]
  exact(List.Pairwise.imp (R:=(·<·)) (S:=(·≠·)) (fun h=>by omega) h.strict).imp_of_mem fun{x y} hx hy F4 e=>F4 (by have:=h.mem hx;have:=h.mem hy;omega)) fun x hx=>by
  obtain⟨y,hy,rfl⟩:=List.mem_map.1 hx
  have:=h.mem hy;omega
 simpa using this
theorem tR{m:aN}(hm:m.bZ)(h6:m.aj≤6)(l:List Int)(e:Int):(cb m l e).length≤6:=by
 have:=GD (gP hm l e)
 omega
theorem IM{m:aN}(hm:m.bZ)(h6:m.aj≤6)(seen av:List Int)(x:Tw)(e:Int):(mJ m seen av x e).length≤36:=by
 have h1:=tR hm h6 [x.1] e
 have h2:=tR hm h6 [x.2.1] e
 have h3:(CU m av x e).length≤6:=by unfold CU;split;exact Nat.zero_le _;exact h2
 unfold mJ
 split
 ·rw[List.length_flatMap]
  have:∀l:List Int,(l.map fun a=>((CU m av x e).map fun b=>(((a,b,x.2.2):Tw),x.2.2)).length).sum≤l.length*6:=fun l=>by
   induction l with
   |nil=>simp
   |cons a l ih=>simp only[List.map_cons,List.sum_cons,List.length_map,List.length_cons,Nat.succ_mul]at*;omega
  have:=this (cb m [x.1] e)
  omega
 ·simp only[List.length_append,List.length_map];omega
theorem vC{m:aN}(hm:m.bZ)(h6:m.aj≤6)(seen av:List Int)(x:Tw):∀k,(iK m seen av x k).length≤36*k
 |0=>Nat.le_refl _
 |k+1=>by
   rw[zc,List.length_append]
   have:=vC hm h6 seen av x k
   have:=IM hm h6 seen av x k
   omega
open Go.RowKit
def GF(es:List Nat)(B:Nat)(w:World)(b:Nat):Prop:=b<w.heap.size∧(b<B∨∃e,e∈es∧∃cs r,w.heap[b]? =some (.cells cs e r))
structure cj(es:List Nat)(B:Nat)(w w':World):Prop where
 size:w.heap.size≤w'.heap.size
 at_:∀b,GF es B w b→w'.heap[b]? =w.heap[b]?
section
variable {es:List Nat} {B:Nat} {w w':World} {A:Option Addr}
theorem cj.Vx(k:cj es B w w'){b:Nat}(h:GF es B w b):GF es B w' b:=by
 refine⟨Nat.lt_of_lt_of_le h.1 k.size,?_⟩
 rcases h.2 with h2|⟨e,he,cs,r,h3⟩
 ·exact .inl h2
 ·exact .inr ⟨e,he,cs,r,by rw[k.at_ b h];exact h3⟩
theorem cj.trans{w2:World}(h:cj es B w w')(k:cj es B w' w2):cj es B w w2:=⟨Nat.le_trans h.size k.size,fun b hb=>(k.at_ b (h.Vx hb)).trans (h.at_ b hb)⟩
theorem cj.below(h:Below w.heap.size w w'):cj es B w w':=⟨h.size,fun b hb=>h.block b hb.1⟩
theorem cj.same(h:Same w w'):cj es B w w':= .below (h.below _)
theorem cj.bQ{B' e' sz c n:Nat}{xs:List Value}(ho:Own B' e' sz w A c n xs)(hB:B≤B')(cY:e'∉es)(hg:bJ w w' A):cj es B w w':=
 ⟨hg.aJ.size,fun b hb=>hg.aJ.block b hb.1 (by
  rcases ho.own.2 with⟨h0,_⟩|⟨g,cap,cur,hv,hB',hh,_⟩
  ·injection h0 with h0;subst h0;simp
  ·injection hv with hv
   subst hv
   simp only[Option.map_some,ne_eq,Option.some.injEq]
   rintro rfl
   rcases hb.2 with h1|⟨e,he,cs,r,h1⟩
   ·omega
   ·rw[h1]at hh
    injection hh with hh
    injection hh with _ ht
    exact cY (ht▸he))⟩
theorem cj.iJ{g i t:Nat}{cs:List Value}(hk:aE w g t cs)(hB:B≤g)(cY:t∉es)(hg:bJ w w' (some ⟨g,i,none⟩)):cj es B w w':=
 ⟨hg.aJ.size,fun b hb=>hg.aJ.block b hb.1 (by
  simp only[Option.map_some,ne_eq,Option.some.injEq]
  rintro rfl
  rcases hb.2 with h1|⟨e,he,cs,r,h1⟩
  ·omega
  ·unfold aE at hk
   rw[h1]at hk
   injection hk with hh
   injection hh with _ ht
   exact cY (ht▸he))⟩
theorem Ints.eF{l:List Int}(h:Ints (GF es B w) w A l)(k:cj es B w w'):Ints (GF es B w') w' A l:=h.U7 fun b hb=>⟨k.at_ b hb,k.Vx hb⟩
theorem Ints.tlt{l:List Int}(h:Ints (GF es B w) w A l):Ints (·<w.heap.size) w A l:=h.mono fun _ hb=>hb.1
theorem Own.Vx{B' e sz c n:Nat}{xs:List Value}(h:Own B' e sz w A c n xs)(he:e∈es){b:Nat}(hb:A.map (·.block)=some b):GF es B w b:=by
 refine⟨h.QY hb.symm,.inr ⟨e,he,?_⟩⟩
 rcases h.own.2 with⟨h0,_⟩|⟨g,cap,cur,hv,hB',hh,_⟩
 ·injection h0 with h0;subst h0;cases hb
 ·injection hv with hv
  subst hv
  injection hb with hb
  simp only at hb
  subst hb
  exact⟨_,_,hh⟩
theorem cQ.Vx{B' e c:Nat}{l:List Int}(h:cQ B' e w A c l)(he:e∈es):Ints (GF es B w) w A l:=(cQ.ints h).mono fun _ hb=>Own.Vx h he hb.2
theorem Own.L4{B1 e sz c n B2 e2 sz2 c2 n2:Nat}{A2 A2':Option Addr}{xs ys:List Value}(h:Own B1 e sz w A c n xs)(_:Own B2 e2 sz2 w A2 c2 n2 ys)(cY:A=none∨A.map (·.block)≠A2.map (·.block))
  (hA:A2'.map (·.block)=A2.map (·.block)∨∃g,A2'.map (·.block)=some g∧w.heap.size≤g):A=none∨A.map (·.block)≠A2'.map (·.block):=by
 rcases cY with cY|cY
 ·exact .inl cY
 ·rcases hA with hA|⟨g,hg,hz⟩
  ·exact .inr (by rw[hA];exact cY)
  ·cases A with
   |none=>exact .inl rfl
   |some a=>
    refine .inr fun e=>?_
    rw[hg]at e
    have:=h.QY (b:=g) e.symm
    omega
theorem PI{A A2:Option Addr}(h:A=none∨A.map (·.block)≠A2.map (·.block)):A2=none∨A2.map (·.block)≠A.map (·.block):=by
 rcases h with rfl|h
 ·cases A2 with
  |none=>exact .inl rfl
  |some a=>exact .inr (by simp)
 ·exact .inr fun e=>h e.symm
end
open Go.RowKit
def Cu(x:Tw):List Value:=[.int .i64 x.1,.int .i64 x.2.1,.bool x.2.2]
abbrev E1(x:Tw):Value:= .agg (Cu x).toArray
theorem sZ:C8 Cu 3:=⟨fun _=>rfl,fun x u hu=>by
 unfold Cu at hu
 rcases List.mem_cons.1 hu with rfl|hu
 ·rfl
 ·rcases List.mem_cons.1 hu with rfl|hu
  ·rfl
  ·rw[List.mem_singleton.1 hu];rfl⟩
theorem Kg{x y:Tw}(h:E1 x=E1 y):x=y:=by
 obtain⟨a,b,c⟩:=x
 obtain⟨a',b',c'⟩:=y
 simp[E1,Cu]at h
 obtain⟨rfl,rfl,rfl⟩:=h
 rfl
theorem PJ:laidOutB Tryz.prog=true:=by kernel_rfl
theorem xj:Maps.Keyed Tryz.prog 133:=Maps.Keyed.of_law (deep_law_laid PJ (m:=3) (by decide) (of_decide_eq_true (by kernel_rfl)) (by kernel_rfl) (by kernel_rfl))
def ze(x:Tw):Prop:=ug x.1∧ug x.2.1
theorem PK{x:Int}(h:ug x):(Lit.int .i64 x).wf=true:=by
 unfold ug at h
 simp[Lit.wf,IntKind.min,IntKind.max,IntKind.signed,IntKind.bits];omega
theorem EI{x:Tw}(hx:ze x):y0 Tryz.prog 133 (E1 x):=by
 have hs:Tryz.prog.types.size+1=(Tryz.prog.types.size-1)+1+1:=by
  have:1<Tryz.prog.types.size:=of_decide_eq_true (by kernel_rfl)
  omega
 obtain⟨n,hn⟩:∃n,Tryz.prog.types.size-1=n:=⟨_,rfl⟩
 rw[hn]at hs
 obtain⟨f0,f1,f2,hu,h0,h1,h2,o0,o1,o2,n0,n1,n2⟩:∃f0 f1 f2:Field,Tryz.prog.underlying 133=some (.struct #[f0,f1,f2])∧f0.type=3∧f1.type=3∧f2.type=4∧f0.offset=0∧f1.offset=1∧f2.offset=2∧(f0.name != "_")=true∧(f1.name != "_")=true∧(f2.name != "_")=true:=
  ⟨_,_,_,Tryz.underlying133,by kernel_rfl,by kernel_rfl,by kernel_rfl,by kernel_rfl,by kernel_rfl,by kernel_rfl,by kernel_rfl,by kernel_rfl,by kernel_rfl⟩
 have hk:Tryz.prog.keyType 133=true:=by kernel_rfl
 have hc3:Tryz.prog.cellsOf 133=3:=by kernel_rfl
 have hci:Tryz.prog.cellsOf 3=1:=by kernel_rfl
 have hcb:Tryz.prog.cellsOf 4=1:=by kernel_rfl
 have hui:Tryz.prog.underlying 3=some (.int .i64):=Tryz.underlying3
 have hub:Tryz.prog.underlying 4=some .bool:=Tryz.underlying4
 have hf:(E1 x).formed Tryz.prog 133=true:=by
  simp only[E1,Cu,Value.formed,hu,hc3,beq_iff_eq,List.size_toArray];rfl
 unfold y0 keyOf
 simp only[hu,hk,hf,Bool.and_self,if_true]
 refine⟨.string (keyBytes [.int .i64 x.1,.int .i64 x.2.1,.bool x.2.2]),?_⟩
 have:Tryz.prog.keyLits (Tryz.prog.types.size+1) 133 (E1 x).cells.toList=some [.int .i64 x.1,.int .i64 x.2.1,.bool x.2.2]:=by
  rw[hs]
  show Tryz.prog.keyLits (n+1+1) 133 (Cu x)=_
  unfold Program.keyLits
  simp only[hu,hc3,Cu,List.length_cons,List.length_nil,true_and]
  rw[if_pos (by simp[n0,n1,n2])]
  simp[h0,h1,h2,o0,o1,o2,hci,hcb,Program.keyLits,hui,hub,PK hx.1,PK hx.2]
 rw[this];rfl
def IN(h:Hd):Value:= .slice h.A h.l.length h.c
structure WV where
 a:MV
 m:aN
 A1:Option Addr
 c1:Nat
 seen:List Int
 A2:Option Addr
 c2:Nat
 av:List Int
def ed(v:WV)(dJ:List Hd)(gm:Nat)(Aw:Option Addr)(n cw:Nat):List Value:=
 v.a.cells v.m++([.slice v.A1 v.seen.length v.c1,.slice v.A2 v.av.length v.c2]++(dJ.map IN++[.map (some gm),.slice Aw n cw]))
section
variable {v:WV} {dJ:List Hd} {gm n cw:Nat} {Aw:Option Addr}
theorem ahV:(ed v dJ gm Aw n cw)[5]? =some (.slice v.A1 v.seen.length v.c1):=rfl
theorem ahW:(ed v dJ gm Aw n cw)[6]? =some (.slice v.A2 v.av.length v.c2):=rfl
theorem ahX:(ed v dJ gm Aw n cw)[1]? =some (.int .i64 v.m.events):=rfl
theorem PL{i:Nat}{h:Hd}(hi:dJ[i]? =some h):(ed v dJ gm Aw n cw)[7+i]? =some (IN h):=by
 have hl:=mI hi
 unfold ed
 rw[List.getElem?_append_right (by simp[MV.cells];omega)]
 rw[List.getElem?_append_right (by simp[MV.cells];omega)]
 simp only[MV.cells,List.length_cons,List.length_nil]
 rw[show 7+i-(0+1+1+1+1+1)-(0+1+1)=i by omega,List.getElem?_append_left (by simpa using hl),List.getElem?_map,hi];rfl
theorem Kh(ht:dJ.length=48):(ed v dJ gm Aw n cw)[55]? =some (.map (some gm)):=by
 unfold ed
 rw[List.getElem?_append_right (by simp[MV.cells]),List.getElem?_append_right (by simp[MV.cells]),List.getElem?_append_right (by simp[MV.cells,ht])]
 simp[MV.cells,ht]
theorem GG(ht:dJ.length=48):(ed v dJ gm Aw n cw)[56]? =some (.slice Aw n cw):=by
 unfold ed
 rw[List.getElem?_append_right (by simp[MV.cells]),List.getElem?_append_right (by simp[MV.cells]),List.getElem?_append_right (by simp[MV.cells,ht])]
 simp[MV.cells,ht]
theorem IP(ht:dJ.length=48)(gX:Option Addr)(n' jT:Nat):(ed v dJ gm Aw n cw).set 56 (.slice gX n' jT)=ed v dJ gm gX n' jT:=by
 unfold ed
 rw[List.set_append_right _ _ (by simp[MV.cells]),List.set_append_right _ _ (by simp[MV.cells]),List.set_append_right _ _ (by simp[MV.cells,ht])]
 simp[MV.cells,ht]
theorem PN{i:Nat}(hi:i<dJ.length)(h:Hd):(ed v dJ gm Aw n cw).set (7+i) (IN h)=ed v (dJ.set i h) gm Aw n cw:=by
 unfold ed
 rw[List.set_append_right _ _ (by simp[MV.cells];omega),List.set_append_right _ _ (by simp[MV.cells];omega)]
 simp only[MV.cells,List.length_cons,List.length_nil]
 rw[show 7+i-(0+1+1+1+1+1)-(0+1+1)=i by omega,List.set_append_left _ _ (by simpa using hi),←List.map_set]
theorem EJ(ht:dJ.length=48):(ed v dJ gm Aw n cw).length=57:=by
 unfold ed;simp[MV.cells,ht]
end
theorem aE.GH{P:Program}{K:Fr→World→Prop}{u w:World}{f:Fr}{d:Option Nat}{g t ty j:Nat}{cs:List Value}{v:Value}(h:aE u g t cs)(ht:aR P ty=some false)(hv:cs[j]? =some v):
  aq P K (Instr.loadAt ty (.pointer (some ⟨g,j,none⟩))) u f d w=K (ai f d v) w:=by
 have hj:=mI hv
 rw[h.ld ht j hj]
 rw[List.getD_eq_getElem?_getD,hv];rfl
theorem aE.ldE{P:Program}{K:Fr→World→Prop}{u w:World}{f:Fr}{d:Option Nat}{g t ty j et e:Nat}{cs:List Value}{v:Value}(h:aE u g t cs)(hT:P.underlying et=some (.slice e))(cY:t≠e)(ht:aR P ty=some false)(hv:cs[j]? =some v):
  Rk P K et (Instr.loadAt ty (.pointer (some ⟨g,j,none⟩))) u f d w=K (ai f d v) w:=
 Hx u f d w hT ht (a:=⟨g,j,none⟩) h (by rw[h.cell,hv]) cY
theorem dy.xk{P:Program}{t:Nat}{u w:World}(h:Below u.heap.size u w):dy P t u w:=⟨h.size,fun k hk _=>h.block k hk⟩
theorem dy.bQ{P:Program}{t e B sz c n:Nat}{u w:World}{A:Option Addr}{xs:List Value}(ho:Own B e sz u A c n xs)(hT:P.underlying t=some (.slice e))(hg:bJ u w A):dy P t u w:=
 ⟨hg.aJ.size,fun k hk cY=>hg.aJ.block k hk (by
  rcases ho.own.2 with⟨h0,_⟩|⟨g,cap,cur,hv,hB',hh,_⟩
  ·injection h0 with h0;subst h0;simp
  ·injection hv with hv
   subst hv
   simp only[Option.map_some,ne_eq,Option.some.injEq]
   rintro rfl
   exact cY _ _ _ hT hh)⟩
def PO(M:List (Tw×Nat)):List (Value×Value):=M.map fun p=>(E1 p.1,.int .i64 (p.2:Int))
theorem Ki{M:List (Tw×Nat)}{x:Tw}{v:Value}(h:(E1 x,v)∈PO M):∃n:Nat,(x,n)∈M∧v= .int .i64 (n:Int):=by
 obtain⟨p,hp,he⟩:=List.mem_map.1 h
 injection he with h1 h2
 rw[←Kg h1]
 exact⟨p.2,hp,h2.symm⟩
structure WS(B:Nat)(w:World)(g gm:Nat)(v:WV)(dJ:List Hd)(Aw:Option Addr)(cw:Nat)(M:List (Tw×Nat))(W:List Tw):Prop where
 Ab:aE w g 130 (ed v dJ gm Aw W.length cw)
 t48:dJ.length=48
 map:df Tryz.prog 133 w gm (PO M)
 row:bH Cu B 133 3 w Aw cw W
 dt:∀h∈dJ,Ints (GF [3] B w) w h.A h.l
 gB:B≤g
 Yu:B≤gm
theorem WS.below{B:Nat}{w w':World}{g gm:Nat}{v:WV}{dJ:List Hd}{Aw:Option Addr}{cw:Nat}{M:List (Tw×Nat)}{W:List Tw}(h:WS B w g gm v dJ Aw cw M W)(b:Below w.heap.size w w'):WS B w' g gm v dJ Aw cw M W:=
 ⟨h.Ab.below b h.Ab.lt,h.t48,h.map.below b h.map.lt,h.row.below b (Nat.le_refl _),fun x hx=>(h.dt x hx).eF (cj.below b),h.gB,h.Yu⟩
structure jU(g gm:Nat)(Aw:Option Addr)(w w':World):Prop where
 size:w.heap.size≤w'.heap.size
 at_:∀b,b<w.heap.size→b≠g→b≠gm→some b≠Aw.map (·.block)→w'.heap[b]? =w.heap[b]?
def iL(w:World)(Aw gX:Option Addr):Prop:=gX.map (·.block)=Aw.map (·.block)∨∃g',gX.map (·.block)=some g'∧w.heap.size≤g'
theorem jU.trans{g gm:Nat}{A A1:Option Addr}{w w1 w2:World}(h:jU g gm A w w1)(hm:iL w A A1)(k:jU g gm A1 w1 w2):jU g gm A w w2:=
 ⟨Nat.le_trans h.size k.size,fun b hb h1 h2 h3=>by
  have hs:=h.size
  rw[k.at_ b (by omega) h1 h2 ?_,h.at_ b hb h1 h2 h3]
  rcases hm with hm|⟨g',e,hg'⟩
  ·rw[hm];exact h3
  ·rw[e];intro e';injection e' with e';omega⟩
theorem iL.trans{A A1 A2:Option Addr}{w w1:World}(h:iL w A A1)(hs:w.heap.size≤w1.heap.size)(k:iL w1 A1 A2):iL w A A2:=by
 rcases k with k|⟨g',e,hg'⟩
 ·rcases h with h|⟨g2,e2,h2⟩
  ·exact .inl (k.trans h)
  ·exact .inr ⟨g2,k.trans e2,h2⟩
 ·exact .inr ⟨g',e,by omega⟩
theorem jU.below{g gm:Nat}{A:Option Addr}{w w1:World}(b:Below w.heap.size w w1):jU g gm A w w1:=⟨b.size,fun k hk _ _ _=>b.block k hk⟩
theorem iL.refl(w:World)(A:Option Addr):iL w A A:= .inl rfl
theorem jU.Ab{g gm q t:Nat}{A:Option Addr}{w w1:World}{cs:List Value}(h:jU g gm A w w1)(k:aE w q t cs)(h1:q≠g)(h2:q≠gm)(h3:some q≠A.map (·.block)):aE w1 q t cs:=k.keep (h.at_ q k.lt h1 h2 h3)
theorem cj.BP{es:List Nat}{B:Nat}{w w':World}{k gm:Nat}{kv:List (Value×Value)}(hm:df Tryz.prog k w gm kv)(hB:B≤gm)(hg:bJ w w' (some ⟨gm,0,none⟩)):cj es B w w':=
 ⟨hg.aJ.size,fun b hb=>hg.aJ.block b hb.1 (by
  simp only[Option.map_some,ne_eq,Option.some.injEq]
  rintro rfl
  obtain⟨ZL,clock,h1,_⟩:=hm
  rcases hb.2 with h2|⟨e,he,cs,r,h2⟩
  ·omega
  ·rw[h1]at h2;cases h2)⟩
theorem GI{M:List (Tw×Nat)}{x:Tw}(h:∀p∈PO M,p.1≠E1 x):∀p∈M,p.1≠x:=fun p hp e=>h (E1 p.1,.int .i64 (p.2:Int)) (List.mem_map.2 ⟨p,hp,rfl⟩) (by rw[e])
theorem Yv{M:List (Tw×Nat)}{j:Nat}{x:Tw}{n:Nat}(h:(PO M)[j]? =some (E1 x,.int .i64 (n:Int))):M[j]? =some (x,n):=by
 unfold PO at h
 rw[List.getElem?_map]at h
 cases hm:M[j]?with
 |none=>rw[hm]at h;cases h
 |some p=>
  rw[hm]at h
  injection h with h
  injection h with h1 h2
  have e1:=Kg h1
  injection h2 with _ h2
  have e2:p.2=n:=by omega
  rw[←e1,←e2]
theorem TY(M:List (Tw×Nat))(j:Nat)(x:Tw)(n:Nat):(PO M).set j (E1 x,.int .i64 (n:Int))=PO (M.set j (x,n)):=by unfold PO;rw[List.map_set]
theorem PQ(M:List (Tw×Nat))(x:Tw)(n:Nat):PO M++[(E1 x,.int .i64 (n:Int))]=PO (M++[(x,n)]):=by unfold PO;rw[List.map_append];rfl
theorem IQ(x:Tw):aL Tryz.prog 133=some (Cu x).length:=C5
theorem pw{B:Nat}{w:World}{g gm:Nat}{v:WV}{dJ:List Hd}{Aw:Option Addr}{cw:Nat}{M:List (Tw×Nat)}{W:List Tw}(h:WS B w g gm v dJ Aw cw M W)(hB:B≤w.heap.size)(hW:W.length≤100000)(hM:∀p∈M,ze p.1∧p.2≤1000){x:Tw}(hx:ze x){n:Nat}(hn:n≤1000):
  dw Tryz.prog 66 [.pointer (some ⟨g,0,none⟩),E1 x,.int .i64 n] w fun r w'=>∃(M':List (Tw×Nat)) (W':List Tw) (gX:Option Addr) (jT:Nat),r= .tuple #[]∧sX M W x n M' W'∧
   WS B w' g gm v dJ gX jT M' W'∧Below B w w'∧jU g gm Aw w w'∧iL w Aw gX:=by
 refine lW (by simp) 100000 fun Q hQ=>?_
 simp(disch:=omega)only[push_cast,aa,↓reduceIte,Nat.reduceEqDiff,Int.reduceEq,fP]
 have Z0:=h.Ab.lt
 have ac0:=h.map.lt
 have Yw:∀b,Aw.map (·.block)=some b→b<w.heap.size:=fun b hb=>h.row.QY hb.symm
 refine au (aO _ (Cu x)) ?_
 intro w1 k1 b1 z1
 replace h:=h.below b1
 have bb:Below B w w1:=b1.mono hB
 have d1:Same w1 w1.drew:=(Same.refl w1).drew
 replace h:=h.below (d1.below _)
 have k1c:=k1.same d1
 replace bb:=bb.trans (d1.below _)
 generalize hu:w1.drew=u at*
 have lmap:=fun{K f d w}=>h.Ab.GH (P:=Tryz.prog) (K:=K) (f:=f) (d:=d) (w:=w) (ty:=125) (by kernel_rfl) (Kh h.t48)
 have lx:=fun{w2:World} (k:aE w2 w.heap.size 133 (Cu x)) {K:Fr→World→Prop} {f:Fr} {d:Option Nat} {w:World}=>k.dC (P:=Tryz.prog) (K:=K) (f:=f) (d:=d) (w:=w) xR (IQ x)
 simp(disch:=omega)only[push_cast,aa,↓reduceIte,Nat.reduceEqDiff,Int.reduceEq,hu,lmap,lx k1c]
 have LM:Tryz.prog.underlying 125=some (.map 133 3):=Tryz.underlying125
 have XU:(Tryz.prog.info? 3).map (·.zero)=some (some (.int .i64 0)):=by kernel_rfl
 have Yx:g≠gm:=fun e=>by
  obtain⟨ZL,clock,h1,_⟩:=h.map
  have:=h.Ab
  unfold aE at this
  rw[e,h1]at this;cases this
 have hzu:w.heap.size≤u.heap.size:=by rw[←hu];exact b1.size
 refine ph xj LM XU true h.map (EI hx) (fun r hr=>?_) fun gY=>?_
 ·obtain⟨n',fN,rfl⟩:=Ki hr
  have qF:=(hM _ fN).2
  by_cases c:n'<n
  case neg=>
   have c':¬(n':Int)<(n:Int):=by omega
   simp(disch:=omega)only[push_cast,aa,↓reduceIte,Nat.reduceEqDiff,Int.reduceEq,c']
   exact qH (hQ _ _ ⟨M,W,Aw,cw,rfl,.no fN (by omega),h,bb,⟨hzu,fun b hb _ _ _=>by rw[←hu];exact b1.block b hb⟩,.inl rfl⟩)
  have c':(n':Int)<(n:Int):=by omega
  have d2:Same u u.drew:=(Same.refl u).drew
  have h2:=h.below (d2.below _)
  have k2:=k1c.same d2
  have BC:=bb.trans (d2.below _)
  have PR:=fun{K f d w}=>h2.Ab.GH (P:=Tryz.prog) (K:=K) (f:=f) (d:=d) (w:=w) (ty:=125) (by kernel_rfl) (Kh h.t48)
  simp(disch:=omega)only[push_cast,aa,↓reduceIte,Nat.reduceEqDiff,Int.reduceEq,c',PR,lx k2,nz]
  refine JC xj LM h2.map (EI hx) hr _ ?_
  intro j w3 hj m3 g3 z3
  rw[TY]at m3
  have Vy:=cj.BP (es:=[3]) (B:=B) h2.map h.Yu g3
  have B0:=h2.Ab.grown g3.aJ (by simpa using Yx)
  have CV:=h2.row.bQ g3 (by
   rcases h2.row.form with⟨h0,_⟩|⟨gg,h0,_⟩
   ·exact .inl h0
   ·exact .inr fun e=>h2.map.gG h2.row e.symm)
  have k3:=k2.grown g3.aJ (by simp;omega)
  have ot:=g3.below BC (by have:=BC.size;omega) (by intro a ha;injection ha with ha;subst ha;exact h.Yu)
  have z3':w.heap.size≤w3.heap.size:=by have:=g3.aJ.size;have:=(d2.below 0).size;omega
  have s3:Same w3 w3.drew:=(Same.refl w3).drew
  have IS:=B0.same s3
  have xl:=CV.same s3
  have k4:=k3.same s3
  have m4:=m3.same s3
  have kh:=ot.trans (s3.below _)
  have kt4:=Vy.trans (cj.same s3)
  generalize hu4:w3.drew=u4 at*
  have z4':w.heap.size≤u4.heap.size:=by have:=(s3.below 0).size;omega
  have lw:=fun{K f d w}=>IS.GH (P:=Tryz.prog) (K:=K) (f:=f) (d:=d) (w:=w) oX (GG h.t48)
  simp(disch:=omega)only[push_cast,aa,↓reduceIte,Nat.reduceEqDiff,Int.reduceEq,hu4,lw,lx k4,ea sZ wo _ (by decide)]
  refine⟨(Below.refl _ _).alloc (Nat.le_refl _) _,?_⟩
  refine dA sZ wo xl x (by omega) (by omega) (by have:=kh.size;omega) ?_
  intro gX jT w5 PU g5 hA5 hs5 LY
  have kt5:=kt4.trans (cj.bQ (es:=[3]) (B:=B) xl (Nat.le_refl _) (by decide) g5)
  have IT:=IS.grown g5.aJ (fun e=>xl.bG IS (by decide) e.symm)
  have m5:=m4.grown g5.aJ (m4.gG xl)
  have re:=g5.below kh (by have:=kh.size;omega) xl.uh
  have Yy:gm≠g:=fun e=>Yx e.symm
  simp(disch:=omega)only[push_cast,aa,↓reduceIte,Nat.reduceEqDiff,Int.reduceEq]
  refine cg IT (by kernel_rfl) 56 (by rw[EJ h.t48];decide) _ _ _ ?_
  intro w6 PW g6 z6
  rw[IP h.t48]at PW
  have Vo:(W++[x]).length=W.length+1:=by simp
  have kt6:=kt5.trans (cj.iJ (es:=[3]) (B:=B) IT h.gB (by decide) g6)
  have m6:=m5.grown g6.aJ (by simpa using Yy)
  have Yz:=PU.bQ g6 (.inr (PU.bG IT (by decide)))
  have CO:=g6.below re (by have:=re.size;omega) (by intro a ha;injection ha with ha;subst ha;exact h.gB)
  have PX:jU g gm Aw w w6:=⟨by have:=g6.aJ.size;have:=g5.aJ.size;omega,fun b hb h1 JQ h3=>by
   have e1:u.heap[b]? =w.heap[b]? :=by rw[←hu];exact b1.block b hb
   have e2:w3.heap[b]? =u.drew.heap[b]? :=g3.aJ.block b (by have:u.drew.heap.size=u.heap.size:=rfl;omega) (by simpa using JQ)
   have e4:u4.heap[b]? =w3.heap[b]? :=by rw[s3.heap]
   have e5:w5.heap[b]? =u4.heap[b]? :=g5.aJ.block b (by omega) h3
   have e6:w6.heap[b]? =w5.heap[b]? :=g6.aJ.block b (by have:=g5.aJ.size;omega) (by simpa using h1)
   rw[e6,e5,e4,e2];exact e1⟩
  have hmv:iL w Aw gX:=hA5.imp id fun⟨g',h1,h2⟩=>⟨g',h1,by omega⟩
  simp(disch:=omega)only[push_cast,aa,↓reduceIte,Nat.reduceEqDiff,Int.reduceEq]
  exact qH (hQ _ _ ⟨_,_,gX,jT,rfl,.more (Yv hj) c,⟨by rw[Vo];exact PW,h.t48,m6,Yz,fun hd hh=>(h2.dt hd hh).eF kt6,h.gB,h.Yu⟩,CO,PX,hmv⟩)
 ·have d2:Same u u.drew:=(Same.refl u).drew
  have h2:=h.below (d2.below _)
  have k2:=k1c.same d2
  have BC:=bb.trans (d2.below _)
  have PR:=fun{K f d w}=>h2.Ab.GH (P:=Tryz.prog) (K:=K) (f:=f) (d:=d) (w:=w) (ty:=125) (by kernel_rfl) (Kh h.t48)
  simp(disch:=omega)only[push_cast,aa,↓reduceIte,Nat.reduceEqDiff,Int.reduceEq,PR,lx k2,nz]
  refine tF xj LM h2.map (EI hx) gY _ ?_
  intro w3 m3 g3 z3
  rw[PQ]at m3
  have Vy:=cj.BP (es:=[3]) (B:=B) h2.map h.Yu g3
  have B0:=h2.Ab.grown g3.aJ (by simpa using Yx)
  have CV:=h2.row.bQ g3 (by
   rcases h2.row.form with⟨h0,_⟩|⟨gg,h0,_⟩
   ·exact .inl h0
   ·exact .inr fun e=>h2.map.gG h2.row e.symm)
  have k3:=k2.grown g3.aJ (by simp;omega)
  have ot:=g3.below BC (by have:=BC.size;omega) (by intro a ha;injection ha with ha;subst ha;exact h.Yu)
  have z3':w.heap.size≤w3.heap.size:=by have:=g3.aJ.size;have:=(d2.below 0).size;omega
  have s3:Same w3 w3.drew:=(Same.refl w3).drew
  have IS:=B0.same s3
  have xl:=CV.same s3
  have k4:=k3.same s3
  have m4:=m3.same s3
  have kh:=ot.trans (s3.below _)
  have kt4:=Vy.trans (cj.same s3)
  generalize hu4:w3.drew=u4 at*
  have z4':w.heap.size≤u4.heap.size:=by have:=(s3.below 0).size;omega
  have lw:=fun{K f d w}=>IS.GH (P:=Tryz.prog) (K:=K) (f:=f) (d:=d) (w:=w) oX (GG h.t48)
  simp(disch:=omega)only[push_cast,aa,↓reduceIte,Nat.reduceEqDiff,Int.reduceEq,hu4,lw,lx k4,ea sZ wo _ (by decide)]
  refine⟨(Below.refl _ _).alloc (Nat.le_refl _) _,?_⟩
  refine dA sZ wo xl x (by omega) (by omega) (by have:=kh.size;omega) ?_
  intro gX jT w5 PU g5 hA5 hs5 LY
  have kt5:=kt4.trans (cj.bQ (es:=[3]) (B:=B) xl (Nat.le_refl _) (by decide) g5)
  have IT:=IS.grown g5.aJ (fun e=>xl.bG IS (by decide) e.symm)
  have m5:=m4.grown g5.aJ (m4.gG xl)
  have re:=g5.below kh (by have:=kh.size;omega) xl.uh
  have Yy:gm≠g:=fun e=>Yx e.symm
  simp(disch:=omega)only[push_cast,aa,↓reduceIte,Nat.reduceEqDiff,Int.reduceEq]
  refine cg IT (by kernel_rfl) 56 (by rw[EJ h.t48];decide) _ _ _ ?_
  intro w6 PW g6 z6
  rw[IP h.t48]at PW
  have Vo:(W++[x]).length=W.length+1:=by simp
  have kt6:=kt5.trans (cj.iJ (es:=[3]) (B:=B) IT h.gB (by decide) g6)
  have m6:=m5.grown g6.aJ (by simpa using Yy)
  have Yz:=PU.bQ g6 (.inr (PU.bG IT (by decide)))
  have CO:=g6.below re (by have:=re.size;omega) (by intro a ha;injection ha with ha;subst ha;exact h.gB)
  have PX:jU g gm Aw w w6:=⟨by have:=g6.aJ.size;have:=g5.aJ.size;omega,fun b hb h1 JQ h3=>by
   have e1:u.heap[b]? =w.heap[b]? :=by rw[←hu];exact b1.block b hb
   have e2:w3.heap[b]? =u.drew.heap[b]? :=g3.aJ.block b (by have:u.drew.heap.size=u.heap.size:=rfl;omega) (by simpa using JQ)
   have e4:u4.heap[b]? =w3.heap[b]? :=by rw[s3.heap]
   have e5:w5.heap[b]? =u4.heap[b]? :=g5.aJ.block b (by omega) h3
   have e6:w6.heap[b]? =w5.heap[b]? :=g6.aJ.block b (by have:=g5.aJ.size;omega) (by simpa using h1)
   rw[e6,e5,e4,e2];exact e1⟩
  have hmv:iL w Aw gX:=hA5.imp id fun⟨g',h1,h2⟩=>⟨g',h1,by omega⟩
  simp(disch:=omega)only[push_cast,aa,↓reduceIte,Nat.reduceEqDiff,Int.reduceEq]
  exact qH (hQ _ _ ⟨_,_,gX,jT,rfl,.new (GI gY),⟨by rw[Vo];exact PW,h.t48,m6,Yz,fun hd hh=>(h2.dt hd hh).eF kt6,h.gB,h.Yu⟩,CO,PX,hmv⟩)
open Go.RowKit
def dH(n:Nat)(ls:List (Tw×Bool)):List (Tw×Nat):=ls.map fun p=>(p.1,n+vL p.2)
theorem jV(n:Nat)(a:List (Tw×Bool)):(dH n a).length=a.length:=List.length_map _
theorem sX.all{P:Tw×Nat→Prop}{M M':List (Tw×Nat)}{W W':List Tw}{x:Tw}{n:Nat}(h:sX M W x n M' W')(h0:∀p∈M,P p)(h1:P (x,n)):∀p∈M',P p:=by
 cases h with
 |no _ _=>exact h0
 |new _=>intro p hp;rcases List.mem_append.1 hp with hp|hp;exact h0 p hp;rw[List.mem_singleton.1 hp];exact h1
 |more _ _=>intro p hp;rcases List.mem_or_eq_of_mem_set hp with hp|rfl;exact h0 p hp;exact h1
theorem sX.len{M M':List (Tw×Nat)}{W W':List Tw}{x:Tw}{n:Nat}(h:sX M W x n M' W'):W'.length≤W.length+1:=by
 cases h<;>simp
def WOk(M:List (Tw×Nat)):Prop:=∀p∈M,ze p.1∧p.2≤1000
def Vz(m:aN)(dJ:List Hd):Prop:=∀s e:Nat,s<6→e<8→∃h:Hd,dJ[s*8+e]? =some h∧h.l=cb m [(s:Int)] (e:Int)
theorem EK{m:aN}(hm:m.bZ){x:Tw}(h:PH m x):ze x:=by
 have:=hm.2.1
 obtain⟨⟨h1,h2⟩,h3,h4⟩:=h
 unfold ze ug;omega
theorem TZ:iE Tryz.prog 133=some ([(0,1),(1,1),(2,1)],[.int .i64 0,.int .i64 0,.bool false]):=by kernel_rfl
theorem B8{K:Fr→World→Prop}{u:World}{f:Fr}{d:Option Nat}{w:World}(x y:Int)(b:Bool):
  aq Tryz.prog K (Instr.build 133 #[(0,.int .i64 x),(1,.int .i64 y),(2,.bool b)]) u f d w=K (ai f d (E1 (x,y,b))) w:=by
 have:=Js (P:=Tryz.prog) (K:=K) (u:=u) (f:=f) (d:=d) (w:=w) TZ rfl rfl rfl rfl (v0:= .int .i64 x) (v1:= .int .i64 y) (v2:= .bool b) rfl rfl rfl
 rw[this];rfl
section
variable {K:Fr→World→Prop} {u w:World} {f:Fr} {d:Option Nat} {g t:Nat} {x:Tw}
theorem aE.tw0(h:aE u g t (Cu x)):aq Tryz.prog K (Instr.loadAt 3 (.pointer (some ⟨g,0,none⟩))) u f d w=K (ai f d (.int .i64 x.1)) w:=h.GH ak (j:=0) rfl
theorem aE.tw1(h:aE u g t (Cu x)):aq Tryz.prog K (Instr.loadAt 3 (.pointer (some ⟨g,1,none⟩))) u f d w=K (ai f d (.int .i64 x.2.1)) w:=h.GH ak (j:=1) rfl
theorem aE.YA(h:aE u g t (Cu x)):aq Tryz.prog K (Instr.loadAt 4 (.pointer (some ⟨g,2,none⟩))) u f d w=K (ai f d (.bool x.2.2)) w:=h.GH Jj (j:=2) rfl
end
structure GS(B:Nat)(w0:World)(A0:Option Addr)(w:World)(g gm q:Nat)(v:WV)(dJ:List Hd)(x:Tw)(M0:List (Tw×Nat))(W0:List Tw)(Aw:Option Addr)(cw:Nat)(M:List (Tw×Nat))(W:List Tw)(cs:List (Tw×Nat)):Prop where
 ws:WS B w g gm v dJ Aw cw M W
 tw:aE w q 133 (Cu x)
 L4:some q≠Aw.map (·.block)
 cm:Comes M0 W0 cs M W
 ok:WOk M
 len:W.length≤W0.length+cs.length
 keep:jU g gm A0 w0 w
 mv:iL w0 A0 Aw
theorem GS.below{B:Nat}{w0:World}{A0:Option Addr}{w w':World}{g gm q:Nat}{v:WV}{dJ:List Hd}{x:Tw}{M0:List (Tw×Nat)}{W0:List Tw}{Aw:Option Addr}{cw:Nat}{M:List (Tw×Nat)}{W:List Tw}{cs:List (Tw×Nat)}(h:GS B w0 A0 w g gm q v dJ x M0 W0 Aw cw M W cs)(b:Below w.heap.size w w'):GS B w0 A0 w' g gm q v dJ x M0 W0 Aw cw M W cs:=
 ⟨h.ws.below b,h.tw.below b h.tw.lt,h.L4,h.cm,h.ok,h.len,h.keep.trans h.mv (jU.below b),h.mv⟩
theorem GS.L5{B:Nat}{w0:World}{A0:Option Addr}{w w':World}{g gm q:Nat}{v:WV}{dJ:List Hd}{x:Tw}{M0:List (Tw×Nat)}{W0:List Tw}{Aw gX:Option Addr}{cw jT:Nat}{M M':List (Tw×Nat)}{W W':List Tw}{cs:List (Tw×Nat)}(h:GS B w0 A0 w g gm q v dJ x M0 W0 Aw cw M W cs)(hq:q≠g)(ub:q≠gm)
  {y:Tw}{n:Nat}(hc:sX M W y n M' W')(FG:WS B w' g gm v dJ gX jT M' W')(hk:jU g gm Aw w w')(hm:iL w Aw gX)(hy:ze y)(hn:n≤1000):GS B w0 A0 w' g gm q v dJ x M0 W0 gX jT M' W' (cs++[(y,n)]):=by
 refine⟨FG,h.tw.keep (hk.at_ q h.tw.lt hq ub h.L4),?_,h.cm.snoc hc,hc.all h.ok ⟨hy,hn⟩,by have:=hc.len;have:=h.len;rw[List.length_append,List.length_singleton];omega,h.keep.trans h.mv hk,h.mv.trans h.keep.size hm⟩
 rcases hm with hm|⟨g',h1,h2⟩
 ·rw[hm];exact h.L4
 ·rw[h1]
  have:=h.tw.lt
  intro e;injection e with e;omega
set_option maxHeartbeats 1000000 in
theorem PY{B:Nat}{w:World}{g gm:Nat}{v:WV}{dJ:List Hd}{Aw:Option Addr}{cw:Nat}{M:List (Tw×Nat)}{W:List Tw}(h:WS B w g gm v dJ Aw cw M W)(hB:B≤w.heap.size)(hW:W.length≤90000)(hM:WOk M)
  (p1:v.m.bZ)(p3:v.m.aj≤6)(h1:Ints (·<B) w v.A1 v.seen)(n1:v.seen.length≤17592186043904)(h2:Ints (·<B) w v.A2 v.av)(n2:v.av.length≤17592186043904)(hto:Vz v.m dJ){x:Tw}(hx:PH v.m x){n:Nat}(hn:n≤900):
  dw Tryz.prog 67 [.pointer (some ⟨g,0,none⟩),E1 x,.int .i64 n] w fun r w'=>∃(M':List (Tw×Nat)) (W':List Tw) (gX:Option Addr) (jT:Nat),r= .tuple #[]∧
   Comes M W (dH n (iK v.m v.seen v.av x v.m.events.toNat)) M' W'∧WS B w' g gm v dJ gX jT M' W'∧WOk M'∧Below B w w'∧jU g gm Aw w w'∧iL w Aw gX∧W'.length≤W.length+288:=by
 have ev0:0≤v.m.events:=p1.2.2.1
 have ev8:v.m.events≤8:=p1.2.2.2.1
 have OC:=EK p1 hx
 refine mP (by simp) 100000 fun Q hQ=>?_
 simp(disch:=omega)only[push_cast,aa,↓reduceIte,Nat.reduceEqDiff,Int.reduceEq,gI]
 have Z0:=h.Ab.lt
 have ac0:=h.map.lt
 have Yw:some w.heap.size≠Aw.map (·.block):=fun e=>by have:=h.row.QY e;omega
 refine au (aO _ (Cu x)) ?_
 intro w1 k1 b1 z1
 have G0:GS B w Aw w1 g gm w.heap.size v dJ x M W Aw cw M W []:=⟨h.below b1,k1,Yw,.nil,hM,by simp,jU.below b1,iL.refl _ _⟩
 have bb:Below B w w1:=b1.mono hB
 have BE:w.heap.size≠g:=by omega
 have ub:w.heap.size≠gm:=by omega
 have lev:=fun{K f d w}=>G0.ws.Ab.GH (P:=Tryz.prog) (K:=K) (f:=f) (d:=d) (w:=w) ak ahX
 have akU:n+vL x.2.2≤901:=by have:=II x.2.2;omega
 have YB:(x.2.2=true∧((n:Int)+1=((n+vL x.2.2:Nat):Int)))∨(x.2.2=false∧((n:Int)=((n+vL x.2.2:Nat):Int))):=by
  cases hf:x.2.2
  ·exact .inr ⟨rfl,by simp[vL]⟩
  ·exact .inl ⟨rfl,by simp[vL]⟩
 rcases YB with⟨hf,PZ⟩|⟨hf,PZ⟩
 case' inl=>simp(disch:=omega)only[push_cast,aa,↓reduceIte,Nat.reduceEqDiff,Int.reduceEq,k1.YA,hf,lev]
 case' inr=>simp(disch:=omega)only[push_cast,aa,↓reduceIte,Nat.reduceEqDiff,Int.reduceEq,k1.YA,hf,lev]
 all_goals
  refine ax (fun f w'=>∃(k:Nat) (M':List (Tw×Nat)) (W':List Tw) (gX:Option Addr) (jT:Nat),k≤v.m.events.toNat∧(f 0= .pointer (some ⟨g,0,none⟩)∧f 2= .int .i64 n∧f 4= .pointer (some ⟨w.heap.size,0,none⟩)∧f 6= .int .i64 ((n+vL x.2.2:Nat):Int)∧f 29= .int .i64 v.m.events∧f 30= .int .i64 k)∧
    GS B w Aw w' g gm w.heap.size v dJ x M W gX jT M' W' (dH n (iK v.m v.seen v.av x k))∧Below B w w')
   (fun f _=>v.m.events.toNat-(intOf (f 30)).toNat) ⟨0,M,W,Aw,cw,Nat.zero_le _,⟨rfl,rfl,rfl,by rw[←PZ];rfl,rfl,rfl⟩,G0,bb⟩ ?_
  clear G0 k1 lev bb b1 h z1 Yw PZ hf
  clear hM
  rintro f w2 ⟨k,M',W',gX,jT,hk,fr,G,bb⟩ J hJ
  have gZ:(intOf (f 30)).toNat=k:=by rw[fr.2.2.2.2.2];simp[intOf]
  by_cases aI:(k:Int)<v.m.events
  case neg=>
   obtain rfl:k=v.m.events.toNat:=by omega
   simp(disch:=omega)only[push_cast,aa,↓reduceIte,Nat.reduceEqDiff,Int.reduceEq,dP,fr,aI]
   exact qH (hQ _ _ ⟨M',W',gX,jT,rfl,G.cm,G.ws,G.ok,bb,G.keep,G.mv,by have:=G.len;rw[jV]at this;have:=vC p1 p3 v.seen v.av x v.m.events.toNat;omega⟩)
  have dd:Same w2 w2.drew:=(Same.refl w2).drew
  replace G:=G.below (dd.below _)
  replace bb:=bb.trans (dd.below _)
  generalize YC:w2.drew=u at*
  have i1:=h1.below bb
  have i2:=h2.below bb
  have l5:=fun{K f d w}=>G.ws.Ab.GH (P:=Tryz.prog) (K:=K) (f:=f) (d:=d) (w:=w) aS ahV
  have l6:=fun{K f d w}=>G.ws.Ab.GH (P:=Tryz.prog) (K:=K) (f:=f) (d:=d) (w:=w) aS ahW
  simp(disch:=omega)only[push_cast,aa,↓reduceIte,Nat.reduceEqDiff,Int.reduceEq,dP,fr,aI,YC,l5,l6]
  refine ah (nt i1 v.c1 (k:Int) (by omega)) ?_
  rintro r w3 ⟨rfl,s3⟩
  simp(disch:=omega)only[push_cast,aa,↓reduceIte,Nat.reduceEqDiff,Int.reduceEq,fr]
  refine⟨s3.below _,?_⟩
  refine ah (nt (i2.same s3) v.c2 (k:Int) (by omega)) ?_
  rintro r w4 ⟨rfl,s4⟩
  have s34:=s3.trans s4
  simp(disch:=omega)only[push_cast,aa,↓reduceIte,Nat.reduceEqDiff,Int.reduceEq,fr]
  refine⟨s34.below _,?_⟩
  clear l5 l6 i1 i2 dd
  replace G:=(G.below (s34.below _)).below ((Same.refl w4).drew.below _)
  replace bb:=(bb.trans (s34.below _)).trans ((Same.refl w4).drew.below _)
  generalize YD:w4.drew=u4 at*
  clear s3 s4 s34
  have fN:=hx
  obtain⟨⟨a1,a2⟩,a3,a4⟩:=fN
  obtain⟨s,hs⟩:∃s:Nat,x.1=(s:Int):=⟨x.1.toNat,by omega⟩
  obtain⟨s',hs'⟩:∃s:Nat,x.2.1=(s:Int):=⟨x.2.1.toNat,by omega⟩
  have ZV:k<8:=by omega
  obtain⟨ha,ME,hal⟩:=hto s k (by omega) ZV
  obtain⟨hb,hbt,hbl⟩:=hto s' k (by omega) ZV
  rw[←hs]at hal
  rw[←hs']at hbl
  have la:=fun{K f d w}=>G.ws.Ab.GH (P:=Tryz.prog) (K:=K) (f:=f) (d:=d) (w:=w) aS (PL ME)
  have lb:=fun{K f d w}=>G.ws.Ab.GH (P:=Tryz.prog) (K:=K) (f:=f) (d:=d) (w:=w) aS (PL hbt)
  have hs6:s<6:=by omega
  have ah5:s'<6:=by omega
  have t0:=fun{K f d w}=>G.tw.tw0 (K:=K) (f:=f) (d:=d) (w:=w)
  have t1:=fun{K f d w}=>G.tw.tw1 (K:=K) (f:=f) (d:=d) (w:=w)
  rw[hs]at t0
  rw[hs']at t1
  simp only[←Nat.add_assoc,IN]at la lb
  have ac5:=List.mem_of_getElem? ME
  have ac6:=List.mem_of_getElem? hbt
  have sA:=tR p1 p3 [x.1] (k:Int)
  have sB:=tR p1 p3 [x.2.1] (k:Int)
  have ac7:iK v.m v.seen v.av x (k+1)=iK v.m v.seen v.av x k++mJ v.m v.seen v.av x (k:Int):=zc _ _ _ _ _
  have Hi:=vC p1 p3 v.seen v.av x k
  have hyA:∀y∈cb v.m [x.1] (k:Int),ug y:=fun y hy=>by have:=fw p1 _ _ y hy;have:=p1.2.1;unfold ug;omega
  have hyB:∀y∈CU v.m v.av x (k:Int),ug y:=fun y hy=>by
   unfold CU at hy
   split at hy
   ·exact absurd hy (by simp)
   ·have:=fw p1 _ _ y hy;have:=p1.2.1;unfold ug;omega
  obtain⟨bs,hbs⟩:∃bs:List Int,bs=CU v.m v.av x (k:Int):=⟨_,rfl⟩
  have hle:mJ v.m v.seen v.av x (k:Int)=if(k:Int)∈v.seen then(cb v.m [x.1] (k:Int)).flatMap fun a=>bs.map fun b=>((a,b,x.2.2),x.2.2)else(cb v.m [x.1] (k:Int)).map (fun a=>((a,x.2.1,x.2.2||decide ((k:Int)∈v.av)),x.2.2))++bs.map fun b=>((x.1,b,x.2.2),false):=by rw[hbs];rfl
  rw[←hbs]at hyB
  have nbs:bs.length≤6:=by rw[hbs];unfold CU;split;exact Nat.zero_le _;exact sB
  have iA:∀{w':World} {gX:Option Addr} {jT:Nat} {M':List (Tw×Nat)} {W':List Tw} {cs:List (Tw×Nat)},GS B w Aw w' g gm w.heap.size v dJ x M W gX jT M' W' cs→Ints (GF [3] B w') w' ha.A (cb v.m [x.1] (k:Int)):=fun G=>hal▸G.ws.dt ha ac5
  have iB0:∀{w':World} {gX:Option Addr} {jT:Nat} {M':List (Tw×Nat)} {W':List Tw} {cs:List (Tw×Nat)},GS B w Aw w' g gm w.heap.size v dJ x M W gX jT M' W' cs→Ints (GF [3] B w') w' hb.A (cb v.m [x.2.1] (k:Int)):=fun G=>hbl▸G.ws.dt hb ac6
  rw[hal]at la
  rw[hbl]at lb
  have hxI:=OC
  simp(disch:=omega)only[push_cast,aa,↓reduceIte,Nat.reduceEqDiff,Int.reduceEq,fr,YD,hs6,ah5,ZV,t0,t1,la,lb]
  generalize an0:iK v.m v.seen v.av x k=l0 at*
  generalize cb v.m [x.1] (k:Int)=iW at*
  have hsp:((k:Int)∈v.av∧bs=[])∨((k:Int)∉v.av∧bs=cb v.m [x.2.1] (k:Int)):=by
   by_cases c:(k:Int)∈v.av
   ·exact .inl ⟨c,by rw[hbs];exact if_pos c⟩
   ·exact .inr ⟨c,by rw[hbs];exact if_neg c⟩
  have hfx:decide ((k:Int)∈v.av)=decide ((k:Int)∈v.av):=rfl
  rcases hsp with⟨c,Xt⟩|⟨c,Xt⟩
  case' inl=>
   obtain⟨Bz,cz,h14,iB⟩:∃(Bz:Option Addr) (cz:Nat),Value.slice none 0 0= .slice Bz bs.length cz∧∀{w':World} {gX:Option Addr} {jT:Nat} {M':List (Tw×Nat)} {W':List Tw} {cs:List (Tw×Nat)},GS B w Aw w' g gm w.heap.size v dJ x M W gX jT M' W' cs→Ints (GF [3] B w') w' Bz bs:=⟨none,0,by rw[Xt];rfl,fun _=>by rw[Xt];exact Ints.nil _ _ _⟩
   simp(disch:=omega)only[push_cast,aa,↓reduceIte,Nat.reduceEqDiff,Int.reduceEq,decide_eq_true c,fr]
  case' inr=>
   obtain⟨Bz,cz,h14,iB⟩:∃(Bz:Option Addr) (cz:Nat),Value.slice hb.A (cb v.m [x.2.1] (k:Int)).length hb.c= .slice Bz bs.length cz∧∀{w':World} {gX:Option Addr} {jT:Nat} {M':List (Tw×Nat)} {W':List Tw} {cs:List (Tw×Nat)},GS B w Aw w' g gm w.heap.size v dJ x M W gX jT M' W' cs→Ints (GF [3] B w') w' Bz bs:=⟨hb.A,hb.c,by rw[Xt],fun G=>by rw[Xt];exact iB0 G⟩
   simp(disch:=omega)only[push_cast,aa,↓reduceIte,Nat.reduceEqDiff,Int.reduceEq,decide_eq_false c,fr]
  all_goals
   have hfd:=c
   by_cases c5:(k:Int)∈v.seen
   case pos=>
    rw[if_pos c5]at hle
    simp(disch:=omega)only[push_cast,aa,↓reduceIte,Nat.reduceEqDiff,Int.reduceEq,decide_eq_true c5,fr]
    generalize hgf:(fun a:Int=>bs.map fun b=>(((a,b,x.2.2):Tw),x.2.2))=gf at hle
    have hgl:∀a,(gf a).length=bs.length:=fun a=>by rw[←hgf];simp
    have hfl:∀i,((iW.take i).flatMap gf).length≤36:=fun i=>by
     have:∀l:List Int,(l.flatMap gf).length=l.length*bs.length:=fun l=>by
      induction l with
      |nil=>simp
      |cons a l ih=>rw[List.flatMap_cons,List.length_append,ih,hgl,List.length_cons,Nat.succ_mul];omega
     rw[this]
     have h6:(iW.take i).length≤6:=by rw[List.length_take];omega
     exact Nat.mul_le_mul h6 nbs
    refine ax (fun f' w'=>∃(i:Nat) (M':List (Tw×Nat)) (W':List Tw) (gX:Option Addr) (jT:Nat),i≤iW.length∧(f' 0= .pointer (some ⟨g,0,none⟩)∧f' 2= .int .i64 n∧f' 4= .pointer (some ⟨w.heap.size,0,none⟩)∧f' 6= .int .i64 ((n+vL x.2.2:Nat):Int)∧f' 29= .int .i64 v.m.events∧f' 30= .int .i64 k∧f' 9= .bool (decide ((k:Int)∈v.av))∧f' 10= .slice ha.A iW.length ha.c∧f' 11= .slice Bz bs.length cz∧f' 65= .slice ha.A iW.length ha.c∧f' 66= .int .i64 iW.length∧f' 67= .int .i64 i)∧
     GS B w Aw w' g gm w.heap.size v dJ x M W gX jT M' W' (dH n (l0++(iW.take i).flatMap gf))∧Below B w w')
     (fun f' _=>iW.length-(intOf (f' 67)).toNat) ⟨0,M',W',gX,jT,Nat.zero_le _,(by simp only[push_cast,↓reduceIte,Nat.reduceEqDiff,true_and,and_true,and_self,eq_self,fr,fr,h14,c,decide_true,decide_false]),by simpa using G,bb⟩ ?_
    clear fr G bb la lb t0 t1 YD YC
    rintro f w3 ⟨i,M',W',gX,jT,hi,fr,G,bb⟩ J2 jH
    have ob:(intOf (f 67)).toNat=i:=by rw[fr.2.2.2.2.2.2.2.2.2.2.2];simp[intOf]
    by_cases nG:i<iW.length
    case neg=>
     obtain rfl:i=iW.length:=by omega
     rw[List.take_length,←hle,←ac7]at G
     simp(disch:=omega)only[push_cast,aa,↓reduceIte,Nat.reduceEqDiff,Int.reduceEq,dO,fr,Int.lt_irrefl]
     exact hJ _ _ ⟨k+1,M',W',gX,jT,by omega,(by simp only[push_cast,↓reduceIte,Nat.reduceEqDiff,true_and,and_true,and_self,eq_self,fr]),G,bb⟩ (by rw[gZ];simp only[push_cast,↓reduceIte,Nat.reduceEqDiff,intOf,fr];omega)
    have T0:(i:Int)<(iW.length:Int):=by omega
    have hfi:=hfl i
    have iA3:=iA G
    have sA3:=iA3.isSome (by omega)
    have lai:=fun{K f d w}=>iA3.ld (P:=Tryz.prog) (K:=K) (f:=f) (d:=d) (w:=w) ak i nG
    simp(disch:=omega)only[push_cast,aa,↓reduceIte,Nat.reduceEqDiff,Int.reduceEq,dO,fr,T0,nG,lai]
    refine ax (fun f' w'=>∃(j:Nat) (M':List (Tw×Nat)) (W':List Tw) (gX:Option Addr) (jT:Nat),j≤bs.length∧(f' 0= .pointer (some ⟨g,0,none⟩)∧f' 2= .int .i64 n∧f' 4= .pointer (some ⟨w.heap.size,0,none⟩)∧f' 6= .int .i64 ((n+vL x.2.2:Nat):Int)∧f' 29= .int .i64 v.m.events∧f' 30= .int .i64 k∧f' 9= .bool (decide ((k:Int)∈v.av))∧f' 10= .slice ha.A iW.length ha.c∧f' 11= .slice Bz bs.length cz∧f' 65= .slice ha.A iW.length ha.c∧f' 66= .int .i64 iW.length∧f' 67= .int .i64 i∧f' 13= .int .i64 (iW.getD i 0)∧f' 71= .slice Bz bs.length cz∧f' 72= .int .i64 bs.length∧f' 73= .int .i64 j)∧
     GS B w Aw w' g gm w.heap.size v dJ x M W gX jT M' W' (dH n (l0++((iW.take i).flatMap gf++(bs.take j).map fun b=>(((iW.getD i 0,b,x.2.2):Tw),x.2.2))))∧Below B w w')
     (fun f' _=>bs.length-(intOf (f' 73)).toNat) ⟨0,M',W',gX,jT,Nat.zero_le _,(by simp only[push_cast,↓reduceIte,Nat.reduceEqDiff,true_and,and_true,and_self,eq_self,fr,fr]),by simpa using G,bb⟩ ?_
    clear fr G bb lai iA3 sA3
    rintro f w3 ⟨j,M',W',gX,jT,hj,fr,G,bb⟩ J3 QX
    have YE:(intOf (f 73)).toNat=j:=by rw[fr.2.2.2.2.2.2.2.2.2.2.2.2.2.2.2];simp[intOf]
    by_cases mw:j<bs.length
    case neg=>
     obtain rfl:j=bs.length:=by omega
     have uF:((iW.take i).flatMap gf++(bs.take bs.length).map fun b=>(((iW.getD i 0,b,x.2.2):Tw),x.2.2))=(iW.take (i+1)).flatMap gf:=by
      rw[bS iW 0 i nG,List.flatMap_append,List.take_length,←hgf];simp
     rw[uF]at G
     simp(disch:=omega)only[push_cast,aa,↓reduceIte,Nat.reduceEqDiff,Int.reduceEq,dN,fr,Int.lt_irrefl]
     exact jH _ _ ⟨i+1,M',W',gX,jT,by omega,(by simp only[push_cast,↓reduceIte,Nat.reduceEqDiff,true_and,and_true,and_self,eq_self,fr]),G,bb⟩ (by rw[ob];simp only[push_cast,↓reduceIte,Nat.reduceEqDiff,intOf,fr];omega)
    have P0:(j:Int)<(bs.length:Int):=by omega
    have uF:dH n (l0++((iW.take i).flatMap gf++(bs.take (j+1)).map fun b=>(((iW.getD i 0,b,x.2.2):Tw),x.2.2)))=dH n (l0++((iW.take i).flatMap gf++(bs.take j).map fun b=>(((iW.getD i 0,b,x.2.2):Tw),x.2.2)))++[((iW.getD i 0,bs.getD j 0,x.2.2),n+vL x.2.2)]:=by
     rw[bS bs 0 j mw];simp[dH]
    have VA:(l0++((iW.take i).flatMap gf++(bs.take j).map fun b=>(((iW.getD i 0,b,x.2.2):Tw),x.2.2))).length≤1000:=by rw[List.length_append,List.length_append,List.length_map,List.length_take];omega
    have iB3:=iB G
    have sB3:=iB3.isSome (by omega)
    have lbj:=fun{K f d w}=>iB3.ld (P:=Tryz.prog) (K:=K) (f:=f) (d:=d) (w:=w) ak j mw
    have t2':=fun{K f d w}=>G.tw.YA (K:=K) (f:=f) (d:=d) (w:=w)
    have YF:=hyA _ (bY iW 0 i nG)
    have QW:=hyB _ (bY bs 0 j mw)
    simp(disch:=omega)only[push_cast,aa,↓reduceIte,Nat.reduceEqDiff,Int.reduceEq,dN,fr,P0,mw,lbj,t2',B8]
    refine ah (pw G.ws (by have:=bb.size;omega) (by have:=G.len;rw[jV]at this;omega) G.ok (x:=(iW.getD i 0,bs.getD j 0,x.2.2)) (⟨YF,QW⟩) (n:=n+vL x.2.2) (by omega)) ?_
    rintro r w5 ⟨M2,W2,T1,T2,rfl,hc,FG,b5,YG,MQ⟩
    have G2:=G.L5 BE ub hc FG YG MQ (⟨YF,QW⟩) (by omega)
    have re:Below B w w5:=bb.trans b5
    simp(disch:=omega)only[push_cast,aa,↓reduceIte,Nat.reduceEqDiff,Int.reduceEq,fr]
    exact QX _ _ ⟨j+1,M2,W2,T1,T2,by omega,(by simp only[push_cast,↓reduceIte,Nat.reduceEqDiff,true_and,and_true,and_self,eq_self,fr]),by rw[uF];exact G2,re⟩ (by rw[YE];simp only[push_cast,↓reduceIte,Nat.reduceEqDiff,intOf,fr];omega)
   case neg=>
    rw[if_neg c5]at hle
    simp(disch:=omega)only[push_cast,aa,↓reduceIte,Nat.reduceEqDiff,Int.reduceEq,decide_eq_false c5,fr]
    refine ax (fun f' w'=>∃(i:Nat) (M':List (Tw×Nat)) (W':List Tw) (gX:Option Addr) (jT:Nat),i≤iW.length∧(f' 0= .pointer (some ⟨g,0,none⟩)∧f' 2= .int .i64 n∧f' 4= .pointer (some ⟨w.heap.size,0,none⟩)∧f' 6= .int .i64 ((n+vL x.2.2:Nat):Int)∧f' 29= .int .i64 v.m.events∧f' 30= .int .i64 k∧f' 9= .bool (decide ((k:Int)∈v.av))∧f' 10= .slice ha.A iW.length ha.c∧f' 11= .slice Bz bs.length cz∧f' 87= .slice ha.A iW.length ha.c∧f' 88= .int .i64 iW.length∧f' 89= .int .i64 i)∧
     GS B w Aw w' g gm w.heap.size v dJ x M W gX jT M' W' (dH n (l0++(iW.take i).map (fun a=>(((a,x.2.1,x.2.2||decide ((k:Int)∈v.av)):Tw),x.2.2))))∧Below B w w')
     (fun f' _=>iW.length-(intOf (f' 89)).toNat) ⟨0,M',W',gX,jT,Nat.zero_le _,(by simp only[push_cast,↓reduceIte,Nat.reduceEqDiff,true_and,and_true,and_self,eq_self,fr,fr,h14,c,decide_true,decide_false]),by simpa using G,bb⟩ ?_
    clear fr G bb la lb t0 t1 YD YC
    rintro f w3 ⟨i,M',W',gX,jT,hi,fr,G,bb⟩ J2 jH
    have ob:(intOf (f 89)).toNat=i:=by rw[fr.2.2.2.2.2.2.2.2.2.2.2];simp[intOf]
    by_cases nG:i<iW.length
    case pos=>
     have T0:(i:Int)<(iW.length:Int):=by omega
     have uF:dH n (l0++(iW.take (i+1)).map (fun a=>(((a,x.2.1,x.2.2||decide ((k:Int)∈v.av)):Tw),x.2.2)))=dH n (l0++(iW.take i).map (fun a=>(((a,x.2.1,x.2.2||decide ((k:Int)∈v.av)):Tw),x.2.2)))++[((iW.getD i 0,x.2.1,x.2.2||decide ((k:Int)∈v.av)),n+vL x.2.2)]:=by
      rw[bS iW 0 i nG];simp[dH]
     have VA:(l0++(iW.take i).map (fun a=>(((a,x.2.1,x.2.2||decide ((k:Int)∈v.av)):Tw),x.2.2))).length≤1000:=by rw[List.length_append,List.length_map,List.length_take];omega
     have iA3:=iA G
     have sA3:=iA3.isSome (by omega)
     have lai:=fun{K f d w}=>iA3.ld (P:=Tryz.prog) (K:=K) (f:=f) (d:=d) (w:=w) ak i nG
     have t1':=fun{K f d w}=>G.tw.tw1 (K:=K) (f:=f) (d:=d) (w:=w)
     have t2':=fun{K f d w}=>G.tw.YA (K:=K) (f:=f) (d:=d) (w:=w)
     have YF:=hyA _ (bY iW 0 i nG)
     by_cases VB:x.2.2=true
     case pos=>
      have hel:(((iW.getD i 0,x.2.1,x.2.2||decide ((k:Int)∈v.av)):Tw),n+vL x.2.2)=((iW.getD i 0,x.2.1,true),n+vL true):=by rw[VB];rfl
      rw[hel]at uF
      have EV:vL true=1:=rfl
      simp(disch:=omega)only[push_cast,aa,↓reduceIte,Nat.reduceEqDiff,Int.reduceEq,c8,fr,T0,nG,lai,t1',t2',VB,B8]
      refine ah (pw G.ws (by have:=bb.size;omega) (by have:=G.len;rw[jV]at this;omega) G.ok (x:=(iW.getD i 0,x.2.1,true)) (⟨YF,hxI.2⟩) (n:=n+vL true) (by omega)) ?_
      rintro r w5 ⟨M2,W2,T1,T2,rfl,hc,FG,b5,YG,MQ⟩
      have G2:=G.L5 BE ub hc FG YG MQ (⟨YF,hxI.2⟩) (by omega)
      have re:Below B w w5:=bb.trans b5
      simp(disch:=omega)only[push_cast,aa,↓reduceIte,Nat.reduceEqDiff,Int.reduceEq,fr]
      exact jH _ _ ⟨i+1,M2,W2,T1,T2,by omega,(by simp only[push_cast,↓reduceIte,Nat.reduceEqDiff,true_and,and_true,and_self,eq_self,fr]),by rw[uF];exact G2,re⟩ (by rw[ob];simp only[push_cast,↓reduceIte,Nat.reduceEqDiff,intOf,fr];omega)
     case neg=>
      have T3:x.2.2=false:=by simpa using VB
      have hel:(((iW.getD i 0,x.2.1,x.2.2||decide ((k:Int)∈v.av)):Tw),n+vL x.2.2)=((iW.getD i 0,x.2.1,decide ((k:Int)∈v.av)),n+vL false):=by rw[T3,Bool.false_or]
      rw[hel]at uF
      have EV:vL false=0:=rfl
      simp(disch:=omega)only[push_cast,aa,↓reduceIte,Nat.reduceEqDiff,Int.reduceEq,c8,fr,T0,nG,lai,t1',t2',T3,B8]
      refine ah (pw G.ws (by have:=bb.size;omega) (by have:=G.len;rw[jV]at this;omega) G.ok (x:=(iW.getD i 0,x.2.1,decide ((k:Int)∈v.av))) (⟨YF,hxI.2⟩) (n:=n+vL false) (by omega)) ?_
      rintro r w5 ⟨M2,W2,T1,T2,rfl,hc,FG,b5,YG,MQ⟩
      have G2:=G.L5 BE ub hc FG YG MQ (⟨YF,hxI.2⟩) (by omega)
      have re:Below B w w5:=bb.trans b5
      simp(disch:=omega)only[push_cast,aa,↓reduceIte,Nat.reduceEqDiff,Int.reduceEq,fr]
      exact jH _ _ ⟨i+1,M2,W2,T1,T2,by omega,(by simp only[push_cast,↓reduceIte,Nat.reduceEqDiff,true_and,and_true,and_self,eq_self,fr]),by rw[uF];exact G2,re⟩ (by rw[ob];simp only[push_cast,↓reduceIte,Nat.reduceEqDiff,intOf,fr];omega)
    obtain rfl:i=iW.length:=by omega
    rw[List.take_length]at G
    simp(disch:=omega)only[push_cast,aa,↓reduceIte,Nat.reduceEqDiff,Int.reduceEq,c8,fr,Int.lt_irrefl]
    refine ax (fun f' w'=>∃(j:Nat) (M':List (Tw×Nat)) (W':List Tw) (gX:Option Addr) (jT:Nat),j≤bs.length∧(f' 0= .pointer (some ⟨g,0,none⟩)∧f' 2= .int .i64 n∧f' 4= .pointer (some ⟨w.heap.size,0,none⟩)∧f' 6= .int .i64 ((n+vL x.2.2:Nat):Int)∧f' 29= .int .i64 v.m.events∧f' 30= .int .i64 k∧f' 9= .bool (decide ((k:Int)∈v.av))∧f' 10= .slice ha.A iW.length ha.c∧f' 11= .slice Bz bs.length cz∧f' 106= .slice Bz bs.length cz∧f' 107= .int .i64 bs.length∧f' 108= .int .i64 j)∧
     GS B w Aw w' g gm w.heap.size v dJ x M W gX jT M' W' (dH n (l0++(iW.map (fun a=>(((a,x.2.1,x.2.2||decide ((k:Int)∈v.av)):Tw),x.2.2))++(bs.take j).map (fun b=>(((x.1,b,x.2.2):Tw),false)))))∧Below B w w')
     (fun f' _=>bs.length-(intOf (f' 108)).toNat) ⟨0,M',W',gX,jT,Nat.zero_le _,(by simp only[push_cast,↓reduceIte,Nat.reduceEqDiff,true_and,and_true,and_self,eq_self,fr,fr]),by simpa using G,bb⟩ ?_
    clear fr G bb
    rintro f w3 ⟨j,M',W',gX,jT,hj,fr,G,bb⟩ J3 QX
    have YE:(intOf (f 108)).toNat=j:=by rw[fr.2.2.2.2.2.2.2.2.2.2.2];simp[intOf]
    by_cases mw:j<bs.length
    case neg=>
     obtain rfl:j=bs.length:=by omega
     rw[List.take_length,←hle,←ac7]at G
     simp(disch:=omega)only[push_cast,aa,↓reduceIte,Nat.reduceEqDiff,Int.reduceEq,dM,fr,Int.lt_irrefl]
     exact hJ _ _ ⟨k+1,M',W',gX,jT,by omega,(by simp only[push_cast,↓reduceIte,Nat.reduceEqDiff,true_and,and_true,and_self,eq_self,fr]),G,bb⟩ (by rw[gZ];simp only[push_cast,↓reduceIte,Nat.reduceEqDiff,intOf,fr];omega)
    have P0:(j:Int)<(bs.length:Int):=by omega
    have uF:dH n (l0++(iW.map (fun a=>(((a,x.2.1,x.2.2||decide ((k:Int)∈v.av)):Tw),x.2.2))++(bs.take (j+1)).map (fun b=>(((x.1,b,x.2.2):Tw),false))))=dH n (l0++(iW.map (fun a=>(((a,x.2.1,x.2.2||decide ((k:Int)∈v.av)):Tw),x.2.2))++(bs.take j).map (fun b=>(((x.1,b,x.2.2):Tw),false))))++[((x.1,bs.getD j 0,x.2.2),n)]:=by
     rw[bS bs 0 j mw];simp[dH,vL]
    have VA:(l0++(iW.map (fun a=>(((a,x.2.1,x.2.2||decide ((k:Int)∈v.av)):Tw),x.2.2))++(bs.take j).map (fun b=>(((x.1,b,x.2.2):Tw),false)))).length≤1000:=by rw[List.length_append,List.length_append,List.length_map,List.length_map,List.length_take];omega
    have iB3:=iB G
    have sB3:=iB3.isSome (by omega)
    have lbj:=fun{K f d w}=>iB3.ld (P:=Tryz.prog) (K:=K) (f:=f) (d:=d) (w:=w) ak j mw
    have t0':=fun{K f d w}=>G.tw.tw0 (K:=K) (f:=f) (d:=d) (w:=w)
    have t2':=fun{K f d w}=>G.tw.YA (K:=K) (f:=f) (d:=d) (w:=w)
    have QW:=hyB _ (bY bs 0 j mw)
    simp(disch:=omega)only[push_cast,aa,↓reduceIte,Nat.reduceEqDiff,Int.reduceEq,dM,fr,P0,mw,lbj,t0',t2',B8]
    refine ah (pw G.ws (by have:=bb.size;omega) (by have:=G.len;rw[jV]at this;omega) G.ok (x:=(x.1,bs.getD j 0,x.2.2)) (⟨hxI.1,QW⟩) (n:=n) (by omega)) ?_
    rintro r w5 ⟨M2,W2,T1,T2,rfl,hc,FG,b5,YG,MQ⟩
    have G2:=G.L5 BE ub hc FG YG MQ (⟨hxI.1,QW⟩) (by omega)
    have re:Below B w w5:=bb.trans b5
    simp(disch:=omega)only[push_cast,aa,↓reduceIte,Nat.reduceEqDiff,Int.reduceEq,fr]
    exact QX _ _ ⟨j+1,M2,W2,T1,T2,by omega,(by simp only[push_cast,↓reduceIte,Nat.reduceEqDiff,true_and,and_true,and_self,eq_self,fr]),by rw[uF];exact G2,re⟩ (by rw[YE];simp only[push_cast,↓reduceIte,Nat.reduceEqDiff,intOf,fr];omega)
open Go.RowKit
open Go.RowKit
def GJ(m:aN)(s:Int):List Tw:=m.aB.map fun t=>(s,t,false)
def ym(m:aN)(i k:Nat):List Tw:=(m.aB.take i).flatMap (GJ m)++(m.aB.take k).map fun t=>(m.aB.getD i 0,t,false)
theorem L6{m:aN}{i k:Nat}(h:k<m.aB.length):ym m i (k+1)=ym m i k++[(m.aB.getD i 0,m.aB.getD k 0,false)]:=by
 unfold ym
 rw[bS m.aB 0 k h,List.map_append,List.append_assoc];rfl
theorem L7{m:aN}{i:Nat}(h:i<m.aB.length):ym m i m.aB.length=ym m (i+1) 0:=by
 unfold ym
 rw[bS m.aB 0 i h,List.flatMap_append,List.take_length]
 simp[GJ]
theorem P1(m:aN)(i k:Nat):(ym m i k).length≤i*m.aB.length+k:=by
 unfold ym
 have:∀l:List Int,(l.flatMap (GJ m)).length=l.length*m.aB.length:=fun l=>by
  induction l with
  |nil=>simp
  |cons a l ih=>rw[List.flatMap_cons,List.length_append,ih,List.length_cons,Nat.succ_mul];simp[GJ];omega
 rw[List.length_append,this,List.length_map,List.length_take,List.length_take]
 have:min i m.aB.length*m.aB.length≤i*m.aB.length:=Nat.mul_le_mul_right _ (Nat.min_le_left _ _)
 omega
theorem B9{m:aN}{x:Tw}:x∈ym m m.aB.length 0↔Ra m x:=by
 unfold ym
 rw[List.take_length]
 simp only[List.take_zero,List.map_nil,List.append_nil,List.mem_flatMap,GJ,List.mem_map]
 constructor
 ·rintro⟨s,hs,t,ht,rfl⟩;exact⟨hs,ht,rfl⟩
 ·rintro⟨h1,h2,h3⟩;exact⟨x.1,h1,x.2.1,h2,by obtain⟨a,b,c⟩:=x;simp only at h3;rw[h3]⟩
end Go.Proofs.YtcefeihlkpmejaaGreatDoor
