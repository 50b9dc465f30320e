/- A part of the proof. -/
import Derived.Test.YtcefeihlkpmejaaGreatDoorYM15
import Derived.Test.YtcefeihlkpmejaaGreatDoorYM14
import Derived.Test.YtcefeihlkpmejaaGreatDoorYM12
import Derived.Test.YtcefeihlkpmejaaGreatDoorYM13
import Derived.Test.YtcefeihlkpmejaaGreatDoorYM9
import Derived.Shelf.Strconv.AtoiAll
import Derived.Test.YtcefeihlkpmejaaGreatDoorYM11
namespace Go.Proofs.YtcefeihlkpmejaaGreatDoor
set_option linter.unusedSimpArgs false
set_option linter.unusedVariables false
set_option linter.unusedSectionVars false
open Go.RowKit
theorem Ui{P:Program}{Rc:Value→World→Prop}{a t t' g b q q' h s:Nat}{cs ds:List Value}{f:Fr}{w:World}(hk:aE w g t' cs)(ht:aR P t=some true)(hs:aL P t=some cs.length)
  (QR:aE w h q' ds)(Ie:aR P q=some true)(EW:aL P q=some ds.length)
  (hf:f a= .pointer (some ⟨g,0,none⟩))(ZE:f b= .pointer (some ⟨h,0,none⟩))(hr:Rc (.tuple #[.agg cs.toArray,.agg ds.toArray,f s]) w):iM P #[.cell a t,.cell b q,.tmp s] Rc f w:=by
 refine⟨_,fun fn tmps hr fO=>?_,hr⟩
 have e:tmps.getD a undef= .pointer (some ⟨g,0,none⟩):=by rw[fO,hf]
 have e2:tmps[a]?.getD undef= .pointer (some ⟨g,0,none⟩):=by simpa using e
 have e':tmps.getD b undef= .pointer (some ⟨h,0,none⟩):=by rw[fO,ZE]
 have e2':tmps[b]?.getD undef= .pointer (some ⟨h,0,none⟩):=by simpa using e'
 have e3:tmps[s]?.getD undef=f s:=by simpa using fO s
 unfold aR at ht Ie
 unfold aL at hs EW
 cases hu:P.underlying t with
 |none=>simp[hu]at ht
 |some de=>
  cases Bx:P.underlying q with
  |none=>simp[Bx]at Ie
  |some de2=>
  cases hi:P.info? t with
  |none=>simp[hi]at hs
  |some ie=>
   cases SI:P.info? q with
   |none=>simp[SI]at EW
   |some ie2=>
   simp only[hi,Option.map_some,Option.some.injEq]at hs
   simp only[SI,Option.map_some,Option.some.injEq]at EW
   simp only[hu,Option.map_some,Option.some.injEq]at ht
   simp only[Bx,Option.map_some,Option.some.injEq]at Ie
   have eM:=run_loadCells_list (P:=P) w ⟨g,0,none⟩ cs (fun j v hv=>by rw[addr_add,Nat.zero_add,hk.cell,hv])
   have xp:=run_loadCells_list (P:=P) w ⟨h,0,none⟩ ds (fun j v hv=>by rw[addr_add,Nat.zero_add,QR.cell,hv])
   cases de<;>simp at ht<;>cases de2<;>simp at Ie<;>simp[results,hr,e2,e2',e3,asAddr,loadVar,isAgg,run_underlying hu,run_underlying Bx,sizeOf,typeInfo,hi,SI,hs,EW,eM,xp]
structure ln where
 n:Int
 e:Int
 A:Option Addr
 c:Nat
 st:List Int
 dt:Int
def ln.cells(x:ln):List Value:=[.int .i64 x.n,.int .i64 x.e,.slice x.A x.st.length x.c,.int .i64 x.dt]
theorem Cg:C8 ln.cells 4:=⟨fun _=>rfl,fun x u hu=>by
 unfold ln.cells at hu
 simp only[List.mem_cons,List.not_mem_nil,or_false]at hu
 rcases hu with rfl|rfl|rfl|rfl<;>rfl⟩
theorem I6(x:ln):(ln.cells x).all (·.oneCell')=true:=List.all_eq_true.2 (Cg.one x)
theorem GV(x:ln):aL Tryz.prog 143=some (ln.cells x).length:=KQ
theorem Y1:iE Tryz.prog 143=some ([(0,1),(1,1),(2,1),(3,1)],[.int .i64 0,.int .i64 0,.slice none 0 0,.int .i64 0]):=by kernel_rfl
theorem Y2{K:Fr→World→Prop}{u:World}{f:Fr}{d:Option Nat}{w:World}(e:Int):aq Tryz.prog K (Instr.build 143 #[(1,.int .i64 e)]) u f d w=K (ai f d (.agg (ln.cells ⟨0,e,none,0,[],0⟩).toArray)) w:=by
 refine gF ?_
 rw[ss Y1]
 rw[eB (off:=1) (size:=1) rfl rfl (by decide),sw]
 simp[sv,Value.cells,ln.cells]
section
variable {K:Fr→World→Prop} {u:World} {f:Fr} {d:Option Nat} {w:World} {g t ty:Nat} {x:ln}
theorem aE.v2(h:aE u g t x.cells)(ht:aR Tryz.prog ty=some false):aq Tryz.prog K (Instr.loadAt ty (.pointer (some ⟨g,2,none⟩))) u f d w=K (ai f d (.slice x.A x.st.length x.c)) w:=h.ld ht 2 (by simp[ln.cells])
theorem aE.vA(h:aE u g t x.cells):aq Tryz.prog K (Instr.loadAt 143 (.pointer (some ⟨g,0,none⟩))) u f d w=K (ai f d (.agg x.cells.toArray)) w:=h.dC C6 (GV x)
end
theorem aE.kAr{K:Fr→World→Prop}{u:World}{f:Fr}{d:Option Nat}{w:World}{g t:Nat}{a:PV}{p:cO}{A:Option Addr}{free:List Int}{c gM:Nat}(h:aE u g t (I0 a p A free c gM)):aq Tryz.prog K (Instr.loadAt 25 (.pointer (some ⟨g,3,none⟩))) u f d w=K (ai f d (.slice a.m.Aa p.m.ag.length a.m.ca)) w:=h.ld fQ 3 (by simp)
theorem xq.cV{w w':World}{gM:Nat}{φ:List Int→Option Int}(h:xq w)(hM:SMap w gM φ)(k:cF gM w w'):xq w':=by
 have cY:2≠gM:=fun e=>by
  obtain⟨kv,⟨es,cl,hh,_⟩,_⟩:=hM
  have h0:=h.cell 0 (by decide)
  unfold World.cell? at h0
  rw[e]at h0
  simp only[hh]at h0
  cases h0
 exact⟨fun i hi=>(World.cell?_of_block (k.block _ h.lt cY)).trans (h.cell i hi)⟩
theorem cQ.okM{B e c gM:Nat}{w:World}{A:Option Addr}{l:List Int}(h:cQ B e w A c l)(hB:gM<B):Ints (OkM gM w) w A l:=(cQ.ints h).mono fun b hb=>⟨h.QY hb.2.symm,by have:=hb.1;omega⟩
theorem Own.cV{B e sz c n gM:Nat}{w w':World}{A:Option Addr}{xs:List Value}(h:Own B e sz w A c n xs)(hB:gM<B)(k:cF gM w w'):Own B e sz w' A c n xs:=
 h.keep fun g hg=>k.block g (h.QY hg.symm) (by
  cases A with
  |none=>cases hg
  |some a=>
   injection hg with hg
   have:=h.uh a rfl
   simp only at hg
   omega)
set_option maxHeartbeats 2000000 in
theorem Mn{B:Nat}{w:World}{a:PV}{p:cO}(JY:B≤w.heap.size)(ha:tv (·<B) w a p)(hf:p.Fits)(hp:p.bZ)(TF:vD p.m)(hT:xq w){A1:Option Addr}{c1:Nat}{free:List Int}(h1:Ints (·<B) w A1 free)(n1:free.length≤17592186043904)
  {gK gM:Nat}(Qk:B≤gM)(hK:aE w gK 139 (I0 a p A1 free c1 gM)){φ:List Int→Option Int}(hφ:Kl p free φ)(hM:SMap w gM φ){s:List Int}(hs:az s p.m.aj)(e:Int):
  dw Tryz.prog 74 [.pointer (some ⟨gK,0,none⟩),bC s,.int .i64 e] w fun v w'=>∃A c,v= .tuple #[.agg (ln.cells ⟨0,e,A,c,nH p.m (Ac p free s e) s e,0⟩).toArray,bC (iV p.m p.seen (Ac p free s e)),.bool (decide (0<(nH p.m (Ac p free s e) s e).length))]∧
   cQ w.heap.size 3 w' A c (nH p.m (Ac p free s e) s e)∧Ko p free gM w w'∧xq w':=by
 have hm:=hp.1
 have eU:=hp.2.1
 have Y0:=hK.qA hM
 have hlM:=hM.lt
 have rS:=gP hm s e
 have nA:=hm.2.2.2.2.1
 refine rQ (by simp) 1000000 fun Q hQ=>?_
 simp(disch:=omega)only[push_cast,aa,↓reduceIte,Nat.reduceEqDiff,Int.reduceEq,lY]
 refine au (aO _ (setCells (ae s))) ?_
 intro w1 kS b1 z1
 simp(disch:=omega)only[push_cast,aa,↓reduceIte,Nat.reduceEqDiff,Int.reduceEq]
 refine au (cs:=ln.cells ⟨0,0,none,0,[],0⟩) HD ?_
 intro w2 k6 b2 z2
 have I1:=b1.trans (b2.mono b1.size)
 replace kS:=kS.below b2 kS.lt
 simp(disch:=omega)only[push_cast,aa,↓reduceIte,Nat.reduceEqDiff,Int.reduceEq]
 refine au (cs:=setCells (ae [])) cB ?_
 intro w3 k7 b3 z3
 have MS:=I1.trans (b3.mono I1.size)
 replace kS:=kS.below b3 kS.lt
 replace k6:=k6.below b3 k6.lt
 have bd:Below w3.heap.size w3 w3.drew:=(Same.refl w3).drew.below _
 have I2:=MS.trans (bd.mono MS.size)
 replace kS:=kS.below bd kS.lt
 replace k6:=k6.below bd k6.lt
 replace k7:=k7.below bd k7.lt
 have hTu:=hT.on I2
 generalize hu4:w3.drew=u4 at*
 have hz4:=I2.size
 have hzz:=bd.size
 have kK4:=hK.below I2 hK.lt
 have mM4:=hM.below I2 hM.lt
 have ha4:=ha.cV (.of I2) Qk JY
 have Y3:=ha4.mono fun b hb=>(Nat.lt_of_lt_of_le hb (by omega):b<u4.heap.size)
 have hK4:cF gM w u4:= .of I2
 have l7:=k7.lt
 simp(disch:=omega)only[push_cast,aa,↓reduceIte,Nat.reduceEqDiff,Int.reduceEq,hu4,kK4.kM0,kS.cM (af _) al aw]
 refine WM (fun f' w'=>∃g:Nat,(f' 0= .pointer (some ⟨gK,0,none⟩)∧f' 2= .int .i64 e∧f' 4= .pointer (some ⟨w.heap.size,0,none⟩)∧f' 6= .pointer (some ⟨w1.heap.size,0,none⟩)∧f' 7= .pointer (some ⟨w2.heap.size,0,none⟩)∧f' 8= .bool false∧f' 9= .pointer (some ⟨g,0,none⟩))∧
   aE w' g 107 (setCells (ae (cb p.m s e)))∧u4.heap.size≤g∧Below u4.heap.size u4 w') 20000 40000 (by decide) ?_ ?_
 ·intro E hE
  have fr:=True.intro
  rw[tj]
  refine⟨?_,?_⟩
  ·simp(disch:=omega)only[push_cast,aa,↓reduceIte,Nat.reduceEqDiff,Int.reduceEq]
   refine ah (kC Y3.m hm s e) ?_
   rintro v vq ⟨rfl,eZ⟩
   simp(disch:=omega)only[push_cast,aa,↓reduceIte,Nat.reduceEqDiff,Int.reduceEq]
   refine⟨eZ,?_⟩
   refine au (cs:=setCells (ae [])) cB ?_
   intro xw Ct iT X5
   have I4:=eZ.trans (iT.mono eZ.size)
   simp(disch:=omega)only[push_cast,aa,↓reduceIte,Nat.reduceEqDiff,Int.reduceEq]
   refine⟨I4,?_⟩
   refine aC Ct (cs:=setCells (ae (cb p.m s e))) (bn _) (by rw[ao,ao]) (aH _) ?_
   intro BH JK g14 Vp
   simp(disch:=omega)only[push_cast,aa,↓reduceIte,Nat.reduceEqDiff,Int.reduceEq]
   exact hE _ _ ⟨_,(by simp only[push_cast,↓reduceIte,Nat.reduceEqDiff,true_and,and_true,and_self,eq_self,fr]),JK,eZ.size,g14.below I4 I4.size (by intro a ha;injection ha with ha;subst ha;exact eZ.size)⟩
  ·simp(disch:=omega)only[push_cast,aa,↓reduceIte,Nat.reduceEqDiff,Int.reduceEq]
   refine au (cs:=setCells (ae [])) cB ?_
   intro xw Ct iT X5
   simp(disch:=omega)only[push_cast,aa,↓reduceIte,Nat.reduceEqDiff,Int.reduceEq]
   refine⟨iT,?_⟩
   refine ah (kC (Y3.m.up iT) hm s e) ?_
   rintro v vq ⟨rfl,eZ⟩
   have I5:=iT.trans (eZ.mono iT.size)
   replace Ct:=Ct.below eZ Ct.lt
   simp(disch:=omega)only[push_cast,aa,↓reduceIte,Nat.reduceEqDiff,Int.reduceEq]
   refine⟨I5,?_⟩
   refine aC Ct (cs:=setCells (ae (cb p.m s e))) (bn _) (by rw[ao,ao]) (aH _) ?_
   intro BH JK g14 Vp
   simp(disch:=omega)only[push_cast,aa,↓reduceIte,Nat.reduceEqDiff,Int.reduceEq]
   exact hE _ _ ⟨_,(by simp only[push_cast,↓reduceIte,Nat.reduceEqDiff,true_and,and_true,and_self,eq_self,fr]),JK,Nat.le_refl _,g14.below I5 I5.size (by intro a ha;injection ha with ha;subst ha;exact Nat.le_refl _)⟩
 rintro f w5 ⟨g9,fr,k9,hg9,b5⟩
 replace kS:=kS.below b5 kS.lt
 replace k6:=k6.below b5 k6.lt
 replace k7:=k7.below b5 k7.lt
 have hK5:=hK4.below b5 (Nat.le_refl _)
 have hT5:=hTu.on b5
 have YQ:=hK.cV hK5 Y0
 have mM5:=mM4.below b5 mM4.lt
 have LY:=hK5.size
 have h15:=(h1.Qb hK5 Qk JY).mono fun b hb=>(Nat.lt_of_lt_of_le hb (by omega):b<w5.heap.size)
 have aoM:=k9.lt
 clear mM4 kK4 ha4 Y3 hTu b5 hK4
 rw[Rr]
 refine cut (fun f' w'=>∃(χ:List Int→Option Int),(f' 0= .pointer (some ⟨gK,0,none⟩)∧f' 2= .int .i64 e∧f' 4= .pointer (some ⟨w.heap.size,0,none⟩)∧f' 6= .pointer (some ⟨w1.heap.size,0,none⟩)∧f' 7= .pointer (some ⟨w2.heap.size,0,none⟩)∧f' 8= .bool false∧f' 9= .pointer (some ⟨g9,0,none⟩))∧
   aE w' w.heap.size 107 (setCells (ae s))∧aE w' w1.heap.size 143 (ln.cells ⟨0,0,none,0,[],0⟩)∧aE w' w2.heap.size 107 (setCells (ae []))∧aE w' g9 107 (setCells (ae (Ac p free s e)))∧
   Kl p free χ∧SMap w' gM χ∧cF gM w w') 10000 29000 (by decide) ?_ ?_
 ·intro E hE
  simp(disch:=omega)only[push_cast,aa,↓reduceIte,Nat.reduceEqDiff,Int.reduceEq,fr,YQ.kF]
  refine ah (nt h15 c1 e (by omega)) ?_
  rintro v w6 ⟨rfl,s6⟩
  have b6:=s6.below w5.heap.size
  have Qd:=YQ.below b6 YQ.lt
  replace kS:=kS.below b6 kS.lt
  replace k6:=k6.below b6 k6.lt
  replace k7:=k7.below b6 k7.lt
  replace k9:=k9.below b6 k9.lt
  have Mh:=mM5.below b6 mM5.lt
  have hT6:=hT5.on b6
  have k56:cF gM w5 w6:= .of b6
  have ZS:=b6.size
  by_cases q:e∈free
  ·have hTe:DG p free (cb p.m s e)=Ac p free s e:=by unfold Ac;rw[if_pos q]
   simp(disch:=omega)only[push_cast,aa,↓reduceIte,Nat.reduceEqDiff,Int.reduceEq,fr,decide_eq_true q,k9.cM (af _) al aw]
   refine ah (Bq rS.strict (rS.small (by omega)) hT6) ?_
   rintro v w7 ⟨A7,c7,rfl,o7,b7⟩
   have k57:=k56.below b7 (Nat.le_refl _)
   have hK7:=hK5.trans k57
   have hz7:=b7.size
   simp(disch:=omega)only[push_cast,aa,↓reduceIte,Nat.reduceEqDiff,Int.reduceEq,fr]
   refine ah (Mm (B:=B) (by omega) (ha.cV hK7 Qk JY) hf hp (h1.Qb hK7 Qk JY) n1 Qk (Qd.below b7 Qd.lt) hφ (Mh.below b7 Mh.lt) (o7.okM (by omega)) rS) ?_
   rintro v w8 ⟨rfl,⟨χ,hχ,YU⟩,Q0⟩
   have Ue:=Mh.below b7 Mh.lt
   have k58:=k57.trans Q0
   have kk:∀{x t:Nat} {cs:List Value},aE w6 x t cs→aE w8 x t cs:=fun h=>(h.below b7 h.lt).cV Q0 ((h.below b7 h.lt).qA Ue)
   have hT8:=(hT6.on b7).cV Ue Q0
   rw[hTe]
   simp(disch:=omega)only[push_cast,aa,↓reduceIte,Nat.reduceEqDiff,Int.reduceEq,fr]
   refine aC (kk k9) (cs:=setCells (ae (Ac p free s e))) (bn _) (by rw[ao,ao]) (aH _) ?_
   intro w9' k9' g9' z9'
   have aoP:g9≠gM:=(kk k9).qA YU
   simp(disch:=omega)only[push_cast,aa,↓reduceIte,Nat.reduceEqDiff,Int.reduceEq,fr]
   exact hE _ _ ⟨χ,(by simp only[push_cast,↓reduceIte,Nat.reduceEqDiff,true_and,and_true,and_self,eq_self,fr]),(kk kS).grown g9'.aJ (by simp;omega),(kk k6).grown g9'.aJ (by simp;omega),(kk k7).grown g9'.aJ (by simp;omega),k9',hχ,YU.grown g9'.aJ (by simp;omega),(hK5.trans k58).bQ g9' (by intro a ha;injection ha with ha;subst ha;show w.heap.size≤g9;omega)⟩
  ·have hTe:cb p.m s e=Ac p free s e:=by unfold Ac;rw[if_neg q]
   rw[hTe]at k9
   simp(disch:=omega)only[push_cast,aa,↓reduceIte,Nat.reduceEqDiff,Int.reduceEq,fr,decide_eq_false q]
   exact hE _ _ ⟨φ,(by simp only[push_cast,↓reduceIte,Nat.reduceEqDiff,true_and,and_true,and_self,eq_self,fr]),kS,k6,k7,k9,hφ,Mh,hK5.trans k56⟩
 clear fr kS k6 k7 k9 YQ mM5 h15 hT5
 rintro f uv ⟨χ,fr,kS,k6,k7,k9,hχ,mM,Y4⟩
 have rT:=EN hm free s e
 have adP:=fun(T:List Int)=>Qg hm TF (tO:=T) hs.strict e
 generalize Ac p free s e=T at*
 have adg:=Y4.size
 have l9:=k9.lt
 simp(disch:=omega)only[push_cast,aa,↓reduceIte,Nat.reduceEqDiff,Int.reduceEq,fr,Y2]
 refine au (cs:=ln.cells ⟨0,0,none,0,[],0⟩) HD ?_
 intro zY oq vK xv
 replace kS:=kS.below vK kS.lt
 replace k6:=k6.below vK k6.lt
 replace k7:=k7.below vK k7.lt
 replace k9:=k9.below vK k9.lt
 have l6:=k6.lt
 have l7:=k7.lt
 replace mM:=mM.below vK mM.lt
 have adQ:=Y4.below vK (Nat.le_refl _)
 have aoQ:=hM.lt
 simp(disch:=omega)only[push_cast,aa,↓reduceIte,Nat.reduceEqDiff,Int.reduceEq,fr]
 refine aC oq (cs:=ln.cells ⟨0,e,none,0,[],0⟩) (GV _) rfl (I6 _) ?_
 intro vq adR g12 z12
 clear oq
 replace kS:=kS.grown g12.aJ (by simp;omega)
 replace k6:=k6.grown g12.aJ (by simp;omega)
 replace k7:=k7.grown g12.aJ (by simp;omega)
 replace k9:=k9.grown g12.aJ (by simp;omega)
 replace mM:=mM.grown g12.aJ (by simp;omega)
 have Y5:=adQ.bQ g12 (by intro a ha;injection ha with ha;subst ha;show w.heap.size≤uv.heap.size;omega)
 have adS:=hK.cV Y5 Y0
 generalize aoR:uv.heap.size=g10 at*
 simp(disch:=omega)only[push_cast,aa,↓reduceIte,Nat.reduceEqDiff,Int.reduceEq,fr,adS.kAr]
 refine ax (fun f w'=>∃(k:Nat) (A:Option Addr) (c:Nat),k≤p.m.ag.length∧(f 0= .pointer (some ⟨gK,0,none⟩)∧f 2= .int .i64 e∧f 4= .pointer (some ⟨w.heap.size,0,none⟩)∧f 6= .pointer (some ⟨w1.heap.size,0,none⟩)∧f 7= .pointer (some ⟨w2.heap.size,0,none⟩)∧f 8= .bool false∧f 9= .pointer (some ⟨g9,0,none⟩)∧f 10= .pointer (some ⟨g10,0,none⟩)∧f 38= .slice a.m.Aa p.m.ag.length a.m.ca∧f 39= .int .i64 p.m.ag.length∧f 40= .int .i64 k)∧
   aE w' w.heap.size 107 (setCells (ae s))∧aE w' w1.heap.size 143 (ln.cells ⟨0,0,none,0,[],0⟩)∧aE w' w2.heap.size 107 (setCells (ae []))∧aE w' g9 107 (setCells (ae T))∧
   aE w' g10 143 (ln.cells ⟨0,e,A,c,vF p.m s T e k,0⟩)∧cQ (g10+1) 3 w' A c (vF p.m s T e k)∧SMap w' gM χ∧cF gM w w')
  (fun f _=>p.m.ag.length-(intOf (f 40)).toNat) ⟨0,none,0,Nat.zero_le _,(by simp only[push_cast,↓reduceIte,Nat.reduceEqDiff,true_and,and_true,and_self,eq_self,fr]),kS,k6,k7,k9,adR,Own.nil _ _ _ _,mM,Y5⟩ ?_
 clear fr kS k6 k7 k9 adR mM adS Y5 adQ Y4 g12 vK
 rintro f xw ⟨k,A,c,hk,fr,kS,k6,k7,k9,oq,ho,mM,Ql⟩ J hJ
 have acJ:=Ql.size
 have aoS:=hK.cV Ql Y0
 have aiP:=(ha.cV Ql Qk JY).mono fun b hb=>(Nat.lt_of_lt_of_le hb (by omega):b<xw.heap.size)
 by_cases aI:k<p.m.ag.length
 case pos=>
  have hI:=aiP.m.ag
  have hA:=hI.isSome (by omega)
  have GU:=Mk p.m s T e aI
  have Vo:=GQ p.m s T e k
  have hyr:=bZ.arr hm (bY p.m.ag default k aI)
  have gZ:(intOf (f 40)).toNat=k:=by rw[fr.2.2.2.2.2.2.2.2.2.2];simp[intOf]
  have aiQ:=fun{K f d w}=>hI.CH (P:=Tryz.prog) (K:=K) (f:=f) (d:=d) (w:=w) (i:=k) vI bz
  generalize p.m.ag.getD k default=y at*
  simp(disch:=omega)only[push_cast,aa,↓reduceIte,Nat.reduceEqDiff,Int.reduceEq,fj,fr,aI,hA,aiQ]
  refine au sr ?_
  intro BH JK BG Vp
  simp(disch:=omega)only[push_cast,aa,↓reduceIte,Nat.reduceEqDiff,Int.reduceEq,fr]
  refine aC JK (cs:=ay y) bz rfl (by simp[ay,Value.oneCell']) ?_
  intro Ga mD g15 z15
  have xy:=g15.below BG BG.size (by intro a ha;injection ha with ha;subst ha;exact Nat.le_refl _)
  have adT:=xy.size
  replace kS:=kS.below xy kS.lt
  replace k6:=k6.below xy k6.lt
  replace k7:=k7.below xy k7.lt
  replace k9:=k9.below xy k9.lt
  replace oq:=oq.below xy oq.lt
  replace ho:=ho.below xy (Nat.le_refl _)
  replace mM:=mM.below xy mM.lt
  have Uj:=Ql.below xy (Nat.le_refl _)
  clear g15 BG JK
  by_cases q1:y.dI=e
  case neg=>
   rw[if_neg (fun hh=>q1 hh.1)]at GU
   simp(disch:=omega)only[push_cast,aa,↓reduceIte,Nat.reduceEqDiff,Int.reduceEq,fr,mD.a1 ak,q1]
   exact hJ _ _ ⟨k+1,A,c,aI,(by simp only[push_cast,↓reduceIte,Nat.reduceEqDiff,true_and,and_true,and_self,eq_self,fr]),kS,k6,k7,k9,by rw[GU];exact oq,by rw[GU];exact ho,mM,Uj⟩ (by rw[gZ];simp only[push_cast,↓reduceIte,Nat.reduceEqDiff,intOf,fr];omega)
  simp(disch:=omega)only[push_cast,aa,↓reduceIte,Nat.reduceEqDiff,Int.reduceEq,fr,mD.a1 ak,mD.a0 ak,q1,eq_self,kS.cM (af _) al aw]
  refine ah (pb s y.bK hyr.1.1 (by have:=hyr.1.2;omega) Ga) ?_
  rintro v LG ⟨rfl,E3⟩
  have aoT:=E3.size
  replace kS:=kS.below E3 kS.lt
  replace k6:=k6.below E3 k6.lt
  replace k7:=k7.below E3 k7.lt
  replace k9:=k9.below E3 k9.lt
  replace oq:=oq.below E3 oq.lt
  replace mD:=mD.below E3 mD.lt
  replace ho:=ho.below E3 (Nat.le_refl _)
  replace mM:=mM.below E3 mM.lt
  have Uk:=Uj.below E3 (Nat.le_refl _)
  by_cases q2:y.bK∈s
  case neg=>
   rw[if_neg (fun hh=>q2 hh.2.1)]at GU
   simp(disch:=omega)only[push_cast,aa,↓reduceIte,Nat.reduceEqDiff,Int.reduceEq,fr,decide_eq_false q2]
   exact hJ _ _ ⟨k+1,A,c,aI,(by simp only[push_cast,↓reduceIte,Nat.reduceEqDiff,true_and,and_true,and_self,eq_self,fr]),kS,k6,k7,k9,by rw[GU];exact oq,by rw[GU];exact ho,mM,Uk⟩ (by rw[gZ];simp only[push_cast,↓reduceIte,Nat.reduceEqDiff,intOf,fr];omega)
  simp(disch:=omega)only[push_cast,aa,↓reduceIte,Nat.reduceEqDiff,Int.reduceEq,fr,decide_eq_true q2,mD.a2 ak,k9.cM (af _) al aw]
  refine ah (pb T y.dt hyr.2.1.1 (by have:=hyr.2.1.2;omega) LG) ?_
  rintro v JX ⟨rfl,Rb⟩
  have acP:=Rb.size
  replace kS:=kS.below Rb kS.lt
  replace k6:=k6.below Rb k6.lt
  replace k7:=k7.below Rb k7.lt
  replace k9:=k9.below Rb k9.lt
  replace oq:=oq.below Rb oq.lt
  replace mD:=mD.below Rb mD.lt
  replace ho:=ho.below Rb (Nat.le_refl _)
  replace mM:=mM.below Rb mM.lt
  have Qm:=Uk.below Rb (Nat.le_refl _)
  by_cases q3:y.dt∈T
  case neg=>
   rw[if_neg (fun hh=>q3 hh.2.2)]at GU
   simp(disch:=omega)only[push_cast,aa,↓reduceIte,Nat.reduceEqDiff,Int.reduceEq,fr,decide_eq_false q3]
   exact hJ _ _ ⟨k+1,A,c,aI,(by simp only[push_cast,↓reduceIte,Nat.reduceEqDiff,true_and,and_true,and_self,eq_self,fr]),kS,k6,k7,k9,by rw[GU];exact oq,by rw[GU];exact ho,mM,Qm⟩ (by rw[gZ];simp only[push_cast,↓reduceIte,Nat.reduceEqDiff,intOf,fr];omega)
  rw[if_pos ⟨q1,q2,q3⟩]at GU
  have l10:=oq.lt
  have l9:=k9.lt
  have l6:=k6.lt
  have l7:=k7.lt
  have lS:=kS.lt
  simp(disch:=omega)only[push_cast,aa,↓reduceIte,Nat.reduceEqDiff,Int.reduceEq,fr,decide_eq_true q3,oq.v2 aS,mD.a0 ak,yS]
  refine tu fq ho y.bK (by omega) (by omega) ?_
  intro A18 c18 w18 o18 g18 e18 aoU z18
  have hgb:=fun(x:Nat) (hx:x<g10+1)=>(ho.dB hx)
  replace kS:=kS.grown g18.aJ (hgb _ (by omega))
  replace k6:=k6.grown g18.aJ (hgb _ (by omega))
  replace k7:=k7.grown g18.aJ (hgb _ (by omega))
  replace k9:=k9.grown g18.aJ (hgb _ (by omega))
  replace oq:=oq.grown g18.aJ (hgb _ (by omega))
  replace mM:=mM.grown g18.aJ (hgb _ (by omega))
  have aiR:=Qm.bQ g18 (fun a ha=>by have:=ho.uh a ha;omega)
  simp(disch:=omega)only[push_cast,aa,↓reduceIte,Nat.reduceEqDiff,Int.reduceEq,fr]
  refine cg oq (by kernel_rfl) 2 (by simp[ln.cells]) A18 _ c18 ?_
  intro XJ k19 g19 z19
  have e19:(ln.cells ⟨0,e,A,c,vF p.m s T e k,0⟩).set 2 (.slice A18 ((vF p.m s T e k).length+1) c18)=ln.cells ⟨0,e,A18,c18,vF p.m s T e (k+1),0⟩:=by rw[GU];simp[ln.cells]
  rw[e19]at k19
  simp(disch:=omega)only[push_cast,aa,↓reduceIte,Nat.reduceEqDiff,Int.reduceEq,fr]
  exact hJ _ _ ⟨k+1,A18,c18,aI,(by simp only[push_cast,↓reduceIte,Nat.reduceEqDiff,true_and,and_true,and_self,eq_self,fr]),kS.grown g19.aJ (by simp;omega),k6.grown g19.aJ (by simp;omega),k7.grown g19.aJ (by simp;omega),k9.grown g19.aJ (by simp;omega),k19,by rw[GU];exact o18.bQ g19 (.inr (fun h=>o18.dB (Nat.lt_succ_self g10) h.symm)),mM.grown g19.aJ (by simp;omega),aiR.bQ g19 (by intro a ha;injection ha with ha;subst ha;show w.heap.size≤g10;omega)⟩ (by rw[gZ];simp only[push_cast,↓reduceIte,Nat.reduceEqDiff,intOf,fr];omega)
 obtain rfl:k=p.m.ag.length:=by omega
 have Th:=adP T
 have adU:(vF p.m s T e p.m.ag.length).length≤4096:=by have:=GQ p.m s T e p.m.ag.length;omega
 rw[Th]at oq ho adU
 generalize hSt:nH p.m T s e=St at*
 clear adP Th
 have Mg:Below xw.heap.size xw xw.drew:=(Same.refl xw).drew.below _
 have Ul:=Ql.below Mg (Nat.le_refl _)
 replace kS:=kS.below Mg kS.lt
 replace k6:=k6.below Mg k6.lt
 replace k7:=k7.below Mg k7.lt
 replace k9:=k9.below Mg k9.lt
 replace oq:=oq.below Mg oq.lt
 replace ho:=ho.below Mg (Nat.le_refl _)
 replace mM:=mM.below Mg mM.lt
 have Y6:=hK.cV Ul Y0
 simp(disch:=omega)only[push_cast,aa,↓reduceIte,Nat.reduceEqDiff,Int.reduceEq,fj,fr,Nat.lt_irrefl]
 generalize aoW:xw.drew=Um at*
 have aoX:=Ul.size
 obtain⟨S0,ib⟩:∃S0:World→Prop,∀C1,S0 C1↔(aE C1 g10 143 (ln.cells ⟨0,e,A,c,St,0⟩)∧aE C1 g9 107 (setCells (ae T))∧aE C1 gK 139 (I0 a p A1 free c1 gM)):=⟨_,fun _=>Iff.rfl⟩
 have po:=(ib Um).2 ⟨oq,k9,Y6⟩
 refine⟨S0,po,?_⟩
 have q1:=fun{K f d}=>cK (P:=Tryz.prog) (S:=S0) (K:=K) (f:=f) (d:=d) (w:=Um) (s:=Instr.loadAt 143 (.pointer (some ⟨g10,0,none⟩))) (fun w' hw=>by rw[((ib w').1 hw).1.vA]) po
 have q2:=fun{K f d}=>cK (P:=Tryz.prog) (S:=S0) (K:=K) (f:=f) (d:=d) (w:=Um) (s:=Instr.loadAt 27 (.pointer (some ⟨gK,0,none⟩))) (fun w' hw=>by rw[((ib w').1 hw).2.2.kM0]) po
 have q3:=fun{K f d}=>cK (P:=Tryz.prog) (S:=S0) (K:=K) (f:=f) (d:=d) (w:=Um) (s:=Instr.loadAt 107 (.pointer (some ⟨g9,0,none⟩))) (fun w' hw=>by rw[((ib w').1 hw).2.1.cM (af _) al aw]) po
 have q4:=fun{K f d}=>cK (P:=Tryz.prog) (S:=S0) (K:=K) (f:=f) (d:=d) (w:=Um) (s:=Instr.loadAt 24 (.pointer (some ⟨gK,5,none⟩))) (fun w' hw=>by rw[((ib w').1 hw).2.2.kE]) po
 have q5:=fun{K f d}=>cK (P:=Tryz.prog) (S:=S0) (K:=K) (f:=f) (d:=d) (w:=Um) (s:=Instr.loadAt 24 (.pointer (some ⟨g10,2,none⟩))) (fun w' hw=>by rw[((ib w').1 hw).1.v2 aS]) po
 have q6:=fun{K f d}=>cK (P:=Tryz.prog) (S:=S0) (K:=K) (f:=f) (d:=d) (w:=Um) (v:= .int .i64 St.length) (s:=Builtin.len_ #[24] 3 #[.slice A St.length c]) (fun w' hw=>by simp only[push_cast,↓reduceIte]) po
 have q7:=fun{K f d xo yo}=>cK (P:=Tryz.prog) (S:=S0) (K:=K) (f:=f) (d:=d) (w:=Um) (v:= .bool (decide ((0:Int)<(St.length:Int)))) (s:=bW .gtr 3 xo yo (.int .i64 St.length) (.int .i64 0)) (fun w' hw=>by rw[Ji];rfl) po
 simp(disch:=omega)only[push_cast,aa,↓reduceIte,Nat.reduceEqDiff,Int.reduceEq,fr,q1,q2,q3,q4,q5,q6,q7]
 have adV:=(ha.cV Ul Qk JY).mono fun b hb=>(Nat.lt_of_lt_of_le hb (by omega):b<Um.heap.size)
 refine ah (aag adV.m hm (rT.small (by omega)) adV.seen hf.HM) ?_
 rintro v Ga ⟨rfl,xy⟩
 have S15:=(ib Ga).2 ⟨oq.below xy oq.lt,k9.below xy k9.lt,Y6.below xy Y6.lt⟩
 replace k6:=k6.below xy k6.lt
 replace k7:=k7.below xy k7.lt
 replace ho:=ho.below xy (Nat.le_refl _)
 replace mM:=mM.below xy mM.lt
 have Uj:=Ul.below xy (Nat.le_refl _)
 have lK:=hK.lt
 have Y7:=(ib Ga).1 S15
 simp(disch:=omega)only[push_cast,aa,↓reduceIte,Nat.reduceEqDiff,Int.reduceEq,fr]
 refine⟨S15,?_⟩
 refine aC k6 (cs:=ln.cells ⟨0,e,A,c,St,0⟩) (GV _) rfl (I6 _) ?_
 intro LG k6' g16 z16
 have S16:=(ib LG).2 ⟨Y7.1.grown g16.aJ (by simp;omega),Y7.2.1.grown g16.aJ (by simp;omega),Y7.2.2.grown g16.aJ (by simp;omega)⟩
 replace k7:=k7.grown g16.aJ (by simp;omega)
 replace ho:=ho.bQ g16 (.inr (fun h=>ho.dB (show w1.heap.size<g10+1 by omega) h.symm))
 replace mM:=mM.grown g16.aJ (by simp;omega)
 have Uk:=Uj.bQ g16 (by intro a ha;injection ha with ha;subst ha;show w.heap.size≤w1.heap.size;omega)
 simp(disch:=omega)only[push_cast,aa,↓reduceIte,Nat.reduceEqDiff,Int.reduceEq,fr]
 refine⟨S16,?_⟩
 refine aC k7 (cs:=setCells (ae (iV p.m p.seen T))) (bn _) (by rw[ao,ao]) (aH _) ?_
 intro JX Z4 g17 z17
 have Y8:=(ib LG).1 S16
 have S17:=(ib JX).2 ⟨Y8.1.grown g17.aJ (by simp;omega),Y8.2.1.grown g17.aJ (by simp;omega),Y8.2.2.grown g17.aJ (by simp;omega)⟩
 replace k6':=k6'.grown g17.aJ (by simp;omega)
 replace ho:=ho.bQ g17 (.inr (fun h=>ho.dB (show w2.heap.size<g10+1 by omega) h.symm))
 replace mM:=mM.grown g17.aJ (by simp;omega)
 have Qm:=Uk.bQ g17 (by intro a ha;injection ha with ha;subst ha;show w.heap.size≤w2.heap.size;omega)
 simp(disch:=omega)only[push_cast,aa,↓reduceIte,Nat.reduceEqDiff,Int.reduceEq,fr]
 refine⟨S17,?_⟩
 have aiT:decide ((0:Int)<(St.length:Int))=decide (0<St.length):=decide_eq_decide.2 (by omega)
 exact Ui k6' C6 (GV _) Z4 al (bn _) (by simp only[push_cast,↓reduceIte,Nat.reduceEqDiff,Int.reduceEq,fr]) (by simp only[push_cast,↓reduceIte,Nat.reduceEqDiff,Int.reduceEq,fr]) (hQ _ _ ⟨A,c,(by simp only[push_cast,↓reduceIte,Nat.reduceEqDiff,Int.reduceEq,fr,aiT]),ho.base (by omega),⟨⟨χ,hχ,mM⟩,Qm⟩,hT.cV hM Qm⟩)
open Go.RowKit
abbrev MvT:=Int×Int×List Int×Int
def ln.abs(x:ln):MvT:=(x.n,x.e,x.st,x.dt)
def Mv.abs(x:Mv):MvT:=((x.node:Int),x.dI,x.stay,(x.dt:Int))
abbrev ko:List Value:=[.slice none 0 0,.slice none 0 0]
abbrev CY(A:Option Addr)(n c:Nat)(A':Option Addr)(n' c':Nat):List Value:=[.slice A n c,.slice A' n' c']
theorem iX(A:Option Addr)(n c:Nat)(A':Option Addr)(n' c':Nat):aL Tryz.prog 80=some (CY A n c A' n' c').length:=Nn
theorem Y9(A:Option Addr)(n c:Nat)(A':Option Addr)(n' c':Nat):(CY A n c A' n' c').all (·.oneCell')=true:=rfl
def qB(p:cO)(free:List Int):Prop:=km free p.seen∧vD p.m
def Za(w:World)(v:Value)(st:VS):Prop:=
 ∃(An:Option Addr) (cn:Nat) (hs:List Hd) (Am:Option Addr) (cm:Nat) (ms:List ln),v= .agg (CY An hs.length cn Am ms.length cm).toArray∧
  bq Hd.cells 1 (·<w.heap.size) w An hs∧Xb (·<w.heap.size) w hs∧hs.map (·.l)=st.nodes∧
  bq ln.cells 4 (·<w.heap.size) w Am ms∧(∀x∈ms,Ints (·<w.heap.size) w x.A x.st)∧ms.map ln.abs=st.eQ.map Mv.abs
def GW(p:cO)(free:List Int)(w:World)(v:Value)(w':World):Prop:=Below w.heap.size w w'∧
 ((¬(p.bZ∧az free p.m.events)∧v= .tuple #[.agg ko.toArray,.bool false,.int .i64 2])∨
  ((p.bZ∧az free p.m.events)∧¬qB p free∧v= .tuple #[.agg ko.toArray,.bool false,.int .i64 3])∨
  ((p.bZ∧az free p.m.events)∧qB p free∧¬(bg p≠[]∧Kp p free (bg p))∧v= .tuple #[.agg ko.toArray,.bool false,.int .i64 0])∨
  ((p.bZ∧az free p.m.events)∧qB p free∧(bg p≠[]∧Kp p free (bg p))∧∃k V,(bU p free k).nodes.length=k∧Za w' V (bU p free k)∧v= .tuple #[V,.bool true,.int .i64 0]))
theorem pz{K:Fr→World→Prop}{u:World}{f:Fr}{d:Option Nat}{w:World}:aq Tryz.prog K (Instr.build 80 #[]) u f d w=K (ai f d (.agg ko.toArray)) w:=gF (by kernel_rfl)
theorem Qn:iE Tryz.prog 139=some ([(0,7),(7,1),(8,1)],[.int .i64 0,.int .i64 0,.slice none 0 0,.slice none 0 0,.slice none 0 0,.slice none 0 0,.slice none 0 0,.slice none 0 0,.map none]):=by kernel_rfl
theorem Mo{K:Fr→World→Prop}{u:World}{f:Fr}{d:Option Nat}{w:World}(a:PV)(p:cO)(A:Option Addr)(free:List Int)(c gM:Nat):
  aq Tryz.prog K (Instr.build 139 #[(0,a.val p),(1,.slice A free.length c),(2,.map (some gM))]) u f d w=K (ai f d (.agg (I0 a p A free c gM).toArray)) w:=by
 have:=Js (P:=Tryz.prog) (K:=K) (u:=u) (f:=f) (d:=d) (w:=w) Qn rfl rfl rfl rfl (v0:=a.val p) (v1:= .slice A free.length c) (v2:= .map (some gM)) rfl rfl rfl
 rw[this];rfl
section
variable {K:Fr→World→Prop} {u:World} {f:Fr} {d:Option Nat} {w:World} {g t ty:Nat} {A A':Option Addr} {n c n' c':Nat}
theorem aE.w0(h:aE u g t (CY A n c A' n' c'))(ht:aR Tryz.prog ty=some false):aq Tryz.prog K (Instr.loadAt ty (.pointer (some ⟨g,0,none⟩))) u f d w=K (ai f d (.slice A n c)) w:=h.ld ht 0 (by simp)
theorem aE.w1(h:aE u g t (CY A n c A' n' c'))(ht:aR Tryz.prog ty=some false):aq Tryz.prog K (Instr.loadAt ty (.pointer (some ⟨g,1,none⟩))) u f d w=K (ai f d (.slice A' n' c')) w:=h.ld ht 1 (by simp)
theorem aE.wA(h:aE u g t (CY A n c A' n' c')):aq Tryz.prog K (Instr.loadAt 80 (.pointer (some ⟨g,0,none⟩))) u f d w=K (ai f d (.agg (CY A n c A' n' c').toArray)) w:=h.dC jL (iX A n c A' n' c')
end
theorem cj.ofM{es:List Nat}{B gM:Nat}{w w':World}{φ:List Int→Option Int}(k:cF gM w w')(hM:SMap w gM φ)(hB:B≤gM):cj es B w w':=
 ⟨k.size,fun b hb=>k.block b hb.1 (fun e=>by
  subst e
  rcases hb.2 with h|⟨t,_,cs,r,h⟩
  ·omega
  ·obtain⟨kv,⟨es,cl,hh,_⟩,_⟩:=hM
   rw[hh]at h;cases h)⟩
theorem SMap.cV{w w':World}{g gM:Nat}{φ:List Int→Option Int}(h:SMap w g φ)(k:cF gM w w')(cY:g≠gM):SMap w' g φ:=h.keep (k.block g h.lt cY)
structure og(w0:World)(a:PV)(p:cO)(A1:Option Addr)(free:List Int)(c1 gR gM gK gN gV:Nat)(w:World)(st:VS)(AN:Option Addr)(cN:Nat)(hs:List Hd)(An:Option Addr)(cn:Nat)(ms:List ln)(Am:Option Addr)(cm:Nat):Prop where
 kP:aE w w0.heap.size 67 (a.cells p)
 kR:aE w gR 80 ko
 kK:aE w gK 139 (I0 a p A1 free c1 gM)
 kV:aE w gV 80 (CY An hs.length cn Am ms.length cm)
 mM:∃χ,Kl p free χ∧SMap w gM χ
 mN:∃ψ,SMap w gN ψ∧∀t,az t 6→ψ t=if t∈st.nodes then some (vM t st.nodes:Int)else none
 oN:bH vk (gN+1) 107 4 w AN cN st.nodes
 oH:bH Hd.cells (gN+1) 24 1 w An cn hs
 oM:bH ln.cells (gN+1) 143 4 w Am cm ms
 rH:∀x∈hs,Ints (GF [3] 0 w) w x.A x.l
 rM:∀x∈ms,Ints (GF [3] 0 w) w x.A x.st
 ab:ms.map ln.abs=st.eQ.map Mv.abs
 tb:Below w0.heap.size w0 w
section
variable {w0:World} {a:PV} {p:cO} {A1:Option Addr} {free:List Int} {c1 gR gM gK gN gV:Nat} {w w':World} {st:VS} {AN:Option Addr} {cN:Nat} {hs:List Hd} {An:Option Addr} {cn:Nat} {ms:List ln} {Am:Option Addr} {cm:Nat}
theorem og.below(h:og w0 a p A1 free c1 gR gM gK gN gV w st AN cN hs An cn ms Am cm)(b:Below w.heap.size w w'):og w0 a p A1 free c1 gR gM gK gN gV w' st AN cN hs An cn ms Am cm:=
 {kP:=h.kP.below b h.kP.lt
  kR:=h.kR.below b h.kR.lt
  kK:=h.kK.below b h.kK.lt
  kV:=h.kV.below b h.kV.lt
  mM:=by obtain⟨χ,h1,h2⟩:=h.mM;exact⟨χ,h1,h2.below b h2.lt⟩
  mN:=by obtain⟨ψ,h1,h2⟩:=h.mN;exact⟨ψ,h1.below b h1.lt,h2⟩
  oN:=h.oN.below b (Nat.le_refl _)
  oH:=h.oH.below b (Nat.le_refl _)
  oM:=h.oM.below b (Nat.le_refl _)
  rH:=fun x hx=>(h.rH x hx).eF (.below b)
  rM:=fun x hx=>(h.rM x hx).eF (.below b)
  ab:=h.ab
  tb:=h.tb.trans (b.mono h.tb.size)}
theorem og.row(h:og w0 a p A1 free c1 gR gM gK gN gV w st AN cN hs An cn ms Am cm)(q1:w0.heap.size<gN+1)(q2:gR<gN+1)(q3:gK<gN+1)(q4:gM<gN+1)(q5:gN<gV){x:Hd}(hx:Ints (GF [3] 0 w) w x.A x.l){A':Option Addr}{c':Nat}{w2:World}
  (o:bH Hd.cells (gN+1) 24 1 w' A' c' (hs++[x]))(g:bJ w w' An)(k:aE w2 gV 80 (CY A' (hs++[x]).length c' Am ms.length cm))(g2:bJ w' w2 (some ⟨gV,0,none⟩)):og w0 a p A1 free c1 gR gM gK gN gV w2 st AN cN (hs++[x]) A' c' ms Am cm:=by
 have Un:=h.kV.grown g.aJ (h.oH.bG h.kV (by decide)).symm
 have kt:=(cj.bQ (es:=[3]) h.oH (Nat.zero_le _) (by decide) g).trans (cj.iJ Un (Nat.zero_le _) (by decide) g2)
 have nv:∀y,y<gN+1→some y≠(some (⟨gV,0,none⟩:Addr)).map (·.block):=fun y hy=>by simp;omega
 have oN':=h.oN.bQ g (Own.apart h.oN h.oH (by decide))
 have oM':=h.oM.bQ g (Own.apart h.oM h.oH (by decide))
 have b1:=g.below h.tb h.tb.size (fun a ha=>by have:=h.oH.uh a ha;omega)
 exact{
  kP:=(h.kP.grown g.aJ (h.oH.dB q1)).grown g2.aJ (nv _ q1)
  kR:=(h.kR.grown g.aJ (h.oH.dB q2)).grown g2.aJ (nv _ q2)
  kK:=(h.kK.grown g.aJ (h.oH.dB q3)).grown g2.aJ (nv _ q3)
  kV:=k
  mM:=by obtain⟨χ,h1,h2⟩:=h.mM;exact⟨χ,h1,(h2.grown g.aJ (h.oH.dB q4)).grown g2.aJ (nv _ q4)⟩
  mN:=by obtain⟨ψ,h1,h2⟩:=h.mN;exact⟨ψ,(h1.grown g.aJ (h.oH.dB (Nat.lt_succ_self _))).grown g2.aJ (nv _ (Nat.lt_succ_self _)),h2⟩
  oN:=oN'.bQ g2 (.inr (oN'.bG Un (by decide)))
  oH:=o.bQ g2 (.inr (o.bG Un (by decide)))
  oM:=oM'.bQ g2 (.inr (oM'.bG Un (by decide)))
  rH:=fun y hy=>by
   rcases List.mem_append.1 hy with hy|hy
   ·exact(h.rH y hy).eF kt
   ·rw[List.mem_singleton.1 hy];exact hx.eF kt
  rM:=fun y hy=>(h.rM y hy).eF kt
  ab:=h.ab
  tb:=g2.below b1 b1.size (by intro a ha;injection ha with ha;subst ha;show w0.heap.size≤gV;omega)}
theorem og.move(h:og w0 a p A1 free c1 gR gM gK gN gV w st AN cN hs An cn ms Am cm)(q1:w0.heap.size<gN+1)(q2:gR<gN+1)(q3:gK<gN+1)(q4:gM<gN+1)(q5:gN<gV){x:ln}(hx:Ints (GF [3] 0 w) w x.A x.st){A':Option Addr}{c':Nat}{w2:World}{st':VS}(e1:st'.nodes=st.nodes)(e2:st'.eQ.map Mv.abs=st.eQ.map Mv.abs++[x.abs])
  (o:bH ln.cells (gN+1) 143 4 w' A' c' (ms++[x]))(g:bJ w w' Am)(k:aE w2 gV 80 (CY An hs.length cn A' (ms++[x]).length c'))(g2:bJ w' w2 (some ⟨gV,0,none⟩)):og w0 a p A1 free c1 gR gM gK gN gV w2 st' AN cN hs An cn (ms++[x]) A' c':=by
 have Un:=h.kV.grown g.aJ (h.oM.bG h.kV (by decide)).symm
 have kt:=(cj.bQ (es:=[3]) h.oM (Nat.zero_le _) (by decide) g).trans (cj.iJ Un (Nat.zero_le _) (by decide) g2)
 have nv:∀y,y<gN+1→some y≠(some (⟨gV,0,none⟩:Addr)).map (·.block):=fun y hy=>by simp;omega
 have oN':=h.oN.bQ g (Own.apart h.oN h.oM (by decide))
 have oH':=h.oH.bQ g (Own.apart h.oH h.oM (by decide))
 have b1:=g.below h.tb h.tb.size (fun a ha=>by have:=h.oM.uh a ha;omega)
 exact{
  kP:=(h.kP.grown g.aJ (h.oM.dB q1)).grown g2.aJ (nv _ q1)
  kR:=(h.kR.grown g.aJ (h.oM.dB q2)).grown g2.aJ (nv _ q2)
  kK:=(h.kK.grown g.aJ (h.oM.dB q3)).grown g2.aJ (nv _ q3)
  kV:=k
  mM:=by obtain⟨χ,h1,h2⟩:=h.mM;exact⟨χ,h1,(h2.grown g.aJ (h.oM.dB q4)).grown g2.aJ (nv _ q4)⟩
  mN:=by obtain⟨ψ,h1,h2⟩:=h.mN;exact⟨ψ,(h1.grown g.aJ (h.oM.dB (Nat.lt_succ_self _))).grown g2.aJ (nv _ (Nat.lt_succ_self _)),by rw[e1];exact h2⟩
  oN:=by rw[e1];exact oN'.bQ g2 (.inr (oN'.bG Un (by decide)))
  oH:=oH'.bQ g2 (.inr (oH'.bG Un (by decide)))
  oM:=o.bQ g2 (.inr (o.bG Un (by decide)))
  rH:=fun y hy=>(h.rH y hy).eF kt
  rM:=fun y hy=>by
   rcases List.mem_append.1 hy with hy|hy
   ·exact(h.rM y hy).eF kt
   ·rw[List.mem_singleton.1 hy];exact hx.eF kt
  ab:=by rw[List.map_append,h.ab,e2];rfl
  tb:=g2.below b1 b1.size (by intro a ha;injection ha with ha;subst ha;show w0.heap.size≤gV;omega)}
theorem og.node(h:og w0 a p A1 free c1 gR gM gK gN gV w st AN cN hs An cn ms Am cm)(q1:w0.heap.size<gN)(q2:gR<gN)(q3:gK<gN)(q4:gM<gN)(q5:gN<gV){y:List Int}{ψ':List Int→Option Int}{wm:World}{A':Option Addr}{c':Nat}{w2:World}
  (g:bJ w wm (some ⟨gN,0,none⟩))(mN:SMap wm gN ψ')(hψ2:∀t,az t 6→ψ' t=if t∈st.nodes++[y]then some (vM t (st.nodes++[y]):Int)else none)
  (o:bH vk (gN+1) 107 4 w2 A' c' (st.nodes++[y]))(g2:bJ wm w2 AN):og w0 a p A1 free c1 gR gM gK gN gV w2 ⟨st.nodes++[y],st.eQ⟩ A' c' hs An cn ms Am cm:=by
 have nv:∀z,z≠gN→some z≠(some (⟨gN,0,none⟩:Addr)).map (·.block):=fun z hz=>by simp;exact hz
 have nm:∀{A:Option Addr} {e sz c n:Nat} {xs:List Value},Own (gN+1) e sz w A c n xs→A.map (·.block)≠(some (⟨gN,0,none⟩:Addr)).map (·.block):=fun o=>(o.dB (Nat.lt_succ_self gN)).symm
 have Re:=h.oN.bQ g (.inr (nm h.oN))
 have oH1:=h.oH.bQ g (.inr (nm h.oH))
 have oM1:=h.oM.bQ g (.inr (nm h.oM))
 have b1:=g.below h.tb h.tb.size (by intro a ha;injection ha with ha;subst ha;show w0.heap.size≤gN;omega)
 have lV:gV≠gN:=by omega
 have kV1:=h.kV.grown g.aJ (nv _ lV)
 have kt1:cj [3] 0 w wm:=⟨g.aJ.size,fun b hb=>g.aJ.block b hb.1 (nv _ (fun e=>by
  subst e
  rcases hb.2 with hb|⟨e',_,cs,r,hh⟩
  ·omega
  ·obtain⟨ψ,⟨kv,⟨es,cl,hm,_⟩,_⟩,_⟩:=h.mN
   rw[hm]at hh;cases hh))⟩
 have kt:=kt1.trans (cj.bQ (es:=[3]) Re (Nat.zero_le _) (by decide) g2)
 exact{
  kP:=(h.kP.grown g.aJ (nv _ (by omega))).grown g2.aJ (Re.dB (by omega))
  kR:=(h.kR.grown g.aJ (nv _ (by omega))).grown g2.aJ (Re.dB (by omega))
  kK:=(h.kK.grown g.aJ (nv _ (by omega))).grown g2.aJ (Re.dB (by omega))
  kV:=kV1.grown g2.aJ (Re.bG kV1 (by decide)).symm
  mM:=by obtain⟨χ,h1,h2⟩:=h.mM;exact⟨χ,h1,(h2.grown g.aJ (nv _ (by omega))).grown g2.aJ (Re.dB (by omega))⟩
  mN:=⟨ψ',mN.grown g2.aJ (Re.dB (Nat.lt_succ_self _)),hψ2⟩
  oN:=o
  oH:=oH1.bQ g2 (Own.apart oH1 Re (by decide))
  oM:=oM1.bQ g2 (Own.apart oM1 Re (by decide))
  rH:=fun y hy=>(h.rH y hy).eF kt
  rM:=fun y hy=>(h.rM y hy).eF kt
  ab:=h.ab
  tb:=g2.below b1 b1.size (fun a ha=>by have:=Re.uh a ha;omega)}
theorem aE.Kr{w:World}{g g' t t':Nat}{cs Wl:List Value}(h:aE w g t cs)(h':aE w g' t' Wl)(ht:t≠t'):g≠g':=fun e=>by
 subst e
 unfold aE at h h'
 rw[h]at h'
 injection h' with h'
 injection h' with _ e2
 exact ht e2
theorem og.EP(h:og w0 a p A1 free c1 gR gM gK gN gV w st AN cN hs An cn ms Am cm){g i:Nat}{cs:List Value}(hk:aE w g 143 cs)(q0:w0.heap.size≤g)(hA:Am.map (·.block)≠some g)(gr:bJ w w' (some ⟨g,i,none⟩)):og w0 a p A1 free c1 gR gM gK gN gV w' st AN cN hs An cn ms Am cm:=by
 have nv:∀z,z≠g→some z≠(some (⟨g,i,none⟩:Addr)).map (·.block):=fun z hz=>by simp;exact hz
 have kt:=cj.iJ (es:=[3]) (B:=0) hk (Nat.zero_le _) (by decide) gr
 exact{
  kP:=h.kP.grown gr.aJ (nv _ (h.kP.Kr hk (by decide)))
  kR:=h.kR.grown gr.aJ (nv _ (h.kR.Kr hk (by decide)))
  kK:=h.kK.grown gr.aJ (nv _ (h.kK.Kr hk (by decide)))
  kV:=h.kV.grown gr.aJ (nv _ (h.kV.Kr hk (by decide)))
  mM:=by obtain⟨χ,h1,h2⟩:=h.mM;exact⟨χ,h1,h2.grown gr.aJ (nv _ (hk.qA h2).symm)⟩
  mN:=by obtain⟨ψ,h1,h2⟩:=h.mN;exact⟨ψ,h1.grown gr.aJ (nv _ (hk.qA h1).symm),h2⟩
  oN:=h.oN.bQ gr (.inr (h.oN.bG hk (by decide)))
  oH:=h.oH.bQ gr (.inr (h.oH.bG hk (by decide)))
  oM:=h.oM.bQ gr (.inr hA)
  rH:=fun y hy=>(h.rH y hy).eF kt
  rM:=fun y hy=>(h.rM y hy).eF kt
  ab:=h.ab
  tb:=gr.below h.tb h.tb.size (by intro a ha;injection ha with ha;subst ha;exact q0)}
theorem og.cV(h:og w0 a p A1 free c1 gR gM gK gN gV w st AN cN hs An cn ms Am cm)(q0:w0.heap.size<gM)(q2:gR<gM)(q3:gK≠gM)(q4:gM<gN)(q5:gN<gV)(k:cF gM w w')(hM:∃χ,Kl p free χ∧SMap w' gM χ):og w0 a p A1 free c1 gR gM gK gN gV w' st AN cN hs An cn ms Am cm:=by
 obtain⟨χ0,_,hM0⟩:=h.mM
 have kt:=cj.ofM (es:=[3]) (B:=0) k hM0 (Nat.zero_le _)
 exact{
  kP:=h.kP.cV k (by omega)
  kR:=h.kR.cV k (by omega)
  kK:=h.kK.cV k q3
  kV:=h.kV.cV k (by omega)
  mM:=hM
  mN:=by obtain⟨ψ,h1,h2⟩:=h.mN;exact⟨ψ,h1.cV k (by omega),h2⟩
  oN:=h.oN.cV (by omega) k
  oH:=h.oH.cV (by omega) k
  oM:=h.oM.cV (by omega) k
  rH:=fun y hy=>(h.rH y hy).eF kt
  rM:=fun y hy=>(h.rM y hy).eF kt
  ab:=h.ab
  tb:=k.GO h.tb h.tb.size (by omega)}
end
theorem Ks{x:List Int}:∀{l:List (List Int)} {i:Nat},i<vM x l→l[i]? =some x→False
 |[],i,h,_=>by simp[vM]at h
 |y :: l,i,h,hi=>by
  unfold vM at h
  by_cases c:y=x
  ·rw[if_pos c]at h;omega
  ·rw[if_neg c]at h
   cases i with
   |zero=>simp at hi;exact c hi
   |succ i=>exact Ks (l:=l) (i:=i) (Nat.lt_of_succ_lt_succ h) (by simpa using hi)
theorem cj.adX{es:List Nat}{w w':World}{g o:Nat}{nodes:List (List Int)}(h:∃ψ,SMap w g ψ∧∀t,az t 6→ψ t=if t∈nodes then some (vM t nodes:Int)else none)(gr:bJ w w' (some ⟨g,o,none⟩)):cj es 0 w w':=
 ⟨gr.aJ.size,fun b hb=>gr.aJ.block b hb.1 (by
  simp only[Option.map_some,ne_eq,Option.some.injEq]
  rintro rfl
  rcases hb.2 with hb|⟨e',_,cs,r,hh⟩
  ·omega
  ·obtain⟨ψ,⟨kv,⟨es,cl,hm,_⟩,_⟩,_⟩:=h
   rw[hm]at hh;cases hh)⟩
theorem yu{p:cO}{free:List Int}(k:Nat):∀(es:List Int) (st:VS),(es.foldl (vE p free k) st).eQ.length≤st.eQ.length+es.length
 |[],_=>Nat.le_refl _
 |e :: es,st=>by
  have h1:=yu (p:=p) (free:=free) k es (vE p free k st e)
  have h2:(vE p free k st e).eQ.length≤st.eQ.length+1:=by
   unfold vE
   split
   ·omega
   ·simp
  rw[List.foldl_cons,List.length_cons];omega
theorem yv{p:cO}{free:List Int}(hn:p.seen.length≤8):∀k,(bU p free k).eQ.length≤8*k
 |0=>by simp[bU]
 |k+1=>by
  have h1:=yu (p:=p) (free:=free) k p.seen (bU p free k)
  have h2:=yv (p:=p) (free:=free) hn k
  show(p.seen.foldl (vE p free k) (bU p free k)).eQ.length≤_
  omega
theorem Mp{p:cO}{free:List Int}(hn:p.seen.length≤8)(k j:Nat):(mK p free k j).eQ.length≤8*k+8:=by
 have h1:=yu (p:=p) (free:=free) k (p.seen.take j) (bU p free k)
 have h2:=yv (p:=p) (free:=free) hn k
 have h3:=List.length_take_le j p.seen
 show((p.seen.take j).foldl (vE p free k) (bU p free k)).eQ.length≤_
 rw[List.length_take]at h1
 omega
set_option maxHeartbeats 4000000 in
theorem yw{w:World}{a:PV}{p:cO}(ha:tv (·<w.heap.size) w a p)(hf:p.Fits)(hT:xq w){A1:Option Addr}{c1:Nat}{free:List Int}(h1:Ints (·<w.heap.size) w A1 free)(n1:free.length≤17592186043904):
  dw Tryz.prog 28 [a.val p,.slice A1 free.length c1] w (GW p free w):=by
 refine CA (by simp) 1000000 fun Q hQ=>?_
 simp(disch:=omega)only[push_cast,aa,↓reduceIte,Nat.reduceEqDiff,Int.reduceEq,yE]
 refine au (aO _ (a.cells p)) ?_
 intro w1 kP b1 z1
 simp(disch:=omega)only[push_cast,aa,↓reduceIte,Nat.reduceEqDiff,Int.reduceEq]
 refine au (cs:=ko) Fs ?_
 intro w2 kR b2 z2
 have I1:=b1.trans (b2.mono b1.size)
 replace kP:=kP.below b2 kP.lt
 have lP:=kP.lt
 have lR:=kR.lt
 have hz2:=I1.size
 simp(disch:=omega)only[push_cast,aa,↓reduceIte,Nat.reduceEqDiff,Int.reduceEq,kP.J4]
 refine ah (nC (ha.up I1) hf) ?_
 rintro v w3 ⟨rfl,b3⟩
 have MS:=I1.trans (b3.mono hz2)
 replace kP:=kP.below b3 kP.lt
 replace kR:=kR.below b3 kR.lt
 by_cases pm:p.bZ
 case neg=>
  have bx:=MS
  simp(disch:=omega)only[push_cast,aa,↓reduceIte,Nat.reduceEqDiff,Int.reduceEq,decide_eq_false pm,pz]
  refine aC kR (cs:=ko) (iX none 0 0 none 0 0) rfl rfl ?_
  intro wx Qo gx zx
  have fr:=True.intro
  simp(disch:=omega)only[push_cast,aa,↓reduceIte,Nat.reduceEqDiff,Int.reduceEq,fr]
  exact vm Qo jL (iX none 0 0 none 0 0) (by simp only[push_cast,↓reduceIte,Nat.reduceEqDiff,Int.reduceEq]) (hQ _ _ ⟨gx.below bx bx.size (by intro a ha;injection ha with ha;subst ha;exact b1.size),.inl ⟨fun h=>pm h.1,(by simp only[push_cast,↓reduceIte,Nat.reduceEqDiff,Int.reduceEq])⟩⟩)
 simp(disch:=omega)only[push_cast,aa,↓reduceIte,Nat.reduceEqDiff,Int.reduceEq,decide_eq_true pm,kP.p1]
 refine ah (nY (h1.up MS) c1 p.m.events (by omega)) ?_
 rintro v w4 ⟨rfl,s4⟩
 have Hh:=s4.below w3.heap.size
 have I2:=MS.trans (Hh.mono MS.size)
 replace kP:=kP.below Hh kP.lt
 replace kR:=kR.below Hh kR.lt
 by_cases pr:az free p.m.events
 case neg=>
  have bx:=I2
  simp(disch:=omega)only[push_cast,aa,↓reduceIte,Nat.reduceEqDiff,Int.reduceEq,decide_eq_false pr,pz]
  refine aC kR (cs:=ko) (iX none 0 0 none 0 0) rfl rfl ?_
  intro wx Qo gx zx
  have fr:=True.intro
  simp(disch:=omega)only[push_cast,aa,↓reduceIte,Nat.reduceEqDiff,Int.reduceEq,fr]
  exact vm Qo jL (iX none 0 0 none 0 0) (by simp only[push_cast,↓reduceIte,Nat.reduceEqDiff,Int.reduceEq]) (hQ _ _ ⟨gx.below bx bx.size (by intro a ha;injection ha with ha;subst ha;exact b1.size),.inl ⟨fun h=>pr h.2,(by simp only[push_cast,↓reduceIte,Nat.reduceEqDiff,Int.reduceEq])⟩⟩)
 have Q4:p.bZ∧az free p.m.events:=⟨pm,pr⟩
 have hm:=pm.1
 have ev8:=hm.2.2.2.1
 have Hj:Small free:=pr.small (by omega)
 have sm2:Small p.seen:=pm.2.2.1.small (by omega)
 have bd4:Below w4.heap.size w4 w4.drew:=(Same.refl w4).drew.below _
 have Zb:=I2.trans (bd4.mono I2.size)
 replace kP:=kP.below bd4 kP.lt
 replace kR:=kR.below bd4 kR.lt
 clear Hh b3 bd4 s4 MS I1 b2
 have LY:=Zb.size
 have hz4:=I2.size
 generalize hu5:w4.drew=u5 at*
 simp(disch:=omega)only[push_cast,aa,↓reduceIte,Nat.reduceEqDiff,Int.reduceEq,decide_eq_true pr,hu5,kP.p5]
 refine ah (gO (h1.up Zb) c1 n1 Hj) ?_
 rintro v w6 ⟨rfl,b6⟩
 have b06:=Zb.trans (b6.mono LY)
 simp(disch:=omega)only[push_cast,aa,↓reduceIte,Nat.reduceEqDiff,Int.reduceEq]
 refine⟨b6,?_⟩
 refine ah (gO (ha.up b06).seen a.cp hf.HM sm2) ?_
 rintro v w7 ⟨rfl,b7⟩
 have Ou:=b6.trans (b7.mono b6.size)
 have b07:=Zb.trans (Ou.mono LY)
 simp(disch:=omega)only[push_cast,aa,↓reduceIte,Nat.reduceEqDiff,Int.reduceEq]
 refine⟨Ou,?_⟩
 refine ah (BO Hj w7) ?_
 rintro v w8 ⟨rfl,b8⟩
 have Hl:=Ou.trans (b8.mono Ou.size)
 have b08:=Zb.trans (Hl.mono LY)
 have kP8:=kP.below Hl kP.lt
 have kR8:=kR.below Hl kR.lt
 by_cases Uo:km free p.seen
 case neg=>
  simp(disch:=omega)only[push_cast,aa,↓reduceIte,Nat.reduceEqDiff,Int.reduceEq,decide_eq_false Uo]
  refine⟨Hl,?_⟩
  clear kP kR
  have kR:=kR8
  have bx:=b08
  simp(disch:=omega)only[push_cast,aa,↓reduceIte,Nat.reduceEqDiff,Int.reduceEq,pz]
  refine⟨Hl,?_⟩
  refine aC kR (cs:=ko) (iX none 0 0 none 0 0) rfl rfl ?_
  intro wx Qo gx zx
  have fr:=True.intro
  simp(disch:=omega)only[push_cast,aa,↓reduceIte,Nat.reduceEqDiff,Int.reduceEq,fr]
  exact vm Qo jL (iX none 0 0 none 0 0) (by simp only[push_cast,↓reduceIte,Nat.reduceEqDiff,Int.reduceEq]) (hQ _ _ ⟨gx.below bx bx.size (by intro a ha;injection ha with ha;subst ha;exact b1.size),.inr (.inl ⟨Q4,fun h=>Uo h.1,(by simp only[push_cast,↓reduceIte,Nat.reduceEqDiff,Int.reduceEq])⟩)⟩)
 simp(disch:=omega)only[push_cast,aa,↓reduceIte,Nat.reduceEqDiff,Int.reduceEq,decide_eq_true Uo,kP.J4]
 refine⟨Hl,?_⟩
 refine ah (IV (ha.up b08) hm) ?_
 rintro v w9 ⟨⟨bp,rfl,hbp⟩,b9⟩
 have TW:=Hl.trans (b9.mono Hl.size)
 have b09:=Zb.trans (TW.mono LY)
 replace kP:=kP.below TW kP.lt
 replace kR:=kR.below TW kR.lt
 clear kP8 kR8
 cases bp with
 |false=>
  have hnp:¬vD p.m:=fun h=>by have:=hbp.2 h;cases this
  have bx:=b09
  simp(disch:=omega)only[push_cast,aa,↓reduceIte,Nat.reduceEqDiff,Int.reduceEq]
  refine⟨TW,?_⟩
  simp(disch:=omega)only[push_cast,aa,↓reduceIte,Nat.reduceEqDiff,Int.reduceEq,pz]
  refine aC kR (cs:=ko) (iX none 0 0 none 0 0) rfl rfl ?_
  intro wx Qo gx zx
  have fr:=True.intro
  simp(disch:=omega)only[push_cast,aa,↓reduceIte,Nat.reduceEqDiff,Int.reduceEq,fr]
  exact vm Qo jL (iX none 0 0 none 0 0) (by simp only[push_cast,↓reduceIte,Nat.reduceEqDiff,Int.reduceEq]) (hQ _ _ ⟨gx.below bx bx.size (by intro a ha;injection ha with ha;subst ha;exact b1.size),.inr (.inl ⟨Q4,fun h=>hnp h.2,(by simp only[push_cast,↓reduceIte,Nat.reduceEqDiff,Int.reduceEq])⟩)⟩)
 |true=>
 have TF:=hbp.1 rfl
 have cL:qB p free:=⟨Uo,TF⟩
 clear hbp Ou b06 b07 b08 b6 b7 b8 Hl b9
 have hz9:=b09.size
 simp(disch:=omega)only[push_cast,aa,↓reduceIte,Nat.reduceEqDiff,Int.reduceEq]
 refine⟨TW,?_⟩
 simp(disch:=omega)only[push_cast,aa,↓reduceIte,Nat.reduceEqDiff,Int.reduceEq,kP.J4,lf]
 have lR9:=kR.lt
 refine pg (k:=107) _ ?_
 intro uv m10 fM U6
 have mM:=SMap.empty m10
 have Zc:=b09.trans (fM.mono hz9)
 replace kP:=kP.below fM kP.lt
 replace kR:=kR.below fM kR.lt
 have lM:=mM.lt
 clear m10 fM TW Zb I2
 generalize hgM:w9.heap.size=gM at*
 simp(disch:=omega)only[push_cast,aa,↓reduceIte,Nat.reduceEqDiff,Int.reduceEq,Mo]
 refine au (aO _ (I0 a p A1 free c1 gM)) ?_
 intro zY kK vK xv
 have Up:=Zc.trans (vK.mono Zc.size)
 replace kP:=kP.below vK kP.lt
 replace kR:=kR.below vK kR.lt
 replace mM:=mM.below vK mM.lt
 have lK:=kK.lt
 generalize hgK:uv.heap.size=gK at*
 simp(disch:=omega)only[push_cast,aa,↓reduceIte,Nat.reduceEqDiff,Int.reduceEq,kP.J4]
 refine ah (aao (ha.up Up) hf hm) ?_
 rintro v vq ⟨rfl,eZ⟩
 have Uq:=Up.trans (eZ.mono Up.size)
 replace kP:=kP.below eZ kP.lt
 replace kR:=kR.below eZ kR.lt
 replace mM:=mM.below eZ mM.lt
 replace kK:=kK.below eZ lK
 have Yn:=eZ.size
 simp(disch:=omega)only[push_cast,aa,↓reduceIte,Nat.reduceEqDiff,Int.reduceEq]
 refine au (cs:=setCells (ae [])) cB ?_
 intro xw k8 iT X5
 have Zd:=Uq.trans (iT.mono Uq.size)
 replace kP:=kP.below iT kP.lt
 replace kR:=kR.below iT kR.lt
 replace mM:=mM.below iT mM.lt
 replace kK:=kK.below iT kK.lt
 simp(disch:=omega)only[push_cast,aa,↓reduceIte,Nat.reduceEqDiff,Int.reduceEq]
 refine aC k8 (cs:=setCells (ae (bg p))) (bn _) (by rw[ao,ao]) (aH _) ?_
 intro BH EB g14 Vp
 have Mq:=g14.below Zd Zd.size (by intro a ha;injection ha with ha;subst ha;exact Uq.size)
 replace kP:=kP.grown g14.aJ (by simp;omega)
 replace kR:=kR.grown g14.aJ (by simp;omega)
 replace mM:=mM.grown g14.aJ (by simp;omega)
 replace kK:=kK.grown g14.aJ (by simp;omega)
 generalize hg8:vq.heap.size=g8 at*
 have l8:=EB.lt
 clear k8 g14 iT eZ vK
 have rF:=vu hm
 have cY:ae (bg p)=ae []↔bg p=[]:=yg (rF.small (by have:=pm.2.1;omega))
 by_cases hF:bg p=[]
 ·have bx:=Mq
  simp(disch:=omega)only[push_cast,aa,↓reduceIte,Nat.reduceEqDiff,Int.reduceEq,EB.cM (af _) al aw,tG,Jz,decide_eq_true (cY.2 hF),pz]
  refine aC kR (cs:=ko) (iX none 0 0 none 0 0) rfl rfl ?_
  intro wx Qo gx zx
  have fr:=True.intro
  simp(disch:=omega)only[push_cast,aa,↓reduceIte,Nat.reduceEqDiff,Int.reduceEq,fr]
  exact vm Qo jL (iX none 0 0 none 0 0) (by simp only[push_cast,↓reduceIte,Nat.reduceEqDiff,Int.reduceEq]) (hQ _ _ ⟨gx.below bx bx.size (by intro a ha;injection ha with ha;subst ha;exact b1.size),.inr (.inr (.inl ⟨Q4,cL,fun h=>h.1 hF,(by simp only[push_cast,↓reduceIte,Nat.reduceEqDiff,Int.reduceEq])⟩))⟩)
 simp(disch:=omega)only[push_cast,aa,↓reduceIte,Nat.reduceEqDiff,Int.reduceEq,EB.cM (af _) al aw,tG,Jz,decide_eq_false (fun h=>hF (cY.1 h))]
 refine ah (Ce (ha.up Mq) hf pm (h1.up Mq) n1 kK (φ:=fun _=>none) (fun _ _ _ h=>by cases h) mM rF) ?_
 intro v Ga h15
 obtain⟨⟨bk,rfl,W4⟩,⟨χ,hχ,Ur⟩,mD⟩:=Kq h15
 have Us:Below w.heap.size w Ga:=mD.GO Mq Mq.size (by omega)
 replace kP:=kP.cV mD (by omega)
 replace kR:=kR.cV mD (by omega)
 replace kK:=kK.cV mD (by omega)
 replace EB:=EB.cV mD (by omega)
 clear mD h15 mM Mq Zd Uq Up Zc b09
 cases bk with
 |false=>
  have hnk:¬Kp p free (bg p):=fun h=>by have:=W4.2 h;cases this
  have bx:=Us
  simp(disch:=omega)only[push_cast,aa,↓reduceIte,Nat.reduceEqDiff,Int.reduceEq,pz]
  refine aC kR (cs:=ko) (iX none 0 0 none 0 0) rfl rfl ?_
  intro wx Qo gx zx
  have fr:=True.intro
  simp(disch:=omega)only[push_cast,aa,↓reduceIte,Nat.reduceEqDiff,Int.reduceEq,fr]
  exact vm Qo jL (iX none 0 0 none 0 0) (by simp only[push_cast,↓reduceIte,Nat.reduceEqDiff,Int.reduceEq]) (hQ _ _ ⟨gx.below bx bx.size (by intro a ha;injection ha with ha;subst ha;exact b1.size),.inr (.inr (.inl ⟨Q4,cL,fun h=>hnk h.2,(by simp only[push_cast,↓reduceIte,Nat.reduceEqDiff,Int.reduceEq])⟩))⟩)
 |true=>
 have hkF:=W4.1 rfl
 have l8b:=EB.lt
 simp(disch:=omega)only[push_cast,aa,↓reduceIte,Nat.reduceEqDiff,Int.reduceEq,EB.cM (af _) al aw,lf]
 refine pg (k:=107) _ ?_
 intro LG m16 E3 z16
 have mN:=SMap.empty m16
 have lN:=mN.lt
 have Ze:=Us.trans (E3.mono Us.size)
 have adT:=Ur.lt
 replace kP:=kP.below E3 kP.lt
 replace kR:=kR.below E3 kR.lt
 replace kK:=kK.below E3 kK.lt
 replace EB:=EB.below E3 EB.lt
 have mM:=Ur.below E3 Ur.lt
 clear m16 E3 Ur Us
 have l8:=EB.lt
 generalize hgN:Ga.heap.size=gN at*
 simp(disch:=omega)only[push_cast,aa,↓reduceIte,Nat.reduceEqDiff,Int.reduceEq,wR,EB.cM (af _) al aw]
 have rF6:az (bg p) 6:=rF.more pm.2.1
 refine mN.put rF6 0 ?_
 intro JX Ut g17 z17
 have Zf:=g17.below Ze Ze.size (by intro a ha;injection ha with ha;subst ha;show w.heap.size≤gN;omega)
 replace kP:=kP.grown g17.aJ (by simp;omega)
 replace kR:=kR.grown g17.aJ (by simp;omega)
 replace kK:=kK.grown g17.aJ (by simp;omega)
 replace EB:=EB.grown g17.aJ (by simp;omega)
 replace mM:=mM.grown g17.aJ (by simp;omega)
 clear mN g17 Ze
 simp(disch:=omega)only[push_cast,aa,↓reduceIte,Nat.reduceEqDiff,Int.reduceEq,EB.cM (af _) al aw,ea dc tt _ (by decide)]
 have oN:=zT dc JX (bg p) 107
 have bE:Below JX.heap.size JX (JX.alloc (.cells (vk (bg p)).toArray 107)):=(Below.refl _ _).alloc (Nat.le_refl _) _
 generalize JX.alloc (.cells (vk (bg p)).toArray 107)=w18 at*
 have Zg:=Zf.trans (bE.mono Zf.size)
 have acP:=bE.size
 have ao7:=Ut.lt
 replace kP:=kP.below bE kP.lt
 replace kR:=kR.below bE kR.lt
 replace kK:=kK.below bE kK.lt
 replace mM:=mM.below bE mM.lt
 have mN:=Ut.below bE Ut.lt
 replace oN:=oN.base (B':=gN+1) (by omega)
 clear Ut EB Zf l8
 refine au (cs:=ko) Fs ?_
 intro XJ kV VI z19
 have Zh:=Zg.trans (VI.mono Zg.size)
 replace kP:=kP.below VI kP.lt
 replace kR:=kR.below VI kR.lt
 replace kK:=kK.below VI kK.lt
 replace mM:=mM.below VI mM.lt
 replace mN:=mN.below VI mN.lt
 replace oN:=oN.below VI (Nat.le_refl _)
 generalize hgV:w18.heap.size=gV at*
 clear VI bE Zg
 simp(disch:=omega)only[push_cast,aa,↓reduceIte,Nat.reduceEqDiff,Int.reduceEq]
 have hTw:=hT.on Zh
 have n8:p.seen.length≤8:=by have:=xm pm.2.2.1;omega
 have M0:og w a p A1 free c1 w1.heap.size gM gK gN gV XJ (bU p free 0) (some ⟨JX.heap.size,0,none⟩) 1 [] none 0 [] none 0:=
  {kP:=kP,kR:=kR,kK:=kK,kV:=kV
   mM:=⟨χ,hχ,mM⟩
   mN:=⟨_,mN,fun t ht=>by
    unfold zK
    by_cases c:t=bg p
    ·rw[if_pos c,if_pos (by simp[bU,c])]
     simp[bU,vM,c]
    ·rw[if_neg c,if_neg (by simp[bU,c])]⟩
   oN:=oN
   oH:=Own.nil _ _ _ _
   oM:=Own.nil _ _ _ _
   rH:=fun x hx=>absurd hx (by simp)
   rM:=fun x hx=>absurd hx (by simp)
   ab:=rfl
   tb:=Zh}
 have Qq:gN<gV:=by omega
 have aiY:gK≠gM:=by omega
 clear kP kR kK kV mM mN oN hχ W4 hTw
 refine ax (fun f w'=>∃(n:Nat) (AN:Option Addr) (cN:Nat) (hs:List Hd) (An:Option Addr) (cn:Nat) (ms:List ln) (Am:Option Addr) (cm:Nat),n≤(bU p free n).nodes.length∧
   (f 2= .pointer (some ⟨w.heap.size,0,none⟩)∧f 4= .pointer (some ⟨w1.heap.size,0,none⟩)∧f 7= .pointer (some ⟨gK,0,none⟩)∧f 9= .map (some gN)∧f 10= .slice AN (bU p free n).nodes.length cN∧f 11= .pointer (some ⟨gV,0,none⟩)∧f 12= .int .i64 n)∧
   hs.map (·.l)=(bU p free n).nodes.take n∧og w a p A1 free c1 w1.heap.size gM gK gN gV w' (bU p free n) AN cN hs An cn ms Am cm)
  (fun f _=>65-(intOf (f 12)).toNat) ⟨0,_,_,[],none,0,[],none,0,Nat.zero_le _,⟨rfl,rfl,rfl,rfl,rfl,rfl,rfl⟩,by simp,M0⟩ ?_
 clear M0 Zh
 rintro f XK ⟨n,AN,cN,hs,An,cn,ms,Am,cm,hn,fr,hhs,M⟩ J hJ
 have hG:=qz (free:=free) hm n
 have ao8:=hG.len pm.2.1
 have hhl:hs.length=n:=by have:=congrArg List.length hhs;rw[List.length_map,List.length_take]at this;omega
 have ao9:=M.tb.size
 have hTw:=hT.on M.tb
 by_cases aI:n<(bU p free n).nodes.length
 case neg=>
  have cY:(bU p free n).nodes.length=n:=by omega
  have kR:=M.kR
  simp(disch:=omega)only[push_cast,aa,↓reduceIte,Nat.reduceEqDiff,Int.reduceEq,nV,fr,aI,M.kV.wA]
  refine aC kR (cs:=CY An hs.length cn Am ms.length cm) (iX _ _ _ _ _ _) rfl (Y9 _ _ _ _ _ _) ?_
  intro XL k21 g21 z21
  have kt:=cj.iJ (es:=[3]) (B:=0) kR (Nat.zero_le _) (by decide) g21
  have oH':=M.oH.bQ g21 (.inr (fun h=>M.oH.dB (show w1.heap.size<gN+1 by omega) h.symm))
  have oM':=M.oM.bQ g21 (.inr (fun h=>M.oM.dB (show w1.heap.size<gN+1 by omega) h.symm))
  simp(disch:=omega)only[push_cast,aa,↓reduceIte,Nat.reduceEqDiff,Int.reduceEq,fr]
  exact vm k21 jL (iX _ _ _ _ _ _) (by simp only[push_cast,↓reduceIte,Nat.reduceEqDiff,Int.reduceEq,fr]) (hQ _ _ ⟨g21.below M.tb M.tb.size (by intro a ha;injection ha with ha;subst ha;exact b1.size),.inr (.inr (.inr ⟨Q4,cL,⟨hF,hkF⟩,n,_,cY,
   ⟨An,cn,hs,Am,cm,ms,rfl,bq.lt OK (by decide) (bH.fS oH' OK (by decide)),fun x hx=>((M.rH x hx).eF kt).tlt,by rw[hhs,List.take_of_length_le (by omega)],bq.lt Cg (by decide) (bH.fS oM' Cg (by decide)),fun x hx=>((M.rM x hx).eF kt).tlt,M.ab⟩,(by simp only[push_cast,↓reduceIte,Nat.reduceEqDiff,Int.reduceEq,fr])⟩))⟩)
 have hNn:(bU p free n).nodes[n]? =some ((bU p free n).nodes.getD n []):=by rw[List.getD_eq_getElem?_getD,List.getElem?_eq_getElem aI];rfl
 have rN:=hG.row _ (List.mem_of_getElem? hNn)
 have O5:(bU p free n).nodes.take (n+1)=(bU p free n).nodes.take n++[(bU p free n).nodes.getD n []]:=bS _ [] n aI
 have bd:Below XK.heap.size XK XK.drew:=(Same.refl XK).drew.below _
 have hTu:=hTw.on bd
 replace M:=M.below bd
 have kV0:=M.kV
 generalize ai1:XK.drew=u20 at*
 have Zi:=bq.lt dc (by decide) (bH.fS M.oN dc (by decide))
 have sN:=Zi.isSome (by omega)
 have Uu:=fun{K:Fr→World→Prop} {f:Fr} {d:Option Nat} {w':World}=>Zi.dC (P:=Tryz.prog) (K:=K) (f:=f) (d:=d) (w:=w') dc al hNn aw
 have hzu:=M.tb.size
 have gZ:(intOf (f 12)).toNat=n:=by rw[fr.2.2.2.2.2.2];simp[intOf]
 generalize hN:(bU p free n).nodes.getD n []=N at*
 simp(disch:=omega)only[push_cast,aa,↓reduceIte,Nat.reduceEqDiff,Int.reduceEq,nV,fr,aI,ai1,kV0.w0 Fq,sN,Uu]
 refine ah (Bq rN.strict (rN.small (by have:=pm.2.1;omega)) hTu) ?_
 rintro v w22 ⟨A22,c22,rfl,o22,b22⟩
 have Zj:=M.below b22
 have rO:=cQ.Vx (es:=[3]) (B:=0) o22 (by decide)
 simp(disch:=omega)only[push_cast,aa,↓reduceIte,Nat.reduceEqDiff,Int.reduceEq,UX]
 have ai2:=b22.size
 refine⟨b22,(b22.trans ((Below.refl _ _).alloc ai2 _)),?_⟩
 refine dA OK Oa Zj.oH ⟨A22,c22,N⟩ (by omega) (by omega) (by have:=Zj.kV.lt;omega) ?_
 intro Uv Io w23 o23 g23 apb apc z23
 have adZ:=Zj.kV.grown g23.aJ (Zj.oH.bG Zj.kV (by decide)).symm
 simp(disch:=omega)only[push_cast,aa,↓reduceIte,Nat.reduceEqDiff,Int.reduceEq,fr]
 refine cg adZ (by kernel_rfl) 0 (by simp) Uv _ Io ?_
 intro w24 k24 g24 z24
 have e24:(CY An hs.length cn Am ms.length cm).set 0 (.slice Uv (hs.length+1) Io)=CY Uv (hs++[(⟨A22,c22,N⟩:Hd)]).length Io Am ms.length cm:=by rw[List.length_append];rfl
 rw[e24]at k24
 have q1:w.heap.size<gN+1:=by omega
 have q2:w1.heap.size<gN+1:=by omega
 have q3:gK<gN:=by omega
 have M24:=Zj.row q1 q2 (by omega) (by omega) Qq rO o23 g23 k24 g24
 have ai4:(hs++[(⟨A22,c22,N⟩:Hd)]).map (·.l)=(bU p free n).nodes.take (n+1):=by rw[List.map_append,hhs,O5];rfl
 generalize hs++[(⟨A22,c22,N⟩:Hd)]=hs at*
 clear Zj M k24 g24 o23 g23 adZ rO b22 kV0 Zi bd
 have ape:=M24.tb.size
 simp(disch:=omega)only[push_cast,aa,↓reduceIte,Nat.reduceEqDiff,Int.reduceEq,fr,M24.kP.p5]
 refine ax (fun f' w'=>∃(j:Nat) (AN:Option Addr) (cN:Nat) (ms:List ln) (Am:Option Addr) (cm:Nat),j≤p.seen.length∧
   (f' 2= .pointer (some ⟨w.heap.size,0,none⟩)∧f' 4= .pointer (some ⟨w1.heap.size,0,none⟩)∧f' 7= .pointer (some ⟨gK,0,none⟩)∧f' 9= .map (some gN)∧f' 10= .slice AN (mK p free n j).nodes.length cN∧f' 11= .pointer (some ⟨gV,0,none⟩)∧f' 12= .int .i64 n∧f' 84= .slice a.Ap p.seen.length a.cp∧f' 85= .int .i64 p.seen.length∧f' 86= .int .i64 j)∧
   og w a p A1 free c1 w1.heap.size gM gK gN gV w' (mK p free n j) AN cN hs Uv Io ms Am cm)
  (fun f' _=>p.seen.length-(intOf (f' 86)).toNat) ⟨0,AN,cN,ms,Am,cm,Nat.zero_le _,(by simp only[push_cast,↓reduceIte,Nat.reduceEqDiff,true_and,and_true,and_self,eq_self,fr,Cb]),by rw[Cb];exact M24⟩ ?_
 clear M24 fr
 rintro f w25 ⟨j,AN,cN,ms,Am,cm,hj,fr,M⟩ J2 jH
 obtain⟨hGp,jN⟩:=IX (p:=p) (free:=free) hm n j
 by_cases mw:j<p.seen.length
 case neg=>
  obtain rfl:j=p.seen.length:=by omega
  rw[Mf]at fr M
  have VJ:=(Ml (p:=p) (free:=free) (Nat.le_succ n)).2
  simp(disch:=omega)only[push_cast,aa,↓reduceIte,Nat.reduceEqDiff,Int.reduceEq,nU,fr,Nat.lt_irrefl]
  exact hJ _ _ ⟨n+1,AN,cN,hs,Uv,Io,ms,Am,cm,Nat.le_trans aI VJ.length_le,(by simp only[push_cast,↓reduceIte,Nat.reduceEqDiff,true_and,and_true,and_self,eq_self,fr]),by
   obtain⟨t,ht⟩:=VJ
   rw[ai4,←ht,List.take_append_of_le_length aI],M⟩ (by rw[gZ];simp only[push_cast,↓reduceIte,Nat.reduceEqDiff,intOf,fr];omega)
 have hNp:(mK p free n j).nodes[n]? =some N:=by rw[cJ jN aI,hNn]
 have hNd:(mK p free n j).nodes.getD n []=N:=by rw[List.getD_eq_getElem?_getD,hNp];rfl
 have hlp:n<(mK p free n j).nodes.length:=Nat.lt_of_lt_of_le aI jN.length_le
 have alY:=hGp.len pm.2.1
 have ai5:=M.tb.size
 have ai6:=hT.on M.tb
 have hIs:=(ha.up M.tb).seen
 have sI:=hIs.isSome (by omega)
 have Pl:=fun{K f d w}=>hIs.ld (P:=Tryz.prog) (K:=K) (f:=f) (d:=d) (w:=w) ak j mw
 have hem:=bY p.seen 0 j mw
 have du:=IW (p:=p) (free:=free) n mw
 have aph:=Mp (p:=p) (free:=free) n8 n j
 generalize p.seen.getD j 0=e at*
 generalize mK p free n j=st at*
 have ob:(intOf (f 86)).toNat=j:=by rw[fr.2.2.2.2.2.2.2.2.2];simp[intOf]
 have Zi:=bq.lt dc (by decide) (bH.fS M.oN dc (by decide))
 have sN:=Zi.isSome (by omega)
 have Uu:=fun{K:Fr→World→Prop} {f:Fr} {d:Option Nat} {w':World}=>Zi.dC (P:=Tryz.prog) (K:=K) (f:=f) (d:=d) (w:=w') dc al hNp aw
 obtain⟨χ,hχ,hMχ⟩:=M.mM
 have api:ms.length=st.eQ.length:=by have:=congrArg List.length M.ab;simpa using this
 have ad1:=M.kK
 simp(disch:=omega)only[push_cast,aa,↓reduceIte,Nat.reduceEqDiff,Int.reduceEq,nU,fr,mw,sI,Pl,hlp,sN,Uu]
 refine ah (Mn (B:=w.heap.size) ai5 (ha.below M.tb) hf pm TF ai6 (h1.below M.tb) n1 (by omega) ad1 hχ hMχ rN e) ?_
 rintro v w26 ⟨Uw,Ux,rfl,o26,⟨ai7,k26⟩,apk⟩
 have M26:=M.cV (by omega) (by omega) aiY adT Qq k26 ai7
 have rO:=cQ.Vx (es:=[3]) (B:=0) o26 (by decide)
 have rT:=EN (free:=free) hm N e
 have rW:=pf (seen:=p.seen) hm (gS rT)
 have hE:vE p free n st e=if nH p.m (Ac p free N e) N e=[]then st else⟨if iV p.m p.seen (Ac p free N e)∈st.nodes then st.nodes else st.nodes++[iV p.m p.seen (Ac p free N e)],st.eQ++[⟨n,e,nH p.m (Ac p free N e) N e,vM (iV p.m p.seen (Ac p free N e)) st.nodes⟩]⟩:=by unfold vE;rw[hNd]
 rw[hE]at du
 clear hE M Zi Uu hMχ ad1
 generalize Ac p free N e=T at*
 generalize iV p.m p.seen T=W at*
 generalize nH p.m T N e=S at*
 simp(disch:=omega)only[push_cast,aa,↓reduceIte,Nat.reduceEqDiff,Int.reduceEq,fr]
 have hAm:Am.map (·.block)≠some w26.heap.size:=fun hh=>by have:=M26.oM.QY hh.symm;omega
 have apl:=M26.tb.size
 have apm:gN<w26.heap.size:=by obtain⟨ψ,hh,_⟩:=M26.mN;exact hh.lt
 refine au (cs:=ln.cells ⟨0,0,none,0,[],0⟩) HD ?_
 intro w27 mD b27 z27
 simp(disch:=omega)only[push_cast,aa,↓reduceIte,Nat.reduceEqDiff,Int.reduceEq,fr]
 refine au (cs:=setCells (ae [])) cB ?_
 intro w28 JL b28 z28
 replace mD:=mD.below b28 mD.lt
 have Zk:=b27.trans (b28.mono b27.size)
 simp(disch:=omega)only[push_cast,aa,↓reduceIte,Nat.reduceEqDiff,Int.reduceEq,fr]
 refine aC mD (cs:=ln.cells ⟨0,e,Uw,Ux,S,0⟩) (GV _) rfl (I6 _) ?_
 intro w29 ad3 g29 z29
 have Zl:=g29.below Zk Zk.size (by intro a ha;injection ha with ha;subst ha;exact Nat.le_refl _)
 have ad4:=JL.grown g29.aJ (by simp;omega)
 simp(disch:=omega)only[push_cast,aa,↓reduceIte,Nat.reduceEqDiff,Int.reduceEq,fr]
 refine aC ad4 (cs:=setCells (ae W)) (bn _) (by rw[ao,ao]) (aH _) ?_
 intro w30 VK g30 z30
 have VL:=g30.below Zl Zl.size (by intro a ha;injection ha with ha;subst ha;exact b27.size)
 have VM:=ad3.grown g30.aJ (by simp;omega)
 have VN:=M26.below VL
 have ad5:=rO.eF (.below VL)
 clear mD JL ad3 ad4 g29 g30 Zl Zk b28 b27 M26 rO o26
 have mD:=VM
 have JL:=VK
 clear VM VK
 by_cases hS:S=[]
 ·rw[if_pos hS]at du
  have hd:decide (0<S.length)=false:=by rw[hS];rfl
  simp(disch:=omega)only[push_cast,aa,↓reduceIte,Nat.reduceEqDiff,Int.reduceEq,fr,hd]
  exact jH _ _ ⟨j+1,AN,cN,ms,Am,cm,mw,(by simp only[push_cast,↓reduceIte,Nat.reduceEqDiff,true_and,and_true,and_self,eq_self,fr,du]),by rw[du];exact VN⟩ (by rw[ob];simp only[push_cast,↓reduceIte,Nat.reduceEqDiff,intOf,fr];omega)
 rw[if_neg hS]at du
 have hd:decide (0<S.length)=true:=decide_eq_true (by cases S with|nil=>exact absurd rfl hS|cons _ _=>simp)
 have ad6:=VN.mN
 obtain⟨ψ,hψm,hψ⟩:=ad6
 have W6:az W 6:=rW.more pm.2.1
 have sG:∀{K:Fr→World→Prop} {f:Fr} {d:Option Nat} {w:World},aq Tryz.prog K (Instr.lookup 137 (.map (some gN)) (.agg (vk W).toArray) true) w30 f d w=K (ai f d (.tuple #[.int .i64 ((ψ W).getD 0),.bool (ψ W).isSome])) w:=fun{K f d w}=>hψm.adp W6
 rw[hψ W W6]at sG
 by_cases hW:W∈st.nodes
 ·rw[if_pos hW]at sG du
  have M32:=VN
  have Zm:=ad5
  generalize AN=ANx at*
  generalize cN=cNx at*
  have Zn:=True.intro
  simp(disch:=omega)only[push_cast,aa,↓reduceIte,Nat.reduceEqDiff,Int.reduceEq,fr,hd,JL.cM (af _) al aw,eC,sG,Option.getD_some,Option.isSome_some]
  refine ft mD (by kernel_rfl) 0 (by simp[ln.cells]) .i64 (n:Int) ?_
  intro w40 Zo g40 z40
  simp(disch:=omega)only[push_cast,aa,↓reduceIte,Nat.reduceEqDiff,Int.reduceEq,fr]
  refine ft Zo (by kernel_rfl) 3 (by simp[ln.cells]) .i64 _ ?_
  intro w41 Uy g41 z41
  replace Uy:aE w41 w26.heap.size 143 (ln.cells ⟨n,e,Uw,Ux,S,(vM W st.nodes:Nat)⟩):=by first|exact Uy|(rw[OB];exact Uy)
  have I7:=(M32.EP mD (by omega) hAm g40).EP Zo (by omega) hAm g41
  have Zp:=(Zm.eF (cj.iJ mD (Nat.zero_le _) (by decide) g40)).eF (cj.iJ Zo (Nat.zero_le _) (by decide) g41)
  simp(disch:=omega)only[push_cast,aa,↓reduceIte,Nat.reduceEqDiff,Int.reduceEq,fr,I7.kV.w1 A4,Uy.vA,ea Cg D2 _ (by decide)]
  refine dA Cg D2 I7.oM ⟨n,e,Uw,Ux,S,(vM W st.nodes:Nat)⟩ (by omega) (by omega) (by have:=I7.kV.lt;omega) ?_
  intro Uz UA w42 o42 g42 ajg ajh z42
  have Zq:=I7.kV.grown g42.aJ (I7.oM.bG I7.kV (by decide)).symm
  simp(disch:=omega)only[push_cast,aa,↓reduceIte,Nat.reduceEqDiff,Int.reduceEq,fr]
  refine cg Zq (by kernel_rfl) 1 (by simp) Uz _ UA ?_
  intro w43 k43 g43 z43
  have e43:(CY Uv hs.length Io Am ms.length cm).set 1 (.slice Uz (ms.length+1) UA)=CY Uv hs.length Io Uz (ms++[(⟨n,e,Uw,Ux,S,(vM W st.nodes:Nat)⟩:ln)]).length UA:=by rw[List.length_append];rfl
  rw[e43]at k43
  have M43:=I7.move (st':=⟨st.nodes,st.eQ++[⟨n,e,S,vM W st.nodes⟩]⟩) q1 q2 (by omega) (by omega) Qq Zp rfl (by rw[List.map_append];rfl) o42 g42 k43 g43
  simp(disch:=omega)only[push_cast,aa,↓reduceIte,Nat.reduceEqDiff,Int.reduceEq,fr]
  exact jH _ _ ⟨j+1,ANx,cNx,ms++[⟨n,e,Uw,Ux,S,(vM W st.nodes:Nat)⟩],Uz,UA,mw,(by simp only[push_cast,↓reduceIte,Nat.reduceEqDiff,true_and,and_true,and_self,eq_self,fr,du,Zn,List.length_append,List.length_cons,List.length_nil]),by rw[du];exact M43⟩ (by rw[ob];simp only[push_cast,↓reduceIte,Nat.reduceEqDiff,intOf,fr];omega)
 rw[if_neg hW]at sG du
 simp(disch:=omega)only[push_cast,aa,↓reduceIte,Nat.reduceEqDiff,Int.reduceEq,fr,hd,JL.cM (af _) al aw,eC,sG,Option.getD_none,Option.isSome_none]
 have TQ:=mD.lt
 refine hψm.put W6 (st.nodes.length:Int) ?_
 intro w31 ajl g31 z31
 have Zr:=VN.oN.bQ g31 (.inr (fun h=>VN.oN.dB (Nat.lt_succ_self gN) h.symm))
 have aed:=mD.grown g31.aJ (by simp;omega)
 have ajm:=JL.grown g31.aJ (by simp;omega)
 simp(disch:=omega)only[push_cast,aa,↓reduceIte,Nat.reduceEqDiff,Int.reduceEq,fr,ajm.cM (af _) al aw,ea dc tt _ (by decide)]
 refine dA dc tt Zr W (by omega) (by omega) (by have:=VN.kV.lt;omega) ?_
 intro ANx cNx w32 ajn g32 apu apv z32
 have OB:=GN hW
 have M32:=VN.node (y:=W) (ψ':=zK ψ W (st.nodes.length:Int)) (by omega) (by omega) q3 (by omega) Qq g31 ajl (fun t ht=>by
  unfold zK
  by_cases c:t=W
  ·rw[if_pos c,if_pos (by simp[c]),c]
   have:vM W (st.nodes++[W])=st.nodes.length:=yp (by simp) (fun i hi hh=>hW (by rw[List.getElem?_append_left hi]at hh;exact List.mem_of_getElem? hh))
   rw[this]
  ·rw[if_neg c,hψ t ht]
   by_cases c2:t∈st.nodes
   ·rw[if_pos c2,if_pos (by simp[c2])]
    have:=P8 c2
    have h2:vM t (st.nodes++[W])=vM t st.nodes:=yp (by rw[List.getElem?_append_left this.1];exact this.2) (fun i hi hh=>by
     rw[List.getElem?_append_left (by omega)]at hh
     exact Ks hi hh)
    rw[h2]
   ·rw[if_neg c2,if_neg (by simp[c2,c])]) ajn g32
 have Zm:=(ad5.eF (cj.adX VN.mN g31)).eF (cj.bQ (es:=[3]) Zr (Nat.zero_le _) (by decide) g32)
 have mD:=aed.grown g32.aJ (Zr.bG aed (by decide)).symm
 have Zn:(st.nodes++[W]).length=st.nodes.length+1:=by simp
 generalize apw:st.nodes++[W]=nd at*
 simp(disch:=omega)only[push_cast,aa,↓reduceIte,Nat.reduceEqDiff,Int.reduceEq,fr]
 refine ft mD (by kernel_rfl) 0 (by simp[ln.cells]) .i64 (n:Int) ?_
 intro w40 Zo g40 z40
 simp(disch:=omega)only[push_cast,aa,↓reduceIte,Nat.reduceEqDiff,Int.reduceEq,fr]
 refine ft Zo (by kernel_rfl) 3 (by simp[ln.cells]) .i64 _ ?_
 intro w41 Uy g41 z41
 replace Uy:aE w41 w26.heap.size 143 (ln.cells ⟨n,e,Uw,Ux,S,(vM W st.nodes:Nat)⟩):=by first|exact Uy|(rw[OB];exact Uy)
 have I7:=(M32.EP mD (by omega) hAm g40).EP Zo (by omega) hAm g41
 have Zp:=(Zm.eF (cj.iJ mD (Nat.zero_le _) (by decide) g40)).eF (cj.iJ Zo (Nat.zero_le _) (by decide) g41)
 simp(disch:=omega)only[push_cast,aa,↓reduceIte,Nat.reduceEqDiff,Int.reduceEq,fr,I7.kV.w1 A4,Uy.vA,ea Cg D2 _ (by decide)]
 refine dA Cg D2 I7.oM ⟨n,e,Uw,Ux,S,(vM W st.nodes:Nat)⟩ (by omega) (by omega) (by have:=I7.kV.lt;omega) ?_
 intro Uz UA w42 o42 g42 ajg ajh z42
 have Zq:=I7.kV.grown g42.aJ (I7.oM.bG I7.kV (by decide)).symm
 simp(disch:=omega)only[push_cast,aa,↓reduceIte,Nat.reduceEqDiff,Int.reduceEq,fr]
 refine cg Zq (by kernel_rfl) 1 (by simp) Uz _ UA ?_
 intro w43 k43 g43 z43
 have e43:(CY Uv hs.length Io Am ms.length cm).set 1 (.slice Uz (ms.length+1) UA)=CY Uv hs.length Io Uz (ms++[(⟨n,e,Uw,Ux,S,(vM W st.nodes:Nat)⟩:ln)]).length UA:=by rw[List.length_append];rfl
 rw[e43]at k43
 have M43:=I7.move (st':=⟨nd,st.eQ++[⟨n,e,S,vM W st.nodes⟩]⟩) q1 q2 (by omega) (by omega) Qq Zp rfl (by rw[List.map_append];rfl) o42 g42 k43 g43
 simp(disch:=omega)only[push_cast,aa,↓reduceIte,Nat.reduceEqDiff,Int.reduceEq,fr]
 exact jH _ _ ⟨j+1,ANx,cNx,ms++[⟨n,e,Uw,Ux,S,(vM W st.nodes:Nat)⟩],Uz,UA,mw,(by simp only[push_cast,↓reduceIte,Nat.reduceEqDiff,true_and,and_true,and_self,eq_self,fr,du,Zn,List.length_append,List.length_cons,List.length_nil]),by rw[du];exact M43⟩ (by rw[ob];simp only[push_cast,↓reduceIte,Nat.reduceEqDiff,intOf,fr];omega)
open Go.RowKit
theorem Ew.unique{p:cO}{b b':Bool}{o o':List Int}{e e':Int}(h:Ew p b o e)(h':Ew p b' o' e'):b=b'∧o=o':=by
 rcases h with⟨h0,rfl,rfl,_⟩|⟨h0,_,k,hk,h1⟩<;>rcases h' with⟨CT,rfl,rfl,_⟩|⟨CT,_,k',om,KC⟩
 ·exact⟨rfl,rfl⟩
 ·exact absurd CT h0
 ·exact absurd h0 CT
 ·have e:a8 (bo p) p.seen (bg p) k=a8 (bo p) p.seen (bg p) k':=by
   rcases Nat.le_total k k' with c|c
   ·exact(my (Nat.le_of_eq hk) k' c).symm
   ·exact my (Nat.le_of_eq om) k c
  rw[e]at h1
  exact h1.unique KC
theorem xg.unique{p:cO}{b b':Bool}{o o':List Int}{e e':Int}(h:xg p b o e)(h':xg p b' o' e'):b=b'∧o=o':=by
 rcases h with⟨h0,rfl,rfl,_⟩|⟨h0,_,k,hk,h1⟩<;>rcases h' with⟨CT,rfl,rfl,_⟩|⟨CT,_,k',om,KC⟩
 ·exact⟨rfl,rfl⟩
 ·exact absurd CT h0
 ·exact absurd h0 CT
 ·have e:dQ p k=dQ p k':=by
   rcases Nat.le_total k k' with c|c
   ·exact(tN hk k' c).symm
   ·exact tN om k c
  rw[e]at h1
  exact h1.unique KC
theorem y9.unique{p:cO}{n:Int}{b b':Bool}{u u' v v':List Int}{e e':Int}(h:y9 p n b u v e)(h':y9 p n b' u' v' e'):b=b'∧u=u'∧v=v':=by
 rcases h with⟨h0,rfl,rfl,rfl,_⟩|⟨h0,hn,rfl,rfl,rfl,_⟩|⟨h0,hn,_,o,h1,h2⟩<;>rcases h' with⟨CT,rfl,rfl,rfl,_⟩|⟨CT,qF,rfl,rfl,rfl,_⟩|⟨CT,qF,_,o',KC,JQ⟩
 ·exact⟨rfl,rfl,rfl⟩
 ·exact absurd CT h0
 ·exact absurd CT h0
 ·exact absurd h0 CT
 ·exact⟨rfl,rfl,rfl⟩
 ·exact absurd qF hn
 ·exact absurd h0 CT
 ·exact absurd hn qF
 ·obtain rfl:=h1.unique KC
  cases o with
  |none=>exact⟨h2.1.trans JQ.1.symm,h2.2.1.trans JQ.2.1.symm,h2.2.2.trans JQ.2.2.symm⟩
  |some x=>exact⟨h2.1.trans JQ.1.symm,h2.2.1.trans JQ.2.1.symm,h2.2.2.trans JQ.2.2.symm⟩
theorem DE.unique{m:aN}{seen av:List Int}{d d' e e':Int}(h:DE m seen av d e)(h':DE m seen av d' e'):d=d':=by
 rcases h with⟨h0,rfl,_⟩|⟨h0,h1,rfl,_⟩|⟨h0,h1,_,h2⟩<;>rcases h' with⟨CT,rfl,_⟩|⟨CT,KC,rfl,_⟩|⟨CT,KC,_,JQ⟩
 ·rfl
 ·rfl
 ·exact absurd CT h0
 ·rfl
 ·rfl
 ·exact absurd KC h1
 ·exact absurd h0 CT
 ·exact absurd h1 KC
 ·exact h2.unique JQ
def qC(m:aN)(free bad o:List Int):Prop:=
 (m.bZ∧az free m.events∧az bad m.aj→aW o∧∀x,x∈o↔(0≤x∧x<m.aj)∧¬CX m free bad x)∧(¬(m.bZ∧az free m.events∧az bad m.aj)→o=[])
theorem qC.unique{m:aN}{free bad o o':List Int}(h:qC m free bad o)(h':qC m free bad o'):o=o':=by
 by_cases c:m.bZ∧az free m.events∧az bad m.aj
 ·exact aW.ext (h.1 c).1 (h'.1 c).1 fun x=>((h.1 c).2 x).trans ((h'.1 c).2 x).symm
 ·rw[h.2 c,h'.2 c]
theorem Qr{t:List Int→Bool}{l:List (List Int×List Int)}{b:Bool}{o:List Int}{n:Int}(h:BR (iI t l) b o)(hl:∀q∈l,ye q.2 n):ye o n:=by
 rcases vv t l with⟨hb,_⟩|⟨q,hq,_,hb,_⟩<;>rw[hb]at h
 ·obtain rfl:o=[]:=h.2
  intro x hx;cases hx
 ·obtain rfl:o=q.2:=h.2
  exact hl q hq
theorem Ad{p:cO}(h:p.bZ){u:List Int}(hu:km u p.seen):ye u p.m.events:=fun x hx=>Ot h.2.2.1 x (hu x hx)
theorem Ew.Zs{p:cO}{b:Bool}{o:List Int}{e:Int}(h:Ew p b o e):ye o p.m.events:=by
 rcases h with⟨_,_,rfl,_⟩|⟨h0,_,k,_,h1⟩
 ·exact .nil _
 ·refine Qr h1 fun q hq=>?_
  obtain⟨i,hi⟩:=List.mem_iff_getElem?.1 hq
  exact Ad h0 (Dl (step:=bo p) h0.2.2.1.strict hi).2
theorem xg.Zs{p:cO}{b:Bool}{o:List Int}{e:Int}(h:xg p b o e):ye o p.m.events:=by
 rcases h with⟨_,_,rfl,_⟩|⟨h0,_,k,_,h1⟩
 ·exact .nil _
 ·exact Qr h1 fun q hq=>Ad h0 (Ka h0 hq).2
theorem y9.Zs{p:cO}{n:Int}{b:Bool}{u v:List Int}{e:Int}(h:y9 p n b u v e):ye u p.m.events∧ye v p.m.events:=by
 rcases h with⟨_,_,rfl,rfl,_⟩|⟨_,_,_,rfl,rfl,_⟩|⟨h0,_,_,o,h1,h2⟩
 ·exact⟨.nil _,.nil _⟩
 ·exact⟨.nil _,.nil _⟩
 ·cases o with
  |none=>
   obtain⟨_,rfl,rfl⟩:=h2
   exact⟨.nil _,.nil _⟩
  |some x=>
   obtain⟨_,rfl,rfl⟩:=h2
   exact⟨Ad h0 h1.1.1,Ad h0 h1.1.2.1⟩
theorem qC.Zs{m:aN}{free bad o:List Int}(h:qC m free bad o):ye o m.aj:=by
 by_cases c:m.bZ∧az free m.events∧az bad m.aj
 ·exact fun x hx=>(((h.1 c).2 x).1 hx).1
 ·rw[h.2 c];exact .nil _
noncomputable def tell(P:List UInt8→Prop):List UInt8:=Classical.epsilon P
theorem tS{P:List UInt8→Prop}{t:List UInt8}(h:P t)(hu:∀t',P t'→t'=t):tell P=t:=hu _ (Classical.epsilon_spec ⟨t,h⟩)
def uG(E:List ByteArray)(b:Bool)(o:List Int):List UInt8:=if b=true then [108,101,97,107]++sp (D8 E o)else [115,97,102,101]
def Kt(E:List ByteArray)(b:Bool)(u v:List Int):List UInt8:=if b=true then [108,101,97,107]++sp (D8 E u)++[32,124]++sp (D8 E v)else [115,97,102,101]
noncomputable def Zt(p:Pj):List UInt8:=tell fun t=>∃b o e,Ew (mF p) b o e∧t=uG p.E b o
theorem Ku{p:Pj}{b:Bool}{o:List Int}{e:Int}(h:Ew (mF p) b o e):Zt p=uG p.E b o:=tS ⟨b,o,e,h,rfl⟩ (by
 rintro _ ⟨b',o',e',h',rfl⟩
 obtain⟨rfl,rfl⟩:=h.unique h'
 rfl)
noncomputable def Zu(p:Pj):List UInt8:=tell fun t=>∃b o e,xg (mF p) b o e∧t=uG p.E b o
theorem Kv{p:Pj}{b:Bool}{o:List Int}{e:Int}(h:xg (mF p) b o e):Zu p=uG p.E b o:=tS ⟨b,o,e,h,rfl⟩ (by
 rintro _ ⟨b',o',e',h',rfl⟩
 obtain⟨rfl,rfl⟩:=h.unique h'
 rfl)
noncomputable def UC(p:Pj)(n:Int):List UInt8:=tell fun t=>∃b u v e,y9 (mF p) n b u v e∧t=Kt p.E b u v
theorem UD{p:Pj}{n:Int}{b:Bool}{u v:List Int}{e:Int}(h:y9 (mF p) n b u v e):UC p n=Kt p.E b u v:=tS ⟨b,u,v,e,h,rfl⟩ (by
 rintro _ ⟨b',u',v',e',h',rfl⟩
 obtain⟨rfl,rfl,rfl⟩:=h.unique h'
 rfl)
def UE(d:Int):List UInt8:=if d<0 then [110,101,118,101,114]else Lib.itoa d
noncomputable def Zv(p:Pj):List UInt8:=tell fun t=>∃d e,DE p.m p.seen p.av d e∧t=UE d
theorem UF{p:Pj}{d e:Int}(h:DE p.m p.seen p.av d e):Zv p=UE d:=tS ⟨d,e,h,rfl⟩ (by
 rintro _ ⟨d',e',h',rfl⟩
 rw[h.unique h'])
noncomputable def Qs(p:Pj):List UInt8:=tell fun t=>∃o,qC p.m p.free p.aK o∧t=[107,101,101,112]++sp (D8 p.S o)
theorem GX{p:Pj}{o:List Int}(h:qC p.m p.free p.aK o):Qs p=[107,101,101,112]++sp (D8 p.S o):=tS ⟨o,h,rfl⟩ (by
 rintro _ ⟨o',h',rfl⟩
 rw[h.unique h'])
def DH(p:cO)(free:List Int)(t:List UInt8):Prop:=
 (¬(p.bZ∧az free p.m.events)∧t=[98,97,100]++qt [2])∨
  ((p.bZ∧az free p.m.events)∧¬qB p free∧t=[98,97,100]++qt [3])∨
  ((p.bZ∧az free p.m.events)∧qB p free∧¬(bg p≠[]∧Kp p free (bg p))∧t=[110,111,116,104,105,110,103])∨
  ((p.bZ∧az free p.m.events)∧qB p free∧(bg p≠[]∧Kp p free (bg p))∧∃k,(bU p free k).nodes.length=k∧t=[118,101,105,108]++qt [((bU p free k).nodes.length:Int),((bU p free k).eQ.length:Int)])
theorem DH.unique{p:cO}{free:List Int}{t t':List UInt8}(h:DH p free t)(h':DH p free t'):t'=t:=by
 rcases h with⟨a,rfl⟩|⟨a,b,rfl⟩|⟨a,b,c,rfl⟩|⟨a,b,c,k,hk,rfl⟩<;>rcases h' with⟨a',rfl⟩|⟨a',b',rfl⟩|⟨a',b',c',rfl⟩|⟨a',b',c',k',om,rfl⟩<;>
  first|rfl|exact absurd a a'|exact absurd a' a|exact absurd b b'|exact absurd b' b|exact absurd c c'|exact absurd c' c|rw[IY hk om]
noncomputable def GY(p:Pj):List UInt8:=tell (DH (mF p) p.free)
theorem Ch{p:Pj}{t:List UInt8}(h:DH (mF p) p.free t):GY p=t:=tS h fun _ h'=>h.unique h'
def I8(E:List ByteArray)(W:List ByteArray):List Int:=W.map fun w=>jW w E
open Classical in
noncomputable def ER(m:aN)(l:List Int):List Int:=if(m.bZ∧az m.aB m.aj)∧j7 m l then qn m m.aB l else []
theorem UG{m:aN}{l o:List Int}(h:(m.bZ∧az m.aB m.aj∧j7 m l→o=qn m m.aB l)∧(¬(m.bZ∧az m.aB m.aj)→o=[])∧((m.bZ∧az m.aB m.aj)∧¬j7 m l→o=[])):ER m l=o:=by
 unfold ER
 split
 ·rename_i c;exact(h.1 ⟨c.1.1,c.1.2,c.2⟩).symm
 ·rename_i c
  by_cases c1:m.bZ∧az m.aB m.aj
  ·exact(h.2.2 ⟨c1,fun c2=>c ⟨c1,c2⟩⟩).symm
  ·exact(h.2.1 c1).symm
theorem UH{m:aN}{l:List Int}:ye (ER m l) m.aj:=by
 unfold ER
 split
 ·rename_i c;exact Ot (vi c.1.1 c.1.2 l)
 ·exact .nil _
noncomputable def Mr(p:Pj)(W:List ByteArray):List UInt8:=if∃x∈I8 p.E W,x<0 then [63]else [97,116]++sp (D8 p.S (ER p.m (I8 p.E W)))
open Go.Shelf Go.RowKit
def kN:Go.Shelf.Ren:=⟨fun|172=>82|244=>111|245=>112|247=>143|279=>144|280=>145|281=>146|282=>147|287=>159|316=>160|171=>83|205=>161|321=>168|322=>169|243=>113|246=>148|283=>162|284=>163|285=>164|286=>165|129=>125|317=>170|318=>171|319=>172|320=>173|337=>174|338=>136|n=>n,fun|9=>9|3=>3|75=>153|76=>154|4=>4|5=>5|167=>196|37=>65|0=>0|85=>197|2=>2|168=>199|53=>105|175=>218|46=>161|210=>221|127=>232|145=>235|143=>233|21=>21|171=>223|173=>225|212=>237|51=>187|20=>20|213=>238|232=>239|233=>211|80=>158|n=>n,fun|15=>5|16=>6|17=>7|18=>8|19=>2|n=>n⟩
theorem Ci:Go.Proofs.LaysC.n172 Tryz.prog kN where
 mixed:=by kernel_rfl
 f129:=Tryz.func125.trans (congrArg some (by kernel_rfl))
 f171:=Tryz.func83.trans (congrArg some (by kernel_rfl))
 f172:=Tryz.func82.trans (congrArg some (by kernel_rfl))
 f205:=Tryz.func161.trans (congrArg some (by kernel_rfl))
 f243:=Tryz.func113.trans (congrArg some (by kernel_rfl))
 f244:=Tryz.func111.trans (congrArg some (by kernel_rfl))
 f245:=Tryz.func112.trans (congrArg some (by kernel_rfl))
 f246:=Tryz.func148.trans (congrArg some (by kernel_rfl))
 f247:=Tryz.func143.trans (congrArg some (by kernel_rfl))
 f279:=Tryz.func144.trans (congrArg some (by kernel_rfl))
 f280:=Tryz.func145.trans (congrArg some (by kernel_rfl))
 f281:=Tryz.func146.trans (congrArg some (by kernel_rfl))
 f282:=Tryz.func147.trans (congrArg some (by kernel_rfl))
 f283:=Tryz.func162.trans (congrArg some (by kernel_rfl))
 f284:=Tryz.func163.trans (congrArg some (by kernel_rfl))
 f285:=Tryz.func164.trans (congrArg some (by kernel_rfl))
 f286:=Tryz.func165.trans (congrArg some (by kernel_rfl))
 f287:=Tryz.func159.trans (congrArg some (by kernel_rfl))
 f316:=Tryz.func160.trans (congrArg some (by kernel_rfl))
 f317:=Tryz.func170.trans (congrArg some (by kernel_rfl))
 f318:=Tryz.func171.trans (congrArg some (by kernel_rfl))
 f319:=Tryz.func172.trans (congrArg some (by kernel_rfl))
 f320:=Tryz.func173.trans (congrArg some (by kernel_rfl))
 f321:=Tryz.func168.trans (congrArg some (by kernel_rfl))
 f322:=Tryz.func169.trans (congrArg some (by kernel_rfl))
 f337:=Tryz.func174.trans (congrArg some (by kernel_rfl))
 f338:=Tryz.func136.trans (congrArg some (by kernel_rfl))
 t0:=Tryz.underlying0
 a0:=Tryz.isAgg0
 z0:=Tryz.sizeOf0
 v0:=Tryz.zeroValue0
 t2:=Tryz.underlying2
 a2:=Tryz.isAgg2
 z2:=Tryz.sizeOf2
 v2:=Tryz.zeroValue2
 t3:=Tryz.underlying3
 a3:=Tryz.isAgg3
 z3:=Tryz.sizeOf3
 v3:=Tryz.zeroValue3
 t4:=Tryz.underlying4
 a4:=Tryz.isAgg4
 z4:=Tryz.sizeOf4
 v4:=Tryz.zeroValue4
 t5:=Tryz.underlying5
 a5:=Tryz.isAgg5
 z5:=Tryz.sizeOf5
 v5:=Tryz.zeroValue5
 t9:=Tryz.underlying9
 a9:=Tryz.isAgg9
 z9:=Tryz.sizeOf9
 v9:=Tryz.zeroValue9
 t20:=Tryz.underlying20
 a20:=Tryz.isAgg20
 z20:=Tryz.sizeOf20
 v20:=Tryz.zeroValue20
 t21:=Tryz.underlying21
 a21:=Tryz.isAgg21
 z21:=Tryz.sizeOf21
 v21:=Tryz.zeroValue21
 t37:=Tryz.underlying65
 a37:=Tryz.isAgg65
 z37:=Tryz.sizeOf65
 v37:=Tryz.zeroValue65
 t46:=Tryz.underlying161
 a46:=Tryz.isAgg161
 z46:=Tryz.sizeOf161
 v46:=Tryz.zeroValue161
 t51:=Tryz.underlying187
 a51:=Tryz.isAgg187
 z51:=Tryz.sizeOf187
 v51:=Tryz.zeroValue187
 t53:=Tryz.underlying105
 a53:=Tryz.isAgg105
 z53:=Tryz.sizeOf105
 v53:=Tryz.zeroValue105
 t75:=Tryz.underlying153
 a75:=Tryz.isAgg153
 z75:=Tryz.sizeOf153
 v75:=Tryz.zeroValue153
 t76:=Tryz.underlying154
 a76:=Tryz.isAgg154
 z76:=Tryz.sizeOf154
 v76:=Tryz.zeroValue154
 t85:=Tryz.underlying197
 a85:=Tryz.isAgg197
 z85:=Tryz.sizeOf197
 v85:=Tryz.zeroValue197
 t127:=Tryz.underlying232
 a127:=Tryz.isAgg232
 z127:=Tryz.sizeOf232
 v127:=Tryz.zeroValue232
 t143:=Tryz.underlying233
 a143:=Tryz.isAgg233
 z143:=Tryz.sizeOf233
 v143:=Tryz.zeroValue233
 t145:=Tryz.underlying235
 a145:=Tryz.isAgg235
 z145:=Tryz.sizeOf235
 v145:=Tryz.zeroValue235
 t167:=Tryz.underlying196
 a167:=Tryz.isAgg196
 z167:=Tryz.sizeOf196
 v167:=Tryz.zeroValue196
 t168:=Tryz.underlying199
 a168:=Tryz.isAgg199
 z168:=Tryz.sizeOf199
 v168:=Tryz.zeroValue199
 t171:=Tryz.underlying223
 a171:=Tryz.isAgg223
 z171:=Tryz.sizeOf223
 v171:=Tryz.zeroValue223
 t173:=Tryz.underlying225
 a173:=Tryz.isAgg225
 z173:=Tryz.sizeOf225
 v173:=Tryz.zeroValue225
 t175:=Tryz.underlying218
 a175:=Tryz.isAgg218
 z175:=Tryz.sizeOf218
 v175:=Tryz.zeroValue218
 t210:=Tryz.underlying221
 a210:=Tryz.isAgg221
 z210:=Tryz.sizeOf221
 v210:=Tryz.zeroValue221
 t212:=Tryz.underlying237
 a212:=Tryz.isAgg237
 z212:=Tryz.sizeOf237
 v212:=Tryz.zeroValue237
 t213:=Tryz.underlying238
 a213:=Tryz.isAgg238
 z213:=Tryz.sizeOf238
 t232:=Tryz.underlying239
 a232:=Tryz.isAgg239
 z232:=Tryz.sizeOf239
 v232:=Tryz.zeroValue239
 t233:=Tryz.underlying211
 a233:=Tryz.isAgg211
 z233:=Tryz.sizeOf211
 v233:=Tryz.zeroValue211
 g15:=by kernel_rfl
 g16:=by kernel_rfl
 g17:=by kernel_rfl
 g18:=by kernel_rfl
 g19:=by kernel_rfl
 t80:=Tryz.underlying158
 a80:=Tryz.isAgg158
 z80:=Tryz.sizeOf158
 v80:=Tryz.zeroValue158
 i0:=by kernel_rfl
 i2:=by kernel_rfl
 i3:=by kernel_rfl
 i4:=by kernel_rfl
 i5:=by kernel_rfl
 i9:=by kernel_rfl
 i20:=by kernel_rfl
 i21:=by kernel_rfl
 i37:=by kernel_rfl
 i46:=by kernel_rfl
 i51:=by kernel_rfl
 i53:=by kernel_rfl
 i75:=by kernel_rfl
 i76:=by kernel_rfl
 i80:=by kernel_rfl
 i85:=by kernel_rfl
 i127:=by kernel_rfl
 i143:=by kernel_rfl
 i145:=by kernel_rfl
 i167:=by kernel_rfl
 i168:=by kernel_rfl
 i171:=by kernel_rfl
 i173:=by kernel_rfl
 i175:=by kernel_rfl
 i210:=by kernel_rfl
 i212:=by kernel_rfl
 i232:=by kernel_rfl
 i233:=by kernel_rfl
 m15:=by kernel_rfl
 m16:=by kernel_rfl
 m17:=by kernel_rfl
 m18:=by kernel_rfl
 m19:=by kernel_rfl
 c0:=by kernel_rfl
 c2:=by kernel_rfl
 c3:=by kernel_rfl
 c4:=by kernel_rfl
 c5:=by kernel_rfl
 c9:=by kernel_rfl
 c20:=by kernel_rfl
 c21:=by kernel_rfl
 c37:=by kernel_rfl
 c46:=by kernel_rfl
 c51:=by kernel_rfl
 c53:=by kernel_rfl
 c75:=by kernel_rfl
 c76:=by kernel_rfl
 c80:=by kernel_rfl
 c85:=by kernel_rfl
 c127:=by kernel_rfl
 c143:=by kernel_rfl
 c145:=by kernel_rfl
 c167:=by kernel_rfl
 c168:=by kernel_rfl
 c171:=by kernel_rfl
 c173:=by kernel_rfl
 c175:=by kernel_rfl
 c210:=by kernel_rfl
 c212:=by kernel_rfl
 c213:=by kernel_rfl
 c232:=by kernel_rfl
 c233:=by kernel_rfl
theorem rA:(kN.f 172)=82:=by kernel_rfl
theorem rE1:(kN.g 15)=5:=by kernel_rfl
theorem rE2:(kN.g 16)=6:=by kernel_rfl
def tc(w:World)(g:Nat):Prop:=∃v,w.cell? ⟨g,0,none⟩=some v∧(v= .nilIface∨∃t p,v= .iface t p)
theorem tc.on{w w':World}{g:Nat}(h:tc w g)(b:Below w.heap.size w w'):tc w' g:=by
 obtain⟨v,h1,h2⟩:=h
 exact⟨v,(b.cell (p:=⟨g,0,none⟩) (World.block_lt_of_cell? w _ h1)).trans h1,h2⟩
def zg(s:ByteArray)(n:Int)(e:Value):Prop:=match Lib.atoiAll s.data.toList with
 | .ok m=>n=m∧e= .nilIface
 |_=>∃t p,e= .iface t p
theorem zg.eP{s:ByteArray}{n:Int}{e:Value}(h:zg s n e)(hA:Lib.atoiAll s.data.toList= .ok n):e= .nilIface:=by
 unfold zg at h;rw[hA]at h;exact h.2
theorem zg.bad{s:ByteArray}{n:Int}{e:Value}(h:zg s n e)(hA:Lib.atoiAll s.data.toList≠ .ok n):(∃t p,e= .iface t p)∧∀m,Lib.atoiAll s.data.toList≠ .ok m:=by
 unfold zg at h
 cases h0:Lib.atoiAll s.data.toList with
 |ok m=>rw[h0]at h hA;exact absurd (by rw[h.1]) hA
 |_=>rw[h0]at h;exact⟨h,fun m hm=>by cases hm⟩
theorem strconv_Atoi(s:ByteArray)(hs:s.size≤281474976710656)(w:World)(h1:tc w 5)(h2:tc w 6):
  dw Tryz.prog 82 [.string s] w fun v w'=>(∃n e,v= .tuple #[.int .i64 n,e]∧ug n∧zg s n e)∧Below w.heap.size w w':=by
 refine⟨by kernel_rfl,?_⟩
 rw[←rA]
 rw[←rE1]at h1
 rw[←rE2]at h2
 unfold zg
 cases h:Lib.atoiAll s.data.toList with
 |ok m=>
  exact(Any.strconv_Atoi_ok Ci s (by omega) m h w).mono fun e w' ⟨e1,e2⟩=>⟨_,e1,⟨m,_,rfl,Lib.atoiAll_bounds h,rfl,rfl⟩,by
   rcases e2 with rfl|⟨t,rfl⟩
   ·exact Below.refl _ _
   ·exact Lib.bytesWorld_below _ _ _⟩
 |range=>
  obtain⟨v,hv,hi⟩:=h2
  exact(Any.strconv_Atoi_range Ci s hs h v w hv hi).mono fun e w' ⟨N,e1,_,_,b⟩=>⟨_,e1,⟨_,_,rfl,Lib.atoiSat_bounds _,_,_,rfl⟩,b⟩
 |_=>
  obtain⟨v,hv,hi⟩:=h1
  exact(Any.strconv_Atoi_syntax Ci s hs h v w hv hi).mono fun e w' ⟨N,e1,_,_,b⟩=>⟨_,e1,⟨0,_,rfl,⟨by omega,by omega⟩,_,_,rfl⟩,b⟩
section
variable {P:Program} {K:Fr→World→Prop} {u:World} {f:Fr} {d:Option Nat} {w:World}
variable {ms:Array (String×TypeId)} {t:TypeId}
theorem GZ(ht:P.underlying t=some (.interface ms))(n:Nat)(w:World):(Op.equalIn (n+1) t .nilIface .nilIface).run P w= .ok true w:=by
 simp[Op.equalIn,run_underlying ht]
theorem ES(ht:P.underlying t=some (.interface ms))(n:Nat)(te:TypeId)(v:Value)(w:World):(Op.equalIn (n+1) t (.iface te v) .nilIface).run P w= .ok false w:=by
 simp[Op.equalIn,run_underlying ht]
theorem ET(ht:P.underlying t=some (.interface ms))(xo:Operand):aq P K (bW .neq t xo (.const .nilIface) .nilIface .nilIface) u f d w=K (ai f d (.bool false)) w:=
 aM u f d w fun w' _=>by
  simp only[bW,eqGuard,binOp]
  simp[Op.equal,Op.maxDepth,GZ ht 9999]
theorem Qt(ht:P.underlying t=some (.interface ms))(xo:Operand)(te:TypeId)(v:Value):aq P K (bW .neq t xo (.const .nilIface) (.iface te v) .nilIface) u f d w=K (ai f d (.bool true)) w:=
 aM u f d w fun w' _=>by
  simp only[bW,eqGuard,binOp]
  simp[Op.equal,Op.maxDepth,ES ht 9999]
end
open Go.RowKit
abbrev G1:List UInt8:=[112,114,111,106,101,99,116,32]
abbrev G3:List UInt8:=[115,116,101,112,115,32]
abbrev aee:List UInt8:=[99,117,114,114,101,110,116]
abbrev aef:List UInt8:=[105,110,105,116,105,97,108]
abbrev aeg:List UInt8:=[100,101,108,97,121]
abbrev aeh:List UInt8:=[107,101,101,112]
abbrev ajp:List UInt8:=[118,101,105,108]
abbrev UI:List UInt8:=[114,117,110]
abbrev UJ:List UInt8:=[97,108,108]
abbrev DI:List UInt8:=[110,111,110,101]
abbrev UK:List (List UInt8):=[aee,aef,aeg,aeh,ajp]
def td(s:List UInt8):Option Int:=
 if s=UJ then some (-1)else match Lib.atoiAll s with
  | .ok v=>if(0≤v∧v≤1000)∧Lib.itoa v=s then some v else none
  |_=>none
noncomputable def vG(b:Bool)(p:Pj)(s:List UInt8):List UInt8:=match td s with
 |none=>[63]
 |some n=>if b=true then UC p n else DI
noncomputable def Ms(p:Pj)(s:List UInt8):List UInt8:=
 if s=aee then Zt p else if s=aef then Zu p else if s=aeg then Zv p else if s=aeh then Qs p else GY p
def EU(s:List UInt8):List ByteArray:=(ck 32 s).map fun l=>⟨l.toArray⟩
def I9(st:Option Pj)(f:Pj→List UInt8):List UInt8:=match st with
 |none=>DI
 |some p=>f p
noncomputable def Cj(st:Option Pj)(s:List UInt8)(one:Prop)[Decidable one](run:Prop)[Decidable run](W:List ByteArray):List UInt8×Option Pj:=
 if¬one∧¬run then([63],st)
 else(I9 st fun p=>if one then Ms p s else Mr p W,st)
noncomputable def fe(st:Option Pj)(s:List UInt8):List UInt8×Option Pj:=
 if Lib.hasPrefix s G1=true then(XQ (bf (Lib.trimPrefix s G1)),XR st (bf (Lib.trimPrefix s G1)))
 else if Lib.hasPrefix s G3=true then
  (match td (Lib.trimPrefix s G3)with
   |none=>[63]
   |some n=>match st with
    |none=>DI
    |some p=>UC p n,st)
 else Cj st s (s∈UK) ((ck 32 s).getD 0 []=UI) (EU s).tail
def G4(st:Option Pj):Prop:=∀q,st=some q→q.Ip
theorem G4.new{st:Option Pj}(h:G4 st)(l:List UInt8):G4 (XR st (bf l)):=by
 cases hp:bf l with
 |error f=>exact h
 |ok q=>intro q' e;injection e with e;subst e;exact Dv hp
theorem G4.line{st:Option Pj}(h:G4 st)(s:List UInt8):G4 (fe st s).2:=by
 unfold fe
 split
 ·exact h.new _
 ·split
  ·exact h
  ·unfold Cj
   split<;>exact h
open Go.RowKit
structure G5(w:World):Prop where
 t:Q1 w
 s:tc w 5
 r:tc w 6
theorem G5.on{w w':World}(h:G5 w)(b:Below w.heap.size w w'):G5 w':=⟨h.t.on b,h.s.on b,h.r.on b⟩
theorem tc.but{w w':World}{g k:Nat}(h:tc w k)(b:ff w.heap.size g w w')(hk:k≠g):tc w' k:=by
 obtain⟨v,h1,h2⟩:=h
 exact⟨v,(World.cell?_of_block (a:=⟨k,0,none⟩) (b.block _ (World.block_lt_of_cell? w _ h1) hk)).trans h1,h2⟩
theorem G5.but{w w':World}{g:Nat}(h:G5 w)(b:ff w.heap.size g w w')(hg:Gh g):G5 w':=⟨h.t.but b hg,h.s.but b hg.es,h.r.but b hg.er⟩
theorem G6:(ByteArray.mk #[108,101,97,107])=⟨([108,101,97,107]:List UInt8).toArray⟩:=rfl
theorem UL:(ByteArray.mk #[32,124])=⟨([32,124]:List UInt8).toArray⟩:=rfl
theorem Zw:(ByteArray.mk #[97,116])=⟨([97,116]:List UInt8).toArray⟩:=rfl
theorem Qu:(ByteArray.mk #[107,101,101,112])=⟨([107,101,101,112]:List UInt8).toArray⟩:=rfl
theorem Qv:(ByteArray.mk #[118,101,105,108])=⟨([118,101,105,108]:List UInt8).toArray⟩:=rfl
theorem yx{names:List ByteArray}{l:List Int}(hn:qm names)(hl:ye l names.length):(sp (D8 names l)).length≤17*l.length:=by
 have h:=Oi (Da hn hl)
 unfold D8 at h ⊢
 rw[List.length_map]at h
 exact h
structure UM(w:World)(g:Nat)(a:JV)(p:Pj)(b:Bool):Prop where
 k:aE w g 46 (H6 a p b)
 j:C9 (·<w.heap.size) w a p
theorem UM.up{w w':World}{g:Nat}{a:JV}{p:Pj}{b:Bool}(h:UM w g a p b)(bb:Below w.heap.size w w'):UM w' g a p b:=⟨h.k.below bb h.k.lt,h.j.up bb⟩
def Qw(p:Pj)(Is:Bool→List Int→Prop)(w:World)(v:Value)(w':World):Prop:=
 ∃(b:Bool) (O:Option Addr) (co:Nat) (o:List Int) (e:Int),v= .tuple #[.bool b,.slice O o.length co,.int .i64 e]∧Ints (·<w'.heap.size) w' O o∧o.length≤100000∧Below w.heap.size w w'∧Is b o∧ye o p.E.length
theorem DJ{w:World}{g:Nat}{a:JV}{p:Pj}{b0:Bool}(h:UM w g a p b0)(hF:p.Ip){fn:Nat}{Is:Bool→List Int→Prop}
  (hC:∀{w1:World} {pv:PV},Below w.heap.size w w1→tv (·<w1.heap.size) w1 pv (mF p)→dw Tryz.prog fn [pv.val (mF p)] w1 (Qw p Is w1)):
  dw Tryz.prog 87 [.pointer (some ⟨g,0,none⟩),.func (.func fn) #[] #[]] w fun v w'=>(∃b o,Is b o∧v= .string ⟨(uG p.E b o).toArray⟩∧(uG p.E b o).length≤4000000)∧Below w.heap.size w w':=by
 refine rX (by simp) 10000 fun Q hQ=>?_
 simp(disch:=omega)only[push_cast,aa,↓reduceIte,Nat.reduceEqDiff,Int.reduceEq,me]
 refine ah (qu h.k) ?_
 rintro v w1 ⟨rfl,b1⟩
 simp(disch:=omega)only[push_cast,aa,↓reduceIte,Nat.reduceEqDiff,Int.reduceEq,lH,List.nil_append,List.append_nil,List.cons_append]
 refine ah (hC b1 (h.up b1).j.FZ) ?_
 rintro v w2 ⟨b,O,co,o,e,rfl,hO,hl,b2,hI,fN⟩
 have bb:=b1.trans (b2.mono b1.size)
 simp(disch:=omega)only[push_cast,aa,↓reduceIte,Nat.reduceEqDiff,Int.reduceEq,wy,wz,wC]
 cases b with
 |false=>
  simp(disch:=omega)only[push_cast,aa,↓reduceIte,Nat.reduceEqDiff,Int.reduceEq]
  exact aF (hQ _ _ ⟨⟨false,o,hI,(by simp only[push_cast,↓reduceIte,Nat.reduceEqDiff,Int.reduceEq,uG]),(by unfold uG;rw[if_neg (by decide)];decide)⟩,bb⟩)
 |true=>
  have h2:=h.up bb
  have hs:=yx hF.E fN
  simp(disch:=omega)only[push_cast,aa,↓reduceIte,Nat.reduceEqDiff,Int.reduceEq,h2.k.lE,G6]
  refine ah (mo [108,101,97,107] (by decide) h2.j.E a.cE hF.E hO co fN hl) ?_
  rintro v w3 ⟨rfl,s3⟩
  simp(disch:=omega)only[push_cast,aa,↓reduceIte,Nat.reduceEqDiff,Int.reduceEq]
  exact aF (hQ _ _ ⟨⟨true,o,hI,(by simp only[push_cast,↓reduceIte,Nat.reduceEqDiff,Int.reduceEq,uG]),(by
   unfold uG
   rw[if_pos rfl,List.length_append]
   simp only[List.length_cons,List.length_nil];omega)⟩,bb.trans (s3.below _)⟩)
open Go.RowKit
theorem aei:∃ms,Tryz.prog.underlying 153=some (.interface ms):=⟨_,Tryz.underlying153⟩
theorem ab5:(ByteArray.mk #[110,111,110,101])=⟨(DI:List UInt8).toArray⟩:=rfl
theorem Mt{E:List ByteArray}(hn:qm E){b:Bool}{u v:List Int}(hu:ye u E.length)(hv:ye v E.length)(lu:u.length≤100000)(lv:v.length≤100000):(Kt E b u v).length≤4000000:=by
 have h1:=yx hn hu
 have h2:=yx hn hv
 unfold Kt
 split
 ·simp only[List.length_append,List.length_cons,List.length_nil];omega
 ·decide
theorem tT{s:List UInt8}(h:s≠UJ)(hA:∀m,Lib.atoiAll s= .ok m→¬((0≤m∧m≤1000)∧Lib.itoa m=s)):td s=none:=by
 unfold td
 rw[if_neg h]
 cases h0:Lib.atoiAll s with
 |ok m=>simp only;rw[if_neg (hA m h0)]
 |_=>rfl
theorem Qx{s:List UInt8}(h:s≠UJ){m:Int}(hA:Lib.atoiAll s= .ok m)(hm:(0≤m∧m≤1000)∧Lib.itoa m=s):td s=some m:=by
 unfold td
 rw[if_neg h,hA]
 simp only
 rw[if_pos hm]
theorem nI{b:Bool}{p:Pj}{s:List UInt8}(h:td s=none):vG b p s=[63]:=by unfold vG;rw[h]
theorem G7{b:Bool}{p:Pj}{s:List UInt8}{m:Int}(h:td s=some m):vG b p s=if b=true then UC p m else DI:=by unfold vG;rw[h]
set_option maxHeartbeats 1000000 in
theorem Ja{w:World}(hP:G5 w){g:Nat}{a:JV}{p:Pj}{b0:Bool}(h:UM w g a p b0)(hF:b0=true→p.Ip){s:ByteArray}(hs:s.size≤281474976710656):
  dw Tryz.prog 34 [.pointer (some ⟨g,0,none⟩),.string s] w fun v w'=>(v= .string ⟨(vG b0 p s.data.toList).toArray⟩∧(vG b0 p s.data.toList).length≤4000000)∧Below w.heap.size w w':=by
 obtain⟨ms,tE⟩:=aei
 refine qQ (by simp) 10000 fun Q hQ=>?_
 simp(disch:=omega)only[push_cast,aa,↓reduceIte,Nat.reduceEqDiff,Int.reduceEq,kc]
 refine ah (strconv_Atoi s hs w hP.s hP.r) ?_
 rintro v w1 ⟨⟨n,e,rfl,LX,cY⟩,bb⟩
 by_cases jZ:s=ByteArray.mk #[97,108,108]
 case' pos=>
  have hm:td s.data.toList=some (-1):=by rw[jZ];rfl
  simp(disch:=omega)only[push_cast,aa,↓reduceIte,Nat.reduceEqDiff,Int.reduceEq,ef,eh,eq_true jZ]
 case' neg=>
  have ha:s.data.toList≠UJ:=fun e=>jZ (sy e)
  by_cases hA:Lib.atoiAll s.data.toList= .ok n
  case neg=>
   obtain⟨⟨te,pe,rfl⟩,gY⟩:=cY.bad hA
   have hm:=nI (b:=b0) (p:=p) (tT ha fun m hm=>absurd hm (gY m))
   simp(disch:=omega)only[push_cast,aa,↓reduceIte,Nat.reduceEqDiff,Int.reduceEq,ef,eh,jZ,Qt tE]
   exact aF (hQ _ _ ⟨⟨by rw[hm];rfl,by rw[hm];first|decide|(rw[if_neg (by decide)];decide)⟩,bb⟩)
  obtain rfl:=cY.eP hA
  by_cases c1:n<0
  case pos=>
   have hm:=nI (b:=b0) (p:=p) (tT ha fun m hm=>by rw[hA]at hm;injection hm with hm;omega)
   simp(disch:=omega)only[push_cast,aa,↓reduceIte,Nat.reduceEqDiff,Int.reduceEq,ef,eh,jZ,ET tE,c1]
   exact aF (hQ _ _ ⟨⟨by rw[hm];rfl,by rw[hm];first|decide|(rw[if_neg (by decide)];decide)⟩,bb⟩)
  by_cases c2:1000<n
  case pos=>
   have hm:=nI (b:=b0) (p:=p) (tT ha fun m hm=>by rw[hA]at hm;injection hm with hm;omega)
   simp(disch:=omega)only[push_cast,aa,↓reduceIte,Nat.reduceEqDiff,Int.reduceEq,ef,eh,jZ,ET tE,c1,c2]
   exact aF (hQ _ _ ⟨⟨by rw[hm];rfl,by rw[hm];first|decide|(rw[if_neg (by decide)];decide)⟩,bb⟩)
  simp(disch:=omega)only[push_cast,aa,↓reduceIte,Nat.reduceEqDiff,Int.reduceEq,ef,eh,jZ,ET tE,c1,c2]
  refine ah (strconv_Itoa n LX.1 LX.2 w1 (hP.on bb).t.pow) ?_
  rintro v w2 ⟨rfl,b2⟩
  replace bb:=bb.trans (b2.mono bb.size)
  by_cases c3:(⟨(Lib.itoa n).toArray⟩:ByteArray)=s
  case neg=>
   have hm:=nI (b:=b0) (p:=p) (tT ha fun m hm=>by
    rw[hA]at hm
    injection hm with hm
    subst hm
    exact fun e=>c3 (by rw[e.2,qk]))
   simp(disch:=omega)only[push_cast,aa,↓reduceIte,Nat.reduceEqDiff,Int.reduceEq,ju,c3,ne_eq,not_false_eq_true,decide_true]
   exact aF (hQ _ _ ⟨⟨by rw[hm];rfl,by rw[hm];first|decide|(rw[if_neg (by decide)];decide)⟩,bb⟩)
  have hm:td s.data.toList=some n:=Qx ha hA ⟨⟨by omega,by omega⟩,by rw[←c3]⟩
  simp(disch:=omega)only[push_cast,aa,↓reduceIte,Nat.reduceEqDiff,Int.reduceEq,ju,c3,ne_eq,not_true_eq_false,decide_false]
 all_goals
  have hh:=h.up bb
  have hsA:=G7 (b:=b0) (p:=p) hm
  cases b0 with
  |false=>
   simp(disch:=omega)only[push_cast,aa,↓reduceIte,Nat.reduceEqDiff,Int.reduceEq,hh.k.lB]
   exact aF (hQ _ _ ⟨⟨by rw[hsA];rfl,by rw[hsA];first|decide|(rw[if_neg (by decide)];decide)⟩,bb⟩)
  |true=>
   replace hF:=hF rfl
   rw[if_pos rfl]at hsA
   simp(disch:=omega)only[push_cast,aa,↓reduceIte,Nat.reduceEqDiff,Int.reduceEq,hh.k.lB]
   refine ah (qu hh.k) ?_
   rintro v w3 ⟨rfl,b3⟩
   simp(disch:=omega)only[push_cast,aa,↓reduceIte,Nat.reduceEqDiff,Int.reduceEq]
   refine ah (IE (hh.up b3).j.FZ hF.fits _) ?_
   rintro v w4 ⟨b,U,cu,u,V,cv,x,e4,rfl,hU,hV,lU,lV,b4,hI⟩
   have Hh:=b3.trans (b4.mono b3.size)
   have h4:=hh.up Hh
   replace bb:=bb.trans (Hh.mono bb.size)
   obtain⟨iu,iv⟩:=hI.Zs
   rw[show(mF p).m.events=p.E.length from hF.ev]at iu iv
   have hA4:=UD hI
   have Vl:=Mt hF.E (b:=b) iu iv lU lV
   rw[←hA4,←hsA]at Vl
   simp(disch:=omega)only[push_cast,aa,↓reduceIte,Nat.reduceEqDiff,Int.reduceEq,Jl,Jm,Jn,Jo]
   cases b with
   |false=>
    simp(disch:=omega)only[push_cast,aa,↓reduceIte,Nat.reduceEqDiff,Int.reduceEq]
    exact aF (hQ _ _ ⟨⟨by rw[hsA,hA4];rfl,Vl⟩,bb⟩)
   |true=>
    have su:=yx hF.E iu
    simp(disch:=omega)only[push_cast,aa,↓reduceIte,Nat.reduceEqDiff,Int.reduceEq,h4.k.drew.lE,G6]
    have sd:=(Same.refl w4).drew
    refine ah (mo [108,101,97,107] (by decide) (dE.same h4.j.E sd) a.cE hF.E (hU.same sd) cu iu lU) ?_
    rintro v w5 ⟨rfl,s5⟩
    refine⟨s5.below _,?_⟩
    simp(disch:=first|with_reducible assumption|omega|(simp only[List.length_append,List.length_cons,List.length_nil];omega))only[push_cast,aa,↓reduceIte,Nat.reduceEqDiff,Int.reduceEq,UL,wH]
    refine ah (mo ([108,101,97,107]++sp (D8 p.E u)++[32,124]) (by simp only[List.length_append,List.length_cons,List.length_nil];omega) (dE.same (dE.same h4.j.E sd) s5) a.cE hF.E ((hV.same sd).same s5) cv iv lV) ?_
    rintro v w6 ⟨rfl,s6⟩
    refine⟨(s5.trans s6).below _,?_⟩
    simp(disch:=omega)only[push_cast,aa,↓reduceIte,Nat.reduceEqDiff,Int.reduceEq]
    exact aF (hQ _ _ ⟨⟨by rw[hsA,hA4];rfl,Vl⟩,bb.trans ((sd.trans (s5.trans s6)).below _)⟩)
open Go.RowKit
theorem Qy(E:List ByteArray){W:List ByteArray}{k:Nat}{s:ByteArray}(h:W[k]? =some s):I8 E (W.take (k+1))=I8 E (W.take k)++[jW s E]:=by
 unfold I8
 rw[List.take_add_one,h,List.map_append]
 rfl
theorem UN(E W:List ByteArray):(I8 E W).length=W.length:=List.length_map _
theorem G8{p:Pj}{W:List ByteArray}{s:ByteArray}(hs:s∈W)(h:jW s p.E<0):Mr p W=[63]:=if_pos ⟨_,List.mem_map.2 ⟨s,hs,rfl⟩,h⟩
theorem Kw{p:Pj}{W:List ByteArray}(h:∀x∈I8 p.E W,0≤x):Mr p W=[97,116]++sp (D8 p.S (ER p.m (I8 p.E W))):=if_neg fun⟨x,hx,h0⟩=>by have:=h x hx;omega
theorem Qz{m:aN}{l:List Int}:(ER m l).length≤m.aj.toNat:=by
 unfold ER
 split
 ·rename_i c;exact Ev (vi c.1.1 c.1.2 l)
 ·exact Nat.zero_le _
set_option maxHeartbeats 1000000 in
theorem QA{w:World}(hP:G5 w){g:Nat}{a:JV}{p:Pj}{b0:Bool}(h:UM w g a p b0)(hF:p.Ip){A:Option Addr}{W:List ByteArray}(hW:dE (·<w.heap.size) w A W)(c:Nat)(hl:W.length≤17592186043904):
  dw Tryz.prog 37 [.pointer (some ⟨g,0,none⟩),.slice A W.length c] w fun v w'=>(v= .string ⟨(Mr p W).toArray⟩∧(Mr p W).length≤4000000)∧Below w.heap.size w w':=by
 refine tU (by simp) 10000 fun Q hQ=>?_
 simp(disch:=omega)only[push_cast,aa,↓reduceIte,Nat.reduceEqDiff,Int.reduceEq,mY]
 refine ax (fun f w'=>∃(k:Nat) (O:Option Addr) (co:Nat),k≤W.length∧(f 0= .pointer (some ⟨g,0,none⟩)∧f 5= .slice O (I8 p.E (W.take k)).length co∧f 11= .slice A W.length c∧f 12= .int .i64 W.length∧f 13= .int .i64 k)∧(∀x∈I8 p.E (W.take k),0≤x)∧cQ w.heap.size 3 w' O co (I8 p.E (W.take k))∧Below w.heap.size w w')
  (fun f _=>W.length-(intOf (f 13)).toNat) ⟨0,none,0,Nat.zero_le _,⟨rfl,rfl,rfl,rfl,rfl⟩,(fun x hx=>by cases hx),Own.nil _ _ _ _,Below.refl _ _⟩ ?_
 rintro f w1 ⟨k,O,co,hk,fr,L8,o1,b1⟩ J hJ
 have gZ:(intOf (f 13)).toNat=k:=by rw[fr.2.2.2.2];simp[intOf]
 have hh:=h.up b1
 have sG:(I8 p.E (W.take k)).length=k:=by rw[UN,List.length_take];omega
 by_cases aI:k<W.length
 case neg=>
  obtain rfl:k=W.length:=by omega
  rw[List.take_length]at L8 o1 sG fr
  have sd:=(Same.refl w1).drew
  have hd:=hh.up (sd.below _)
  have bd:=b1.trans (sd.below _)
  have ow:=o1.same sd
  have h6:=hF.s6
  have e6:=hF.st
  simp(disch:=omega)only[push_cast,aa,↓reduceIte,Nat.reduceEqDiff,Int.reduceEq,fJ,fr,Nat.lt_irrefl,hd.k.lM,hd.k.lst]
  refine ah (CL hd.j.m hF.J1 (hP.on bd).t.t hd.j.m.aB (Ints.lt (cQ.ints ow)) hF.sm.s (by omega)) ?_
  rintro v w2 ⟨O2,c2,o,e,rfl,o2,b2,r1,r2,r3⟩
  have ho:ER p.m (I8 p.E W)=o:=UG ⟨fun c=>(r1 c).2,fun c=>(r2 c).2,fun c=>(r3 c).2⟩
  have XX:=Qz (m:=p.m) (l:=I8 p.E W)
  have fN:=UH (m:=p.m) (l:=I8 p.E W)
  rw[ho]at XX fN
  rw[show p.m.aj=p.S.length from hF.st]at fN
  have hs:=yx hF.S fN
  have bb:=bd.trans (b2.mono bd.size)
  have h2:=hd.up b2
  refine⟨b2,?_⟩
  simp(disch:=omega)only[push_cast,aa,↓reduceIte,Nat.reduceEqDiff,Int.reduceEq,fr,ef,eh,h2.k.lS,Zw]
  refine ah (mo [97,116] (by decide) h2.j.S a.cS hF.S (cQ.ints o2) c2 fN (by omega)) ?_
  rintro v w3 ⟨rfl,s3⟩
  simp(disch:=omega)only[push_cast,aa,↓reduceIte,Nat.reduceEqDiff,Int.reduceEq]
  exact aF (hQ _ _ ⟨⟨by rw[Kw L8,ho];rfl,by
   rw[Kw L8,ho,List.length_append]
   simp only[List.length_cons,List.length_nil];omega⟩,bb.trans (s3.below _)⟩)
 have hx:W[k]? =some W[k]:=List.getElem?_eq_getElem aI
 have Cp:W[k]∈W:=List.getElem_mem aI
 generalize W[k]=s at hx Cp
 have sA:=hW.isSome (by omega)
 have pD:=Qy p.E hx
 have e8:=hF.e8
 simp(disch:=omega)only[push_cast,aa,↓reduceIte,Nat.reduceEqDiff,Int.reduceEq,fJ,fr,aI,sA,dE.ld (dE.Vh hW b1) hx,hh.k.lE]
 refine ah (xW hh.j.E a.cE (by omega) s) ?_
 rintro v w2 ⟨rfl,s2⟩
 have bb:=b1.trans (s2.below _)
 by_cases hn:jW s p.E<0
 case pos=>
  simp(disch:=omega)only[push_cast,aa,↓reduceIte,Nat.reduceEqDiff,Int.reduceEq,fr,hn]
  exact aF (hQ _ _ ⟨⟨by rw[G8 Cp hn];rfl,by rw[G8 Cp hn];decide⟩,bb⟩)
 have o2:=o1.same s2
 simp(disch:=omega)only[push_cast,aa,↓reduceIte,Nat.reduceEqDiff,Int.reduceEq,fr,hn,yS]
 refine tu fq o2 (jW s p.E) (by omega) bb.size ?_
 intro O' co' w3 o3 g3 _ _ z3
 simp(disch:=omega)only[push_cast,aa,↓reduceIte,Nat.reduceEqDiff,Int.reduceEq,fr]
 exact hJ _ _ ⟨k+1,O',co',aI,(by simp only[push_cast,↓reduceIte,Nat.reduceEqDiff,true_and,and_true,and_self,eq_self,fr,pD,List.length_append,List.length_singleton]),(fun x hx=>by
  rw[pD]at hx
  rcases List.mem_append.1 hx with hx|hx
  ·exact L8 x hx
  ·rw[List.mem_singleton.1 hx];omega),by rw[pD];exact o3,g3.below bb bb.size o2.uh⟩ (by simp only[push_cast,↓reduceIte,Nat.reduceEqDiff,intOf,fr];omega)
def DK(ok:Bool)(e:Int)(n m:Nat):List UInt8:=if e=0 then(if ok=true then [118,101,105,108]++qt [(n:Int),(m:Int)]else [110,111,116,104,105,110,103])else [98,97,100]++qt [e]
theorem vH{p:cO}{free:List Int}{w w':World}{v:Value}(h:GW p free w v w'):∃An n cn Am m cm ok e,v= .tuple #[.agg (CY An n cn Am m cm).toArray,.bool ok,.int .i64 e]∧DH p free (DK ok e n m)∧(0≤e∧e≤3)∧n≤100∧m≤1000∧Below w.heap.size w w':=by
 obtain⟨b,h⟩:=h
 rcases h with⟨h1,rfl⟩|⟨h1,h2,rfl⟩|⟨h1,h2,h3,rfl⟩|⟨h1,h2,h3,k,V,hk,hV,rfl⟩
 ·exact⟨none,0,0,none,0,0,false,2,rfl,.inl ⟨h1,rfl⟩,by decide,by decide,by decide,b⟩
 ·exact⟨none,0,0,none,0,0,false,3,rfl,.inr (.inl ⟨h1,h2,rfl⟩),by decide,by decide,by decide,b⟩
 ·exact⟨none,0,0,none,0,0,false,0,rfl,.inr (.inr (.inl ⟨h1,h2,h3,rfl⟩)),by decide,by decide,by decide,b⟩
 ·obtain⟨An,cn,hs,Am,cm,ms,rfl,_,_,e1,_,_,e2⟩:=hV
  have l1:=congrArg List.length e1
  have l2:=congrArg List.length e2
  rw[List.length_map]at l1
  rw[List.length_map,List.length_map]at l2
  have n1:=(qz (free:=free) h1.1.1 k).len h1.1.2.1
  have n2:=yv (p:=p) (free:=free) (cO.bZ.Gr h1.1) k
  exact⟨An,hs.length,cn,Am,ms.length,cm,true,0,rfl,.inr (.inr (.inr ⟨h1,h2,h3,k,hk,by rw[l1,l2];rfl⟩)),by decide,by omega,by omega,b⟩
open Go.RowKit
theorem QB:(ByteArray.mk #[110,111,116,104,105,110,103])=⟨([110,111,116,104,105,110,103]:List UInt8).toArray⟩:=rfl
theorem Ag{n:Nat}(h:n≤1000):ug (n:Int):=⟨by omega,by omega⟩
theorem yy{ok:Bool}{e:Int}{n m:Nat}(he:0≤e∧e≤3)(hn:n≤100)(hm:m≤1000):(DK ok e n m).length≤4000000:=by
 have l1:=sO (l:=[e]) fun x hx=>by rw[List.mem_singleton.1 hx];exact jw ⟨by omega,by omega⟩
 have l2:=sO (l:=[(n:Int),(m:Int)]) fun x hx=>by
  rcases List.mem_cons.1 hx with rfl|hx
  ·exact jw (Ag (by omega))
  ·rw[List.mem_singleton.1 hx];exact jw (Ag hm)
 simp only[List.length_cons,List.length_nil]at l1 l2
 unfold DK
 split
 ·split
  ·simp only[List.length_append,List.length_cons,List.length_nil];omega
  ·decide
 ·simp only[List.length_append,List.length_cons,List.length_nil];omega
set_option maxHeartbeats 2000000 in
theorem Mu{w:World}(hP:G5 w){g:Nat}{a:JV}{p:Pj}{b0:Bool}(h:UM w g a p b0)(hF:p.Ip):
  dw Tryz.prog 88 [.pointer (some ⟨g,0,none⟩)] w fun v w'=>(v= .string ⟨(GY p).toArray⟩∧(GY p).length≤4000000)∧Below w.heap.size w w':=by
 refine rY (by simp) 10000 fun Q hQ=>?_
 have sd:=(Same.refl w).drew
 have hd:=h.up (sd.below _)
 have bd:=sd.below w.heap.size
 simp(disch:=omega)only[push_cast,aa,↓reduceIte,Nat.reduceEqDiff,Int.reduceEq,mf,hd.k.l2]
 rw[tj]
 constructor
 case' left=>
  simp(disch:=omega)only[push_cast,aa,↓reduceIte,Nat.reduceEqDiff,Int.reduceEq]
  refine ah (qu hd.k) ?_
  rintro v w1 ⟨rfl,c1⟩
  refine⟨c1,?_⟩
  simp(disch:=omega)only[push_cast,aa,↓reduceIte,Nat.reduceEqDiff,Int.reduceEq]
  rw[tj]
  constructor
  case' left=>
   have cx:=c1
   have hx:=hd.up c1
   simp(disch:=omega)only[push_cast,aa,↓reduceIte,Nat.reduceEqDiff,Int.reduceEq]
   refine ah (yw hx.j.FZ hF.fits (hP.on (bd.trans cx)).t.t hx.j.free hF.sm.n2) ?_
   rintro v wm hv
   obtain⟨An,n,cn,Am,m,cm,ok,e,rfl,hT,he,hn,hm,bm⟩:=vH hv
   refine⟨cx.trans (bm.mono cx.size),?_⟩
   replace cx:=cx.trans (bm.mono cx.size)
   have Hy:=cx.size
   simp(disch:=omega)only[push_cast,aa,↓reduceIte,Nat.reduceEqDiff,Int.reduceEq]
   refine au (cs:=ko) Fs ?_
   intro wa ka ba za
   replace cx:=cx.trans (ba.mono cx.size)
   refine⟨cx,?_⟩
   simp(disch:=omega)only[push_cast,aa,↓reduceIte,Nat.reduceEqDiff,Int.reduceEq,wy,wz,wC]
   refine aC ka (cs:=CY An n cn Am m cm) (iX _ _ _ _ _ _) rfl rfl ?_
   intro ws ks gs zs
   have VO:=gs.below cx cx.size (by intro a ha;injection ha with ha;subst ha;exact Hy)
   refine⟨VO,?_⟩
   have bb:=bd.trans VO
   have hA:=Ch hT
   have hl:=yy (ok:=ok) he hn hm
   rw[←hA]at hl
  case' right=>
   have Hy:=c1.size
   simp(disch:=omega)only[push_cast,aa,↓reduceIte,Nat.reduceEqDiff,Int.reduceEq]
   refine au (cs:=ko) Fs ?_
   intro wa ka ba za
   have cx:=c1.trans (ba.mono c1.size)
   refine⟨cx,?_⟩
   have hx:=hd.up cx
   simp(disch:=omega)only[push_cast,aa,↓reduceIte,Nat.reduceEqDiff,Int.reduceEq]
   refine ah (yw hx.j.FZ hF.fits (hP.on (bd.trans cx)).t.t hx.j.free hF.sm.n2) ?_
   rintro v wm hv
   obtain⟨An,n,cn,Am,m,cm,ok,e,rfl,hT,he,hn,hm,bm⟩:=vH hv
   refine⟨cx.trans (bm.mono cx.size),?_⟩
   replace cx:=cx.trans (bm.mono cx.size)
   simp(disch:=omega)only[push_cast,aa,↓reduceIte,Nat.reduceEqDiff,Int.reduceEq,wy,wz,wC]
   refine aC (ka.below bm ka.lt) (cs:=CY An n cn Am m cm) (iX _ _ _ _ _ _) rfl rfl ?_
   intro ws ks gs zs
   have VO:=gs.below cx cx.size (by intro a ha;injection ha with ha;subst ha;exact Hy)
   refine⟨VO,?_⟩
   have bb:=bd.trans VO
   have hA:=Ch hT
   have hl:=yy (ok:=ok) he hn hm
   rw[←hA]at hl
 case' right=>
  have Hy:=Nat.le_refl w.drew.heap.size
  simp(disch:=omega)only[push_cast,aa,↓reduceIte,Nat.reduceEqDiff,Int.reduceEq]
  refine au (cs:=ko) Fs ?_
  intro wa ka ba za
  refine⟨ba,?_⟩
  have MG:=hd.up ba
  simp(disch:=omega)only[push_cast,aa,↓reduceIte,Nat.reduceEqDiff,Int.reduceEq]
  refine ah (qu MG.k) ?_
  rintro v w1 ⟨rfl,b1⟩
  have cx:=ba.trans (b1.mono ba.size)
  replace ka:=ka.below b1 ka.lt
  refine⟨cx,?_⟩
  have hx:=hd.up cx
  simp(disch:=omega)only[push_cast,aa,↓reduceIte,Nat.reduceEqDiff,Int.reduceEq]
  refine ah (yw hx.j.FZ hF.fits (hP.on (bd.trans cx)).t.t hx.j.free hF.sm.n2) ?_
  rintro v wm hv
  obtain⟨An,n,cn,Am,m,cm,ok,e,rfl,hT,he,hn,hm,bm⟩:=vH hv
  refine⟨cx.trans (bm.mono cx.size),?_⟩
  replace cx:=cx.trans (bm.mono cx.size)
  simp(disch:=omega)only[push_cast,aa,↓reduceIte,Nat.reduceEqDiff,Int.reduceEq,wy,wz,wC]
  refine aC (ka.below bm ka.lt) (cs:=CY An n cn Am m cm) (iX _ _ _ _ _ _) rfl rfl ?_
  intro ws ks gs zs
  have VO:=gs.below cx cx.size (by intro a ha;injection ha with ha;subst ha;exact Hy)
  refine⟨VO,?_⟩
  have bb:=bd.trans VO
  have hA:=Ch hT
  have hl:=yy (ok:=ok) he hn hm
  rw[←hA]at hl
 all_goals
  have i1:∀y∈[e],ug y:=fun y hy=>by rw[List.mem_singleton.1 hy];exact⟨by omega,by omega⟩
  have i2:∀y∈[(n:Int),(m:Int)],ug y:=fun y hy=>by
   rcases List.mem_cons.1 hy with rfl|hy
   ·exact Ag (by omega)
   ·rw[List.mem_singleton.1 hy];exact Ag hm
  by_cases h0:e=0
  case neg=>
   simp(disch:=omega)only[push_cast,aa,↓reduceIte,Nat.reduceEqDiff,Int.reduceEq,h0,TC]
   have ki:aE (ws.alloc (.cells #[.int .i64 e] 3)) ws.heap.size 3 (iv [e]):=aE.new ws 3 (iv [e])
   have bi:Below ws.heap.size ws (ws.alloc (.cells #[.int .i64 e] 3)):=(Below.refl _ _).alloc (Nat.le_refl _) _
   generalize ws.alloc (.cells #[.int .i64 e] 3)=wi at ki bi ⊢
   have Zx:=bb.trans (bi.mono bb.size)
   refine ah (wW (hP.on Zx).t [98,97,100] (by decide) ki.TD 1 (by simp) i1 fun y hy=>jw (i1 y hy)) ?_
   rintro v wj ⟨rfl,bj⟩
   simp(disch:=omega)only[push_cast,aa,↓reduceIte,Nat.reduceEqDiff,Int.reduceEq]
   exact aF (hQ _ _ ⟨⟨by rw[hA];unfold DK;rw[if_neg h0];rfl,hl⟩,Zx.trans (bj.mono Zx.size)⟩)
  cases ok with
  |false=>
   simp(disch:=omega)only[push_cast,aa,↓reduceIte,Nat.reduceEqDiff,Int.reduceEq,h0,QB]
   exact aF (hQ _ _ ⟨⟨by rw[hA];unfold DK;rw[if_pos h0];rfl,hl⟩,bb⟩)
  |true=>
   simp(disch:=omega)only[push_cast,aa,↓reduceIte,Nat.reduceEqDiff,Int.reduceEq,h0,ks.ld (P:=Tryz.prog) Fq 0 (by simp),ks.ld (P:=Tryz.prog) A4 1 (by simp),List.getD_cons_zero,List.getD_cons_succ,Qv]
   refine au (cs:=iv [(n:Int),(m:Int)]) (JG fq _ _) ?_
   intro wi ki bi zi
   have Zx:=bb.trans (bi.mono bb.size)
   simp(disch:=omega)only[push_cast,aa,↓reduceIte,Nat.reduceEqDiff,Int.reduceEq]
   refine ah (wW (hP.on Zx).t [118,101,105,108] (by decide) ki.TD 2 (by simp) i2 fun y hy=>jw (i2 y hy)) ?_
   rintro v wj ⟨rfl,bj⟩
   simp(disch:=omega)only[push_cast,aa,↓reduceIte,Nat.reduceEqDiff,Int.reduceEq]
   exact aF (hQ _ _ ⟨⟨by rw[hA];unfold DK;rw[if_pos h0];rfl,hl⟩,Zx.trans (bj.mono Zx.size)⟩)
open Go.RowKit
theorem QC{w:World}{p:Pj}(hF:p.Ip){pv:PV}(ip:tv (·<w.heap.size) w pv (mF p)):dw Tryz.prog 22 [pv.val (mF p)] w (Qw p (fun b o=>∃e,Ew (mF p) b o e) w):=
 (Ex ip hF.fits).mono fun v w' ⟨b,O,co,o,e,h1,h2,h3,h4,h5⟩=>⟨b,O,co,o,e,h1,h2.mono fun _ h=>h.2,h3,h4,⟨e,h5⟩,by have:=h5.Zs;rw[show(mF p).m.events=p.E.length from hF.ev]at this;exact this⟩
theorem QD{w:World}{p:Pj}(hF:p.Ip){pv:PV}(ip:tv (·<w.heap.size) w pv (mF p)):dw Tryz.prog 23 [pv.val (mF p)] w (Qw p (fun b o=>∃e,xg (mF p) b o e) w):=
 (EC ip hF.fits).mono fun v w' ⟨b,O,co,o,e,h1,h2,h3,h4,h5⟩=>⟨b,O,co,o,e,h1,h2.mono fun _ h=>h.2,h3,h4,⟨e,h5⟩,by have:=h5.Zs;rw[show(mF p).m.events=p.E.length from hF.ev]at this;exact this⟩
theorem UO{p:Pj}{s:ByteArray}:Ms p s.data.toList=if s=ByteArray.mk #[99,117,114,114,101,110,116]then Zt p else if s=ByteArray.mk #[105,110,105,116,105,97,108]then Zu p else if s=ByteArray.mk #[100,101,108,97,121]then Zv p else if s=ByteArray.mk #[107,101,101,112]then Qs p else GY p:=by
 have key:∀l:List UInt8,(s.data.toList=l)=(s=ByteArray.mk l.toArray):=fun l=>propext ⟨fun e=>sy e,fun e=>by rw[e]⟩
 unfold Ms
 simp only[key]
theorem QE{p:Pj}(hF:p.Ip){o:List Int}(h:qC p.m p.free p.aK o):ye o p.S.length∧o.length≤6:=by
 have hi:=h.Zs
 rw[show p.m.aj=p.S.length from hF.st]at hi
 refine⟨hi,?_⟩
 by_cases c:p.m.bZ∧az p.free p.m.events∧az p.aK p.m.aj
 ·have:=Ev (az.kZ (h.1 c).1 fun x hx=>⟨(hi x hx).1,(hi x hx).2,by have:=(hi x hx).2;have:=hF.s6;omega⟩)
  have:=hF.s6
  omega
 ·rw[h.2 c];decide
set_option maxHeartbeats 2000000 in
theorem Jb{w:World}(hP:G5 w){g:Nat}{a:JV}{p:Pj}{b0:Bool}(h:UM w g a p b0)(hF:p.Ip)(s:ByteArray):
  dw Tryz.prog 36 [.pointer (some ⟨g,0,none⟩),.string s] w fun v w'=>(v= .string ⟨(Ms p s.data.toList).toArray⟩∧(Ms p s.data.toList).length≤4000000)∧Below w.heap.size w w':=by
 rw[UO]
 refine qR (by simp) 10000 fun Q hQ=>?_
 have sd:=(Same.refl w).drew
 have hd:=h.up (sd.below _)
 have bd:=sd.below w.heap.size
 by_cases c1:s=ByteArray.mk #[99,117,114,114,101,110,116]
 ·rw[if_pos c1]at hQ
  simp(disch:=omega)only[push_cast,aa,↓reduceIte,Nat.reduceEqDiff,Int.reduceEq,cT,eq_true c1]
  refine ah (DJ h hF fun b ip=>QC hF ip) ?_
  rintro v w1 ⟨⟨b,o,⟨e,hI⟩,rfl,hl⟩,b1⟩
  rw[←Ku hI]at hl
  simp(disch:=omega)only[push_cast,aa,↓reduceIte,Nat.reduceEqDiff,Int.reduceEq]
  exact aF (hQ _ _ ⟨⟨by rw[Ku hI];rfl,hl⟩,b1⟩)
 rw[if_neg c1]at hQ
 by_cases c2:s=ByteArray.mk #[105,110,105,116,105,97,108]
 ·rw[if_pos c2]at hQ
  simp(disch:=omega)only[push_cast,aa,↓reduceIte,Nat.reduceEqDiff,Int.reduceEq,cT,c1,eq_true c2]
  refine ah (DJ h hF fun b ip=>QD hF ip) ?_
  rintro v w1 ⟨⟨b,o,⟨e,hI⟩,rfl,hl⟩,b1⟩
  rw[←Kv hI]at hl
  simp(disch:=omega)only[push_cast,aa,↓reduceIte,Nat.reduceEqDiff,Int.reduceEq]
  exact aF (hQ _ _ ⟨⟨by rw[Kv hI];rfl,hl⟩,b1⟩)
 rw[if_neg c2]at hQ
 by_cases c3:s=ByteArray.mk #[100,101,108,97,121]
 ·rw[if_pos c3]at hQ
  simp(disch:=omega)only[push_cast,aa,↓reduceIte,Nat.reduceEqDiff,Int.reduceEq,cT,c1,c2,eq_true c3,hd.k.lM,hd.k.l1,hd.k.l3]
  refine ah (Ca hd.j.m hF.J1 hd.j.seen hF.sm.n1 hd.j.av hF.sm.n3) ?_
  rintro v w1 ⟨d,e,rfl,Co,hD,b1⟩
  have bb:=bd.trans b1
  refine⟨b1,?_⟩
  have hA:=UF hD
  simp(disch:=omega)only[push_cast,aa,↓reduceIte,Nat.reduceEqDiff,Int.reduceEq,ef,eh]
  by_cases c:d<0
  ·rw[UE,if_pos c]at hA
   simp(disch:=omega)only[push_cast,aa,↓reduceIte,Nat.reduceEqDiff,Int.reduceEq,c]
   exact aF (hQ _ _ ⟨⟨by rw[hA];rfl,by rw[hA];decide⟩,bb⟩)
  ·rw[UE,if_neg c]at hA
   have i64:ug d:=⟨by omega,by omega⟩
   simp(disch:=omega)only[push_cast,aa,↓reduceIte,Nat.reduceEqDiff,Int.reduceEq,c]
   refine ah (strconv_Itoa d i64.1 i64.2 w1 (hP.on bb).t.pow) ?_
   rintro v w2 ⟨rfl,b2⟩
   simp(disch:=omega)only[push_cast,aa,↓reduceIte,Nat.reduceEqDiff,Int.reduceEq]
   exact aF (hQ _ _ ⟨⟨by rw[hA];rfl,by rw[hA];exact Nat.le_trans (jw i64) (by decide)⟩,bb.trans (b2.mono bb.size)⟩)
 rw[if_neg c3]at hQ
 by_cases c4:s=ByteArray.mk #[107,101,101,112]
 ·rw[if_pos c4]at hQ
  simp(disch:=omega)only[push_cast,aa,↓reduceIte,Nat.reduceEqDiff,Int.reduceEq,cT,c1,c2,c3,eq_true c4,hd.k.lM,hd.k.l2,hd.k.l4]
  refine ah (EL hd.j.m hF.J1 hd.j.free hd.j.aK hF.sm.n2 hF.sm.n4) ?_
  rintro v w1 ⟨O,co,o,e,rfl,hO,b1,k1,k2⟩
  have hK:qC p.m p.free p.aK o:=⟨fun c=>(k1 c).2,fun c=>(k2 c).2⟩
  obtain⟨fN,hl⟩:=QE hF hK
  have hs:=yx hF.S fN
  have bb:=bd.trans b1
  refine⟨b1,?_⟩
  have h1:=hd.up b1
  simp(disch:=omega)only[push_cast,aa,↓reduceIte,Nat.reduceEqDiff,Int.reduceEq,ef,eh,h1.k.lS,Qu]
  refine ah (mo [107,101,101,112] (by decide) h1.j.S a.cS hF.S (cQ.ints hO) co fN (by omega)) ?_
  rintro v w2 ⟨rfl,s2⟩
  simp(disch:=omega)only[push_cast,aa,↓reduceIte,Nat.reduceEqDiff,Int.reduceEq]
  exact aF (hQ _ _ ⟨⟨by rw[GX hK];rfl,by
   rw[GX hK,List.length_append]
   simp only[List.length_cons,List.length_nil];omega⟩,bb.trans (s2.below _)⟩)
 rw[if_neg c4]at hQ
 simp(disch:=omega)only[push_cast,aa,↓reduceIte,Nat.reduceEqDiff,Int.reduceEq,cT,c1,c2,c3,c4]
 refine ah (Mu hP h hF) ?_
 rintro v w1 ⟨⟨rfl,hl⟩,b1⟩
 simp(disch:=omega)only[push_cast,aa,↓reduceIte,Nat.reduceEqDiff,Int.reduceEq]
 exact aF (hQ _ _ ⟨⟨(by simp only[push_cast,↓reduceIte,Nat.reduceEqDiff,Int.reduceEq]),hl⟩,b1⟩)
open Go.RowKit
theorem Zy{P:Program}{K:Fr→World→Prop}{ty:TypeId}{f:Fr}{d:Option Nat}{w:World}(t:TypeId)(o p q r s:Operand):fZ P K (.buildSlice t 5 #[(0,o),(1,p),(2,q),(3,r),(4,s)]) ty f d w=cG P K (Instr.buildSlice t 5 #[(0,ev f o),(1,ev f p),(2,ev f q),(3,ev f r),(4,ev f s)]) f d w:=by simp[fZ,valOf]
theorem UP(x y z u v:Value)(a b c d e:ByteArray):Instr.fill (fun i=>some (i*1,1)) #[x,y,z,u,v] [(0,.string a),(1,.string b),(2,.string c),(3,.string d),(4,.string e)]=some #[.string a,.string b,.string c,.string d,.string e]:=by
 simp[Instr.fill,Value.cells]
theorem QF{P:Program}{K:Fr→World→Prop}{f:Fr}{r:Option Nat}{w:World}{t q bytes:Nat}(hT:uJ P t q 1 bytes)(a b c d e:ByteArray):
  cG P K (Instr.buildSlice t 5 #[(0,.string a),(1,.string b),(2,.string c),(3,.string d),(4,.string e)]) f r w=K (ai f r (.slice (some ⟨w.heap.size,0,none⟩) 5 5)) (w.alloc (.cells [.string a,.string b,.string c,.string d,.string e].toArray q)):=by
 obtain⟨i,z,hi,hz,hs,hb,hc⟩:=hT.get
 refine fa ?_
 have LY:(Array.range 5).map (z.cells[·%z.cells.size]!)= #[z.cells[0%z.cells.size]!,z.cells[1%z.cells.size]!,z.cells[2%z.cells.size]!,z.cells[3%z.cells.size]!,z.cells[4%z.cells.size]!]:=by
  apply Array.ext';simp[List.range_succ]
 have hf:=UP (z.cells[0%z.cells.size]!) (z.cells[1%z.cells.size]!) (z.cells[2%z.cells.size]!) (z.cells[3%z.cells.size]!) (z.cells[4%z.cells.size]!) a b c d e
 rw[←LY]at hf
 simp only[Instr.buildSlice,run_underlying hT.under,sizeOf,typeInfo,Sem.run_bind,Result.andThen_ok]
 simp only[Nat.mul_one]at hf
 simp[hi,hs,zeroValue,typeInfo,hz,newRow,hf]
theorem aE.sE{w:World}{g t:Nat}{l:List ByteArray}(h:aE w g t (l.map Value.string)):dE (·<w.heap.size) w (some ⟨g,0,none⟩) l:=
 ⟨fun _=>rfl,fun _=>h.lt,fun i x hi j v hv=>by
  cases j with
  |succ j=>simp[zC]at hv
  |zero=>rw[jz,h.cell,Nat.mul_one,Nat.add_zero,List.getElem?_map,hi];exact hv⟩
theorem dE.aej{ok:Nat→Prop}{w:World}{A:Option Addr}{x:ByteArray}{l:List ByteArray}(h:dE ok w A (x :: l)){c:Nat}(hc:(x :: l).length≤c):dE ok w (tlA A c) l:=by
 rw[List.length_cons]at hc
 have hb:=h.block (by simp)
 have hs:=h.isSome (by simp)
 cases A with
 |none=>cases hs
 |some a=>
  by_cases e:c=1
  ·have:l=[]:=List.length_eq_zero_iff.1 (by omega)
   subst this
   exact⟨fun h=>absurd h (by simp),fun h=>absurd h (by simp),fun i a hi=>by simp at hi⟩
  ·unfold tlA
   rw[if_neg e]
   refine⟨fun _=>rfl,fun _=>?_,fun i y hi j v hv=>?_⟩
   ·have:(a.add (1*1)).block=a.block:=by unfold Addr.add;split<;>rfl
    simp only[Option.map_some,Option.getD_some]at hb ⊢
    rwa [this]
   ·have:=h.cell (i+1) y (by simpa using hi) j v hv
    rw[←this]
    show w.cell? (eA (some (a.add 1)) _)=_
    rw[tm,add_add,tm]
    congr 2
    omega
theorem QG{K:Fr→World→Prop}{f:Fr}{d:Option Nat}{u w:World}(x:ByteArray)(l:List ByteArray)(A:Option Addr)(c:Nat)(hc:(x :: l).length≤c):
  aq Tryz.prog K (Instr.sliceAt 22 (.slice A (x :: l).length c) (some (.int .i64 1)) none none) u f d w=K (ai f d (.slice (tlA A c) l.length (c-1))) w:=by
 have:=HE (P:=Tryz.prog) (K:=K) (f:=f) (d:=d) (u:=u) (w:=w) (A:=A) xT 1 (n:=(x :: l).length) (c:=c) (by simp) hc
 simpa[tlA]using this
abbrev G9:List ByteArray:=[ByteArray.mk #[99,117,114,114,101,110,116],ByteArray.mk #[105,110,105,116,105,97,108],ByteArray.mk #[100,101,108,97,121],ByteArray.mk #[107,101,101,112],ByteArray.mk #[118,101,105,108]]
theorem QH:G9.length≤9223372036854775806:=Nat.le_trans (show G9.length≤8 from by decide) (show 8≤9223372036854775806 by omega)
theorem Ha(s:ByteArray):s∈G9↔s.data.toList∈UK:=by
 have key:∀l:List UInt8,(s.data.toList=l)=(s=ByteArray.mk l.toArray):=fun l=>propext ⟨fun e=>sy e,fun e=>by rw[e]⟩
 simp only[List.mem_cons,List.not_mem_nil,or_false,key]
theorem Hb{pt x:List UInt8}{n:Nat}(h:x.length≤31*n)(hn:n≤10)(hp:pt.length≤10):(pt++x).length≤4000000:=by
 rw[List.length_append];omega
theorem QI{l:List UInt8}:(XQ (bf l)).length≤4000000:=by
 cases h:bf l with
 |error f=>
  obtain⟨c,x⟩:=f
  obtain⟨⟨c1,c2⟩,x1,x2⟩:=BI h
  exact Hb (sO (l:=[c,x]) fun y hy=>by
   rcases List.mem_cons.1 hy with rfl|hy
   ·exact jw ⟨by omega,by omega⟩
   ·rw[List.mem_singleton.1 hy];exact jw ⟨by omega,by omega⟩) (by simp) (by decide)
 |ok q=>
  have hF:=Dv h
  have h6:=hF.s6
  have h8:=hF.e8
  have e1:=hF.st
  have e2:=hF.ev
  have h3:=hF.sm.a
  exact Hb (sO (l:=[q.m.aj,q.m.events,(q.m.ag.length:Int)]) fun y hy=>by
   rcases List.mem_cons.1 hy with rfl|hy
   ·exact jw ⟨by omega,by omega⟩
   ·rcases List.mem_cons.1 hy with rfl|hy
    ·exact jw ⟨by omega,by omega⟩
    ·rw[List.mem_singleton.1 hy];exact jw ⟨by omega,by omega⟩) (by simp) (by decide)
theorem DL(s:ByteArray)(l:List UInt8):(⟨(Lib.trimPrefix s.data.toList l).toArray⟩:ByteArray).size≤s.size:=by
 have:=Lib.trimPrefix_le s.data.toList l
 have e:s.size=s.data.toList.length:=by rw[Array.length_toList];rfl
 rw[e]
 show(Lib.trimPrefix s.data.toList l).toArray.size≤_
 rw[List.size_toArray]
 exact this
theorem Gg.on{w w':World}{g:Nat}{st:Option Pj}(h:Gg w g st)(b:Below w.heap.size w w'):Gg w' g st:=by
 obtain⟨a,p,kp,hJ,eU⟩:=h
 exact⟨a,p,kp.below b kp.lt,(hJ.keep fun y hy=>b.block y hy.1).mono fun y hy=>⟨Nat.lt_of_lt_of_le hy.1 b.size,hy.2⟩,eU⟩
theorem Mw{L:List ByteArray}{s:List UInt8}(h:L.map (·.data.toList)=ck 32 s):EU s=L:=by
 unfold EU
 rw[←h,List.map_map]
 have:∀M:List ByteArray,M.map ((fun l:List UInt8=>(⟨l.toArray⟩:ByteArray))∘(·.data.toList))=M:=fun M=>by
  induction M with
  |nil=>rfl
  |cons x M ih=>rw[List.map_cons,ih,Function.comp_apply,qk]
 exact this L
set_option maxHeartbeats 2000000 in
theorem Mx{w:World}(hP:G5 w){g:Nat}(hg:Gh g){st:Option Pj}(h:Gg w g st)(hO:G4 st){s:ByteArray}(hs:s.size≤1000000000):
  dw Tryz.prog 13 [.pointer (some ⟨g,0,none⟩),.string s] w fun v w'=>(v= .string ⟨(fe st s.data.toList).1.toArray⟩∧(fe st s.data.toList).1.length≤4000000)∧Gg w' g (fe st s.data.toList).2∧ff w.heap.size g w w':=by
 obtain⟨a,p,kp,hJ,eU⟩:=id h
 have hw:UM w g a p st.isSome:=⟨kp,hJ.mono fun _ hy=>hy.1⟩
 have hF:st.isSome=true→p.Ip:=fun e=>by
  cases st with
  |none=>cases e
  |some q=>exact eU q rfl▸hO q rfl
 refine rp (by simp) 10000 fun Q hQ=>?_
 have i5:∀{t:List UInt8} {w'},Below w.heap.size w w'→fe st s.data.toList=(t,st)→t.length≤4000000→Q (.string ⟨t.toArray⟩) w':=fun{t w'} b e hl=>hQ _ _ (by rw[e];exact⟨⟨rfl,hl⟩,h.on b,ff.of b (Nat.le_refl _)⟩)
 simp(disch:=omega)only[push_cast,aa,↓reduceIte,Nat.reduceEqDiff,Int.reduceEq,lJ]
 refine ah (strings_CutPrefix s _ w) ?_
 rintro v w1 ⟨rfl,ew⟩
 replace ew:=ew.symm
 subst ew
 have e1:(ByteArray.mk #[112,114,111,106,101,99,116,32]).data.toList=G1:=rfl
 rw[e1]
 cases c1:Lib.hasPrefix s.data.toList G1 with
 |true=>
  simp(disch:=omega)only[push_cast,aa,↓reduceIte,Nat.reduceEqDiff,Int.reduceEq,ef,eh,c1]
  have hz:=DL s G1
  refine ah (Er hP.t hg h (s:=⟨(Lib.trimPrefix s.data.toList G1).toArray⟩) (by omega)) ?_
  rintro v w2 ⟨rfl,h2,b2⟩
  simp(disch:=omega)only[push_cast,aa,↓reduceIte,Nat.reduceEqDiff,Int.reduceEq]
  refine aF (hQ _ _ ?_)
  unfold fe
  rw[if_pos c1]
  exact⟨⟨rfl,QI⟩,h2,b2⟩
 |false=>
 simp(disch:=omega)only[push_cast,aa,↓reduceIte,Nat.reduceEqDiff,Int.reduceEq,ef,eh,c1]
 refine ah (strings_CutPrefix s _ w) ?_
 rintro v w1 ⟨rfl,ew⟩
 replace ew:=ew.symm
 subst ew
 have e2:(ByteArray.mk #[115,116,101,112,115,32]).data.toList=G3:=rfl
 rw[e2]
 cases c2:Lib.hasPrefix s.data.toList G3 with
 |true=>
  simp(disch:=omega)only[push_cast,aa,↓reduceIte,Nat.reduceEqDiff,Int.reduceEq,ef,eh,c2]
  have hz:=DL s G3
  refine ah (Ja hP hw hF (s:=⟨(Lib.trimPrefix s.data.toList G3).toArray⟩) (by omega)) ?_
  rintro v w2 ⟨⟨rfl,hl⟩,b2⟩
  simp(disch:=omega)only[push_cast,aa,↓reduceIte,Nat.reduceEqDiff,Int.reduceEq]
  refine aF (i5 b2 ?_ hl)
  unfold fe vG
  rw[if_neg (by rw[c1];decide),if_pos c2]
  cases td (Lib.trimPrefix s.data.toList G3)with
  |none=>rfl
  |some n=>
   cases st with
   |none=>rfl
   |some q=>rw[←eU q rfl];rfl
 |false=>
 have Tr:fe st s.data.toList=Cj st s.data.toList (s.data.toList∈UK) ((ck 32 s.data.toList).getD 0 []=UI) (EU s.data.toList).tail:=by
  unfold fe
  rw[if_neg (by rw[c1];decide),if_neg (by rw[c2];decide)]
 simp(disch:=omega)only[push_cast,aa,↓reduceIte,Nat.reduceEqDiff,Int.reduceEq,ef,eh,c2]
 obtain⟨m,hm⟩:=hP.t.m
 refine ah (FC 32 s w m hm (by omega)) ?_
 rintro v w2 ⟨L,hL,rfl,sL,b2⟩
 rw[Mw hL]at Tr
 rw[←hL]at Tr
 cases L with
 |nil=>exact absurd hL.symm (tx 32 _)
 |cons x L=>
 simp(disch:=omega)only[push_cast,aa,↓reduceIte,Nat.reduceEqDiff,Int.reduceEq,Zy]
 refine au (QF xT _ _ _ _ _) ?_
 intro w3 k3 b3 z3
 have ot:=b2.trans (b3.mono b2.size)
 have sL3:=dE.Vh sL b3
 simp(disch:=omega)only[push_cast,aa,↓reduceIte,Nat.reduceEqDiff,Int.reduceEq]
 refine ah (wG (aE.sE (l:=G9) k3) 5 QH s) ?_
 rintro v w4 ⟨rfl,s4⟩
 have bb:=ot.trans (s4.below _)
 have sL4:=dE.same sL3 s4
 have hw4:=hw.up bb
 by_cases ho:s∈G9
 ·have Jh:=(Ha s).1 ho
  have hu:fe st s.data.toList=(I9 st fun p=>Ms p s.data.toList,st):=by
   rw[Tr]
   unfold Cj
   rw[if_neg fun hh=>hh.1 Jh]
   simp only[if_pos Jh]
  cases st with
  |none=>
   simp(disch:=omega)only[push_cast,aa,↓reduceIte,Nat.reduceEqDiff,Int.reduceEq,decide_eq_true ho,Bool.not_true,hw4.k.lB,Option.isSome_none]
   exact aF (i5 bb hu (show DI.length≤4000000 by decide))
  |some q=>
   obtain rfl:=eU q rfl
   simp(disch:=omega)only[push_cast,aa,↓reduceIte,Nat.reduceEqDiff,Int.reduceEq,decide_eq_true ho,Bool.not_true,hw4.k.lB,Option.isSome_some]
   refine ah (Jb (hP.on bb) hw4 (hF rfl) s) ?_
   rintro v w5 ⟨⟨rfl,hl⟩,b5⟩
   simp(disch:=omega)only[push_cast,aa,↓reduceIte,Nat.reduceEqDiff,Int.reduceEq]
   exact aF (i5 (bb.trans (b5.mono bb.size)) hu hl)
 have Jh:¬s.data.toList∈UK:=fun e=>ho ((Ha s).2 e)
 have l0:(0:Int)<((x :: L).length:Nat):=by rw[List.length_cons];omega
 have sS:(some ⟨w.heap.size,0,none⟩:Option Addr).isSome=true:=rfl
 by_cases hr:x=ByteArray.mk #[114,117,110]
 case neg=>
  have eM:¬(List.map (fun x:ByteArray=>x.data.toList) (x :: L)).getD 0 []=UI:=fun e=>hr (sy e)
  simp(disch:=omega)only[push_cast,aa,↓reduceIte,Nat.reduceEqDiff,Int.reduceEq,decide_eq_false ho,Bool.not_false,Int.toNat_zero,dE.ld (i:=0) sL4 (s:=x) rfl,ju,hr,l0,ne_eq,not_false_eq_true,decide_true]
  exact aF (i5 bb (by rw[Tr];unfold Cj;rw[if_pos ⟨Jh,eM⟩]) (by decide))
 have eM:(List.map (fun x:ByteArray=>x.data.toList) (x :: L)).getD 0 []=UI:=by rw[hr];rfl
 have hu:fe st s.data.toList=(I9 st fun p=>Mr p L,st):=by
  rw[Tr]
  unfold Cj
  rw[if_neg fun hh=>hh.2 eM]
  simp only[if_neg Jh]
  rfl
 cases st with
 |none=>
  simp(disch:=omega)only[push_cast,aa,↓reduceIte,Nat.reduceEqDiff,Int.reduceEq,decide_eq_false ho,Bool.not_false,Int.toNat_zero,dE.ld (i:=0) sL4 (s:=x) rfl,ju,eq_true hr,l0,ne_eq,not_true_eq_false,decide_false,hw4.k.lB,Option.isSome_none]
  exact aF (i5 bb hu (show DI.length≤4000000 by decide))
 |some q=>
  obtain rfl:=eU q rfl
  have Hi:(x :: L).length≤s.size+1:=by
   have e1:=congrArg List.length hL
   rw[List.length_map]at e1
   rw[e1]
   have:=vh 32 s.data.toList
   rw[Array.length_toList]at this
   exact this
  simp(disch:=omega)only[push_cast,aa,↓reduceIte,Nat.reduceEqDiff,Int.reduceEq,decide_eq_false ho,Bool.not_false,Int.toNat_zero,dE.ld (i:=0) sL4 (s:=x) rfl,ju,eq_true hr,l0,ne_eq,not_true_eq_false,decide_false,hw4.k.lB,Option.isSome_some,zS,Option.map_none,Option.map_some,QG x L _ _ (Nat.le_refl _)]
  refine ah (QA (hP.on bb) hw4 (hF rfl) (dE.aej sL4 (Nat.le_refl _)) _ (by rw[List.length_cons]at Hi;omega)) ?_
  rintro v w5 ⟨⟨rfl,hl⟩,b5⟩
  simp(disch:=omega)only[push_cast,aa,↓reduceIte,Nat.reduceEqDiff,Int.reduceEq]
  exact aF (i5 (bb.trans (b5.mono bb.size)) hu hl)
end Go.Proofs.YtcefeihlkpmejaaGreatDoor
