/- A part of the proof. -/
import Derived.Test.YtcefeihlkpmejaaGreatDoorYM14
import Derived.Test.YtcefeihlkpmejaaGreatDoorYM12
import Derived.Test.YtcefeihlkpmejaaGreatDoorYM9
import Derived.Test.YtcefeihlkpmejaaGreatDoorYM13
import Derived.Test.YtcefeihlkpmejaaGreatDoorYM10
namespace Go.Proofs.YtcefeihlkpmejaaGreatDoor
set_option linter.unusedSimpArgs false
set_option linter.unusedVariables false
set_option linter.unusedSectionVars false
open Go.RowKit
abbrev hd0:Hd:=⟨none,0,[]⟩
def IU:List Hd:=List.replicate 48 hd0
theorem T4:iE Tryz.prog 130=some ([(0,5),(5,1),(6,1),(7,48),(55,1),(56,1)],[.int .i64 0,.int .i64 0,.slice none 0 0,.slice none 0 0,.slice none 0 0,.slice none 0 0,.slice none 0 0]++(List.replicate 48 (.slice none 0 0)++[.map none,.slice none 0 0])):=by kernel_rfl
theorem YH{K:Fr→World→Prop}{u:World}{f:Fr}{d:Option Nat}{w:World}(v:WV)(gm:Nat):
  aq Tryz.prog K (Instr.build 130 #[(0,v.a.val v.m),(1,.slice v.A1 v.seen.length v.c1),(2,.slice v.A2 v.av.length v.c2),(4,.map (some gm))]) u f d w=K (ai f d (.agg (ed v IU gm none 0 0).toArray)) w:=by
 refine gF ?_
 rw[ss T4]
 rw[eB (off:=0) (size:=5) rfl rfl (by decide),eB (off:=5) (size:=1) rfl rfl (by simp[sv,Value.cells,MV.cells]),eB (off:=6) (size:=1) rfl rfl (by simp[sv,Value.cells,MV.cells]),eB (off:=55) (size:=1) rfl rfl (by simp[sv,Value.cells,MV.cells]),sw]
 rfl
structure TS(B:Nat)(w:World)(m:aN)(dJ:List Hd)(i:Nat):Prop where
 t48:dJ.length=48
 own:∀(k:Nat) (h:Hd),dJ[k]? =some h→cQ B 3 w h.A h.c h.l
 L4:∀(k k2:Nat) (h h2:Hd),k≠k2→dJ[k]? =some h→dJ[k2]? =some h2→h.A=none∨h.A.map (·.block)≠h2.A.map (·.block)
 val:∀s e:Nat,s<6→e<8→∃h:Hd,dJ[s*8+e]? =some h∧h.l=qy m (s:Int) (e:Int) i
theorem TS.zero(B:Nat)(w:World)(m:aN):TS B w m IU 0:=by
 have h0:∀(k:Nat) (h:Hd),IU[k]? =some h→h=hd0:=fun k h hk=>by
  unfold IU at hk
  rw[List.getElem?_replicate]at hk
  split at hk
  ·exact(Option.some.inj hk).symm
  ·cases hk
 refine⟨List.length_replicate,fun k h hk=>?_,fun k k2 h h2 _ hk _=>?_,fun s e hs he=>⟨hd0,?_,rfl⟩⟩
 ·rw[h0 k h hk];exact Own.nil _ _ _ _
 ·rw[h0 k h hk];exact .inl rfl
 ·unfold IU
  rw[List.getElem?_replicate,if_pos (by omega)]
theorem TS.below{B:Nat}{w w':World}{m:aN}{dJ:List Hd}{i:Nat}(h:TS B w m dJ i)(b:Below w.heap.size w w'):TS B w' m dJ i:=⟨h.t48,fun k x hx=>(h.own k x hx).below b (Nat.le_refl _),h.L4,h.val⟩
theorem TS.iJ{B:Nat}{w w':World}{m:aN}{dJ:List Hd}{i g j t:Nat}{cs:List Value}(h:TS B w m dJ i)(hb:aE w g t cs)(ht:3≠t)(hg:bJ w w' (some ⟨g,j,none⟩)):TS B w' m dJ i:=
 ⟨h.t48,fun k x hx=>(h.own k x hx).bQ hg (.inr ((h.own k x hx).bG hb ht)),h.L4,h.val⟩
theorem TS.add{B:Nat}{w w':World}{m:aN}{dJ:List Hd}{i s e c':Nat}{A':Option Addr}{h:Hd}(T:TS B w m dJ i)(hi:i<m.ag.length)(hs:s<6)(he:e<8)(ha:(m.ag.getD i default).bK=s∧(m.ag.getD i default).dI=e)
  (hk:dJ[s*8+e]? =some h)(o:cQ B 3 w' A' c' (h.l++[(m.ag.getD i default).dt]))(hg:bJ w w' h.A)(hA:A'.map (·.block)=h.A.map (·.block)∨∃g,A'.map (·.block)=some g∧w.heap.size≤g):
  TS B w' m (dJ.set (s*8+e) ⟨A',c',h.l++[(m.ag.getD i default).dt]⟩) (i+1):=by
 have Pk:=mI hk
 have at_:∀(k:Nat) (x:Hd),(dJ.set (s*8+e) ⟨A',c',h.l++[(m.ag.getD i default).dt]⟩)[k]? =some x→(k=s*8+e∧x=⟨A',c',h.l++[(m.ag.getD i default).dt]⟩)∨(k≠s*8+e∧dJ[k]? =some x):=fun k x hx=>by
  by_cases q:k=s*8+e
  ·subst q
   rw[List.getElem?_set_self Pk]at hx
   exact .inl ⟨rfl,(Option.some.inj hx).symm⟩
  ·rw[List.getElem?_set_ne (Ne.symm q)]at hx
   exact .inr ⟨q,hx⟩
 have oh:=T.own _ _ hk
 refine⟨by rw[List.length_set];exact T.t48,fun k x hx=>?_,fun k k2 x x2 cY hx Tq=>?_,fun s' e' hs' Dk=>?_⟩
 ·rcases at_ k x hx with⟨_,rfl⟩|⟨q,hx⟩
  ·exact o
  ·exact(T.own k x hx).bQ hg (T.L4 _ _ _ _ q hx hk)
 ·rcases at_ k x hx with⟨q,rfl⟩|⟨q,hx⟩<;>rcases at_ k2 x2 Tq with⟨q2,rfl⟩|⟨q2,Tq⟩
  ·exact absurd (q.trans q2.symm) cY
  ·exact PI (Own.L4 (T.own _ _ Tq) oh (T.L4 _ _ _ _ q2 Tq hk) hA)
  ·exact Own.L4 (T.own _ _ hx) oh (T.L4 _ _ _ _ q hx hk) hA
  ·exact T.L4 _ _ _ _ cY hx Tq
 ·obtain⟨h2,h3,h4⟩:=T.val s' e' hs' Dk
  have hu:=GB (s:=(s':Int)) (e:=(e':Int)) hi
  by_cases q:s'*8+e'=s*8+e
  ·obtain⟨rfl,rfl⟩:s'=s∧e'=e:=by omega
   rw[hk]at h3
   obtain rfl:=Option.some.inj h3
   exact⟨_,List.getElem?_set_self Pk,by rw[hu,if_pos ha,←h4]⟩
  ·refine⟨h2,by rw[List.getElem?_set_ne (Ne.symm q)];exact h3,?_⟩
   rw[hu,if_neg (fun hc=>q (by have:=ha.1;have:=ha.2;omega))]
   exact h4
theorem T5{m:aN}(hm:m.bZ){i:Nat}(hi:i<m.ag.length):m.Bh (m.ag.getD i default):=(hm.2.2.2.2.2.2.2 i hi).1
structure PSt(w0:World)(g gm:Nat)(v:WV)(dJ:List Hd)(l:List Tw)(w:World)(M:List (Tw×Nat))(W:List Tw)(Aw:Option Addr)(cw:Nat):Prop where
 ws:WS w0.heap.size w g gm v dJ Aw cw M W
 mb:aE w w0.heap.size 27 (v.a.cells v.m)
 cm:Comes [] [] (l.map fun x=>(x,0)) M W
 ok:WOk M
 len:W.length≤l.length
 bl:Below w0.heap.size w0 w
theorem PSt.L5{w0 w w':World}{g gm:Nat}{v:WV}{dJ:List Hd}{l:List Tw}{M M':List (Tw×Nat)}{W W':List Tw}{Aw gX:Option Addr}{cw jT:Nat}(h:PSt w0 g gm v dJ l w M W Aw cw)(hg:w0.heap.size≠g)(Yx:w0.heap.size≠gm)
  {x:Tw}(hc:sX M W x 0 M' W')(FG:WS w0.heap.size w' g gm v dJ gX jT M' W')(hk:jU g gm Aw w w')(hb:Below w0.heap.size w w')(hx:ze x):PSt w0 g gm v dJ (l++[x]) w' M' W' gX jT:=
 ⟨FG,hk.Ab h.mb hg Yx (fun e=>h.ws.row.bG h.mb (by decide) e.symm),by rw[List.map_append];exact h.cm.snoc hc,hc.all h.ok ⟨hx,Nat.zero_le _⟩,by have:=hc.len;have:=h.len;rw[List.length_append,List.length_singleton];omega,h.bl.trans hb⟩
theorem DD{m:aN}(hm:m.bZ){x:Int}(hx:x∈m.aB):ug x:=by
 have:=gS (fu hm) x hx
 have:=hm.2.1
 unfold ug;omega
theorem yl.small{m:aN}(hm:m.bZ)(h6:m.aj≤6){seen av:List Int}{F:Tw→Prop}{M:List (Tw×Nat)}{W:List Tw}{aU:Int}(h:yl (Ra m) (IK m seen av) F (2*m.aj.toNat*m.aj.toNat+1) M W aU):ue M≤5328∧WOk M∧∀p∈M,p.2≤73:=by
 have h1:m.aj.toNat≤6:=by omega
 have h2:2*m.aj.toNat*m.aj.toNat≤2*6*6:=Nat.mul_le_mul (by omega) h1
 have hb:∀p∈M,p.2≤73:=fun p hp=>by have:=h.eP.bnd p hp;omega
 have hl:M.length≤72:=by
  have:=cP (2*m.aj.toNat*m.aj.toNat) ((M.map (·.1)).map (BZ m.aj.toNat)) (by
   rw[List.nodup_iff_pairwise_ne,List.pairwise_map]
   refine(List.nodup_iff_pairwise_ne.1 h.eP.keys).imp_of_mem fun{x y} hx hy F4 e=>F4 ?_
   obtain⟨p,hp,rfl⟩:=List.mem_map.1 hx
   obtain⟨p',H3,rfl⟩:=List.mem_map.1 hy
   exact DC (sY hm (h.eP.real p hp)) (sY hm (h.eP.real p' H3)) e) fun c hc=>by
   obtain⟨x,hx,rfl⟩:=List.mem_map.1 hc
   obtain⟨p,hp,rfl⟩:=List.mem_map.1 hx
   exact GC (sY hm (h.eP.real p hp))
  rw[List.length_map,List.length_map]at this
  omega
 refine⟨Nat.le_trans (Ys M 74 fun p hp=>by have:=hb p hp;omega) (by have:M.length*74≤72*74:=Nat.mul_le_mul_right _ hl;omega),fun p hp=>⟨EK hm (sY hm (h.eP.real p hp)),by have:=hb p hp;omega⟩,hb⟩
def DE(m:aN)(seen av:List Int)(d e:Int):Prop:=
 (¬(m.bZ∧az seen m.events∧az av m.events)∧d=0∧e=2)∨
 ((m.bZ∧az seen m.events∧az av m.events)∧¬m.aj≤6∧d=0∧e=1)∨
 ((m.bZ∧az seen m.events∧az av m.events)∧m.aj≤6∧e=0∧Vw m seen av d)
set_option maxHeartbeats 1000000 in
theorem Ca{w:World}{a:MV}{m:aN}(h:zj (·<w.heap.size) w a m)(hf:m.Fits){A1:Option Addr}{c1:Nat}{seen:List Int}(h1:Ints (·<w.heap.size) w A1 seen)(n1:seen.length≤17592186043904)
  {A2:Option Addr}{c2:Nat}{av:List Int}(h2:Ints (·<w.heap.size) w A2 av)(n2:av.length≤17592186043904):
  dw Tryz.prog 26 [a.val m,.slice A1 seen.length c1,.slice A2 av.length c2] w fun v w'=>∃d e:Int,v= .tuple #[.int .i64 d,.int .i64 e]∧(-1≤d∧d≤100)∧DE m seen av d e∧Below w.heap.size w w':=by
 refine uP (by simp) 100000 fun Q hQ=>?_
 simp(disch:=omega)only[push_cast,aa,↓reduceIte,Nat.reduceEqDiff,Int.reduceEq,oC]
 refine au (aO _ (a.cells m)) ?_
 intro w1 k1 b1 z1
 simp(disch:=omega)only[push_cast,aa,↓reduceIte,Nat.reduceEqDiff,Int.reduceEq,k1.mA iC fR]
 refine ah (nu (h.up b1) hf) ?_
 rintro v w2 ⟨rfl,b2⟩
 replace k1:=k1.below b2 k1.lt
 have bb:=b1.trans (b2.mono b1.size)
 by_cases p1:m.bZ
 case neg=>
  simp(disch:=omega)only[push_cast,aa,↓reduceIte,Nat.reduceEqDiff,Int.reduceEq,p1]
  exact mV (hQ _ _ ⟨0,2,(by simp only[push_cast,↓reduceIte,Nat.reduceEqDiff,Int.reduceEq]),by decide,.inl ⟨fun hh=>p1 hh.1,rfl,rfl⟩,bb⟩)
 simp(disch:=omega)only[push_cast,aa,↓reduceIte,Nat.reduceEqDiff,Int.reduceEq,p1,k1.m1 ak]
 refine ah (nY (h1.below bb) c1 m.events (by omega)) ?_
 rintro v w3 ⟨rfl,s3⟩
 replace k1:=k1.same s3
 replace bb:=bb.trans (s3.below _)
 by_cases p2:az seen m.events
 case neg=>
  simp(disch:=omega)only[push_cast,aa,↓reduceIte,Nat.reduceEqDiff,Int.reduceEq,p2]
  exact mV (hQ _ _ ⟨0,2,(by simp only[push_cast,↓reduceIte,Nat.reduceEqDiff,Int.reduceEq]),by decide,.inl ⟨fun hh=>p2 hh.2.1,rfl,rfl⟩,bb⟩)
 simp(disch:=omega)only[push_cast,aa,↓reduceIte,Nat.reduceEqDiff,Int.reduceEq,p2,k1.m1 ak]
 refine ah (nY (h2.below bb) c2 m.events (by omega)) ?_
 rintro v w4 ⟨rfl,s4⟩
 replace k1:=k1.same s4
 replace bb:=bb.trans (s4.below _)
 by_cases p3:az av m.events
 case neg=>
  simp(disch:=omega)only[push_cast,aa,↓reduceIte,Nat.reduceEqDiff,Int.reduceEq,p3]
  exact mV (hQ _ _ ⟨0,2,(by simp only[push_cast,↓reduceIte,Nat.reduceEqDiff,Int.reduceEq]),by decide,.inl ⟨fun hh=>p3 hh.2.2,rfl,rfl⟩,bb⟩)
 by_cases p4:m.aj≤6
 case neg=>
  have q4:6<m.aj:=by omega
  simp(disch:=omega)only[push_cast,aa,↓reduceIte,Nat.reduceEqDiff,Int.reduceEq,p3,k1.m0 ak,q4]
  exact mV (hQ _ _ ⟨0,1,(by simp only[push_cast,↓reduceIte,Nat.reduceEqDiff,Int.reduceEq]),by decide,.inr (.inl ⟨⟨p1,p2,p3⟩,p4,rfl,rfl⟩),bb⟩)
 have q4:¬6<m.aj:=by omega
 simp(disch:=omega)only[push_cast,aa,↓reduceIte,Nat.reduceEqDiff,Int.reduceEq,p3,k1.m0 ak,q4,k1.mA iC fR,lf]
 refine pg (k:=133) _ ?_
 intro w5 m5 b5 z5
 have l1:=k1.lt
 replace k1:=k1.below b5 l1
 replace bb:=bb.trans (b5.mono bb.size)
 generalize Yx:w4.heap.size=gm at*
 have hbw:=fun{K u f d w}=>YH (K:=K) (u:=u) (f:=f) (d:=d) (w:=w) ⟨a,m,A1,c1,seen,A2,c2,av⟩ gm
 simp only at hbw
 simp(disch:=omega)only[push_cast,aa,↓reduceIte,Nat.reduceEqDiff,Int.reduceEq,hbw]
 refine au (aO _ (ed ⟨a,m,A1,c1,seen,A2,c2,av⟩ IU gm none 0 0)) ?_
 intro w6 k6 b6 z6
 replace k1:=k1.below b6 k1.lt
 have m6:=m5.below b6 m5.lt
 replace bb:=bb.trans (b6.mono bb.size)
 have Xv:w.heap.size≤w5.heap.size:=by have:=b5.size;omega
 have ade:gm≠w5.heap.size:=by have:=m5.lt;omega
 have adf:w.heap.size<gm:=l1
 have T6:w.heap.size<w5.heap.size:=by have:=m5.lt;omega
 generalize hgg:w5.heap.size=g at*
 generalize hv:(⟨a,m,A1,c1,seen,A2,c2,av⟩:WV)=v at*
 have hA4:m.ag.length≤4096:=p1.2.2.2.2.1
 have ev0:0≤m.events:=p1.2.2.1
 have ev8:m.events≤8:=p1.2.2.2.1
 clear b5 b6 z5 z6 m5 hbw
 simp(disch:=omega)only[push_cast,aa,↓reduceIte,Nat.reduceEqDiff,Int.reduceEq,k1.m3 fQ]
 refine ax (fun f w'=>∃(i:Nat) (dJ:List Hd),i≤m.ag.length∧(f 3= .pointer (some ⟨w.heap.size,0,none⟩)∧f 6= .int .i64 0∧f 7= .int .i64 0∧f 8= .pointer (some ⟨g,0,none⟩)∧f 47= .slice a.Aa m.ag.length a.ca∧f 48= .int .i64 m.ag.length∧f 49= .int .i64 i)∧
   TS w.heap.size w' m dJ i∧aE w' g 130 (ed v dJ gm none 0 0)∧df Tryz.prog 133 w' gm []∧aE w' w.heap.size 27 (a.cells m)∧Below w.heap.size w w')
  (fun f _=>m.ag.length-(intOf (f 49)).toNat) ⟨0,IU,Nat.zero_le _,⟨rfl,rfl,rfl,rfl,rfl,rfl,rfl⟩,TS.zero _ _ _,k6,m6,k1,bb⟩ ?_
 clear k6 m6 k1 bb z1 b1 b2 s3 s4
 rintro f w7 ⟨i,dJ,hi,fr,T,k6,m6,k1,bb⟩ J hJ
 have gZ:(intOf (f 49)).toNat=i:=by rw[fr.2.2.2.2.2.2];simp[intOf]
 by_cases nG:i<m.ag.length
 case pos=>
  have YI:(i:Int)<(m.ag.length:Int):=by omega
  have hAr:=(h.up bb).ag
  have sAr:=hAr.isSome (by omega)
  have ha:=T5 p1 nG
  have lar:=fun{K f d w}=>hAr.CH (P:=Tryz.prog) (K:=K) (f:=f) (d:=d) (w:=w) vI bz i nG
  have aib:=fun{s e:Nat} {w':World} {c':Nat} {A':Option Addr} {h:Hd} {w0:World} (T:TS w.heap.size w0 m dJ i)=>T.add (w':=w') (s:=s) (e:=e) (c':=c') (A':=A') (h:=h) nG
  generalize m.ag.getD i default=ar at*
  simp(disch:=omega)only[push_cast,aa,↓reduceIte,Nat.reduceEqDiff,Int.reduceEq,gl,fr,YI,nG,lar]
  refine au (cs:=ay ⟨0,0,0⟩) sr ?_
  intro w8 k8 b8 z8
  have lk1:=k1.lt
  have lm6:=m6.lt
  have lk6:=k6.lt
  replace T:=T.below b8
  replace k6:=k6.below b8 lk6
  replace m6:=m6.below b8 lm6
  replace k1:=k1.below b8 lk1
  have zw7:=bb.size
  replace bb:=bb.trans (b8.mono bb.size)
  simp(disch:=omega)only[push_cast,aa,↓reduceIte,Nat.reduceEqDiff,Int.reduceEq]
  refine aC (cs:=ay ar) k8 bz rfl (by simp[ay,Value.oneCell']) ?_
  intro w9 k9 g9 z9
  replace T:=T.iJ k8 (by decide) g9
  replace k6:=k6.grown g9.aJ (by simp;omega)
  replace m6:=m6.grown g9.aJ (by simp;omega)
  replace k1:=k1.grown g9.aJ (by simp;omega)
  replace bb:=g9.below bb bb.size (by intro a ha;injection ha with ha;subst ha;exact zw7)
  have dd:Same w9 w9.drew:=(Same.refl w9).drew
  replace T:=T.below (dd.below _)
  replace k6:=k6.same dd
  replace m6:=m6.same dd
  replace k1:=k1.same dd
  replace k9:=k9.same dd
  replace bb:=bb.trans (dd.below _)
  generalize YC:w9.drew=u at*
  obtain⟨s,hs⟩:∃s:Nat,ar.bK=(s:Int):=⟨ar.bK.toNat,by have:=ha.1;omega⟩
  obtain⟨e,he⟩:∃e:Nat,ar.dI=(e:Int):=⟨ar.dI.toNat,by have:=ha.2.2;omega⟩
  have hs6:s<6:=by have:=ha.1;omega
  have he8:e<8:=by have:=ha.2.2;omega
  obtain⟨hd,hdt,hdl⟩:=T.val s e hs6 he8
  have oh:=T.own _ _ hdt
  have Hi:hd.l.length≤4096:=by
   rw[hdl];unfold qy
   rw[List.length_map]
   exact Nat.le_trans (List.length_filter_le _ _) (by rw[List.length_take];omega)
  have P2:Tryz.prog.underlying 24=some (.slice 3):=by kernel_rfl
  have la0:=fun{K f d w}=>k9.ldE (P:=Tryz.prog) (K:=K) (f:=f) (d:=d) (w:=w) P2 (by decide) ak (j:=0) (v:= .int .i64 ar.bK) rfl
  have la1:=fun{K f d w}=>k9.ldE (P:=Tryz.prog) (K:=K) (f:=f) (d:=d) (w:=w) P2 (by decide) ak (j:=1) (v:= .int .i64 ar.dI) rfl
  have la2:=fun{K f d w}=>k9.ldE (P:=Tryz.prog) (K:=K) (f:=f) (d:=d) (w:=w) P2 (by decide) ak (j:=2) (v:= .int .i64 ar.dt) rfl
  rw[hs]at la0
  rw[he]at la1
  have lt:=fun{K f d w}=>k6.ldE (P:=Tryz.prog) (K:=K) (f:=f) (d:=d) (w:=w) P2 (by decide) aS (PL hdt)
  simp only[←Nat.add_assoc,IN]at lt
  simp(disch:=omega)only[push_cast,aa,↓reduceIte,Nat.reduceEqDiff,Int.reduceEq,fr,YC,la0,la1,la2,hs6,he8,lt,yS]
  refine⟨dy.xk ((Below.refl _ _).alloc (Nat.le_refl _) _),?_⟩
  refine tu fq oh ar.dt (by omega) bb.size ?_
  intro A' c' uv TL g10 Yi an9 adg
  have k60:=k6.grown g10.aJ (fun e=>oh.bG k6 (by decide) e.symm)
  have m60:=m6.grown g10.aJ (m6.gG oh)
  have oq:=k1.grown g10.aJ (fun e=>oh.bG k1 (by decide) e.symm)
  have TR:=g10.below bb bb.size oh.uh
  have T10:=aib T hs6 he8 ⟨hs,he⟩ hdt TL g10 Yi
  simp(disch:=omega)only[push_cast,aa,↓reduceIte,Nat.reduceEqDiff,Int.reduceEq,fr,he8]
  refine⟨dy.bQ oh P2 g10,?_⟩
  have h48:s*8+e<dJ.length:=by rw[T.t48];omega
  refine cg k60 (by kernel_rfl) (7+s*8+e) (by rw[EJ T.t48];omega) _ _ _ ?_
  intro zY Dt g11 xv
  have S9:(Value.slice A' (hd.l.length+1) c')=IN ⟨A',c',hd.l++[ar.dt]⟩:=by simp[IN]
  rw[S9,Nat.add_assoc,PN h48]at Dt
  have T11:=T10.iJ k60 (by decide) g11
  have m11:=m60.grown g11.aJ (by simpa using ade)
  have y6:=oq.grown g11.aJ (by simp;omega)
  have aid:=g11.below TR TR.size (by intro a ha;injection ha with ha;subst ha;exact Xv)
  simp(disch:=omega)only[push_cast,aa,↓reduceIte,Nat.reduceEqDiff,Int.reduceEq,fr]
  exact hJ _ _ ⟨i+1,_,by omega,(by simp only[push_cast,↓reduceIte,Nat.reduceEqDiff,true_and,and_true,and_self,eq_self,fr]),T11,Dt,m11,y6,aid⟩ (by rw[gZ];simp only[push_cast,↓reduceIte,Nat.reduceEqDiff,intOf,fr];omega)
 obtain rfl:i=m.ag.length:=by omega
 have aie:Vz m dJ:=fun s e hs he=>by
  obtain⟨h,h1,h2⟩:=T.val s e hs he
  exact⟨h,h1,by rw[h2,IJ p1]⟩
 have FG:WS w.heap.size w7 g gm v dJ none 0 [] []:=⟨k6,T.t48,m6,Own.nil _ _ _ _,fun x hx=>by
  obtain⟨k,hk,rfl⟩:=List.getElem_of_mem hx
  exact cQ.Vx (T.own k _ (List.getElem?_eq_getElem hk)) (by decide),Xv,Nat.le_of_lt adf⟩
 have hva:v.a=a:=by rw[←hv]
 have VC:v.m=m:=by rw[←hv]
 have hvs:v.seen=seen:=by rw[←hv]
 have hvf:v.av=av:=by rw[←hv]
 have hP0:PSt w g gm v dJ (ym m 0 0) w7 [] [] none 0:=⟨FG,by rw[hva,VC];exact k1,.nil,fun p hp=>absurd hp (by simp),Nat.le_refl _,bb⟩
 have nS:=GD ((fu p1).more p4)
 have wg:w.heap.size≠g:=by omega
 have wgm:w.heap.size≠gm:=by omega
 have nA:¬(m.ag.length:Int)<(m.ag.length:Int):=by omega
 simp(disch:=omega)only[push_cast,aa,↓reduceIte,Nat.reduceEqDiff,Int.reduceEq,gl,fr,nA,k1.m2 aS]
 refine ax (fun f w'=>∃(i:Nat) (M:List (Tw×Nat)) (W:List Tw) (Aw:Option Addr) (cw:Nat),i≤m.aB.length∧(f 3= .pointer (some ⟨w.heap.size,0,none⟩)∧f 6= .int .i64 0∧f 7= .int .i64 0∧f 8= .pointer (some ⟨g,0,none⟩)∧f 78= .slice a.As m.aB.length a.cs∧f 79= .int .i64 m.aB.length∧f 80= .int .i64 i)∧
   PSt w g gm v dJ (ym m i 0) w' M W Aw cw)
  (fun f _=>m.aB.length-(intOf (f 80)).toNat) ⟨0,[],[],none,0,Nat.zero_le _,(by simp only[push_cast,↓reduceIte,Nat.reduceEqDiff,true_and,and_true,and_self,eq_self,fr,fr]),hP0⟩ ?_
 clear hP0 FG k6 m6 k1 bb T fr hJ gZ nG
 rintro f w8 ⟨i,M,W,Aw,cw,hi,fr,S⟩ J hJ
 have gZ:(intOf (f 80)).toNat=i:=by rw[fr.2.2.2.2.2.2];simp[intOf]
 by_cases nG:i<m.aB.length
 case pos=>
  have YI:(i:Int)<(m.aB.length:Int):=by omega
  have hS:=(h.up S.bl).aB
  have sS:=hS.isSome (by omega)
  have li:=fun{K f d w}=>hS.ld (P:=Tryz.prog) (K:=K) (f:=f) (d:=d) (w:=w) ak i nG
  have kM:aE w8 w.heap.size 27 (a.cells m):=by have:=S.mb;rw[hva,VC]at this;exact this
  have hsi:=DD p1 (bY m.aB 0 i nG)
  simp(disch:=omega)only[push_cast,aa,↓reduceIte,Nat.reduceEqDiff,Int.reduceEq,gk,fr,YI,nG,li,kM.m2 aS]
  refine ax (fun f' w'=>∃(j:Nat) (M:List (Tw×Nat)) (W:List Tw) (Aw:Option Addr) (cw:Nat),j≤m.aB.length∧(f' 3= .pointer (some ⟨w.heap.size,0,none⟩)∧f' 6= .int .i64 0∧f' 7= .int .i64 0∧f' 8= .pointer (some ⟨g,0,none⟩)∧f' 78= .slice a.As m.aB.length a.cs∧f' 79= .int .i64 m.aB.length∧f' 80= .int .i64 i∧f' 12= .int .i64 (m.aB.getD i 0)∧f' 85= .slice a.As m.aB.length a.cs∧f' 86= .int .i64 m.aB.length∧f' 87= .int .i64 j)∧
    PSt w g gm v dJ (ym m i j) w' M W Aw cw)
   (fun f' _=>m.aB.length-(intOf (f' 87)).toNat) ⟨0,M,W,Aw,cw,Nat.zero_le _,(by simp only[push_cast,↓reduceIte,Nat.reduceEqDiff,true_and,and_true,and_self,eq_self,fr,fr]),S⟩ ?_
  clear S fr li kM hS sS
  rintro f w8 ⟨j,M,W,Aw,cw,hj,fr,S⟩ J2 jH
  have ob:(intOf (f 87)).toNat=j:=by rw[fr.2.2.2.2.2.2.2.2.2.2];simp[intOf]
  by_cases mw:j<m.aB.length
  case neg=>
   obtain rfl:j=m.aB.length:=by omega
   rw[L7 nG]at S
   simp(disch:=omega)only[push_cast,aa,↓reduceIte,Nat.reduceEqDiff,Int.reduceEq,gj,fr,Int.lt_irrefl]
   exact hJ _ _ ⟨i+1,M,W,Aw,cw,by omega,(by simp only[push_cast,↓reduceIte,Nat.reduceEqDiff,true_and,and_true,and_self,eq_self,fr]),S⟩ (by rw[gZ];simp only[push_cast,↓reduceIte,Nat.reduceEqDiff,intOf,fr];omega)
  have P0:(j:Int)<(m.aB.length:Int):=by omega
  have hS:=(h.up S.bl).aB
  have sS:=hS.isSome (by omega)
  have lj:=fun{K f d w}=>hS.ld (P:=Tryz.prog) (K:=K) (f:=f) (d:=d) (w:=w) ak j mw
  have hsj:=DD p1 (bY m.aB 0 j mw)
  have hlen:=P1 m i j
  have aoe:i*m.aB.length≤6*6:=Nat.mul_le_mul (by omega) (by omega)
  have hSl:=S.len
  simp(disch:=omega)only[push_cast,aa,↓reduceIte,Nat.reduceEqDiff,Int.reduceEq,gj,fr,P0,mw,lj,B8]
  refine ah (pw S.ws S.bl.size (by omega) S.ok (x:=(m.aB.getD i 0,m.aB.getD j 0,false)) ⟨hsi,hsj⟩ (n:=0) (by omega)) ?_
  rintro r w9 ⟨M2,W2,T1,T2,rfl,hc,aih,b9,XM,hm9⟩
  have S2:=S.L5 wg wgm hc aih XM b9 ⟨hsi,hsj⟩
  rw[←L6 mw]at S2
  simp(disch:=omega)only[push_cast,aa,↓reduceIte,Nat.reduceEqDiff,Int.reduceEq,fr]
  exact jH _ _ ⟨j+1,M2,W2,T1,T2,by omega,(by simp only[push_cast,↓reduceIte,Nat.reduceEqDiff,true_and,and_true,and_self,eq_self,fr]),S2⟩ (by rw[ob];simp only[push_cast,↓reduceIte,Nat.reduceEqDiff,intOf,fr];omega)
 obtain rfl:i=m.aB.length:=by omega
 have hD:yl (Ra m) (IK m seen av) FW (2*m.aj.toNat*m.aj.toNat+1) M W (-1):=yl.first S.cm fun u k=>by
  rw[List.mem_map]
  constructor
  ·rintro⟨y,hy,he⟩
   injection he with h1 h2
   exact⟨by rw[←h1];exact B9.1 hy,h2.symm⟩
  ·rintro⟨hu,rfl⟩;exact⟨u,B9.2 hu,rfl⟩
 have hWM:W.length≤ue M:=by
  have:=(S.cm.all (St:=Ra m) (E:=IK m seen av) (B:=0) ⟨by simp,fun p hp=>absurd hp (by simp),fun p hp=>absurd hp (by simp),fun x hx=>absurd hx (by simp)⟩ fun p hp=>by
   obtain⟨y,hy,rfl⟩:=List.mem_map.1 hp
   exact⟨Wk.start (B9.1 hy),Nat.le_refl _⟩).2.2.2.2.2.1
  simp[ue]at this ⊢
  omega
 simp(disch:=omega)only[push_cast,aa,↓reduceIte,Nat.reduceEqDiff,Int.reduceEq,gk,fr,Int.lt_irrefl]
 refine wE (fun n f w'=>∃(M:List (Tw×Nat)) (W:List Tw) (Aw:Option Addr) (cw:Nat) (aU:Int),n=2*(6000-ue M)+W.length∧(-1≤aU∧aU≤73)∧(f 3= .pointer (some ⟨w.heap.size,0,none⟩)∧f 8= .pointer (some ⟨g,0,none⟩)∧f 15= .int .i64 aU)∧
   yl (Ra m) (IK m seen av) FW (2*m.aj.toNat*m.aj.toNat+1) M W aU∧W.length≤ue M∧WS w.heap.size w' g gm v dJ Aw cw M W∧aE w' w.heap.size 27 (a.cells m)∧Below w.heap.size w w')
  (n0:=2*(6000-ue M)+W.length) ⟨M,W,Aw,cw,-1,rfl,⟨by omega,by omega⟩,(by simp only[push_cast,↓reduceIte,Nat.reduceEqDiff,true_and,and_true,and_self,eq_self,fr,fr]),hD,hWM,S.ws,by have:=S.mb;rw[hva,VC]at this;exact this,S.bl⟩ ?_
 clear S fr hD hWM hJ gZ nG hi M W Aw cw
 rintro _ f w8 ⟨M,W,Aw,cw,aU,rfl,hm1,fr,hD,hWM,S,kM,bb⟩ J hJ
 obtain⟨aof,cL,aii⟩:=hD.small p1 p4
 have lw:=fun{K f d w}=>S.Ab.GH (P:=Tryz.prog) (K:=K) (f:=f) (d:=d) (w:=w) oX (GG S.t48)
 have Z0:=S.Ab.lt
 have ac0:=S.map.lt
 rcases List.eq_nil_or_concat W with rfl|⟨W0,x,rfl⟩
 ·simp(disch:=omega)only[push_cast,aa,↓reduceIte,Nat.reduceEqDiff,Int.reduceEq,gi,fr,lw,List.length_nil]
  exact mV (hQ _ _ ⟨aU+1,0,(by simp only[push_cast,↓reduceIte,Nat.reduceEqDiff,Int.reduceEq,fr]),by omega,.inr (.inr ⟨⟨p1,p2,p3⟩,p4,rfl,hD.done⟩),bb⟩)
 rw[List.concat_eq_append]at hD hWM S lw hJ
 have TI:(W0++[x]).length=W0.length+1:=by simp
 rw[TI]at hWM lw
 obtain⟨n,hxn⟩:=hD.eP.work x (by simp)
 have aij:=aii _ hxn
 simp only at aij
 have hwk:=hD.eP.real _ hxn
 have Pz:=sY p1 hwk
 have OC:=EK p1 Pz
 have L8:(0:Int)<(W0.length:Int)+1:=by omega
 have d8:Same w8 w8.drew:=(Same.refl w8).drew
 have S1:=S.below (d8.below _)
 have kM1:=kM.same d8
 have bb1:=bb.trans (d8.below _)
 generalize YC:w8.drew=u at*
 have lw1:=fun{K f d w}=>S1.Ab.GH (P:=Tryz.prog) (K:=K) (f:=f) (d:=d) (w:=w) oX (GG S.t48)
 rw[TI]at lw1
 have hR:=bq.lt sZ (by decide) (bH.fS S1.row sZ (by decide))
 have sA:=hR.isSome (by omega)
 have ME:(W0++[x])[W0.length]? =some x:=by rw[List.getElem?_append_right (Nat.le_refl _)];simp
 have lx:=fun{K:Fr→World→Prop} {f:Fr} {d:Option Nat} {w':World}=>hR.dC (P:=Tryz.prog) (K:=K) (f:=f) (d:=d) (w:=w') sZ xR ME C5
 have OF:(W0.length:Int)+1-1=(W0.length:Int):=by omega
 have Tp:W0.length<W0.length+1:=by omega
 simp(disch:=omega)only[push_cast,aa,↓reduceIte,Nat.reduceEqDiff,Int.reduceEq,gi,fr,lw,L8,YC,lw1,OF,lx,Tp]
 refine au (cs:=Cu (0,0,false)) WJ ?_
 intro w9 k9 b9 z9
 simp(disch:=omega)only[push_cast,aa,↓reduceIte,Nat.reduceEqDiff,Int.reduceEq]
 refine⟨b9,?_⟩
 have S2:=S1.below b9
 have kM2:=kM1.below b9 kM1.lt
 have BC:=bb1.trans (b9.mono bb1.size)
 have hub:w.heap.size≤u.heap.size:=bb1.size
 refine aC (cs:=Cu x) k9 (IQ x) rfl (by simp[Cu,Value.oneCell']) ?_
 intro uv oq g10 U6
 have hgu:g<u.heap.size:=S1.Ab.lt
 have aog:gm<u.heap.size:=S1.map.lt
 have hAu:Aw.map (·.block)≠some u.heap.size:=fun e=>by have:=S1.row.QY (b:=u.heap.size) e.symm;omega
 have B0:=S2.Ab.grown g10.aJ (by simp;omega)
 have T7:=S2.map.grown g10.aJ (by simp;omega)
 have CV:=S2.row.bQ g10 (.inr (by simpa using hAu))
 have Vy:=cj.iJ (es:=[3]) (B:=w.heap.size) k9 hub (by decide) g10
 have kM3:=kM2.grown g10.aJ (by simp;omega)
 have ot:=g10.below BC BC.size (by intro a ha;injection ha with ha;subst ha;exact hub)
 have hqk:=oq.lt
 have d10:Same uv uv.drew:=(Same.refl uv).drew
 replace B0:=B0.same d10
 replace T7:=T7.same d10
 replace CV:=CV.same d10
 replace Vy:=Vy.trans (cj.same d10)
 replace kM3:=kM3.same d10
 replace oq:=oq.same d10
 replace ot:=ot.trans (d10.below _)
 generalize aim:uv.drew=u2 at*
 have lw3:=fun{K f d w}=>B0.GH (P:=Tryz.prog) (K:=K) (f:=f) (d:=d) (w:=w) oX (GG S.t48)
 rw[TI]at lw3
 have X4:=CV.cap
 rw[TI]at X4
 have adj:W0.length≤cw:=by omega
 have Oo:=fun{K f d w}=>H0 (P:=Tryz.prog) (K:=K) (u:=u2) (w:=w) (f:=f) (d:=d) (A:=Aw) (n:=W0.length+1) wo W0.length adj
 simp(disch:=omega)only[push_cast,aa,↓reduceIte,Nat.reduceEqDiff,Int.reduceEq,fr,aim,lw3,OF,zS,Option.map_none,Option.map_some,Oo]
 refine cg B0 (by kernel_rfl) 56 (by rw[EJ S.t48];decide) _ _ _ ?_
 intro zY Dt g11 xv
 rw[IP S.t48]at Dt
 have xl:bH Cu w.heap.size 133 3 zY Aw cw W0:=by
  have h1:=(CV.take (k:=W0.length) (by rw[TI];omega) (by rw[TI];omega)).bQ g11 (.inr (CV.bG B0 (by decide)))
  have h2:((W0++[x]).flatMap Cu).take (W0.length*3)=W0.flatMap Cu:=by
   rw[List.flatMap_append,List.take_left' (aaa sZ W0)]
  rw[h2]at h1
  exact h1
 have kt4:=Vy.trans (cj.iJ (es:=[3]) (B:=w.heap.size) B0 Xv (by decide) g11)
 have adk:=T7.grown g11.aJ (by simpa using ade)
 have kM4:=kM3.grown g11.aJ (by simpa using wg)
 have y6:=oq.grown g11.aJ (by simp;omega)
 have kh:=g11.below ot ot.size (by intro a ha;injection ha with ha;subst ha;exact Xv)
 have S4:WS w.heap.size zY g gm v dJ Aw cw M W0:=⟨Dt,S.t48,adk,xl,fun hd hh=>(S2.dt hd hh).eF kt4,Xv,Nat.le_of_lt adf⟩
 have d11:Same zY zY.drew:=(Same.refl zY).drew
 replace S4:=S4.below (d11.below _)
 replace kM4:=kM4.same d11
 replace y6:=y6.same d11
 replace kh:=kh.trans (d11.below _)
 clear xl kt4 adk Dt B0 T7 CV Vy kM3 oq ot S2 kM2 BC lw3 Oo S1 kM1 bb1 lw1 hR lx S kM bb
 generalize aio:zY.drew=u3 at*
 have lmap:=fun{K f d w}=>S4.Ab.GH (P:=Tryz.prog) (K:=K) (f:=f) (d:=d) (w:=w) (ty:=125) (by kernel_rfl) (Kh S4.t48)
 have lq:=fun{K f d w}=>y6.dC (P:=Tryz.prog) (K:=K) (f:=f) (d:=d) (w:=w) xR (IQ x)
 simp(disch:=omega)only[push_cast,aa,↓reduceIte,Nat.reduceEqDiff,Int.reduceEq,fr,aio,lmap,lq]
 have LM:Tryz.prog.underlying 125=some (.map 133 3):=Tryz.underlying125
 have XU:(Tryz.prog.info? 3).map (·.zero)=some (some (.int .i64 0)):=by kernel_rfl
 refine ph xj LM XU false S4.map (EI OC) (fun r hr=>?_) fun gY=>absurd rfl (GI gY _ hxn)
 obtain⟨n',fN,rfl⟩:=Ki hr
 obtain rfl:=hD.eP.one hxn fN
 have hNN:((2*m.aj.toNat*m.aj.toNat:Nat):Int)=2*m.aj*m.aj:=by
  have:((m.aj.toNat:Nat):Int)=m.aj:=by have:=p1.1;omega
  rw[Int.natCast_mul,Int.natCast_mul,this];rfl
 have aoi:2*m.aj.toNat*m.aj.toNat≤72:=by
  have h1:m.aj.toNat≤6:=by omega
  have h2:2*m.aj.toNat*m.aj.toNat≤2*6*6:=Nat.mul_le_mul (by omega) h1
  omega
 have aoj:=p1.1
 have hm0:0≤2*m.aj*m.aj:=by omega
 have aok:2*m.aj*m.aj≤72:=by omega
 have g0:uE (Ra m) (IK m seen av) (2*m.aj.toNat*m.aj.toNat+1) M W0:=⟨hD.eP.keys,hD.eP.real,hD.eP.bnd,fun y hy=>hD.eP.work y (List.mem_append_left _ hy)⟩
 obtain⟨pq,PZ⟩:∃pq:Int,pq=if x.2.2=true then max aU n else aU:=⟨_,rfl⟩
 have Gz:(FW x∧pq=max aU n)∨(¬FW x∧pq=aU):=by
  by_cases c:x.2.2=true
  ·rw[if_pos c]at PZ;exact .inl ⟨c,PZ⟩
  ·rw[if_neg c]at PZ;exact .inr ⟨c,PZ⟩
 have hm2: -1≤pq∧pq≤73:=by
  rcases Gz with⟨_,h⟩|⟨_,h⟩
  ·rw[h];omega
  ·omega
 have hgo:∀(c:¬(2*m.aj*m.aj<(n:Int))),dw Tryz.prog 67 [.pointer (some ⟨g,0,none⟩),E1 x,.int .i64 n] u3 fun r w'=>∃(M':List (Tw×Nat)) (W':List Tw) (gX:Option Addr) (jT:Nat),r= .tuple #[]∧
   yl (Ra m) (IK m seen av) FW (2*m.aj.toNat*m.aj.toNat+1) M' W' pq∧W'.length≤ue M'∧2*(6000-ue M')+W'.length<2*(6000-ue M)+(W0.length+1)∧WS w.heap.size w' g gm v dJ gX jT M' W'∧aE w' w.heap.size 27 (a.cells m)∧Below w.heap.size w w':=fun c=>by
  have hb:∀u c,IK m seen av x u c→n+c≤2*m.aj.toNat*m.aj.toNat+1:=fun u c he=>by have:=Kf _ _ _ he;omega
  refine(PY S4 kh.size (by omega) cL (by rw[VC];exact p1) (by rw[VC];exact p4) (by rw[←hv];exact h1.below kh) (by rw[hvs];exact n1) (by rw[←hv];exact h2.below kh) (by rw[hvf];exact n2) (by rw[VC];exact aie) (x:=x) (by rw[VC];exact Pz) (n:=n) (by omega)).mono ?_
  rintro r vq ⟨M',W',gX,jT,rfl,hc,YJ,aom,eZ,aip,aon,aoo⟩
  rw[VC,hvs,hvf]at hc
  have E0:∀u k,(u,k)∈dH n (iK m seen av x m.events.toNat)↔∃c,IK m seen av x u c∧k=n+c:=fun u k=>by
   unfold dH IK
   rw[List.mem_map]
   constructor
   ·rintro⟨⟨y,b⟩,hy,he⟩
    injection he with e1 e2
    exact⟨vL b,⟨b,by rw[←e1];exact hy,rfl⟩,e2.symm⟩
   ·rintro⟨c,⟨b,hb,rfl⟩,rfl⟩
    exact⟨(u,b),hb,rfl⟩
  have hD':=hD.next hxn Gz hc E0 hb
  obtain⟨_,_,_,_,_,t1,t2⟩:=hc.all g0 fun p hp=>by
   obtain⟨c,he,hk⟩:=(E0 p.1 p.2).1 hp
   exact⟨hk▸hwk.step he,hk▸hb _ _ he⟩
  have ht':=(hD'.small p1 p4).1
  exact⟨M',W',gX,jT,rfl,hD',by omega,by omega,YJ,aip.Ab kM4 wg wgm (fun e=>S4.row.bG kM4 (by decide) e.symm),kh.trans eZ⟩
 have YK:2*m.aj*m.aj<(n:Int)→Vw m seen av (-1):=fun c=>
  GA (BZ m.aj.toNat) (2*m.aj.toNat*m.aj.toNat) (fun t k hw=>GC (sY p1 hw)) (fun t u k k' hw DR e=>DC (sY p1 hw) (sY p1 DR) e) (fun t u c he=>Kf t u c he) (fun u c k hp hc=>IL u c k hp hc) hwk (by omega)
 have kst:=fun{K f d w}=>kM4.m0 (P:=Tryz.prog) (K:=K) (f:=f) (d:=d) (w:=w) ak
 by_cases VB:x.2.2=true
 case' pos=>
  rw[if_pos VB]at PZ
  simp(disch:=omega)only[push_cast,aa,↓reduceIte,Nat.reduceEqDiff,Int.reduceEq,y6.YA,VB]
 case' neg=>
  rw[if_neg VB]at PZ
  have T3:x.2.2=false:=by simpa using VB
  simp(disch:=omega)only[push_cast,aa,↓reduceIte,Nat.reduceEqDiff,Int.reduceEq,y6.YA,T3]
 all_goals
  have hms:(2:Int)*m.aj≤12:=by omega
  by_cases c:2*m.aj*m.aj<(n:Int)
  case pos=>
   simp(disch:=omega)only[push_cast,aa,↓reduceIte,Nat.reduceEqDiff,Int.reduceEq,fr,kst,c]
   exact mV (hQ _ _ ⟨-1,0,(by simp only[push_cast,↓reduceIte,Nat.reduceEqDiff,Int.reduceEq,fr]),by decide,.inr (.inr ⟨⟨p1,p2,p3⟩,p4,rfl,YK c⟩),kh⟩)
  case neg=>
   simp(disch:=omega)only[push_cast,aa,↓reduceIte,Nat.reduceEqDiff,Int.reduceEq,fr,kst,c,lq]
   refine ah (hgo c) ?_
   rintro r vq ⟨M',W',gX,jT,rfl,hD',hW',aI,YJ,Kj,CW⟩
   simp(disch:=omega)only[push_cast,aa,↓reduceIte,Nat.reduceEqDiff,Int.reduceEq,fr]
   exact hJ _ _ _ ⟨M',W',gX,jT,pq,rfl,hm2,(by simp only[push_cast,↓reduceIte,Nat.reduceEqDiff,true_and,and_true,and_self,eq_self,fr,PZ]),hD',hW',YJ,Kj,CW⟩ (by rw[TI];omega)
section
open Go.RowKit
inductive CX (m:aN) (free bad:List Int):Int→Prop
 |base (x:Int) (h:x∈bad):CX m free bad x
 |step (a:cH) (ha:a∈m.ag) (he:a.dI∉free) (h:CX m free bad a.dt):CX m free bad a.bK
def missing(ws:List Nat):Nat:=(List.range 256).countP fun n=> !aV ws n
theorem GK{ws:List Nat}(h:Words ws){n:Nat}(hn:n<256)(h0:aV ws n=false):missing (fK ws n)<missing ws:=by
 unfold missing
 have key:∀l:List Nat,(l.countP fun k=> !aV (fK ws n) k)≤(l.countP fun k=> !aV ws k)∧(n∈l→(l.countP fun k=> !aV (fK ws n) k)<(l.countP fun k=> !aV ws k)):=by
  intro l
  induction l with
  |nil=>simp
  |cons x l ih=>
   simp only[List.countP_cons,eK h hn]
   refine⟨?_,fun hx=>?_⟩
   ·have:=ih.1
    cases hs:aV ws x<;>by_cases e:x=n<;>simp_all[eK h hn]<;>omega
   ·by_cases e:x=n
    ·subst e;have:=ih.1;simp_all[eK h hn];omega
    ·have:=ih.2 (by simpa[Ne.symm e,show¬n=x from fun h=>e h.symm]using hx)
     cases hs:aV ws x<;>simp_all[eK h hn]
 exact(key _).2 (List.mem_range.2 hn)
def T8(m:aN)(free bad:List Int)(w:World)(v:Value)(w':World):Prop:=
 ∃O co o e,v= .tuple #[.slice O o.length co,.int .i64 e]∧cQ w.heap.size 3 w' O co o∧Below w.heap.size w w'∧
  (m.bZ∧az free m.events∧az bad m.aj→e=0∧aW o∧∀x,x∈o↔(0≤x∧x<m.aj)∧¬CX m free bad x)∧(¬(m.bZ∧az free m.events∧az bad m.aj)→e=2∧o=[])
theorem EL{w:World}{a:MV}{m:aN}(h:zj (·<w.heap.size) w a m)(hf:m.Fits)
  {A1 A2:Option Addr}{c1 c2:Nat}{free bad:List Int}(h1:Ints (·<w.heap.size) w A1 free)(h2:Ints (·<w.heap.size) w A2 bad)
  (n1:free.length≤17592186043904)(n2:bad.length≤17592186043904):
  dw Tryz.prog 27 [a.val m,.slice A1 free.length c1,.slice A2 bad.length c2] w (T8 m free bad w):=by
 refine xD (by simp) 100000 fun Q hQ=>?_
 simp(disch:=omega)only[push_cast,aa,↓reduceIte,Nat.reduceEqDiff,Int.reduceEq,rD]
 refine au (aO _ (a.cells m)) ?_
 intro w1 k1 b1 z1
 simp(disch:=omega)only[push_cast,aa,↓reduceIte,Nat.reduceEqDiff,Int.reduceEq,k1.mA iC fR]
 refine ah (nu ((h.below b1).mono fun b hb=>Nat.lt_of_lt_of_le hb b1.size) hf) ?_
 rintro v w2 ⟨rfl,b2⟩
 have k2:=k1.below b2 k1.lt
 have c2':=b1.trans (b2.mono b1.size)
 by_cases p1:m.bZ
 case neg=>
  simp(disch:=omega)only[push_cast,aa,↓reduceIte,Nat.reduceEqDiff,Int.reduceEq,p1]
  exact mV (hQ _ _ ⟨none,0,[],2,(by simp only[push_cast,↓reduceIte,Nat.reduceEqDiff,Int.reduceEq,List.length_nil]),Own.nil _ _ _ _,c2',fun hh=>absurd hh.1 p1,fun _=>⟨rfl,rfl⟩⟩)
 simp(disch:=omega)only[push_cast,aa,↓reduceIte,Nat.reduceEqDiff,Int.reduceEq,p1,k2.m1 ak]
 refine ah (nY (h1.below c2') c1 m.events (by omega)) ?_
 rintro v w3 ⟨rfl,s3⟩
 have k3:=k2.same s3
 have c3':=c2'.trans (s3.below _)
 by_cases p2:az free m.events
 case neg=>
  simp(disch:=omega)only[push_cast,aa,↓reduceIte,Nat.reduceEqDiff,Int.reduceEq,p2]
  exact mV (hQ _ _ ⟨none,0,[],2,(by simp only[push_cast,↓reduceIte,Nat.reduceEqDiff,Int.reduceEq,List.length_nil]),Own.nil _ _ _ _,c3',fun hh=>absurd hh.2.1 p2,fun _=>⟨rfl,rfl⟩⟩)
 simp(disch:=omega)only[push_cast,aa,↓reduceIte,Nat.reduceEqDiff,Int.reduceEq,p2,k3.m0 ak]
 refine ah (nY (h2.below c3') c2 m.aj (by omega)) ?_
 rintro v w4 ⟨rfl,s4⟩
 have k4:=k3.same s4
 have c4':=c3'.trans (s4.below _)
 by_cases p3:az bad m.aj
 case neg=>
  simp(disch:=omega)only[push_cast,aa,↓reduceIte,Nat.reduceEqDiff,Int.reduceEq,p3]
  exact mV (hQ _ _ ⟨none,0,[],2,(by simp only[push_cast,↓reduceIte,Nat.reduceEqDiff,Int.reduceEq,List.length_nil]),Own.nil _ _ _ _,c4',fun hh=>absurd hh.2.2 p3,fun _=>⟨rfl,rfl⟩⟩)
 have mm:1≤m.aj∧m.aj≤256∧0≤m.events∧m.events≤8∧m.ag.length≤4096∧az m.aB m.aj∧az m.ends m.aj∧∀i,i<m.ag.length→m.At i:=p1
 have cL:∀y∈m.ag,∃p q:Nat,y.bK=p∧y.dt=q∧p<256∧q<256:=fun y hy=>by
  obtain⟨i,hi,rfl⟩:=(fA m.ag default y).1 hy
  have ho:=(mm.2.2.2.2.2.2.2 i hi).1
  have:=ho.1
  have:=ho.2.1
  exact⟨(m.ag.getD i default).bK.toNat,(m.ag.getD i default).dt.toNat,by omega,by omega,by omega,by omega⟩
 simp(disch:=omega)only[push_cast,aa,↓reduceIte,Nat.reduceEqDiff,Int.reduceEq,p3]
 refine ah (Bk (h2.below c4').lt c2 n2 fun x hx=>by have:=p3.mem hx;omega) ?_
 rintro v w5 ⟨ws0,rfl,hw0,hs0,b5⟩
 have k5:=k4.below b5 k4.lt
 have c5':=c4'.trans (b5.mono c4'.size)
 simp(disch:=omega)only[push_cast,aa,↓reduceIte,Nat.reduceEqDiff,Int.reduceEq]
 refine au (cs:=setCells [0,0,0,0]) cB ?_
 intro w6 k6 b6 z6
 simp(disch:=omega)only[push_cast,aa,↓reduceIte,Nat.reduceEqDiff,Int.reduceEq]
 have e4:aL Tryz.prog 107=some (setCells ws0).length:=by rw[br,hw0.1];exact aw
 refine aC k6 e4 (by rw[br,br,hw0.1];rfl) (by simp[setCells,Value.oneCell']) ?_
 intro w7 k7 g7 z7
 have hNG:w.heap.size<w5.heap.size:=k5.lt
 have kM0:=(k5.below b6 hNG).grown g7.aJ (by simp;omega)
 have c7':Below w.heap.size w w7:=g7.below (c5'.trans (b6.mono c5'.size)) (by omega) (by intro a ha;injection ha with ha;subst ha;show w.heap.size≤w5.heap.size;omega)
 generalize w5.heap.size=G at*
 simp(disch:=omega)only[push_cast,↓reduceIte,Nat.reduceEqDiff]
 refine cut (fun f' w'=>∃ws,f' 3= .pointer (some ⟨w.heap.size,0,none⟩)∧f' 8= .pointer (some ⟨G,0,none⟩)∧Words ws∧(∀n:Nat,n<256→(aV ws n=true↔CX m free bad n))∧
   aE w' w.heap.size 27 (a.cells m)∧aE w' G 107 (setCells ws)∧Below w.heap.size w w') 40000 40000 (by decide) ?_ ?_
 ·intro E hE
  simp(disch:=omega)only[push_cast,aa,↓reduceIte,Nat.reduceEqDiff,Int.reduceEq]
  refine wE (fun n f' w'=>∃ws,n=missing ws∧f' 1= .slice A1 free.length c1∧f' 3= .pointer (some ⟨w.heap.size,0,none⟩)∧f' 8= .pointer (some ⟨G,0,none⟩)∧Words ws∧(∀n:Nat,n<256→aV ws n=true→CX m free bad n)∧
   (∀n:Nat,n<256→(n:Int)∈bad→aV ws n=true)∧aE w' w.heap.size 27 (a.cells m)∧aE w' G 107 (setCells ws)∧Below w.heap.size w w')
   (n0:=missing ws0) ⟨ws0,rfl,rfl,rfl,rfl,hw0,fun n hn hh=>.base _ (by rw[hs0 n hn]at hh;exact of_decide_eq_true hh),fun n hn hh=>by rw[hs0 n hn];exact decide_eq_true hh,kM0,k7,c7'⟩ ?_
  clear kM0 k7 c7' g7 k6 b6 hs0
  rintro _ f w8 ⟨ws,rfl,g1,g3,g8,hw,EZ,EW,kM,kS,bb⟩ J hJ
  simp(disch:=omega)only[push_cast,aa,↓reduceIte,Nat.reduceEqDiff,Int.reduceEq,oD,g1,g3,g8,kM.m3 fQ]
  refine ax (fun f' w'=>∃k:Nat,k≤m.ag.length∧f' 1= .slice A1 free.length c1∧f' 3= .pointer (some ⟨w.heap.size,0,none⟩)∧f' 8= .pointer (some ⟨G,0,none⟩)∧
    f' 33= .slice a.Aa m.ag.length a.ca∧f' 34= .int .i64 m.ag.length∧f' 35= .int .i64 k∧
    (∀i,i<k→(m.ag.getD i default).dI∉free→aV ws (m.ag.getD i default).dt.toNat=true→aV ws (m.ag.getD i default).bK.toNat=true)∧
    aE w' w.heap.size 27 (a.cells m)∧aE w' G 107 (setCells ws)∧Below w.heap.size w w')
   (fun f' _=>m.ag.length-(intOf (f' 35)).toNat) ⟨0,Nat.zero_le _,(by simp only[push_cast,↓reduceIte,Nat.reduceEqDiff,Int.reduceEq,g1]),(by simp only[push_cast,↓reduceIte,Nat.reduceEqDiff,Int.reduceEq,g3]),(by simp only[push_cast,↓reduceIte,Nat.reduceEqDiff,Int.reduceEq,g8]),(by simp only[push_cast,↓reduceIte,Nat.reduceEqDiff,Int.reduceEq]),(by simp only[push_cast,↓reduceIte,Nat.reduceEqDiff,Int.reduceEq]),(by simp only[push_cast,↓reduceIte,Nat.reduceEqDiff,Int.reduceEq]),fun i hi=>absurd hi (by omega),kM,kS,bb⟩ ?_
  clear kM kS bb g1 g3 g8
  rintro f w9 ⟨k,hk,g1,g3,g8,g33,g34,VD,hp,kM,kS,bb⟩ J2 jH
  have i2:=(h.below bb).ag
  by_cases aI:k<m.ag.length
  case neg=>
   simp(disch:=omega)only[push_cast,aa,↓reduceIte,Nat.reduceEqDiff,Int.reduceEq,ji,g1,g3,g8,g33,g34,VD,aI]
   refine hE _ _ ⟨ws,(by simp only[push_cast,↓reduceIte,Nat.reduceEqDiff,Int.reduceEq,g3]),(by simp only[push_cast,↓reduceIte,Nat.reduceEqDiff,Int.reduceEq,g8]),hw,fun n hn=>⟨EZ n hn,fun hl=>?_⟩,kM,kS,bb⟩
   have key:∀x,CX m free bad x→∀n:Nat,n<256→x=n→aV ws n=true:=by
    intro x hx
    induction hx with
    |base x hb=>intro n hn e;exact EW n hn (e▸hb)
    |step y hy he _ ih=>
     intro n hn e
     obtain⟨p,q,e1,e2,H3,Cv⟩:=cL y hy
     obtain⟨i,hi,rfl⟩:=(fA m.ag default y).1 hy
     have:=hp i (by omega) he (by rw[e2];simpa using ih q Cv e2)
     rw[e]at this
     simpa using this
   exact key _ hl n hn rfl
  have hA:=i2.isSome (by omega)
  simp(disch:=omega)only[push_cast,aa,↓reduceIte,Nat.reduceEqDiff,Int.reduceEq,ji,g1,g3,g8,g33,g34,VD,aI,i2.CH vI bz]
  refine au sr ?_
  intro uv oq fM U6
  simp(disch:=omega)only[push_cast,aa,↓reduceIte,Nat.reduceEqDiff,Int.reduceEq]
  refine aC oq (cs:=ay (m.ag.getD k default)) bz rfl (by simp[ay,Value.oneCell']) ?_
  intro zY Dt q11 xv
  have hm:=bY m.ag default k aI
  have pC:∀P:cH→Prop,P (m.ag.getD k default)→P (m.ag.getD k default):=fun _ h=>h
  generalize hy:m.ag.getD k default=y at*
  obtain⟨p,q,e1,e2,H3,Cv⟩:=cL y hm
  have GL:Below w9.heap.size w9 zY:=q11.below fM (by omega) (by intro a ha;injection ha with ha;subst ha;exact Nat.le_refl _)
  have CW:=bb.trans (GL.mono bb.size)
  have Kj:=kM.below GL kM.lt
  have E2:=kS.below GL kS.lt
  simp(disch:=omega)only[push_cast,aa,↓reduceIte,Nat.reduceEqDiff,Int.reduceEq,g1,g3,g8,e1,E2.cM hw al aw,Dt.a0 ak]
  refine ah (zU ws hw p H3 _) ?_
  rintro v vq ⟨rfl,eZ⟩
  replace Kj:=Kj.below eZ Kj.lt
  replace E2:=E2.below eZ E2.lt
  have y6:=Dt.below eZ Dt.lt
  replace CW:=CW.trans (eZ.mono CW.size)
  by_cases d1:aV ws p=true
  ·have S9:(m.ag.getD k default).dI∉free→aV ws (m.ag.getD k default).dt.toNat=true→aV ws (m.ag.getD k default).bK.toNat=true:=by
    rw[hy];intro _ _;rw[e1];simpa using d1
   simp(disch:=omega)only[push_cast,aa,↓reduceIte,Nat.reduceEqDiff,Int.reduceEq,d1,VD]
   exact jH _ _ ⟨k+1,aI,(by simp only[push_cast,↓reduceIte,Nat.reduceEqDiff,Int.reduceEq,g1]),(by simp only[push_cast,↓reduceIte,Nat.reduceEqDiff,Int.reduceEq,g3]),(by simp only[push_cast,↓reduceIte,Nat.reduceEqDiff,Int.reduceEq,g8]),(by simp only[push_cast,↓reduceIte,Nat.reduceEqDiff,Int.reduceEq,g33]),(by simp only[push_cast,↓reduceIte,Nat.reduceEqDiff,Int.reduceEq,g34]),(by simp only[push_cast,↓reduceIte,Nat.reduceEqDiff,Int.reduceEq]),fun i hi=>if e:i=k then e▸S9 else hp i (by omega),Kj,E2,CW⟩ (by simp only[push_cast,↓reduceIte,Nat.reduceEqDiff,VD,intOf];omega)
  have d1':aV ws p=false:=by simpa using d1
  simp(disch:=omega)only[push_cast,aa,↓reduceIte,Nat.reduceEqDiff,Int.reduceEq,d1',g1,g3,g8,e2,E2.cM hw al aw,y6.a2 ak]
  refine ah (zU ws hw q Cv _) ?_
  rintro v xw ⟨rfl,iT⟩
  replace Kj:=Kj.below iT Kj.lt
  replace E2:=E2.below iT E2.lt
  have Ct:=y6.below iT y6.lt
  replace CW:=CW.trans (iT.mono CW.size)
  by_cases d2:aV ws q=true
  case neg=>
   have d2':aV ws q=false:=by simpa using d2
   have S9:(m.ag.getD k default).dI∉free→aV ws (m.ag.getD k default).dt.toNat=true→aV ws (m.ag.getD k default).bK.toNat=true:=by
    rw[hy,e2];intro _ hh;exact absurd (by simpa using hh) d2
   simp(disch:=omega)only[push_cast,aa,↓reduceIte,Nat.reduceEqDiff,Int.reduceEq,d2',VD]
   exact jH _ _ ⟨k+1,aI,(by simp only[push_cast,↓reduceIte,Nat.reduceEqDiff,Int.reduceEq,g1]),(by simp only[push_cast,↓reduceIte,Nat.reduceEqDiff,Int.reduceEq,g3]),(by simp only[push_cast,↓reduceIte,Nat.reduceEqDiff,Int.reduceEq,g8]),(by simp only[push_cast,↓reduceIte,Nat.reduceEqDiff,Int.reduceEq,g33]),(by simp only[push_cast,↓reduceIte,Nat.reduceEqDiff,Int.reduceEq,g34]),(by simp only[push_cast,↓reduceIte,Nat.reduceEqDiff,Int.reduceEq]),fun i hi=>if e:i=k then e▸S9 else hp i (by omega),Kj,E2,CW⟩ (by simp only[push_cast,↓reduceIte,Nat.reduceEqDiff,VD,intOf];omega)
  simp(disch:=omega)only[push_cast,aa,↓reduceIte,Nat.reduceEqDiff,Int.reduceEq,d2,g1,g3,g8,Ct.a1 ak]
  refine ah (nt (h1.below CW) c1 _ (by omega)) ?_
  rintro v BH ⟨rfl,s14⟩
  replace Kj:=Kj.same s14
  replace E2:=E2.same s14
  have JK:=Ct.same s14
  replace CW:=CW.trans (s14.below _)
  by_cases d3:y.dI∈free
  ·have S9:(m.ag.getD k default).dI∉free→aV ws (m.ag.getD k default).dt.toNat=true→aV ws (m.ag.getD k default).bK.toNat=true:=by
    rw[hy];intro hh;exact absurd d3 hh
   simp(disch:=omega)only[push_cast,aa,↓reduceIte,Nat.reduceEqDiff,Int.reduceEq,d3,VD]
   exact jH _ _ ⟨k+1,aI,(by simp only[push_cast,↓reduceIte,Nat.reduceEqDiff,Int.reduceEq,g1]),(by simp only[push_cast,↓reduceIte,Nat.reduceEqDiff,Int.reduceEq,g3]),(by simp only[push_cast,↓reduceIte,Nat.reduceEqDiff,Int.reduceEq,g8]),(by simp only[push_cast,↓reduceIte,Nat.reduceEqDiff,Int.reduceEq,g33]),(by simp only[push_cast,↓reduceIte,Nat.reduceEqDiff,Int.reduceEq,g34]),(by simp only[push_cast,↓reduceIte,Nat.reduceEqDiff,Int.reduceEq]),fun i hi=>if e:i=k then e▸S9 else hp i (by omega),Kj,E2,CW⟩ (by simp only[push_cast,↓reduceIte,Nat.reduceEqDiff,VD,intOf];omega)
  simp(disch:=omega)only[push_cast,aa,↓reduceIte,Nat.reduceEqDiff,Int.reduceEq,d3,g1,g3,g8,e1,JK.a0 ak,List.map_cons,List.map_nil]
  refine ah (D9 hw p H3 E2) ?_
  rintro v Ga ⟨rfl,mD,g15,z15⟩
  simp(disch:=omega)only[push_cast,aa,↓reduceIte,Nat.reduceEqDiff,Int.reduceEq]
  exact hJ _ _ _ ⟨fK ws p,rfl,(by simp only[push_cast,↓reduceIte,Nat.reduceEqDiff,Int.reduceEq,g1]),(by simp only[push_cast,↓reduceIte,Nat.reduceEqDiff,Int.reduceEq,g3]),(by simp only[push_cast,↓reduceIte,Nat.reduceEqDiff,Int.reduceEq,g8]),hw.add H3,fun n hn hh=>by
   rw[eK hw H3]at hh
   by_cases e:n=p
   ·subst e;rw[←e1];exact .step y hm d3 (by rw[e2];exact EZ q Cv d2)
   ·exact EZ n hn (by simpa[e]using hh),fun n hn hh=>by rw[eK hw H3,EW n hn hh];rfl,
   Kj.grown g15.aJ (by simp;omega),mD,g15.below CW CW.size (by intro a ha;injection ha with ha;subst ha;show w.heap.size≤G;omega)⟩ (GK hw H3 d1')
 ·rintro f w8 ⟨ws,g3,g8,hw,hs,kM,kS,bb⟩
  simp(disch:=omega)only[push_cast,aa,↓reduceIte,Nat.reduceEqDiff,Int.reduceEq,g3,g8,kM.m0 ak]
  refine ax (fun f' w'=>∃k:Nat,∃O co o,(k:Int)≤m.aj∧f' 8= .pointer (some ⟨G,0,none⟩)∧f' 11= .slice O o.length co∧f' 62= .int .i64 m.aj∧f' 63= .int .i64 k∧
    aW o∧(∀x,x∈o↔(0≤x∧x<k)∧¬CX m free bad x)∧o.length≤k∧cQ w.heap.size 3 w' O co o∧aE w' G 107 (setCells ws)∧Below w.heap.size w w')
   (fun f' _=>m.aj.toNat-(intOf (f' 63)).toNat) ⟨0,none,0,[],by omega,(by simp only[push_cast,↓reduceIte,Nat.reduceEqDiff,Int.reduceEq,g8]),(by simp only[push_cast,↓reduceIte,Nat.reduceEqDiff,Int.reduceEq,List.length_nil]),(by simp only[push_cast,↓reduceIte,Nat.reduceEqDiff,Int.reduceEq]),(by simp only[push_cast,↓reduceIte,Nat.reduceEqDiff,Int.reduceEq]),List.Pairwise.nil,fun x=>⟨fun hx=>absurd hx (by simp),fun hx=>absurd hx.1 (by omega)⟩,Nat.le_refl _,Own.nil _ _ _ _,kS,bb⟩ ?_
  clear kS bb kM g3 g8
  rintro f w9 ⟨k,O,co,o,hk,g8,g11,g62,YL,ZW,ho2,hol,ho,kS,bb⟩ J hJ
  by_cases aI:(k:Int)<m.aj
  case neg=>
   have hke:(k:Int)=m.aj:=by omega
   simp(disch:=omega)only[push_cast,aa,↓reduceIte,Nat.reduceEqDiff,Int.reduceEq,jh,g8,g11,g62,YL,aI]
   exact mV (hQ _ _ ⟨O,co,o,0,(by simp only[push_cast,↓reduceIte,Nat.reduceEqDiff,Int.reduceEq,g11]),ho,bb,fun _=>⟨rfl,ZW,fun x=>by rw[ho2,hke]⟩,fun hn=>absurd ⟨p1,p2,p3⟩ hn⟩)
  have J6:k<256:=by omega
  simp(disch:=omega)only[push_cast,aa,↓reduceIte,Nat.reduceEqDiff,Int.reduceEq,jh,g8,g11,g62,YL,aI,kS.cM hw al aw]
  refine ah (zU ws hw k J6 _) ?_
  rintro v uv ⟨rfl,fM⟩
  have E2:=kS.below fM kS.lt
  have CW:=bb.trans (fM.mono bb.size)
  have Jh:=ho.below fM (Nat.le_refl _)
  by_cases d:aV ws k=true
  ·have hl:=(hs k J6).1 d
   simp(disch:=omega)only[push_cast,aa,↓reduceIte,Nat.reduceEqDiff,Int.reduceEq,d,YL]
   refine hJ _ _ ⟨k+1,O,co,o,by omega,(by simp only[push_cast,↓reduceIte,Nat.reduceEqDiff,Int.reduceEq,g8]),(by simp only[push_cast,↓reduceIte,Nat.reduceEqDiff,Int.reduceEq,g11]),(by simp only[push_cast,↓reduceIte,Nat.reduceEqDiff,Int.reduceEq,g62]),(by simp only[push_cast,↓reduceIte,Nat.reduceEqDiff,Int.reduceEq]),ZW,fun x=>?_,by omega,Jh,E2,CW⟩ (by simp only[push_cast,↓reduceIte,Nat.reduceEqDiff,YL,intOf];omega)
   rw[ho2]
   constructor
   ·rintro⟨⟨a1,a2⟩,a3⟩
    exact⟨⟨a1,by omega⟩,a3⟩
   ·rintro⟨⟨a1,a2⟩,a3⟩
    by_cases e:x=(k:Int)
    ·exact absurd hl (e▸a3)
    ·exact⟨⟨a1,by omega⟩,a3⟩
  ·have d':aV ws k=false:=by simpa using d
   have hl:¬CX m free bad (k:Int):=fun h=>d ((hs k J6).2 h)
   simp(disch:=omega)only[push_cast,aa,↓reduceIte,Nat.reduceEqDiff,Int.reduceEq,d',g11,YL]
   refine tu fq Jh (k:Int) (by omega) CW.size ?_
   intro A' c' zY T9 ado aos aot aiw
   simp(disch:=omega)only[push_cast,aa,↓reduceIte,Nat.reduceEqDiff,Int.reduceEq,YL]
   refine hJ _ _ ⟨k+1,A',c',o++[(k:Int)],by omega,(by simp only[push_cast,↓reduceIte,Nat.reduceEqDiff,Int.reduceEq,g8]),(by simp only[push_cast,↓reduceIte,Nat.reduceEqDiff,Int.reduceEq,List.length_append,List.length_cons,List.length_nil]),(by simp only[push_cast,↓reduceIte,Nat.reduceEqDiff,Int.reduceEq,g62]),(by simp only[push_cast,↓reduceIte,Nat.reduceEqDiff,Int.reduceEq]),?_,fun x=>?_,by simp;omega,T9,E2.grown ado.aJ ?_,ado.below CW CW.size Jh.uh⟩ (by simp only[push_cast,↓reduceIte,Nat.reduceEqDiff,YL,intOf];omega)
   ·exact List.pairwise_append.2 ⟨ZW,by simp,fun x hx y hy=>by
     have:=((ho2 x).1 hx).1
     have e:y=(k:Int):=by simpa using hy
     omega⟩
   ·rw[List.mem_append,ho2,List.mem_singleton]
    constructor
    ·rintro(⟨⟨a1,a2⟩,a3⟩|rfl)
     ·exact⟨⟨a1,by omega⟩,a3⟩
     ·exact⟨⟨by omega,by omega⟩,hl⟩
    ·rintro⟨⟨a1,a2⟩,a3⟩
     by_cases e:x=(k:Int)
     ·exact .inr e
     ·exact .inl ⟨⟨a1,by omega⟩,a3⟩
   ·exact fun e=>Jh.bG E2 (by decide) e.symm
end
open Go.RowKit
theorem L9{α:Type}{P:List α→Prop}(h0:P [])(h1:∀v e,P v→P (v++[e])):∀v,P v:=by
 have key:∀(n:Nat) (v:List α),v.length=n→P v:=by
  intro n
  induction n with
  |zero=>intro v hv;rw[List.eq_nil_of_length_eq_zero hv];exact h0
  |succ n ih=>
   intro v hv
   have cY:v≠[]:=by rintro rfl;simp at hv
   rw[←List.dropLast_concat_getLast cY]
   exact h1 _ _ (ih _ (by simp[hv]))
 exact fun v=>key _ v rfl
def yn(l:List Int):Nat:=l.foldl (fun n x=>n+2^x.toNat) 0
theorem Ma(l:List Int)(x:Int):yn (l++[x])=yn l+2^x.toNat:=by unfold yn;rw[List.foldl_append];rfl
theorem GM{l:List Int}:∀(k:Nat),aW l→(∀x∈l,0≤x∧x<k)→yn l<2^k∧∀i:Nat,(yn l).testBit i=decide ((i:Int)∈l):=by
 refine L9 (P:=fun l=>∀k:Nat,aW l→(∀x∈l,0≤x∧x<k)→yn l<2^k∧∀i:Nat,(yn l).testBit i=decide ((i:Int)∈l)) ?_ ?_ l
 ·intro k _ _
  exact⟨Nat.two_pow_pos k,fun i=>by simp[yn]⟩
 ·intro l x ih k hs hr
  have hx:=hr x (by simp)
  obtain⟨t,rfl⟩:∃t:Nat,x=t:=⟨x.toNat,by omega⟩
  have EW:aW l:=(List.pairwise_append.1 hs).1
  have aI:∀y∈l,y<(t:Int):=fun y hy=>(List.pairwise_append.1 hs).2.2 y hy _ (by simp)
  obtain⟨h1,h2⟩:=ih t EW fun y hy=>⟨(hr y (by simp[hy])).1,aI y hy⟩
  rw[Ma,Int.toNat_natCast]
  have e:yn l+2^t=2^t|||yn l:=by
   have:=Nat.two_pow_add_eq_or_of_lt h1 1
   rw[Nat.mul_one]at this
   omega
  have ht:t+1≤k:=by omega
  refine⟨?_,fun i=>?_⟩
  ·have:2^(t+1)≤2^k:=Nat.pow_le_pow_right (by decide) ht
   rw[Nat.pow_succ]at this
   omega
  ·rw[e,Nat.testBit_or,Nat.testBit_two_pow,h2]
   by_cases c:t=i
   ·subst c;simp
   ·rw[decide_eq_false c,Bool.false_or]
    exact decide_eq_decide.2 ⟨fun h=>List.mem_append_left _ h,fun h=>by
     rcases List.mem_append.1 h with h|h
     ·exact h
     ·have:=List.mem_singleton.1 h;omega⟩
theorem YM{l:List Int}{k:Nat}(h:az l k):yn l<2^k:=(GM k h.strict fun x hx=>by have:=h.mem hx;omega).1
theorem Kk{l:List Int}{k:Nat}(h:az l k)(i:Nat):(yn l).testBit i=decide ((i:Int)∈l):=(GM k h.strict fun x hx=>by have:=h.mem hx;omega).2 i
def P3(p:cO)(free:List Int):List Int:=p.seen.filter fun e=>decide (e∉free)
theorem EM{p:cO}{free:List Int}{e:Int}:e∈P3 p free↔e∈p.seen∧e∉free:=by unfold P3;rw[List.mem_filter,decide_eq_true_eq]
def Kp(p:cO)(free s:List Int):Prop:=∀u:List Int,(∀e∈u,e∈P3 p free)→¬dx (u.foldl (bo p) s) p.aK
theorem Kp.next{p:cO}{free s:List Int}(h:Kp p free s){e:Int}(he:e∈P3 p free):Kp p free (bo p s e):=fun u hu=>
 h (e :: u) fun x hx=>by
   rcases List.mem_cons.1 hx with rfl|hx
   ·exact he
   ·exact hu x hx
theorem Kp.self{p:cO}{free s:List Int}(h:Kp p free s):¬dx s p.aK:=h [] (by simp)
theorem Kp.of{p:cO}{free:List Int}{G:List Int→Prop}(h1:∀s,G s→¬dx s p.aK)(h2:∀s,G s→∀e∈P3 p free,G (bo p s e)){s:List Int}(hs:G s):Kp p free s:=by
 intro u
 induction u generalizing s with
 |nil=>intro _;exact h1 s hs
 |cons e u ih=>intro hu;exact ih (h2 s hs e (hu e (by simp))) fun x hx=>hu x (by simp[hx])
theorem Kp.DF{p:cO}{free s:List Int}(h:dx s p.aK):¬Kp p free s:=fun hk=>hk.self h
open Go.RowKit
open Go.RowKit
theorem bJ.xk{w w':World}(b:Below w.heap.size w w')(A:Option Addr):bJ w w' A:=⟨⟨b.os,b.tape,b.output,b.size,fun k hk _=>b.block k hk⟩⟩
theorem bJ.trans'{w w1 w2:World}{A:Option Addr}(h:bJ w w1 A)(k:bJ w1 w2 A):bJ w w2 A:=
 ⟨⟨k.aJ.os.trans h.aJ.os,k.aJ.tape.trans h.aJ.tape,k.aJ.output.trans h.aJ.output,Nat.le_trans h.aJ.size k.aJ.size,fun i hi cY=>(k.aJ.block i (Nat.lt_of_lt_of_le hi h.aJ.size) cY).trans (h.aJ.block i hi cY)⟩⟩
structure zJ(a b:List Nat)(i:Nat)(ws:List Nat):Prop where
 len:ws.length=4
 at_:∀k,ws.getD k 0=if k<i then a.getD k 0|||b.getD k 0 else a.getD k 0
theorem zJ.start{a:List Nat}(ha:a.length=4)(b:List Nat):zJ a b 0 a:=⟨ha,fun k=>by rw[if_neg (by omega)]⟩
theorem zJ.step{a b ws:List Nat}{i:Nat}(h:zJ a b i ws)(hi:i<4):zJ a b (i+1) (ws.set i (ws.getD i 0|||b.getD i 0)):=by
 refine⟨by rw[List.length_set];exact h.len,fun k=>?_⟩
 rw[wv _ _ _ _ _ (by rw[h.len];exact hi)]
 by_cases e:k=i
 ·subst e
  rw[if_pos rfl,if_pos (by omega),h.at_,if_neg (by omega)]
 ·rw[if_neg e,h.at_]
  by_cases c:k<i
  ·rw[if_pos c,if_pos (by omega)]
  ·rw[if_neg c,if_neg (by omega)]
theorem zJ.words{s t:List Int}{i:Nat}{ws:List Nat}(h:zJ (ae s) (ae t) i ws):Words ws:=⟨h.len,fun k=>by
 rw[h.at_]
 split
 ·exact Nat.or_lt_two_pow ((af s).2 k) ((af t).2 k)
 ·exact(af s).2 k⟩
theorem zJ.done{s t:List Int}{ws:List Nat}(h:zJ (ae s) (ae t) 4 ws):ws=ae (s++t):=by
 refine wK h.words fun n hn=>?_
 unfold aV
 rw[h.at_,if_pos (by omega),Nat.testBit_or]
 have h1:=bh s n hn
 have h2:=bh t n hn
 unfold aV at h1 h2
 rw[h1,h2,←Bool.decide_or]
 exact decide_eq_decide.2 (by rw[List.mem_append])
theorem Mb(ws:List Nat)(i z:Nat):(setCells ws).set i (.int .u64 (z:Int))=setCells (ws.set i z):=by
 unfold setCells
 rw[List.map_set]
theorem P4{l l2:List Int}{w:World}{g:Nat}(hk:aE w g 107 (setCells (ae l))):
  dw Tryz.prog 137 [.pointer (some ⟨g,0,none⟩),bC l2] w fun v w'=>v= .tuple #[]∧aE w' g 107 (setCells (ae (l++l2)))∧bJ w w' (some ⟨g,0,none⟩):=by
 refine si (by simp) 100000 fun Q hQ=>?_
 have hgl:=hk.lt
 simp(disch:=omega)only[push_cast,aa,↓reduceIte,Nat.reduceEqDiff,Int.reduceEq,mj]
 refine au (aO _ (setCells (ae l2))) ?_
 intro w1 k1 b1 z1
 have k0:=hk.below b1 hk.lt
 simp(disch:=omega)only[push_cast,aa,↓reduceIte,Nat.reduceEqDiff,Int.reduceEq]
 refine ax (fun f w'=>∃(i:Nat) (ws:List Nat),i≤4∧(f 0= .pointer (some ⟨g,0,none⟩)∧f 3= .pointer (some ⟨w.heap.size,0,none⟩)∧f 5= .int .i64 i)∧zJ (ae l) (ae l2) i ws∧
   aE w' g 107 (setCells ws)∧aE w' w.heap.size 107 (setCells (ae l2))∧bJ w w' (some ⟨g,0,none⟩))
  (fun f _=>4-(intOf (f 5)).toNat) ⟨0,ae l,by omega,⟨rfl,rfl,rfl⟩,zJ.start (af l).1 _,k0,k1,bJ.xk b1 _⟩ ?_
 rintro f w2 ⟨i,ws,hi,fr,hw,kg,kb,gr⟩ J hJ
 by_cases aI:(i:Int)<4
 case neg=>
  have Vm:i=4:=by omega
  have hd:=(Vm▸hw:zJ _ _ 4 ws).done
  subst hd
  simp(disch:=omega)only[push_cast,aa,↓reduceIte,Nat.reduceEqDiff,Int.reduceEq,fp,fr,aI]
  exact qH (hQ _ _ ⟨rfl,kg,gr⟩)
 have Bp:i<4:=by omega
 have kgd:=kg.drew
 have kbd:=kb.drew
 have hx:ws.getD i 0<2^64:=hw.words.2 i
 have hy:=(af l2).2 i
 have aix:=hw.step Bp
 have hww:=hw.words
 generalize hu:ws.getD i 0=x at*
 generalize hv:(ae l2).getD i 0=y at*
 generalize hz:x|||y=z at*
 simp(disch:=omega)only[push_cast,aa,↓reduceIte,Nat.reduceEqDiff,Int.reduceEq,fp,fr,aI,Int.natCast_nonneg,Jr hz hx hy,kgd.uu hww dR i Bp hu,kbd.uu (af l2) dR i Bp hv]
 refine ft kgd (by kernel_rfl) i (by rw[br,hw.len];exact Bp) .u64 (z:Int) ?_
 intro w5 k5 g5 z5
 rw[Mb]at k5
 simp(disch:=omega)only[push_cast,aa,↓reduceIte,Nat.reduceEqDiff,Int.reduceEq,fr]
 exact hJ _ _ ⟨i+1,_,by omega,(by simp only[push_cast,↓reduceIte,Nat.reduceEqDiff,true_and,and_true,and_self,eq_self,fr]),aix,k5,kbd.grown g5.aJ (by simp;omega),(gr.trans' (bJ.xk ((Same.refl w2).drew.below _) _)).trans' g5⟩ (by simp only[push_cast,↓reduceIte,Nat.reduceEqDiff,intOf,fr];omega)
open Go.RowKit
section
variable {p:cO} {free:List Int} {st:Nat} (hm:p.m.bZ) (eU:p.m.aj=st) (h6:st≤6)
include hm eU h6
end
open Go.RowKit
theorem xm{l:List Int}{b:Int}(h:az l b):l.length≤b.toNat:=by
 have:=cP b.toNat (l.map Int.toNat) (by
  rw[List.nodup_iff_pairwise_ne,List.pairwise_map]
  exact(List.nodup_iff_pairwise_ne.1 (aW.nodup h.strict)).imp_of_mem fun{x y} hx hy F4 e=>F4 (by have:=h.mem hx;have:=h.mem hy;omega)) fun x hx=>by
  obtain⟨y,hy,rfl⟩:=List.mem_map.1 hx
  have:=h.mem hy;omega
 simpa using this
open Go.RowKit
noncomputable def DG(p:cO)(free tO:List Int):List Int:=pick fun x=>∃t,aW t∧(∀y∈t,y∈tO)∧x∈t∧Kp p free (iV p.m p.seen t)
open Go.RowKit
noncomputable def Ac(p:cO)(free node:List Int)(e:Int):List Int:=if e∈free then DG p free (cb p.m node e)else cb p.m node e
def P5(m:aN)(tO:List Int)(e s:Int):Prop:=∃t∈tO,cb m [s] e=[t]
noncomputable def nH(m:aN)(tO node:List Int)(e:Int):List Int:=node.filter fun s=> @decide (P5 m tO e s) (Classical.propDecidable _)
theorem Mc{m:aN}{tO node:List Int}{e s:Int}:s∈nH m tO node e↔s∈node∧P5 m tO e s:=by
 unfold nH
 rw[List.mem_filter]
 exact and_congr Iff.rfl (@decide_eq_true_iff _ (Classical.propDecidable _))
theorem Md{p:cO}{free tO:List Int}{b:Int}(h:az tO b):az (DG p free tO) b:=Br fun x ⟨_,_,h2,h3,_⟩=>(h.mem (h2 x h3)).2.1
theorem EN{p:cO}(hm:p.m.bZ)(free node:List Int)(e:Int):az (Ac p free node e) p.m.aj:=by
 unfold Ac
 split
 ·exact Md (gP hm _ _)
 ·exact gP hm _ _
open Go.RowKit
def vD(m:aN):Prop:=m.aB.length≤1∧∀s e:Int,0≤s→s<m.aj→0≤e→e<m.events→(cb m [s] e).length≤1
def zf(a b:cH):Prop:=a.bK=b.bK∧a.dI=b.dI
theorem YN{l:List Int}(hs:aW l)(h:¬l.length≤1):∃x y,x∈l∧y∈l∧x<y:=by
 match l,h with
 |[],h=>simp at h
 |[x],h=>simp at h
 |x :: y :: l,_=>exact⟨x,y,by simp,by simp,(List.pairwise_cons.1 hs).1 y (by simp)⟩
theorem EO{m:aN}(hm:m.bZ){i j:Nat}(D4:i<j)(hj:j<m.ag.length):(m.ag.getD i default).lt (m.ag.getD j default):=by
 have:=List.pairwise_iff_getElem.1 (bZ.ord hm) i j (by omega) hj D4
 rw[List.getD_eq_getElem?_getD,List.getD_eq_getElem?_getD,List.getElem?_eq_getElem (by omega:i<m.ag.length),List.getElem?_eq_getElem hj]
 exact this
theorem P6{m:aN}{a:cH}(h:a∈m.ag):∃i,i<m.ag.length∧m.ag.getD i default=a:=by
 obtain⟨i,hi,e⟩:=List.getElem_of_mem h
 exact⟨i,hi,by rw[List.getD_eq_getElem?_getD,List.getElem?_eq_getElem hi,e];rfl⟩
theorem Me{m:aN}(hm:m.bZ):vD m↔m.aB.length≤1∧∀i,0<i→i<m.ag.length→¬zf (m.ag.getD (i-1) default) (m.ag.getD i default):=by
 refine and_congr Iff.rfl ⟨fun h i h0 hi hk=>?_,fun h s e s0 s1 e0 e1=>Classical.byContradiction fun hn=>?_⟩
 ·have aI:=EO hm (show i-1<i by omega) hi
  have ha:=bY m.ag default (i-1) (by omega)
  have hb:=bY m.ag default i hi
  generalize m.ag.getD (i-1) default=a at*
  generalize m.ag.getD i default=b at*
  obtain⟨⟨a1,a2⟩,_,a5,a6⟩:=bZ.arr hm ha
  have hl:=h _ _ a1 a2 a5 a6
  have ma:a.dt∈cb m [a.bK] a.dI:=fB.2 ⟨a,ha,rfl,by simp,rfl⟩
  have mb:b.dt∈cb m [a.bK] a.dI:=fB.2 ⟨b,hb,hk.2.symm,by simp[hk.1],rfl⟩
  have cY:a.dt≠b.dt:=by
   unfold cH.lt at aI
   obtain⟨k1,k2⟩:=hk
   omega
  generalize cb m [a.bK] a.dI=l at*
  match l,hl with
  |[],_=>simp at ma
  |[x],_=>exact cY ((List.mem_singleton.1 ma).trans (List.mem_singleton.1 mb).symm)
 ·obtain⟨x,y,hx,hy,F4⟩:=YN (gP hm [s] e).strict hn
  obtain⟨a,ha,a1,a2,a3⟩:=fB.1 hx
  obtain⟨b,hb,b1,b2,b3⟩:=fB.1 hy
  rw[List.mem_singleton]at a2 b2
  obtain⟨i,hi,ei⟩:=P6 ha
  obtain⟨j,hj,ej⟩:=P6 hb
  have D4:i<j:=by
   rcases Nat.lt_trichotomy i j with c|c|c
   ·exact c
   ·subst c;rw[ei]at ej;rw[ej]at a3;omega
   ·have:=EO hm c hi
    rw[ei,ej]at this
    unfold cH.lt at this
    omega
  have h1:=EO hm (show i<i+1 by omega) (by omega)
  have hk:zf (m.ag.getD i default) (m.ag.getD (i+1) default):=by
   by_cases c:i+1=j
   ·rw[c,ei,ej];exact⟨a2.trans b2.symm,a1.trans b1.symm⟩
   ·have h2:=EO hm (show i+1<j by omega) hj
    rw[ei]at h1 ⊢
    rw[ej]at h2
    generalize m.ag.getD (i+1) default=c at*
    unfold cH.lt at h1 h2
    unfold zf
    omega
  exact h (i+1) (by omega) (by omega) (by rw[Nat.add_sub_cancel];exact hk)
theorem IV{w:World}{a:PV}{p:cO}(ha:tv (·<w.heap.size) w a p)(hm:p.m.bZ):
  dw Tryz.prog 71 [a.val p] w fun v w'=>(∃b:Bool,v= .bool b∧(b=true↔vD p.m))∧Below w.heap.size w w':=by
 have nA:=hm.2.2.2.2.1
 have Z5:=Me hm
 refine AG (by simp) 100000 fun Q hQ=>?_
 simp(disch:=omega)only[push_cast,aa,↓reduceIte,Nat.reduceEqDiff,Int.reduceEq,vX]
 refine au (aO _ (a.cells p)) ?_
 intro w1 k1 b1 z1
 by_cases c1:(1:Int)<(p.m.aB.length:Int)
 ·simp(disch:=omega)only[push_cast,aa,↓reduceIte,Nat.reduceEqDiff,Int.reduceEq,k1.p2,c1]
  exact aF (hQ _ _ ⟨⟨false,(by simp only[push_cast,↓reduceIte,Nat.reduceEqDiff,Int.reduceEq]),by rw[Z5];exact⟨fun h=>(by cases h),fun h=>absurd h.1 (by omega)⟩⟩,b1⟩)
 simp(disch:=omega)only[push_cast,aa,↓reduceIte,Nat.reduceEqDiff,Int.reduceEq,k1.p2,c1,k1.p3]
 refine ax (fun f w'=>∃i:Nat,i≤p.m.ag.length∧(f 1= .pointer (some ⟨w.heap.size,0,none⟩)∧f 12= .slice a.m.Aa p.m.ag.length a.m.ca∧f 13= .int .i64 p.m.ag.length∧f 14= .int .i64 i)∧(∀j,0<j→j<i→¬zf (p.m.ag.getD (j-1) default) (p.m.ag.getD j default))∧Below w1.heap.size w1 w')
  (fun f _=>p.m.ag.length-(intOf (f 14)).toNat) ⟨0,Nat.zero_le _,⟨rfl,rfl,rfl,rfl⟩,fun j h0 h1=>absurd h1 (by omega),Below.refl _ _⟩ ?_
 rintro f w2 ⟨i,hi,fr,jN,b2⟩ J hJ
 have bb:=b1.trans (b2.mono b1.size)
 by_cases aI:i<p.m.ag.length
 case neg=>
  obtain rfl:i=p.m.ag.length:=by omega
  simp(disch:=omega)only[push_cast,aa,↓reduceIte,Nat.reduceEqDiff,Int.reduceEq,lX,fr,Nat.lt_irrefl]
  exact aF (hQ _ _ ⟨⟨true,(by simp only[push_cast,↓reduceIte,Nat.reduceEqDiff,Int.reduceEq]),by rw[Z5];exact⟨fun _=>⟨by omega,jN⟩,fun _=>rfl⟩⟩,bb⟩)
 have hI:=(ha.up bb).m.ag
 have hA:=hI.isSome (by omega)
 simp(disch:=omega)only[push_cast,aa,↓reduceIte,Nat.reduceEqDiff,Int.reduceEq,lX,fr,aI,hI.CH vI bz]
 refine au sr ?_
 intro w3 k3 b3 z3
 simp(disch:=omega)only[push_cast,aa,↓reduceIte,Nat.reduceEqDiff,Int.reduceEq,fr]
 refine aC k3 (cs:=ay (p.m.ag.getD i default)) bz rfl (by simp[ay,Value.oneCell']) ?_
 intro w4 k4 g4 z4
 have b4:Below w2.heap.size w2 w4:=g4.below b3 (by omega) (by intro a ha;injection ha with ha;subst ha;exact Nat.le_refl _)
 have bd:Below w4.heap.size w4 w4.drew:=(Same.refl w4).drew.below _
 have b24:=b4.trans (bd.mono b4.size)
 have BG:=b2.trans (b24.mono b2.size)
 have kh:=b1.trans (BG.mono b1.size)
 have kP:=k1.below BG k1.lt
 replace k4:=k4.below bd k4.lt
 generalize hu:w4.drew=u at*
 by_cases h0:(0:Int)<(i:Int)
 case neg=>
  have hz:i=0:=by omega
  simp(disch:=omega)only[push_cast,aa,↓reduceIte,Nat.reduceEqDiff,Int.reduceEq,fr,hu,h0]
  exact hJ _ _ ⟨i+1,aI,(by simp only[push_cast,↓reduceIte,Nat.reduceEqDiff,true_and,and_true,and_self,eq_self,fr]),fun j h1 h2=>absurd h2 (by omega),BG⟩ (by simp only[push_cast,↓reduceIte,Nat.reduceEqDiff,intOf,fr];omega)
 obtain⟨i1,hi1⟩:∃i1:Nat,i=i1+1:=⟨i-1,by omega⟩
 have P7:i1<p.m.ag.length:=by omega
 have e1:(i:Int)-1=(i1:Int):=by omega
 have hIu:=(ha.up kh).m.ag
 have Nf:=fun{K f d w}=>hIu.Nf (P:=Tryz.prog) (K:=K) (f:=f) (d:=d) (w:=w) ak i1 P7
 have YO:∀{K:Fr→World→Prop} {f:Fr} {d:Option Nat} {w:World},aq Tryz.prog K (Instr.loadAt 3 (.pointer (some (eA a.m.Aa (i1*3+0))))) u f d w=K (ai f d (.int .i64 (p.m.ag.getD i1 default).bK)) w:=fun{K f d w}=>Nf
 have ld1:=fun{K f d w}=>hIu.ld1 (P:=Tryz.prog) (K:=K) (f:=f) (d:=d) (w:=w) ak i1 P7
 have hky:zf (p.m.ag.getD (i-1) default) (p.m.ag.getD i default)↔(p.m.ag.getD i1 default).bK=(p.m.ag.getD i default).bK∧(p.m.ag.getD i1 default).dI=(p.m.ag.getD i default).dI:=by
  rw[show i-1=i1 by omega];exact Iff.rfl
 have VE:¬zf (p.m.ag.getD (i-1) default) (p.m.ag.getD i default)→∀j,0<j→j<i+1→¬zf (p.m.ag.getD (j-1) default) (p.m.ag.getD j default):=fun hn j h1 h2=>by
  by_cases c:j=i
  ·rw[c];exact hn
  ·exact jN j h1 (by omega)
 have Eo:zf (p.m.ag.getD (i-1) default) (p.m.ag.getD i default)→¬vD p.m:=fun hk hp=>(Z5.1 hp).2 i (by omega) aI hk
 generalize p.m.ag.getD i1 default=x at*
 generalize p.m.ag.getD i default=y at*
 by_cases q1:x.bK=y.bK
 case neg=>
  simp(disch:=omega)only[push_cast,aa,↓reduceIte,Nat.reduceEqDiff,Int.reduceEq,fr,hu,h0,kP.p3,e1,P7,hA,Nf,YO,k4.a0 ak,q1]
  exact hJ _ _ ⟨i+1,aI,(by simp only[push_cast,↓reduceIte,Nat.reduceEqDiff,true_and,and_true,and_self,eq_self,fr]),VE fun hh=>q1 (hky.1 hh).1,BG⟩ (by simp only[push_cast,↓reduceIte,Nat.reduceEqDiff,intOf,fr];omega)
 by_cases q2:x.dI=y.dI
 case neg=>
  simp(disch:=omega)only[push_cast,aa,↓reduceIte,Nat.reduceEqDiff,Int.reduceEq,fr,hu,h0,kP.p3,e1,P7,hA,Nf,YO,k4.a0 ak,q1,eq_self,ld1,k4.a1 ak,q2]
  exact hJ _ _ ⟨i+1,aI,(by simp only[push_cast,↓reduceIte,Nat.reduceEqDiff,true_and,and_true,and_self,eq_self,fr]),VE fun hh=>q2 (hky.1 hh).2,BG⟩ (by simp only[push_cast,↓reduceIte,Nat.reduceEqDiff,intOf,fr];omega)
 simp(disch:=omega)only[push_cast,aa,↓reduceIte,Nat.reduceEqDiff,Int.reduceEq,fr,hu,h0,kP.p3,e1,P7,hA,Nf,YO,k4.a0 ak,q1,eq_self,ld1,k4.a1 ak,q2]
 exact aF (hQ _ _ ⟨⟨false,(by simp only[push_cast,↓reduceIte,Nat.reduceEqDiff,Int.reduceEq]),⟨fun hh=>(by cases hh),fun hh=>absurd hh (Eo (hky.2 ⟨q1,q2⟩))⟩⟩,kh⟩)
open Go.RowKit
structure Mv where
 node:Nat
 dI:Int
 stay:List Int
 dt:Nat
structure VS where
 nodes:List (List Int)
 eQ:List Mv
def vM(x:List Int):List (List Int)→Nat
 |[]=>0
 |y :: l=>if y=x then 0 else vM x l+1
theorem P8{x:List Int}:∀{l:List (List Int)},x∈l→vM x l<l.length∧l[vM x l]? =some x
 |[],h=>by simp at h
 |y :: l,h=>by
  unfold vM
  by_cases c:y=x
  ·rw[if_pos c];exact⟨by simp,by simp[c]⟩
  ·rw[if_neg c]
   rcases List.mem_cons.1 h with h|h
   ·exact absurd h.symm c
   ·obtain⟨h1,h2⟩:=P8 h
    exact⟨by simp;omega,by simpa using h2⟩
theorem GN{x:List Int}:∀{l:List (List Int)},x∉l→vM x l=l.length
 |[],_=>rfl
 |y :: l,h=>by
  unfold vM
  rw[if_neg (fun c=>h (by simp[c])),GN (fun hh=>h (by simp[hh]))];rfl
theorem yp{x:List Int}:∀{l:List (List Int)} {i:Nat},l[i]? =some x→(∀j,j<i→l[j]?≠some x)→vM x l=i
 |[],i,h,_=>by simp at h
 |y :: l,i,h,hn=>by
  unfold vM
  cases i with
  |zero=>rw[if_pos (by simpa using h)]
  |succ i=>
   rw[if_neg (fun c=>hn 0 (by omega) (by simp[c])),yp (by simpa using h) fun j hj=>by simpa using hn (j+1) (by omega)]
section
variable (p:cO) (free:List Int)
noncomputable def vE(k:Nat)(st:VS)(e:Int):VS:=
 if nH p.m (Ac p free (st.nodes.getD k []) e) (st.nodes.getD k []) e=[]then st else
  ⟨if iV p.m p.seen (Ac p free (st.nodes.getD k []) e)∈st.nodes then st.nodes else st.nodes++[iV p.m p.seen (Ac p free (st.nodes.getD k []) e)],
   st.eQ++[⟨k,e,nH p.m (Ac p free (st.nodes.getD k []) e) (st.nodes.getD k []) e,vM (iV p.m p.seen (Ac p free (st.nodes.getD k []) e)) st.nodes⟩]⟩
noncomputable def bU:Nat→VS
 |0=>⟨[bg p],[]⟩
 |k+1=>p.seen.foldl (vE p free k) (bU k)
noncomputable def mK(k j:Nat):VS:=(p.seen.take j).foldl (vE p free k) (bU p free k)
end
section
variable {p:cO} {free:List Int}
theorem Cb(k:Nat):mK p free k 0=bU p free k:=rfl
theorem Mf(k:Nat):mK p free k p.seen.length=bU p free (k+1):=by unfold mK;rw[List.take_length];rfl
theorem IW(k:Nat){j:Nat}(hj:j<p.seen.length):mK p free k (j+1)=vE p free k (mK p free k j) (p.seen.getD j 0):=by
 unfold mK
 rw[bS _ (0:Int) j hj,List.foldl_append];rfl
theorem P9(k:Nat)(st:VS)(e:Int):st.nodes<+:(vE p free k st e).nodes:=by
 unfold vE
 split
 ·exact List.prefix_refl _
 ·dsimp only
  split
  ·exact List.prefix_refl _
  ·exact List.prefix_append _ _
structure px(p:cO)(st:VS):Prop where
 nodup:st.nodes.Nodup
 row:∀l∈st.nodes,az l p.m.aj
 pos:0<st.nodes.length
theorem px.step(hm:p.m.bZ){st:VS}(h:px p st)(k:Nat)(e:Int):px p (vE p free k st e):=by
 unfold vE
 split
 ·exact h
 ·refine⟨?_,?_,?_⟩
  ·dsimp only
   split
   ·exact h.nodup
   ·rename_i hn
    rw[List.nodup_append]
    exact⟨h.nodup,by simp,fun a ha b hb=>by rw[List.mem_singleton.1 hb];exact fun e=>hn (e▸ha)⟩
  ·dsimp only
   split
   ·exact h.row
   ·intro l hl
    rcases List.mem_append.1 hl with hl|hl
    ·exact h.row l hl
    ·rw[List.mem_singleton.1 hl];exact pf hm (gS (EN hm free _ _))
  ·dsimp only
   split
   ·exact h.pos
   ·simp
theorem px.fold(hm:p.m.bZ)(k:Nat):∀(es:List Int) {st:VS},px p st→px p (es.foldl (vE p free k) st)∧st.nodes<+:(es.foldl (vE p free k) st).nodes
 |[],_,h=>⟨h,List.prefix_refl _⟩
 |e :: es,st,h=>by
  have:=px.fold hm k es (h.step (free:=free) hm k e)
  exact⟨this.1,(P9 k st e).trans this.2⟩
theorem qz(hm:p.m.bZ):∀k,px p (bU p free k)
 |0=>⟨by simp[bU],fun l hl=>by
   have:l=bg p:=by simpa[bU]using hl
   rw[this];exact vu hm,by simp[bU]⟩
 |k+1=>(px.fold hm k p.seen (qz hm k)).1
theorem IX(hm:p.m.bZ)(k j:Nat):px p (mK p free k j)∧(bU p free k).nodes<+:(mK p free k j).nodes:=px.fold hm k _ (qz hm k)
theorem px.len{st:VS}(h:px p st)(h6:p.m.aj≤6):st.nodes.length≤64:=by
 have:(st.nodes.map qN).length≤64:=cP 64 _ (List.Pairwise.map _ (fun a b tB=>tB) (List.Pairwise.imp_of_mem (fun{x y} hx hy F4 e=>F4 (pd ((h.row x hx).more h6) ((h.row y hy).more h6) e)) h.nodup)) fun n hn=>by
  obtain⟨l,hl,rfl⟩:=List.mem_map.1 hn
  exact sC ((h.row l hl).more h6)
 simpa using this
theorem Ua{k:Nat}{st:VS}(h:st.nodes.length≤k)(e:Int):vE p free k st e=st:=by
 unfold vE
 rw[if_pos]
 have:st.nodes.getD k []=[]:=by rw[List.getD_eq_getElem?_getD,List.getElem?_eq_none h];rfl
 rw[this];simp[nH]
theorem Cc{k:Nat}:∀(es:List Int) {st:VS},st.nodes.length≤k→es.foldl (vE p free k) st=st
 |[],_,_=>rfl
 |e :: es,st,h=>by rw[List.foldl_cons,Ua h];exact Cc es h
theorem Cd{k:Nat}(h:(bU p free k).nodes.length≤k):∀n,k≤n→bU p free n=bU p free k:=by
 intro n
 induction n with
 |zero=>intro hk;rw[show k=0 by omega]
 |succ n ih=>
  intro hk
  rcases Nat.lt_or_ge n k with c|c
  ·rw[show k=n+1 by omega]
  ·have e:=ih c
   show p.seen.foldl (vE p free n) (bU p free n)=_
   rw[e,Cc _ (by omega)]
theorem IY{k k':Nat}(h:(bU p free k).nodes.length=k)(h':(bU p free k').nodes.length=k'):bU p free k=bU p free k':=by
 rw[←Cd (Nat.le_of_eq h) (max k k') (Nat.le_max_left _ _),Cd (Nat.le_of_eq h') (max k k') (Nat.le_max_right _ _)]
end
open Go.RowKit
theorem yq{s t:List Int}(hs:az s 6)(ht:az t 6)(h:bC s=bC t):s=t:=By ⟨hs.strict,hs.small (by decide)⟩ ⟨ht.strict,ht.small (by decide)⟩ h
def SMap(w:World)(g:Nat)(φ:List Int→Option Int):Prop:=∃kv,df Tryz.prog 107 w g kv∧∀s v,az s 6→((bC s,v)∈kv↔∃x,φ s=some x∧v= .int .i64 x)
def zK(φ:List Int→Option Int)(s:List Int)(x:Int):List Int→Option Int:=fun t=>if t=s then some x else φ t
section
variable {w w':World} {g:Nat} {φ:List Int→Option Int}
theorem SMap.lt(h:SMap w g φ):g<w.heap.size:=by obtain⟨kv,h1,_⟩:=h;exact h1.lt
theorem SMap.keep(h:SMap w g φ)(hk:w'.heap[g]? =w.heap[g]?):SMap w' g φ:=by obtain⟨kv,h1,h2⟩:=h;exact⟨kv,h1.keep hk,h2⟩
theorem SMap.below{B:Nat}(h:SMap w g φ)(hb:Below B w w')(hB:g<B):SMap w' g φ:=h.keep (hb.block g hB)
theorem SMap.empty(h:df Tryz.prog 107 w g []):SMap w g fun _=>none:=⟨[],h,fun s v _=>by simp⟩
theorem SMap.grown{row:Option Nat}(h:SMap w g φ)(hb:w.grownBy w' row)(hg:some g≠row):SMap w' g φ:=h.keep (hb.block g h.lt hg)
section
variable {K:Fr→World→Prop} {f:Fr} {d:Option Nat} {u:World}
theorem Ub:Tryz.prog.underlying 137=some (.map 107 3):=Tryz.underlying137
theorem VF:(Tryz.prog.info? 3).map (·.zero)=some (some (.int .i64 0)):=by kernel_rfl
theorem SMap.look(h:SMap u g φ){s:List Int}(hs:az s 6):aq Tryz.prog K (Instr.lookup 137 (.map (some g)) (bC s) false) u f d w=K (ai f d (.int .i64 ((φ s).getD 0))) w:=by
 have h3:aq Tryz.prog (fun f' _=>f' 0= .int .i64 ((φ s).getD 0)) (Instr.lookup 137 (.map (some g)) (bC s) false) u f (some 0) u:=by
  obtain⟨kv,hm,h2⟩:=h
  refine ph eT Ub VF false hm (jD s) (fun v hv=>?_) fun gY=>?_
  ·obtain⟨x,hx,rfl⟩:=(h2 s v hs).1 hv
   rw[hx];rfl
  ·cases hφ:φ s with
   |none=>rfl
   |some x=>exact absurd rfl (gY _ ((h2 s _ hs).2 ⟨x,hφ,rfl⟩))
 obtain⟨v',hr,hv⟩:=h3
 have HH:v'= .int .i64 ((φ s).getD 0):=hv
 rw[←HH]
 exact aM u f d w hr
theorem SMap.adp(h:SMap u g φ){s:List Int}(hs:az s 6):aq Tryz.prog K (Instr.lookup 137 (.map (some g)) (bC s) true) u f d w=K (ai f d (.tuple #[.int .i64 ((φ s).getD 0),.bool (φ s).isSome])) w:=by
 have h3:aq Tryz.prog (fun f' _=>f' 0= .tuple #[.int .i64 ((φ s).getD 0),.bool (φ s).isSome]) (Instr.lookup 137 (.map (some g)) (bC s) true) u f (some 0) u:=by
  obtain⟨kv,hm,h2⟩:=h
  refine ph eT Ub VF true hm (jD s) (fun v hv=>?_) fun gY=>?_
  ·obtain⟨x,hx,rfl⟩:=(h2 s v hs).1 hv
   rw[hx];rfl
  ·cases hφ:φ s with
   |none=>rfl
   |some x=>exact absurd rfl (gY _ ((h2 s _ hs).2 ⟨x,hφ,rfl⟩))
 obtain⟨v',hr,hv⟩:=h3
 have HH:v'= .tuple #[.int .i64 ((φ s).getD 0),.bool (φ s).isSome]:=hv
 rw[←HH]
 exact aM u f d w hr
theorem SMap.Qa(h:SMap w g φ){kv:List (Value×Value)}(h2:∀s v,az s 6→((bC s,v)∈kv↔∃x,φ s=some x∧v= .int .i64 x)){s:List Int}(hs:az s 6)(hn:φ s=none):∀p∈kv,p.1≠bC s:=fun p hp e=>by
 obtain⟨x,hx,_⟩:=(h2 s p.2 hs).1 (by rw[←e];exact hp)
 rw[hn]at hx;cases hx
theorem SMap.put(h:SMap w g φ){s:List Int}(hs:az s 6)(x:Int)(h1:∀w',SMap w' g (zK φ s x)→bJ w w' (some ⟨g,0,none⟩)→w'.heap.size=w.heap.size→K (ai f d undef) w'):
  cG Tryz.prog K (do Instr.mapUpdate 137 (.map (some g)) (bC s) (.int .i64 x);pure undef) f d w:=by
 have h0:=h
 obtain⟨kv,hm,h2⟩:=h
 cases hφ:φ s with
 |none=>
  refine tF eT Ub hm (jD s) (h0.Qa h2 hs hφ) _ fun w' m' g' z'=>h1 w' ⟨_,m',fun t v ht=>?_⟩ g' z'
  rw[List.mem_append,List.mem_singleton,Prod.mk.injEq]
  unfold zK
  by_cases c:t=s
  ·subst c
   rw[if_pos rfl]
   constructor
   ·rintro(hh|⟨_,rfl⟩)
    ·exact absurd rfl (h0.Qa h2 hs hφ _ hh)
    ·exact⟨x,rfl,rfl⟩
   ·rintro⟨y,hy,rfl⟩
    injection hy with hy
    exact .inr ⟨rfl,by rw[hy]⟩
  ·rw[if_neg c,←h2 t v ht]
   constructor
   ·rintro(hh|⟨hh,_⟩)
    ·exact hh
    ·exact absurd (yq ht hs hh) c
   ·exact .inl
 |some old=>
  have fN:(bC s,Value.int .i64 old)∈kv:=(h2 s _ hs).2 ⟨old,hφ,rfl⟩
  refine JC eT Ub hm (jD s) fN _ fun j w' hj m' g' z'=>h1 w' ⟨_,m',fun t v ht=>?_⟩ g' z'
  have mw:=(List.getElem?_eq_some_iff.1 hj).1
  obtain⟨_,_,_,_,_,Cq⟩:=m'
  have VG:(bC s,Value.int .i64 x)∈kv.set j (bC s,.int .i64 x):=List.mem_of_getElem? (List.getElem?_set_self mw)
  unfold zK
  by_cases c:t=s
  ·subst c
   rw[if_pos rfl]
   constructor
   ·intro hh
    exact⟨x,rfl,Bw Cq hh VG⟩
   ·rintro⟨y,hy,rfl⟩
    injection hy with hy
    rw[←hy];exact VG
  ·rw[if_neg c,←h2 t v ht]
   constructor
   ·intro hh
    obtain⟨i,hi⟩:=List.mem_iff_getElem?.1 hh
    by_cases ci:j=i
    ·subst ci
     rw[List.getElem?_set_self mw]at hi
     injection hi with hi
     injection hi with hi _
     exact absurd (yq hs ht hi).symm c
    ·rw[List.getElem?_set_ne ci]at hi
     exact List.mem_of_getElem? hi
   ·intro hh
    obtain⟨i,hi⟩:=List.mem_iff_getElem?.1 hh
    by_cases ci:j=i
    ·subst ci
     rw[hj]at hi
     injection hi with hi
     injection hi with hi _
     exact absurd (yq hs ht hi).symm c
    ·exact List.mem_of_getElem? (by rw[List.getElem?_set_ne ci];exact hi)
end
end
open Go.RowKit
def Kl(p:cO)(free:List Int)(φ:List Int→Option Int):Prop:=∀s x,az s 6→φ s=some x→(x=1∧Kp p free s)∨(x=2∧¬Kp p free s)
theorem Kl.put{p:cO}{free:List Int}{φ:List Int→Option Int}(h:Kl p free φ){s:List Int}{x:Int}(hx:(x=1∧Kp p free s)∨(x=2∧¬Kp p free s)):Kl p free (zK φ s x):=fun t y ht hy=>by
 unfold zK at hy
 by_cases c:t=s
 ·subst c;rw[if_pos rfl]at hy;injection hy with hy;subst hy;exact hx
 ·rw[if_neg c]at hy;exact h t y ht hy
def Uc(p:cO)(free s t:List Int):Prop:=∃u:List Int,(∀e∈u,e∈P3 p free)∧t=u.foldl (bo p) s
theorem Uc.refl(p:cO)(free s:List Int):Uc p free s s:=⟨[],by simp,rfl⟩
theorem Uc.next{p:cO}{free s t:List Int}(h:Uc p free s t){e:Int}(he:e∈P3 p free):Uc p free s (bo p t e):=by
 obtain⟨u,h1,rfl⟩:=h
 refine⟨u++[e],fun x hx=>?_,by rw[List.foldl_append];rfl⟩
 rcases List.mem_append.1 hx with hx|hx
 ·exact h1 x hx
 ·rw[List.mem_singleton.1 hx];exact he
theorem Uc.kp{p:cO}{free s t:List Int}(h:Uc p free s t)(hs:Kp p free s):Kp p free t:=by
 obtain⟨u,h1,rfl⟩:=h
 intro v hv
 rw[←List.foldl_append]
 exact hs (u++v) fun e he=>by
  rcases List.mem_append.1 he with he|he
  ·exact h1 e he
  ·exact hv e he
structure IZ(p:cO)(free s:List Int)(R:List (List Int))(i:Nat):Prop where
 nodup:R.Nodup
 row:∀t∈R,az t p.m.aj
 rch:∀t∈R,Uc p free s t
 self:s∈R
 le:i≤R.length
 seen:∀j t,j<i→R[j]? =some t→Kp p free t∨(¬dx t p.aK∧∀e∈P3 p free,bo p t e∈R)
theorem IZ.start{p:cO}{free s:List Int}(hs:az s p.m.aj):IZ p free s [s] 0:=
 ⟨by simp,fun t ht=>by rw[List.mem_singleton.1 ht];exact hs,fun t ht=>by rw[List.mem_singleton.1 ht];exact Uc.refl _ _ _,by simp,Nat.zero_le _,fun j t hj=>absurd hj (by omega)⟩
theorem IZ.add{p:cO}{free s:List Int}{R:List (List Int)}{i:Nat}(h:IZ p free s R i)(hm:p.m.bZ){t:List Int}(ht:t∈R){e:Int}(he:e∈P3 p free)(hn:bo p t e∉R):IZ p free s (R++[bo p t e]) i:=by
 refine⟨?_,?_,?_,List.mem_append_left _ h.self,by have:=h.le;rw[List.length_append];omega,fun j x hj hx=>?_⟩
 ·rw[List.nodup_append]
  exact⟨h.nodup,by simp,fun a ha b hb=>by rw[List.mem_singleton.1 hb];exact fun e=>hn (e▸ha)⟩
 ·intro x hx
  rcases List.mem_append.1 hx with hx|hx
  ·exact h.row x hx
  ·rw[List.mem_singleton.1 hx];exact Bt hm _ _ _
 ·intro x hx
  rcases List.mem_append.1 hx with hx|hx
  ·exact h.rch x hx
  ·rw[List.mem_singleton.1 hx];exact(h.rch t ht).next he
 ·rw[List.getElem?_append_left (by have:=h.le;omega)]at hx
  rcases h.seen j x hj hx with k|⟨k1,k2⟩
  ·exact .inl k
  ·exact .inr ⟨k1,fun e he=>List.mem_append_left _ (k2 e he)⟩
theorem IZ.next{p:cO}{free s:List Int}{R:List (List Int)}{i:Nat}(h:IZ p free s R i){t:List Int}(ht:R[i]? =some t)(hk:Kp p free t∨(¬dx t p.aK∧∀e∈P3 p free,bo p t e∈R)):IZ p free s R (i+1):=
 ⟨h.nodup,h.row,h.rch,h.self,(List.getElem?_eq_some_iff.1 ht).1,fun j x hj hx=>by
  by_cases c:j=i
  ·subst c;rw[ht]at hx;injection hx with hx;subst hx;exact hk
  ·exact h.seen j x (by omega) hx⟩
theorem IZ.len{p:cO}{free s:List Int}{R:List (List Int)}{i:Nat}(h:IZ p free s R i)(h6:p.m.aj≤6):R.length≤64:=by
 have:(R.map qN).length≤64:=cP 64 _ (List.Pairwise.map _ (fun a b tB=>tB) (List.Pairwise.imp_of_mem (fun{x y} hx hy F4 e=>F4 (pd ((h.row x hx).more h6) ((h.row y hy).more h6) e)) h.nodup)) fun n hn=>by
  obtain⟨l,hl,rfl⟩:=List.mem_map.1 hn
  exact sC ((h.row l hl).more h6)
 simpa using this
theorem IZ.done{p:cO}{free s:List Int}{R:List (List Int)}(h:IZ p free s R R.length):∀t∈R,Kp p free t:=fun t ht=>by
 refine Kp.of (G:=fun t=>t∈R∨Kp p free t) ?_ ?_ (.inl ht)
 ·rintro x (hx|hx)
  ·obtain⟨j,hj⟩:=List.mem_iff_getElem?.1 hx
   rcases h.seen j x (List.getElem?_eq_some_iff.1 hj).1 hj with k|k
   ·exact k.self
   ·exact k.1
  ·exact hx.self
 ·rintro x (hx|hx) e he
  ·obtain⟨j,hj⟩:=List.mem_iff_getElem?.1 hx
   rcases h.seen j x (List.getElem?_eq_some_iff.1 hj).1 hj with k|k
   ·exact .inr (k.next he)
   ·exact .inl (k.2 e he)
  ·exact .inr (hx.next he)
open Go.RowKit
structure cF(g:Nat)(w w':World):Prop where
 os:w'.os=w.os
 tape:w'.tape=w.tape
 output:w'.output=w.output
 size:w.heap.size≤w'.heap.size
 block:∀b,b<w.heap.size→b≠g→w'.heap[b]? =w.heap[b]?
section
variable {g:Nat} {w w' w2:World}
theorem cF.refl(g:Nat)(w:World):cF g w w:=⟨rfl,rfl,rfl,Nat.le_refl _,fun _ _ _=>rfl⟩
theorem cF.trans(h:cF g w w')(k:cF g w' w2):cF g w w2:=⟨k.os.trans h.os,k.tape.trans h.tape,k.output.trans h.output,Nat.le_trans h.size k.size,fun b hb cY=>(k.block b (Nat.lt_of_lt_of_le hb h.size) cY).trans (h.block b hb cY)⟩
theorem cF.of(h:Below w.heap.size w w'):cF g w w':=⟨h.os,h.tape,h.output,h.size,fun b hb _=>h.block b hb⟩
theorem cF.below{B:Nat}(h:cF g w w')(b:Below B w' w2)(hB:w'.heap.size≤B):cF g w w2:=h.trans ⟨b.os,b.tape,b.output,b.size,fun x hx _=>b.block x (Nat.lt_of_lt_of_le hx hB)⟩
theorem cF.bQ{A:Option Addr}(h:cF g w w')(hg:bJ w' w2 A)(hA:∀a,A=some a→w.heap.size≤a.block):cF g w w2:=
 ⟨hg.aJ.os.trans h.os,hg.aJ.tape.trans h.tape,hg.aJ.output.trans h.output,Nat.le_trans h.size hg.aJ.size,fun b hb cY=>by
  rw[hg.aJ.block b (Nat.lt_of_lt_of_le hb h.size) (by
   cases A with
   |none=>simp
   |some a=>have:=hA a rfl;simp only[Option.map_some,ne_eq,Option.some.injEq];omega)]
  exact h.block b hb cY⟩
theorem cF.self{o:Nat}(h:cF g w w')(hg:bJ w' w2 (some ⟨g,o,none⟩)):cF g w w2:=
 ⟨hg.aJ.os.trans h.os,hg.aJ.tape.trans h.tape,hg.aJ.output.trans h.output,Nat.le_trans h.size hg.aJ.size,fun b hb cY=>by
  rw[hg.aJ.block b (Nat.lt_of_lt_of_le hb h.size) (by simp only[Option.map_some,ne_eq,Option.some.injEq];exact cY)]
  exact h.block b hb cY⟩
theorem cF.GO{B:Nat}{w0:World}(k:cF g w w')(b:Below B w0 w)(hB:B≤w.heap.size)(hg:B≤g):Below B w0 w':=
 ⟨k.os.trans b.os,k.tape.trans b.tape,k.output.trans b.output,Nat.le_trans b.size k.size,fun x hx=>(k.block x (by omega) (by omega)).trans (b.block x hx)⟩
theorem aE.cV{x t:Nat}{cs:List Value}(h:aE w x t cs)(k:cF g w w')(cY:x≠g):aE w' x t cs:=by unfold aE at*;rw[k.block x (by have:=h;exact(Array.getElem?_eq_some_iff.1 h).1) cY];exact h
theorem tv.cV{B:Nat}{a:PV}{p:cO}(h:tv (·<B) w a p)(k:cF g w w')(hB:B≤g)(hw:B≤w.heap.size):tv (·<B) w' a p:=h.keep fun b hb=>k.block b (Nat.lt_of_lt_of_le hb hw) (by omega)
theorem Ints.Qb{B:Nat}{A:Option Addr}{l:List Int}(h:Ints (·<B) w A l)(k:cF g w w')(hB:B≤g)(hw:B≤w.heap.size):Ints (·<B) w' A l:=h.keep fun b hb=>k.block b (Nat.lt_of_lt_of_le hb hw) (by omega)
end
theorem Own.dB{B e sz c n g:Nat}{w:World}{A:Option Addr}{xs:List Value}(h:Own B e sz w A c n xs)(hg:g<B):some g≠A.map (·.block):=by
 intro e
 cases A with
 |none=>cases e
 |some a=>
  have e':g=a.block:=Option.some.inj e
  have:=h.uh a rfl
  omega
abbrev I0(a:PV)(p:cO)(A:Option Addr)(free:List Int)(c gM:Nat):List Value:=[.int .i64 p.m.aj,.int .i64 p.m.events,.slice a.m.As p.m.aB.length a.m.cs,.slice a.m.Aa p.m.ag.length a.m.ca,.slice a.m.Ae p.m.ends.length a.m.ce,.slice a.Ap p.seen.length a.cp,.slice a.Aq p.aK.length a.cq,.slice A free.length c,.map (some gM)]
section
variable {K:Fr→World→Prop} {u:World} {f:Fr} {d:Option Nat} {w:World} {g t:Nat} {a:PV} {p:cO} {A:Option Addr} {free:List Int} {c gM:Nat}
theorem aE.kM(h:aE u g t (I0 a p A free c gM)):aq Tryz.prog K (Instr.loadAt 137 (.pointer (some ⟨g,8,none⟩))) u f d w=K (ai f d (.map (some gM))) w:=h.ld KP 8 (by simp)
theorem aE.kF(h:aE u g t (I0 a p A free c gM)):aq Tryz.prog K (Instr.loadAt 24 (.pointer (some ⟨g,7,none⟩))) u f d w=K (ai f d (.slice A free.length c)) w:=h.ld aS 7 (by simp)
theorem aE.kS(h:aE u g t (I0 a p A free c gM)):aq Tryz.prog K (Instr.loadAt 24 (.pointer (some ⟨g,6,none⟩))) u f d w=K (ai f d (.slice a.Aq p.aK.length a.cq)) w:=h.ld aS 6 (by simp)
theorem aE.kE(h:aE u g t (I0 a p A free c gM)):aq Tryz.prog K (Instr.loadAt 24 (.pointer (some ⟨g,5,none⟩))) u f d w=K (ai f d (.slice a.Ap p.seen.length a.cp)) w:=h.ld aS 5 (by simp)
theorem aE.kP(h:aE u g t (I0 a p A free c gM)):aq Tryz.prog K (Instr.loadAt 67 (.pointer (some ⟨g,0,none⟩))) u f d w=K (ai f d (a.val p)) w:=
 h.oZ A3 0 (vs:=a.cells p) wh fun k v hv=>by
  match k,hv with
  |0,hv=>exact hv
  |1,hv=>exact hv
  |2,hv=>exact hv
  |3,hv=>exact hv
  |4,hv=>exact hv
  |5,hv=>exact hv
  |6,hv=>exact hv
  |k+7,hv=>simp[PV.cells]at hv
end
def GP(p:cO)(free s:List Int)(gM:Nat)(w:World)(v:Value)(w':World):Prop:=
 (∃b:Bool,v= .bool b∧(b=true↔Kp p free s))∧(∃φ,Kl p free φ∧SMap w' gM φ)∧cF gM w w'
theorem Ce{w:World}{a:PV}{p:cO}(ha:tv (·<w.heap.size) w a p)(hf:p.Fits)(hp:p.bZ){A1:Option Addr}{c1:Nat}{free:List Int}(h1:Ints (·<w.heap.size) w A1 free)(n1:free.length≤17592186043904)
  {gK gM:Nat}(hK:aE w gK 139 (I0 a p A1 free c1 gM)){φ:List Int→Option Int}(hφ:Kl p free φ)(hM:SMap w gM φ){s:List Int}(hs:az s p.m.aj):
  dw Tryz.prog 72 [.pointer (some ⟨gK,0,none⟩),bC s] w (GP p free s gM w):=by
 have hm:=hp.1
 have s6:az s 6:=hs.more hp.2.1
 have n8:p.seen.length≤8:=by have:=xm hp.2.2.1;have:=hm.2.2.2.1;omega
 refine qV (by simp) 1000000 fun Q hQ=>?_
 simp(disch:=omega)only[push_cast,aa,↓reduceIte,Nat.reduceEqDiff,Int.reduceEq,aaf]
 refine au (aO _ (setCells (ae s))) ?_
 intro w1 kS b1 z1
 have bd:Below w1.heap.size w1 w1.drew:=(Same.refl w1).drew.below _
 have b1d:=b1.trans (bd.mono b1.size)
 have Qc:=kS.below bd kS.lt
 have kK:=hK.below b1d hK.lt
 have mM:=hM.below b1d hM.lt
 generalize hu:w1.drew=u at*
 have lk:=fun{K f d w}=>mM.look (K:=K) (f:=f) (d:=d) (w:=w) s6
 have adq:w.heap.size≤u.heap.size:=b1d.size
 have g01:(0:Int)<1:=by decide
 have g02:(0:Int)<2:=by decide
 have W9:∀b,b<w.heap.size→b≠gM→u.heap[b]? =w.heap[b]? :=fun b hb _=>b1d.block b hb
 cases Ud:φ s with
 |some x=>
  have hx:=hφ s x s6 Ud
  rw[Ud]at lk
  have Mg:Below u.heap.size u u.drew:=(Same.refl u).drew.below _
  have kS3:=Qc.below Mg Qc.lt
  have kK3:=kK.below Mg kK.lt
  have mM3:=mM.below Mg mM.lt
  have b3:=b1d.trans (Mg.mono adq)
  generalize Bx:u.drew=u2 at*
  have lk3:=fun{K f d w}=>mM3.look (K:=K) (f:=f) (d:=d) (w:=w) s6
  rw[Ud]at lk3
  rcases hx with⟨rfl,hk⟩|⟨rfl,hk⟩
  ·simp(disch:=omega)only[push_cast,aa,↓reduceIte,Nat.reduceEqDiff,Int.reduceEq,hu,kK.kM,Qc.cM (af _) al aw,eC,lk,Option.getD_some,g01,g02,Bx,kK3.kM,kS3.cM (af _) al aw,lk3,g01,eq_self]
   exact aF (hQ _ _ ⟨⟨true,(by simp only[push_cast,↓reduceIte,Nat.reduceEqDiff,Int.reduceEq]),⟨fun _=>hk,fun _=>rfl⟩⟩,⟨φ,hφ,mM3⟩,cF.of b3⟩)
  ·simp(disch:=omega)only[push_cast,aa,↓reduceIte,Nat.reduceEqDiff,Int.reduceEq,hu,kK.kM,Qc.cM (af _) al aw,eC,lk,Option.getD_some,g01,g02,Bx,kK3.kM,kS3.cM (af _) al aw,lk3]
   exact aF (hQ _ _ ⟨⟨false,(by simp only[push_cast,↓reduceIte,Nat.reduceEqDiff,Int.reduceEq]),⟨fun h=>(by cases h),fun h=>absurd h hk⟩⟩,⟨φ,hφ,mM3⟩,cF.of b3⟩)
 |none=>
 rw[Ud]at lk
 simp(disch:=omega)only[push_cast,aa,↓reduceIte,Nat.reduceEqDiff,Int.reduceEq,hu,kK.kM,Qc.cM (af _) al aw,eC,lk,Option.getD_none,ea dc tt _ (by decide)]
 have o2:=zT dc u s 107
 have b2:Below u.heap.size u (u.alloc (.cells (vk s).toArray 107)):=(Below.refl _ _).alloc (Nat.le_refl _) _
 generalize u.alloc (.cells (vk s).toArray 107)=w2 at*
 have hz2:=b2.size
 have I1:=b1d.trans (b2.mono adq)
 replace Qc:=Qc.below b2 Qc.lt
 replace o2:=o2.base (B':=w.heap.size+1) (by have:=bd.size;omega)
 simp(disch:=omega)only[push_cast,aa,↓reduceIte,Nat.reduceEqDiff,Int.reduceEq,lf]
 refine pg (k:=107) _ ?_
 intro w3 m3 b3 z3
 have MS:=I1.trans (b3.mono I1.size)
 have kS3:=Qc.below b3 Qc.lt
 have o3:=o2.below b3 (Nat.le_refl _)
 have Xr:=SMap.empty m3
 have lM3:=Xr.lt
 generalize hgN:w2.heap.size=gN at*
 have hN:w.heap.size≤gN:=by rw[←hgN];exact I1.size
 have hN2:w.heap.size<gN:=by rw[←hgN];exact Qc.lt
 simp(disch:=omega)only[push_cast,aa,↓reduceIte,Nat.reduceEqDiff,Int.reduceEq,wR,kS3.cM (af _) al aw]
 refine Xr.put s6 1 ?_
 intro w4 m4 g4 z4
 have I2:=g4.below MS MS.size (by intro a ha;injection ha with ha;subst ha;exact hN)
 simp(disch:=omega)only[push_cast,aa,↓reduceIte,Nat.reduceEqDiff,Int.reduceEq]
 have o4:=o3.bQ g4 (.inr (fun e=>by
  have h1:=(Xr:SMap w3 gN _).lt
  obtain⟨kv,YP,_⟩:=Xr
  exact YP.gG o3 e.symm))
 have hg0:∀t,az t 6→zK (fun _=>none) s 1 t=if t∈[s]then some 1 else none:=fun t _=>by
  unfold zK
  by_cases c:t=s
  ·rw[if_pos c,if_pos (by simp[c])]
  ·rw[if_neg c,if_neg (by simpa using c)]
 have hR0:=IZ.start (free:=free) hs
 refine ax (fun f w'=>∃(i:Nat) (R:List (List Int)) (A:Option Addr) (c:Nat) (ψ:List Int→Option Int),IZ p free s R i∧(f 0= .pointer (some ⟨gK,0,none⟩)∧f 3= .pointer (some ⟨w.heap.size,0,none⟩)∧f 5= .slice A R.length c∧f 6= .map (some gN)∧f 7= .int .i64 i)∧
   bH vk (w.heap.size+1) 107 4 w' A c R∧SMap w' gN ψ∧(∀t,az t 6→ψ t=if t∈R then some 1 else none)∧aE w' w.heap.size 107 (setCells (ae s))∧Below w.heap.size w w')
  (fun f _=>65-(intOf (f 7)).toNat) ⟨0,[s],_,1,_,hR0,⟨rfl,rfl,rfl,rfl,rfl⟩,o4,m4,hg0,?_,I2⟩ ?_
 ·exact kS3.grown g4.aJ (by simp;omega)
 clear o4 m4 hg0 hR0 I2 g4 o3 Xr MS kS3
 rintro f w5 ⟨i,R,A,c,ψ,hR,fr,ho,mN,hψ,kS5,b5⟩ J hJ
 have LY:=b5.size
 have YQ:=hK.below b5 hK.lt
 have mM5:=hM.below b5 hM.lt
 have hRl:=hR.len hp.2.1
 by_cases nG:i<R.length
 case neg=>
  have Vm:i=R.length:=by have:=hR.le;omega
  subst Vm
  have jZ:=hR.done
  have hks:=jZ s hR.self
  simp(disch:=omega)only[push_cast,aa,↓reduceIte,Nat.reduceEqDiff,Int.reduceEq,dG,fr,Nat.lt_irrefl]
  refine ax (fun f w'=>∃(k:Nat) (χ:List Int→Option Int),k≤R.length∧(f 0= .pointer (some ⟨gK,0,none⟩)∧f 112= .slice A R.length c∧f 113= .int .i64 R.length∧f 114= .int .i64 k)∧Kl p free χ∧SMap w' gM χ∧cF gM w5 w')
   (fun f _=>R.length-(intOf (f 114)).toNat) ⟨0,φ,Nat.zero_le _,(by simp only[push_cast,↓reduceIte,Nat.reduceEqDiff,true_and,and_true,and_self,eq_self,fr]),hφ,mM5,cF.refl _ _⟩ ?_
  clear fr
  rintro f w6 ⟨k,χ,hk,fr,hχ,Mh,hkm⟩ J2 jH
  have ZS:=hkm.size
  have hk6:=hkm.block
  by_cases Pk:k<R.length
  case neg=>
   obtain rfl:k=R.length:=by omega
   simp(disch:=omega)only[push_cast,aa,↓reduceIte,Nat.reduceEqDiff,Int.reduceEq,eV,fr,Nat.lt_irrefl]
   exact aF (hQ _ _ ⟨⟨true,(by simp only[push_cast,↓reduceIte,Nat.reduceEqDiff,Int.reduceEq]),⟨fun _=>hks,fun _=>rfl⟩⟩,⟨χ,hχ,Mh⟩,(cF.of b5).trans hkm⟩)
  obtain⟨t,ht⟩:∃t,R[k]? =some t:=⟨_,List.getElem?_eq_getElem Pk⟩
  have htm:=List.mem_of_getElem? ht
  have YR:az t 6:=(hR.row t htm).more hp.2.1
  have hRb:bq vk 4 (fun b=>w.heap.size≤b∧b<w5.heap.size) w5 A R:=((bH.fS ho dc (by decide)).both (bq.lt dc (by decide) (bH.fS ho dc (by decide)))).mono fun b hb=>⟨by have:=hb.1.1;omega,hb.2⟩
  have lM:=hM.lt
  have lK:=hK.lt
  have Vv:=hRb.keep fun b hb=>hk6 b hb.2 (by omega)
  have sA:=Vv.isSome (by omega)
  have ud:=fun{K:Fr→World→Prop} {f:Fr} {d:Option Nat} {w':World}=>Vv.dC (P:=Tryz.prog) (K:=K) (f:=f) (d:=d) (w:=w') dc al ht aw
  simp(disch:=omega)only[push_cast,aa,↓reduceIte,Nat.reduceEqDiff,Int.reduceEq,eV,fr,Pk,sA,ud]
  refine au (cs:=setCells (ae [])) cB ?_
  intro w7 k7 b7 z7
  simp(disch:=omega)only[push_cast,aa,↓reduceIte,Nat.reduceEqDiff,Int.reduceEq]
  refine aC k7 (cs:=setCells (ae t)) (bn _) (by rw[ao,ao]) (aH _) ?_
  intro w8 k8 g8 z8
  have b8:=g8.below b7 b7.size (by intro a ha;injection ha with ha;subst ha;exact Nat.le_refl _)
  have bd:Below w8.heap.size w8 w8.drew:=(Same.refl w8).drew.below _
  have b9:=b8.trans (bd.mono b8.size)
  have k9:=k8.below bd k8.lt
  have cY:gK≠gM:=by
   obtain⟨kv,YP,_⟩:=hM
   exact fun e=>YP.bG hK e.symm
  have Qd:aE w6 gK 139 (I0 a p A1 free c1 gM):=by
   unfold aE at YQ ⊢
   rw[hk6 gK (by omega) cY];exact YQ
  have YS:=Qd.below b9 (by omega)
  have mM9:=Mh.below b9 (by omega)
  have hz9:=b9.size
  generalize hu9:w8.drew=u9 at*
  simp(disch:=omega)only[push_cast,aa,↓reduceIte,Nat.reduceEqDiff,Int.reduceEq,fr,hu9,YS.kM,k9.cM (af _) al aw]
  refine mM9.put YR 1 ?_
  intro uv m10 g10 U6
  simp(disch:=omega)only[push_cast,aa,↓reduceIte,Nat.reduceEqDiff,Int.reduceEq,fr]
  exact jH _ _ ⟨k+1,_,Pk,(by simp only[push_cast,↓reduceIte,Nat.reduceEqDiff,true_and,and_true,and_self,eq_self,fr]),hχ.put (.inl ⟨rfl,jZ t htm⟩),m10,(hkm.below b9 (Nat.le_refl _)).self g10⟩ (by simp only[push_cast,↓reduceIte,Nat.reduceEqDiff,intOf,fr];omega)
 obtain⟨t,ht⟩:∃t,R[i]? =some t:=⟨_,List.getElem?_eq_getElem nG⟩
 have htm:=List.mem_of_getElem? ht
 have YR:az t 6:=(hR.row t htm).more hp.2.1
 have lM:=hM.lt
 have lK:=hK.lt
 have bd:Below w5.heap.size w5 w5.drew:=(Same.refl w5).drew.below _
 have b6:=b5.trans (bd.mono LY)
 have XX:=ho.below bd (Nat.le_refl _)
 have Qd:=hK.below b6 lK
 have Mh:=hM.below b6 lM
 have YT:=kS5.below bd kS5.lt
 have mN6:=mN.below bd mN.lt
 have ZS:=bd.size
 generalize hu6:w5.drew=u6 at*
 have Vv:=bq.lt dc (by decide) (bH.fS XX dc (by decide))
 have sA:=Vv.isSome (by omega)
 have ud:=fun{K:Fr→World→Prop} {f:Fr} {d:Option Nat} {w':World}=>Vv.dC (P:=Tryz.prog) (K:=K) (f:=f) (d:=d) (w:=w') dc al ht aw
 have lk6:∀{K:Fr→World→Prop} {f:Fr} {d:Option Nat} {w:World},aq Tryz.prog K (Instr.lookup 137 (.map (some gM)) (.agg (vk t).toArray) false) u6 f d w=K (ai f d (.int .i64 ((φ t).getD 0))) w:=fun{K f d w}=>Mh.look YR
 have gZ:(intOf (f 7)).toNat=i:=by rw[fr.2.2.2.2];simp[intOf]
 by_cases T6:(φ t).getD 0=1
 ·have hkt:Kp p free t:=by
   cases I3:φ t with
   |none=>rw[I3]at T6;cases T6
   |some x=>
    rw[I3]at T6
    have QQ:x=1:=T6
    rcases hφ t x YR I3 with⟨_,h⟩|⟨h,_⟩
    ·exact h
    ·omega
  simp(disch:=omega)only[push_cast,aa,↓reduceIte,Nat.reduceEqDiff,Int.reduceEq,dG,fr,nG,hu6,Qd.kM,sA,ud,eC,lk6,T6,eq_self]
  exact hJ _ _ ⟨i+1,R,A,c,ψ,hR.next ht (.inl hkt),(by simp only[push_cast,↓reduceIte,Nat.reduceEqDiff,true_and,and_true,and_self,eq_self,fr]),XX,mN6,hψ,YT,b6⟩ (by rw[gZ];simp only[push_cast,↓reduceIte,Nat.reduceEqDiff,intOf,fr];omega)
 simp(disch:=omega)only[push_cast,aa,↓reduceIte,Nat.reduceEqDiff,Int.reduceEq,dG,fr,nG,hu6,Qd.kM,sA,ud,eC,lk6,T6]
 have bd7:Below u6.heap.size u6 u6.drew:=(Same.refl u6).drew.below _
 have b7:=b6.trans (bd7.mono (by omega))
 have ho7:=XX.below bd7 (by omega)
 have kK7:=hK.below b7 lK
 have Ue:=hM.below b7 lM
 have kS7:=YT.below bd7 YT.lt
 have mN7:=mN6.below bd7 mN6.lt
 have hz7:=bd7.size
 generalize hu7:u6.drew=u7 at*
 have hR7:=bq.lt dc (by decide) (bH.fS ho7 dc (by decide))
 have sA7:=hR7.isSome (by omega)
 have Qe:=fun{K:Fr→World→Prop} {f:Fr} {d:Option Nat} {w':World}=>hR7.dC (P:=Tryz.prog) (K:=K) (f:=f) (d:=d) (w:=w') dc al ht aw
 have nQ:=hf.Oh
 simp(disch:=omega)only[push_cast,aa,↓reduceIte,Nat.reduceEqDiff,Int.reduceEq,fr,nG,hu7,kK7.kS,sA7,Qe]
 refine ah (fX (YR.small (by decide)) (ha.up b7).aK nQ (hp.2.2.2.small hm.2.1)) ?_
 rintro v w8 ⟨rfl,b8⟩
 have Hl:=b7.trans (b8.mono (by have:=b7.size;omega))
 have Z7:=ho7.below b8 (by have:=b7.size;omega)
 have kK8:=hK.below Hl lK
 have YU:=hM.below Hl lM
 have kS8:=kS7.below b8 kS7.lt
 have mN8:=mN7.below b8 mN7.lt
 have Eo:¬Kp p free t→¬Kp p free s:=fun hn hk=>hn ((hR.rch t htm).kp hk)
 have hz8:=Hl.size
 have bd9:Below w8.heap.size w8 w8.drew:=(Same.refl w8).drew.below _
 have b9:=Hl.trans (bd9.mono hz8)
 have YS:=hK.below b9 lK
 have mM9:=hM.below b9 lM
 have SS:=kS8.below bd9 kS8.lt
 by_cases ct:dx t p.aK
 ·simp(disch:=omega)only[push_cast,aa,↓reduceIte,Nat.reduceEqDiff,Int.reduceEq,fr,decide_eq_true ct]
  refine⟨b8,?_⟩
  generalize hu9:w8.drew=u9 at*
  simp(disch:=omega)only[push_cast,aa,↓reduceIte,Nat.reduceEqDiff,Int.reduceEq,fr,hu9,YS.kM,SS.cM (af _) al aw]
  refine mM9.put s6 2 ?_
  intro uv m10 g10 U6
  have hz9:=b9.size
  simp(disch:=omega)only[push_cast,aa,↓reduceIte,Nat.reduceEqDiff,Int.reduceEq,fr]
  exact aF (hQ _ _ ⟨⟨false,(by simp only[push_cast,↓reduceIte,Nat.reduceEqDiff,Int.reduceEq,fr]),⟨fun h=>(by cases h),fun h=>absurd h (Eo (Kp.DF ct))⟩⟩,⟨_,hφ.put (.inr ⟨rfl,Eo (Kp.DF ct)⟩),m10⟩,(cF.of b9).self g10⟩)
 have lk7:∀{K:Fr→World→Prop} {f:Fr} {d:Option Nat} {w:World},aq Tryz.prog K (Instr.lookup 137 (.map (some gM)) (.agg (vk t).toArray) false) u7 f d w=K (ai f d (.int .i64 ((φ t).getD 0))) w:=fun{K f d w}=>Ue.look YR
 simp(disch:=omega)only[push_cast,aa,↓reduceIte,Nat.reduceEqDiff,Int.reduceEq,fr,decide_eq_false ct]
 refine⟨b8,?_⟩
 by_cases MD:(φ t).getD 0=2
 ·have hkt:¬Kp p free t:=by
   cases I3:φ t with
   |none=>rw[I3]at MD;cases MD
   |some x=>
    rw[I3]at MD
    have QQ:x=2:=MD
    rcases hφ t x YR I3 with⟨h,_⟩|⟨_,h⟩
    ·omega
    ·exact h
  generalize hu9:w8.drew=u9 at*
  simp(disch:=omega)only[push_cast,aa,↓reduceIte,Nat.reduceEqDiff,Int.reduceEq,fr,kK7.kM,nG,sA7,Qe,eC,lk7,MD,eq_self,hu9,YS.kM,SS.cM (af _) al aw]
  refine mM9.put s6 2 ?_
  intro uv m10 g10 U6
  have hz9:=b9.size
  simp(disch:=omega)only[push_cast,aa,↓reduceIte,Nat.reduceEqDiff,Int.reduceEq,fr]
  exact aF (hQ _ _ ⟨⟨false,(by simp only[push_cast,↓reduceIte,Nat.reduceEqDiff,Int.reduceEq,fr]),⟨fun h=>(by cases h),fun h=>absurd h (Eo (hkt))⟩⟩,⟨_,hφ.put (.inr ⟨rfl,Eo (hkt)⟩),m10⟩,(cF.of b9).self g10⟩)
 clear YS mM9 SS b9 bd9
 simp(disch:=omega)only[push_cast,aa,↓reduceIte,Nat.reduceEqDiff,Int.reduceEq,fr,kK7.kM,nG,sA7,Qe,eC,lk7,MD,kK8.kE]
 have hkg:∀{R2:List (List Int)},R<+:R2→R2[i]? =some t:=fun h=>by rw[cJ h nG];exact ht
 refine ax (fun f' w'=>∃(j:Nat) (R2:List (List Int)) (A:Option Addr) (c:Nat) (ψ:List Int→Option Int),j≤p.seen.length∧R<+:R2∧IZ p free s R2 i∧(∀e∈p.seen.take j,e∉free→bo p t e∈R2)∧(f' 0= .pointer (some ⟨gK,0,none⟩)∧f' 3= .pointer (some ⟨w.heap.size,0,none⟩)∧f' 5= .slice A R2.length c∧f' 6= .map (some gN)∧f' 7= .int .i64 i∧f' 79= .slice a.Ap p.seen.length a.cp∧f' 80= .int .i64 p.seen.length∧f' 81= .int .i64 j)∧
   bH vk (w.heap.size+1) 107 4 w' A c R2∧SMap w' gN ψ∧(∀t,az t 6→ψ t=if t∈R2 then some 1 else none)∧aE w' w.heap.size 107 (setCells (ae s))∧Below w.heap.size w w')
  (fun f' _=>p.seen.length-(intOf (f' 81)).toNat) ⟨0,R,A,c,ψ,Nat.zero_le _,List.prefix_refl _,hR,fun e he=>by simp at he,(by simp only[push_cast,↓reduceIte,Nat.reduceEqDiff,true_and,and_true,and_self,eq_self,fr]),Z7,mN8,hψ,kS8,Hl⟩ ?_
 clear fr hR Z7 mN8 hψ kS8 Hl kK8 YU hRl
 rintro f w9 ⟨j,R2,A,c,ψ,hj,jN,hR,pD,fr,ho,mN,hψ,SS,b9⟩ J2 jH
 have hRl:=hR.len hp.2.1
 have aiG:i<R2.length:=Nat.lt_of_lt_of_le nG jN.length_le
 have Ie:=hkg jN
 by_cases mw:j<p.seen.length
 case neg=>
  obtain rfl:j=p.seen.length:=by omega
  rw[List.take_length]at pD
  have Oq:=hR.next Ie (.inr ⟨ct,fun e he=>pD e (EM.1 he).1 (EM.1 he).2⟩)
  simp(disch:=omega)only[push_cast,aa,↓reduceIte,Nat.reduceEqDiff,Int.reduceEq,eW,fr,Nat.lt_irrefl]
  exact hJ _ _ ⟨i+1,R2,A,c,ψ,Oq,(by simp only[push_cast,↓reduceIte,Nat.reduceEqDiff,true_and,and_true,and_self,eq_self,fr]),ho,mN,hψ,SS,b9⟩ (by rw[gZ];simp only[push_cast,↓reduceIte,Nat.reduceEqDiff,intOf,fr];omega)
 have hz9:=b9.size
 have YS:=hK.below b9 lK
 have hIs:=(ha.up b9).seen
 have sI:=hIs.isSome (by omega)
 have Pl:=fun{K f d w}=>hIs.ld (P:=Tryz.prog) (K:=K) (f:=f) (d:=d) (w:=w) ak j mw
 have hem:=bY p.seen 0 j mw
 have O5:=bS p.seen (0:Int) j mw
 generalize p.seen.getD j 0=e at*
 have ob:(intOf (f 81)).toNat=j:=by rw[fr.2.2.2.2.2.2.2];simp[intOf]
 simp(disch:=omega)only[push_cast,aa,↓reduceIte,Nat.reduceEqDiff,Int.reduceEq,eW,fr,mw,sI,Pl,YS.kF]
 refine ah (nt (h1.up b9) c1 e (by omega)) ?_
 rintro v uv ⟨rfl,s10⟩
 have fM:=s10.below w9.heap.size
 have adz:=ho.below fM (Nat.le_refl _)
 have YV:=mN.below fM mN.lt
 have YW:=SS.below fM SS.lt
 have adA:=b9.trans (fM.mono hz9)
 have adg:=fM.size
 by_cases q:e∈free
 ·simp(disch:=omega)only[push_cast,aa,↓reduceIte,Nat.reduceEqDiff,Int.reduceEq,fr,decide_eq_true q]
  exact jH _ _ ⟨j+1,R2,A,c,ψ,mw,jN,hR,fun x hx iO=>by
   rw[O5]at hx
   rcases List.mem_append.1 hx with hx|hx
   ·exact pD x hx iO
   ·rw[List.mem_singleton.1 hx]at iO;exact absurd q iO,(by simp only[push_cast,↓reduceIte,Nat.reduceEqDiff,true_and,and_true,and_self,eq_self,fr]),adz,YV,hψ,YW,adA⟩ (by rw[ob];simp only[push_cast,↓reduceIte,Nat.reduceEqDiff,intOf,fr];omega)
 have bd:Below uv.heap.size uv uv.drew:=(Same.refl uv).drew.below _
 have T9:=adz.below bd (Nat.le_refl _)
 have YX:=YV.below bd YV.lt
 have adB:=YW.below bd YW.lt
 have GL:=adA.trans (bd.mono (by omega))
 have aiH:=hK.below GL lK
 have aiw:=bd.size
 have adC:=bq.lt dc (by decide) (bH.fS T9 dc (by decide))
 have aiI:=adC.isSome (by omega)
 have YY:=fun{K:Fr→World→Prop} {f:Fr} {d:Option Nat} {w':World}=>adC.dC (P:=Tryz.prog) (K:=K) (f:=f) (d:=d) (w:=w') dc al Ie aw
 generalize aiJ:uv.drew=u11 at*
 have hue:e∈P3 p free:=EM.2 ⟨hem,q⟩
 simp(disch:=omega)only[push_cast,aa,↓reduceIte,Nat.reduceEqDiff,Int.reduceEq,fr,decide_eq_false q,aiJ,aiH.kP,aiG,aiI,YY]
 have rT:=Bt hm p.seen t e
 have r6:az (bo p t e) 6:=rT.more hp.2.1
 refine WM (fun f' w'=>∃g:Nat,(f' 0= .pointer (some ⟨gK,0,none⟩)∧f' 3= .pointer (some ⟨w.heap.size,0,none⟩)∧f' 5= .slice A R2.length c∧f' 6= .map (some gN)∧f' 7= .int .i64 i∧f' 79= .slice a.Ap p.seen.length a.cp∧f' 80= .int .i64 p.seen.length∧f' 81= .int .i64 j∧f' 10= .pointer (some ⟨g,0,none⟩))∧
   aE w' g 107 (setCells (ae (bo p t e)))∧u11.heap.size≤g∧Below u11.heap.size u11 w') 20000 40000 (by decide) ?_ ?_
 ·intro E hE
  rw[tj]
  refine⟨?_,?_⟩
  ·simp(disch:=omega)only[push_cast,aa,↓reduceIte,Nat.reduceEqDiff,Int.reduceEq,fr]
   refine ah (kL (ha.up GL) hf hm t e) ?_
   rintro v vq ⟨rfl,eZ⟩
   simp(disch:=omega)only[push_cast,aa,↓reduceIte,Nat.reduceEqDiff,Int.reduceEq,fr]
   refine⟨eZ,?_⟩
   refine au (cs:=setCells (ae [])) cB ?_
   intro xw Ct iT X5
   have I4:=eZ.trans (iT.mono eZ.size)
   simp(disch:=omega)only[push_cast,aa,↓reduceIte,Nat.reduceEqDiff,Int.reduceEq,fr]
   refine⟨I4,?_⟩
   refine aC Ct (cs:=setCells (ae (bo p t e))) (bn _) (by rw[ao,ao]) (aH _) ?_
   intro BH JK g14 Vp
   simp(disch:=omega)only[push_cast,aa,↓reduceIte,Nat.reduceEqDiff,Int.reduceEq,fr]
   exact hE _ _ ⟨_,(by simp only[push_cast,↓reduceIte,Nat.reduceEqDiff,true_and,and_true,and_self,eq_self,fr]),JK,eZ.size,g14.below I4 I4.size (by intro a ha;injection ha with ha;subst ha;exact eZ.size)⟩
  ·simp(disch:=omega)only[push_cast,aa,↓reduceIte,Nat.reduceEqDiff,Int.reduceEq,fr]
   refine au (cs:=setCells (ae [])) cB ?_
   intro xw Ct iT X5
   simp(disch:=omega)only[push_cast,aa,↓reduceIte,Nat.reduceEqDiff,Int.reduceEq,fr]
   refine⟨iT,?_⟩
   refine ah (kL (ha.up (GL.trans (iT.mono (by omega)))) hf hm t e) ?_
   rintro v vq ⟨rfl,eZ⟩
   have I5:=iT.trans (eZ.mono iT.size)
   replace Ct:=Ct.below eZ Ct.lt
   simp(disch:=omega)only[push_cast,aa,↓reduceIte,Nat.reduceEqDiff,Int.reduceEq,fr]
   refine⟨I5,?_⟩
   refine aC Ct (cs:=setCells (ae (bo p t e))) (bn _) (by rw[ao,ao]) (aH _) ?_
   intro BH JK g14 Vp
   simp(disch:=omega)only[push_cast,aa,↓reduceIte,Nat.reduceEqDiff,Int.reduceEq,fr]
   exact hE _ _ ⟨_,(by simp only[push_cast,↓reduceIte,Nat.reduceEqDiff,true_and,and_true,and_self,eq_self,fr]),JK,Nat.le_refl _,g14.below I5 I5.size (by intro a ha;injection ha with ha;subst ha;exact Nat.le_refl _)⟩
 clear fr
 rintro f vq ⟨g,fr,kT,hg,eZ⟩
 have Yn:=eZ.size
 have Ix:=T9.below eZ (by omega)
 have Qf:=YX.below eZ YX.lt
 have adD:=adB.below eZ adB.lt
 have YZ:=GL.trans (eZ.mono (by omega))
 have hkT:∀{K:Fr→World→Prop} {f:Fr} {d:Option Nat} {w:World},aq Tryz.prog K (Instr.lookup 137 (.map (some gN)) (.agg (vk (bo p t e)).toArray) false) vq f d w=K (ai f d (.int .i64 ((ψ (bo p t e)).getD 0))) w:=fun{K f d w}=>Qf.look r6
 have Oq:∀{R3:List (List Int)},R2<+:R3→bo p t e∈R3→∀x∈p.seen.take (j+1),x∉free→bo p t x∈R3:=fun hp3 fN x hx iO=>by
  rw[O5]at hx
  rcases List.mem_append.1 hx with hx|hx
  ·exact hp3.subset (pD x hx iO)
  ·rw[List.mem_singleton.1 hx];exact fN
 rw[hψ _ r6]at hkT
 by_cases fN:bo p t e∈R2
 ·rw[if_pos fN]at hkT
  simp(disch:=omega)only[push_cast,aa,↓reduceIte,Nat.reduceEqDiff,Int.reduceEq,fr,kT.cM (af _) al aw,eC,hkT,Option.getD_some]
  exact jH _ _ ⟨j+1,R2,A,c,ψ,mw,jN,hR,Oq (List.prefix_refl _) fN,(by simp only[push_cast,↓reduceIte,Nat.reduceEqDiff,true_and,and_true,and_self,eq_self,fr]),Ix,Qf,hψ,adD,YZ⟩ (by rw[ob];simp only[push_cast,↓reduceIte,Nat.reduceEqDiff,intOf,fr];omega)
 rw[if_neg fN]at hkT
 have alx:=Qf.lt
 have cY:∀{w':World} {A':Option Addr} {c':Nat} {l:List (List Int)} {χ:List Int→Option Int},SMap w' gN χ→bH vk (w.heap.size+1) 107 4 w' A' c' l→some gN≠A'.map (·.block):=fun hs ho=>by
  obtain⟨kv,YP,_⟩:=hs
  exact YP.gG ho
 have aoA:=YX.lt
 have hgT:g≠gN:=by omega
 have aoB:=hRl
 simp(disch:=omega)only[push_cast,aa,↓reduceIte,Nat.reduceEqDiff,Int.reduceEq,fr,kT.cM (af _) al aw,eC,hkT,Option.getD_none,eq_self]
 refine Qf.put r6 1 ?_
 intro xw m13 g13 X5
 have Eu:=Ix.bQ g13 (.inr (fun e=>cY Qf Ix e.symm))
 have aiL:=kT.grown g13.aJ (by simp;omega)
 have adF:=adD.grown g13.aJ (by simp;omega)
 have adG:=g13.below YZ YZ.size (by intro a ha;injection ha with ha;subst ha;exact hN)
 simp(disch:=omega)only[push_cast,aa,↓reduceIte,Nat.reduceEqDiff,Int.reduceEq,fr,aiL.cM (af _) al aw,ea dc tt _ (by decide)]
 refine dA dc tt Eu (bo p t e) (by omega) (by omega) (by have:=adF.lt;omega) ?_
 intro A14 c14 BH o14 g14 acv acw Vp
 simp(disch:=omega)only[push_cast,aa,↓reduceIte,Nat.reduceEqDiff,Int.reduceEq,fr]
 exact jH _ _ ⟨j+1,R2++[bo p t e],A14,c14,zK ψ (bo p t e) 1,mw,jN.trans (List.prefix_append _ _),hR.add hm (List.mem_of_getElem? Ie) hue fN,Oq (List.prefix_append _ _) (by simp),(by simp only[push_cast,↓reduceIte,Nat.reduceEqDiff,true_and,and_true,and_self,eq_self,fr,List.length_append,List.length_cons,List.length_nil]),o14,m13.grown g14.aJ (cY m13 Eu),fun x hx=>by
  unfold zK
  by_cases cx:x=bo p t e
  ·rw[if_pos cx,if_pos (by simp[cx])]
  ·rw[if_neg cx,hψ x hx]
   by_cases cy:x∈R2
   ·rw[if_pos cy,if_pos (by simp[cy])]
   ·rw[if_neg cy,if_neg (by simp[cy,cx])],adF.grown g14.aJ (Eu.dB (Nat.lt_succ_self _)),g14.below adG adG.size (fun a ha=>by have:=Eu.uh a ha;omega)⟩ (by rw[ob];simp only[push_cast,↓reduceIte,Nat.reduceEqDiff,intOf,fr];omega)
open Go.RowKit
def qZ(l:List Int)(b k:Nat):List Int:=((List.range k).filter fun i=>b.testBit i).map fun i=>l.getD i 0
theorem Mi(l:List Int)(b k:Nat):qZ l b (k+1)=if b.testBit k=true then qZ l b k++[l.getD k 0]else qZ l b k:=by
 unfold qZ
 rw[List.range_succ,List.filter_append,List.map_append]
 by_cases h:b.testBit k=true
 ·rw[if_pos h,List.filter_cons,if_pos h];rfl
 ·rw[if_neg h,List.filter_cons,if_neg h];simp
theorem Cf{l:List Int}{b k:Nat}{x:Int}:x∈qZ l b k↔∃i,i<k∧b.testBit i=true∧l.getD i 0=x:=by
 unfold qZ
 simp only[List.mem_map,List.mem_filter,List.mem_range]
 exact⟨fun⟨i,⟨h1,h2⟩,h3⟩=>⟨i,h1,h2,h3⟩,fun⟨i,h1,h2,h3⟩=>⟨i,⟨h1,h2⟩,h3⟩⟩
theorem Km{l:List Int}{b k:Nat}(hk:k≤l.length):∀x∈qZ l b k,x∈l:=fun x hx=>by
 obtain⟨i,h1,_,rfl⟩:=Cf.1 hx
 exact bY l 0 i (by omega)
theorem Mj{l:List Int}(h:aW l){i j:Nat}(D4:i<j)(hj:j<l.length):l.getD i 0<l.getD j 0:=by
 have:=List.pairwise_iff_getElem.1 h i j (by omega) hj D4
 rw[List.getD_eq_getElem?_getD,List.getD_eq_getElem?_getD,List.getElem?_eq_getElem (by omega:i<l.length),List.getElem?_eq_getElem hj]
 exact this
theorem ta{l:List Int}(h:aW l){b k:Nat}(hk:k≤l.length):aW (qZ l b k):=by
 unfold qZ aW
 rw[List.pairwise_map]
 refine List.Pairwise.imp_of_mem (fun{i j} _ hj D4=>Mj h D4 ?_) (List.Pairwise.filter _ List.pairwise_lt_range)
 have:=List.mem_range.1 (List.mem_filter.1 hj).1
 omega
theorem Uf{l t:List Int}(hl:aW l)(n:l.length≤256)(ht:aW t)(fN:∀y∈t,y∈l):∃b,b<2^l.length∧qZ l b l.length=t:=by
 let ix:List Int:=((List.range l.length).filter fun i=>decide (l.getD i 0∈t)).map fun(i:Nat)=>(i:Int)
 have hs:aW ix:=by
  show List.Pairwise _ _
  rw[List.pairwise_map]
  exact List.Pairwise.imp (fun h=>Int.ofNat_lt.2 h) (List.Pairwise.filter _ List.pairwise_lt_range)
 have hx:∀i:Nat,((i:Int)∈ix↔i<l.length∧l.getD i 0∈t):=fun i=>by
  show(i:Int)∈List.map _ _↔_
  simp only[List.mem_map,List.mem_filter,List.mem_range,decide_eq_true_eq]
  constructor
  ·rintro⟨j,h1,h2⟩
   have:j=i:=by omega
   subst this;exact h1
  ·intro h;exact⟨i,h,rfl⟩
 have hr:az ix (l.length:Int):=az.kZ hs fun x Cp=>by
  obtain⟨j,hj,rfl⟩:=List.mem_map.1 Cp
  have:=List.mem_range.1 (List.mem_filter.1 hj).1
  omega
 refine⟨yn ix,YM hr,(ta hl (Nat.le_refl _)).ext ht fun x=>?_⟩
 rw[Cf]
 constructor
 ·rintro⟨i,h1,h2,rfl⟩
  rw[Kk hr]at h2
  exact((hx i).1 (of_decide_eq_true h2)).2
 ·intro hxt
  obtain⟨i,h1,rfl⟩:=(fA l 0 x).1 (fN x hxt)
  exact⟨i,h1,by rw[Kk hr];exact decide_eq_true ((hx i).2 ⟨h1,hxt⟩),rfl⟩
def py(p:cO)(free l out:List Int)(n:Nat):Prop:=∀x,x∈out↔∃k,1≤k∧k<n∧Kp p free (iV p.m p.seen (qZ l k l.length))∧x∈qZ l k l.length
section
variable {p:cO} {free l out:List Int} {n:Nat}
theorem py.start:py p free l [] 1:=fun x=>⟨fun h=>by simp at h,fun⟨k,h1,h2,_⟩=>absurd h2 (by omega)⟩
theorem py.skip(h:py p free l out n)(hn:¬Kp p free (iV p.m p.seen (qZ l n l.length))):py p free l out (n+1):=fun x=>by
 rw[h x]
 constructor
 ·rintro⟨k,h1,h2,h3⟩;exact⟨k,h1,by omega,h3⟩
 ·rintro⟨k,h1,h2,h3,h4⟩
  by_cases c:k=n
  ·subst c;exact absurd h3 hn
  ·exact⟨k,h1,by omega,h3,h4⟩
theorem py.join(h:py p free l out n)(h1:1≤n)(hn:Kp p free (iV p.m p.seen (qZ l n l.length))):py p free l (out++qZ l n l.length) (n+1):=fun x=>by
 rw[List.mem_append,h x]
 constructor
 ·rintro(⟨k,g1,g2,g3⟩|hx)
  ·exact⟨k,g1,by omega,g3⟩
  ·exact⟨n,h1,by omega,hn,hx⟩
 ·rintro⟨k,g1,g2,g3,g4⟩
  by_cases c:k=n
  ·subst c;exact .inr g4
  ·exact .inl ⟨k,g1,by omega,g3,g4⟩
theorem py.done(hl:aW l)(hs:Small l)(h6:l.length≤256)(h:py p free l out (2^l.length)):bC out=bC (DG p free l):=by
 unfold bC
 rw[nx fun x h0 h1=>?_]
 rw[h x,DG,wL]
 constructor
 ·rintro⟨k,g1,g2,g3,g4⟩
  exact⟨⟨h0,h1⟩,_,ta hl (Nat.le_refl _),Km (Nat.le_refl _),g4,g3⟩
 ·rintro⟨_,t,g1,g2,g3,g4⟩
  obtain⟨k,k1,rfl⟩:=Uf hl h6 g1 g2
  refine⟨k,?_,k1,g4,g3⟩
  rcases Nat.eq_zero_or_pos k with c|c
  ·subst c
   obtain⟨i,_,hi,_⟩:=Cf.1 g3
   simp at hi
  ·exact c
end
def vF(m:aN)(s tO:List Int)(e:Int)(k:Nat):List Int:=((m.ag.take k).filter fun a=>decide (a.dI=e)&&decide (a.bK∈s)&&decide (a.dt∈tO)).map (·.bK)
theorem Mk(m:aN)(s tO:List Int)(e:Int){k:Nat}(h:k<m.ag.length):
  vF m s tO e (k+1)=if(m.ag.getD k default).dI=e∧(m.ag.getD k default).bK∈s∧(m.ag.getD k default).dt∈tO then vF m s tO e k++[(m.ag.getD k default).bK]else vF m s tO e k:=by
 unfold vF
 rw[bS _ default k h,List.filter_append,List.map_append]
 generalize m.ag.getD k default=y
 by_cases h1:y.dI=e<;>by_cases h2:y.bK∈s<;>by_cases h3:y.dt∈tO<;>simp[h1,h2,h3]
theorem GQ(m:aN)(s tO:List Int)(e:Int)(k:Nat):(vF m s tO e k).length≤k:=by
 unfold vF
 rw[List.length_map]
 exact Nat.le_trans (List.length_filter_le _ _) (List.length_take_le _ _)
theorem Qg{m:aN}(hm:m.bZ)(hp:vD m){s tO:List Int}(hs:aW s)(e:Int):vF m s tO e m.ag.length=nH m tO s e:=by
 have one:∀a b,a∈m.ag→b∈m.ag→a.bK=b.bK→a.dI=b.dI→a.dt=b.dt:=fun a b ha hb h1 h2=>by
  obtain⟨⟨a1,a2⟩,_,a5,a6⟩:=bZ.arr hm ha
  have hl:=hp.2 _ _ a1 a2 a5 a6
  have ma:a.dt∈cb m [a.bK] a.dI:=fB.2 ⟨a,ha,rfl,by simp,rfl⟩
  have mb:b.dt∈cb m [a.bK] a.dI:=fB.2 ⟨b,hb,h2.symm,by simp[h1],rfl⟩
  generalize cb m [a.bK] a.dI=l at*
  match l,hl with
  |[],_=>simp at ma
  |[x],_=>exact(List.mem_singleton.1 ma).trans (List.mem_singleton.1 mb).symm
 refine aW.ext ?_ ?_ fun x=>?_
 ·unfold vF aW
  rw[List.take_length,List.pairwise_map]
  refine List.Pairwise.imp_of_mem (fun{a b} ha hb tB=>?_) (List.Pairwise.filter _ (bZ.ord hm))
  rw[List.mem_filter]at ha hb
  simp only[Bool.and_eq_true,decide_eq_true_eq]at ha hb
  have:=one a b ha.1 hb.1
  have e1:=ha.2.1.1
  have e2:=hb.2.1.1
  unfold cH.lt at tB
  rcases Int.lt_trichotomy a.bK b.bK with c|c|c
  ·exact c
  ·have:=this c (e1.trans e2.symm);omega
  ·omega
 ·unfold nH;exact List.Pairwise.filter _ hs
 ·rw[Mc]
  unfold vF
  rw[List.take_length,List.mem_map]
  simp only[List.mem_filter,Bool.and_eq_true,decide_eq_true_eq]
  constructor
  ·rintro⟨a,⟨ha,⟨h1,h2⟩,h3⟩,rfl⟩
   refine⟨h2,a.dt,h3,?_⟩
   obtain⟨⟨a1,a2⟩,_,a5,a6⟩:=bZ.arr hm ha
   have hl:=hp.2 _ _ a1 a2 a5 a6
   have ma:a.dt∈cb m [a.bK] a.dI:=fB.2 ⟨a,ha,rfl,by simp,rfl⟩
   rw[h1]at hl ma
   generalize cb m [a.bK] e=l at*
   match l,hl with
   |[],_=>simp at ma
   |[x],_=>rw[List.mem_singleton.1 ma]
  ·rintro⟨h1,t,h2,h3⟩
   have ht:t∈cb m [x] e:=by rw[h3];simp
   obtain⟨a,ha,b1,b2,rfl⟩:=fB.1 ht
   rw[List.mem_singleton]at b2
   exact⟨a,⟨ha,⟨b1,by rw[b2];exact h1⟩,h2⟩,b2⟩
section
variable {P:Program} {K:Fr→World→Prop} {u:World} {f:Fr} {d:Option Nat} {w:World} {t:Nat} {xo yo:Operand}
theorem Ug{k z:Nat}(h:2^k=z)(hk:k<62):aq P K (bW .shl t xo yo (.int .i64 1) (.int .i64 k)) u f d w=K (ai f d (.int .i64 z)) w:=
 aM u f d w fun w' _=>by
  subst h
  have h0:¬((k:Int)<0):=by omega
  have hb:IntKind.i64.bits=64:=rfl
  have h1:min k 64=k:=by omega
  have h2:(1:Int)*2^k=((2^k:Nat):Int):=by simp
  have h3:2^k<2^62:=Nat.pow_lt_pow_right (by decide) hk
  have h4:IntKind.i64.wrap ((2^k:Nat):Int)=((2^k:Nat):Int):=by
   generalize 2^k=q at*
   exact wrap_i64 _ (by omega) (by omega)
  simp only[bW,eqGuard,binOp,Op.shift,if_neg h0,Int.toNat_natCast,hb,h1,h2,h4]
  simp
theorem Uh{x k z:Nat}(h:x>>>k=z)(hk:k<64):aq P K (bW .shr t xo yo (.int .i64 x) (.int .i64 k)) u f d w=K (ai f d (.int .i64 z)) w:=
 aM u f d w fun w' _=>by
  subst h
  have h0:¬((k:Int)<0):=by omega
  have hb:IntKind.i64.bits=64:=rfl
  have h1:min k 64=k:=by omega
  have h2:(x:Int).fdiv (2^k)=((x>>>k:Nat):Int):=by
   have e:(2:Int)^k=((2^k:Nat):Int):=by simp
   rw[e,Nat.shiftRight_eq_div_pow,Int.fdiv_eq_ediv_of_nonneg _ (Int.natCast_nonneg _)]
   rfl
  show(Op.shift .shr .i64 x .i64 k:Sem Value).run P w'=_
  unfold Op.shift
  rw[if_neg h0]
  show Result.ok (Value.int .i64 ((x:Int).fdiv (2^(min (k:Int).toNat 64)))) w'=_
  rw[Int.toNat_natCast,h1,h2]
theorem GR{x z:Nat}(h:x&&&1=z)(hx:x<2^62):aq P K (bW .and t xo yo (.int .i64 x) (.int .i64 1)) u f d w=K (ai f d (.int .i64 z)) w:=
 aM u f d w fun w' _=>by
  subst h
  have h1:(BitVec.ofInt 64 (x:Int)&&&BitVec.ofInt 64 ((1:Nat):Int)).toNat=x&&&1:=by
   rw[BitVec.toNat_and]
   have:x<2^64:=by omega
   simp[BitVec.toNat_ofInt,Nat.mod_eq_of_lt this]
  have h2:x&&&1≤1:=Nat.and_le_right
  have h3:IntKind.i64.wrap ((x&&&1:Nat):Int)=((x&&&1:Nat):Int):=wrap_i64 _ (by omega) (by omega)
  show Result.ok (Value.int .i64 (IntKind.i64.wrap ((BitVec.ofInt 64 (x:Int)&&&BitVec.ofInt 64 ((1:Nat):Int)).toNat:Int))) w'=_
  rw[h1,h3]
theorem Qh(x k:Nat):(x>>>k)&&&1=if x.testBit k then 1 else 0:=by
 rw[Nat.and_one_is_mod,Nat.shiftRight_eq_div_pow,Nat.testBit_eq_decide_div_mod_eq]
 by_cases h:x/2^k%2=1
 ·rw[h];simp
 ·have h0:x/2^k%2=0:=by omega
  rw[h0];simp
end
open Go.RowKit
section
variable {p:cO} {free:List Int}
theorem Qi(k:Nat)(st:VS)(e:Int):st.eQ<+:(vE p free k st e).eQ:=by
 unfold vE
 split
 ·exact List.prefix_refl _
 ·exact List.prefix_append _ _
theorem yr(k:Nat):∀(es:List Int) (st:VS),st.eQ<+:(es.foldl (vE p free k) st).eQ∧st.nodes<+:(es.foldl (vE p free k) st).nodes
 |[],_=>⟨List.prefix_refl _,List.prefix_refl _⟩
 |e :: es,st=>⟨(Qi k st e).trans (yr k es _).1,(P9 k st e).trans (yr k es _).2⟩
theorem Ml{j k:Nat}(h:j≤k):(bU p free j).eQ<+:(bU p free k).eQ∧(bU p free j).nodes<+:(bU p free k).nodes:=by
 induction k with
 |zero=>rw[show j=0 by omega];exact⟨List.prefix_refl _,List.prefix_refl _⟩
 |succ k ih=>
  rcases Nat.lt_or_ge k j with c|c
  ·rw[show j=k+1 by omega];exact⟨List.prefix_refl _,List.prefix_refl _⟩
  ·have h1:=ih c
   have h2:=yr (p:=p) (free:=free) k p.seen (bU p free k)
   exact⟨h1.1.trans h2.1,h1.2.trans h2.2⟩
end
open Go.RowKit
open Go.RowKit
theorem aE.kM0{K:Fr→World→Prop}{u:World}{f:Fr}{d:Option Nat}{w:World}{g t:Nat}{a:PV}{p:cO}{A:Option Addr}{free:List Int}{c gM:Nat}(h:aE u g t (I0 a p A free c gM)):aq Tryz.prog K (Instr.loadAt 27 (.pointer (some ⟨g,0,none⟩))) u f d w=K (ai f d (a.m.val p.m)) w:=
 h.oZ iC 0 (vs:=a.m.cells p.m) fR fun k v hv=>by
  match k,hv with
  |0,hv=>exact hv
  |1,hv=>exact hv
  |2,hv=>exact hv
  |3,hv=>exact hv
  |4,hv=>exact hv
  |k+5,hv=>simp[MV.cells]at hv
section
variable {g:Nat} {w w' w2:World}
def OkM(g:Nat)(w:World)(b:Nat):Prop:=b<w.heap.size∧b≠g
theorem Ints.cV{A:Option Addr}{l:List Int}(h:Ints (OkM g w) w A l)(k:cF g w w'):Ints (OkM g w') w' A l:=h.U7 fun b hb=>⟨k.block b hb.1 hb.2,Nat.lt_of_lt_of_le hb.1 k.size,hb.2⟩
theorem Ints.mlt{A:Option Addr}{l:List Int}(h:Ints (OkM g w) w A l):Ints (·<w.heap.size) w A l:=h.mono fun _ hb=>hb.1
end
def Ko(p:cO)(free:List Int)(gM:Nat)(w w':World):Prop:=(∃φ,Kl p free φ∧SMap w' gM φ)∧cF gM w w'
theorem Kq{p:cO}{free s:List Int}{gM:Nat}{w w':World}{v:Value}(h:GP p free s gM w v w'):(∃b:Bool,v= .bool b∧(b=true↔Kp p free s))∧(∃φ,Kl p free φ∧SMap w' gM φ)∧cF gM w w':=h
theorem aE.qA{w:World}{g gM t:Nat}{cs:List Value}{φ:List Int→Option Int}(h:aE w g t cs)(hM:SMap w gM φ):g≠gM:=by
 obtain⟨kv,YP,_⟩:=hM
 exact fun e=>YP.bG h e.symm
theorem Qj{k:Nat}(h:k≤6):2^k≤64:=Nat.le_trans (Nat.pow_le_pow_right (by decide) h) (by decide)
set_option maxHeartbeats 1000000 in
theorem Mm{B:Nat}{w:World}{a:PV}{p:cO}(JY:B≤w.heap.size)(ha:tv (·<B) w a p)(hf:p.Fits)(hp:p.bZ){A1:Option Addr}{c1:Nat}{free:List Int}(h1:Ints (·<B) w A1 free)(n1:free.length≤17592186043904)
  {gK gM:Nat}(Qk:B≤gM)(hK:aE w gK 139 (I0 a p A1 free c1 gM)){φ:List Int→Option Int}(hφ:Kl p free φ)(hM:SMap w gM φ){A2:Option Addr}{c2:Nat}{l:List Int}(h2:Ints (OkM gM w) w A2 l)(hl:az l p.m.aj):
  dw Tryz.prog 105 [.pointer (some ⟨gK,0,none⟩),.slice A2 l.length c2] w fun v w'=>v=bC (DG p free l)∧Ko p free gM w w':=by
 have hm:=hp.1
 have eU:=hp.2.1
 have n8:p.seen.length≤8:=by have:=xm hp.2.2.1;have:=hm.2.2.2.1;omega
 have n6:l.length≤6:=by have:=xm (hl.more eU);omega
 have hl6:=hl.more eU
 have hdone:=fun{out:List Int} (h:py p free l out (2^l.length))=>h.done hl.strict (hl6.small (by decide)) (by omega)
 have aiM:=Qj n6
 have hlM:=hM.lt
 have Y0:=hK.qA hM
 refine sg (by simp) 1000000 fun Q hQ=>?_
 simp(disch:=omega)only[push_cast,aa,↓reduceIte,Nat.reduceEqDiff,Int.reduceEq,mi]
 refine au (cs:=setCells (ae [])) cB ?_
 intro w1 kR b1 z1
 simp(disch:=omega)only[push_cast,aa,↓reduceIte,Nat.reduceEqDiff,Int.reduceEq]
 refine au (cs:=setCells (ae [])) cB ?_
 intro w2 kO b2 z2
 have I1:=b1.trans (b2.mono b1.size)
 replace kR:=kR.below b2 kR.lt
 have k02:cF gM w w2:= .of I1
 have MM:=hM.below I1 hM.lt
 obtain⟨z,hz⟩:∃z,2^l.length=z:=⟨_,rfl⟩
 rw[hz]at hdone aiM
 have Pw:=fun{K u w f d t xo yo}=>Ug (P:=Tryz.prog) (K:=K) (u:=u) (w:=w) (f:=f) (d:=d) (t:=t) (xo:=xo) (yo:=yo) hz (by omega)
 have hz1:1≤z:=by rw[←hz];exact Nat.one_le_two_pow
 simp(disch:=omega)only[push_cast,aa,↓reduceIte,Nat.reduceEqDiff,Int.reduceEq]
 refine ax (fun f w'=>∃(n:Nat) (out:List Int) (χ:List Int→Option Int),1≤n∧n≤z∧py p free l out n∧(f 0= .pointer (some ⟨gK,0,none⟩)∧f 1= .slice A2 l.length c2∧f 4= .pointer (some ⟨w.heap.size,0,none⟩)∧f 5= .pointer (some ⟨w1.heap.size,0,none⟩)∧f 6= .int .i64 n)∧
   aE w' w.heap.size 107 (setCells (ae []))∧aE w' w1.heap.size 107 (setCells (ae out))∧Kl p free χ∧SMap w' gM χ∧cF gM w w')
  (fun f _=>z-(intOf (f 6)).toNat) ⟨1,[],φ,by omega,by omega,py.start,⟨rfl,rfl,rfl,rfl,rfl⟩,kR,kO,hφ,MM,k02⟩ ?_
 clear kR kO MM k02 I1 b2 b1
 rintro f w3 ⟨n,out,χ,Tg,hnz,hO,fr,kR,kO,hχ,mM,k3⟩ J hJ
 have Sx:=k3.size
 by_cases aI:n<z
 case neg=>
  obtain rfl:n=z:=by omega
  have e:=hdone hO
  simp(disch:=omega)only[push_cast,aa,↓reduceIte,Nat.reduceEqDiff,Int.reduceEq,fo,fr,Pw,Nat.lt_irrefl,kO.cM (af _) al aw]
  refine aC kR (cs:=setCells (ae out)) (bn _) (by rw[ao,ao]) (aH _) ?_
  intro w4 k4 g4 z4
  simp(disch:=omega)only[push_cast,aa,↓reduceIte,Nat.reduceEqDiff,Int.reduceEq]
  exact zk k4 al (bn _) (by simp only[push_cast,↓reduceIte,Nat.reduceEqDiff,true_and,and_true,and_self,eq_self,fr]) (hQ _ _ ⟨e,⟨χ,hχ,mM.grown g4.aJ (by simp;omega)⟩,k3.bQ g4 (by intro a ha;injection ha with ha;subst ha;exact Nat.le_refl _)⟩)
 have gZ:(intOf (f 6)).toNat=n:=by rw[fr.2.2.2.2];simp[intOf]
 rw[gZ]at hJ
 simp(disch:=omega)only[push_cast,aa,↓reduceIte,Nat.reduceEqDiff,Int.reduceEq,fo,fr,Pw,aI]
 refine au (cs:=setCells (ae [])) cB ?_
 intro w4 kS b4 z4
 have lR:=kR.lt
 have lO:=kO.lt
 replace kR:=kR.below b4 kR.lt
 replace kO:=kO.below b4 kO.lt
 replace mM:=mM.below b4 mM.lt
 have k4:=k3.below b4 (Nat.le_refl _)
 simp(disch:=omega)only[push_cast,aa,↓reduceIte,Nat.reduceEqDiff,Int.reduceEq,fr]
 refine ax (fun f' w'=>∃i:Nat,i≤l.length∧(f' 0= .pointer (some ⟨gK,0,none⟩)∧f' 1= .slice A2 l.length c2∧f' 4= .pointer (some ⟨w.heap.size,0,none⟩)∧f' 5= .pointer (some ⟨w1.heap.size,0,none⟩)∧f' 6= .int .i64 n∧f' 7= .pointer (some ⟨w3.heap.size,0,none⟩)∧f' 17= .slice A2 l.length c2∧f' 18= .int .i64 l.length∧f' 19= .int .i64 i)∧
   aE w' w3.heap.size 107 (setCells (ae (qZ l n i)))∧aE w' w.heap.size 107 (setCells (ae []))∧aE w' w1.heap.size 107 (setCells (ae out))∧SMap w' gM χ∧cF gM w w')
  (fun f' _=>l.length-(intOf (f' 19)).toNat) ⟨0,Nat.zero_le _,(by simp only[push_cast,↓reduceIte,Nat.reduceEqDiff,true_and,and_true,and_self,eq_self,fr]),kS,kR,kO,mM,k4⟩ ?_
 clear kS kR kO mM k4 k3 fr b4
 rintro f w5 ⟨i,hi,fr,kS,kR,kO,mM,k5⟩ J2 jH
 have LY:=k5.size
 by_cases nG:i<l.length
 case pos=>
  have hI:=(h2.cV k5).mlt
  have sI:=hI.isSome (by omega)
  have Pl:=fun{K f d w}=>hI.ld (P:=Tryz.prog) (K:=K) (f:=f) (d:=d) (w:=w) ak i nG
  have hx:=hl6.mem (bY l 0 i nG)
  have GU:=Mi l n i
  have hba:=Qh n i
  obtain⟨y,hy⟩:∃y,n>>>i=y:=⟨_,rfl⟩
  have hyn:y≤n:=by rw[←hy,Nat.shiftRight_eq_div_pow];exact Nat.div_le_self _ _
  rw[hy]at hba
  have hsr:=fun{K u w f d t xo yo}=>Uh (P:=Tryz.prog) (K:=K) (u:=u) (w:=w) (f:=f) (d:=d) (t:=t) (xo:=xo) (yo:=yo) hy (by omega)
  generalize l.getD i 0=x at*
  have ob:(intOf (f 19)).toNat=i:=by rw[fr.2.2.2.2.2.2.2.2];simp[intOf]
  by_cases hb:n.testBit i=true
  ·rw[if_pos hb]at GU hba
   have han:=fun{K u w f d t xo yo}=>GR (P:=Tryz.prog) (K:=K) (u:=u) (w:=w) (f:=f) (d:=d) (t:=t) (xo:=xo) (yo:=yo) hba (by omega)
   have e1:((1:Nat):Int)=1:=rfl
   rw[e1]at han
   simp(disch:=omega)only[push_cast,aa,↓reduceIte,Nat.reduceEqDiff,Int.reduceEq,dV,fr,nG,sI,Pl,hsr,han,eq_self]
   refine ah (pc x (by omega) (by omega) kS) ?_
   rintro v w6 ⟨rfl,k6,g6,z6⟩
   simp(disch:=omega)only[push_cast,aa,↓reduceIte,Nat.reduceEqDiff,Int.reduceEq,fr]
   exact jH _ _ ⟨i+1,by omega,(by simp only[push_cast,↓reduceIte,Nat.reduceEqDiff,true_and,and_true,and_self,eq_self,fr]),by rw[GU];exact k6,kR.grown g6.aJ (by simp;omega),kO.grown g6.aJ (by simp;omega),mM.grown g6.aJ (by simp;omega),k5.bQ g6 (by intro a ha;injection ha with ha;subst ha;show w.heap.size≤w3.heap.size;omega)⟩ (by rw[ob];simp only[push_cast,↓reduceIte,Nat.reduceEqDiff,intOf,fr];omega)
  ·rw[if_neg hb]at GU hba
   have han:=fun{K u w f d t xo yo}=>GR (P:=Tryz.prog) (K:=K) (u:=u) (w:=w) (f:=f) (d:=d) (t:=t) (xo:=xo) (yo:=yo) hba (by omega)
   have e1:((0:Nat):Int)=0:=rfl
   rw[e1]at han
   simp(disch:=omega)only[push_cast,aa,↓reduceIte,Nat.reduceEqDiff,Int.reduceEq,dV,fr,nG,sI,Pl,hsr,han]
   exact jH _ _ ⟨i+1,by omega,(by simp only[push_cast,↓reduceIte,Nat.reduceEqDiff,true_and,and_true,and_self,eq_self,fr]),by rw[GU];exact kS,kR,kO,mM,k5⟩ (by rw[ob];simp only[push_cast,↓reduceIte,Nat.reduceEqDiff,intOf,fr];omega)
 obtain rfl:i=l.length:=by omega
 have hsr:az (qZ l n l.length) p.m.aj:=az.kZ (ta hl.strict (Nat.le_refl _)) fun x hx=>by have:=hl.mem (Km (Nat.le_refl _) x hx);omega
 generalize hS:qZ l n l.length=S at*
 have bd:Below w5.heap.size w5 w5.drew:=(Same.refl w5).drew.below _
 have k6:=k5.below bd (Nat.le_refl _)
 have Qd:=hK.cV k6 Y0
 have YT:=kS.below bd kS.lt
 have kR6:=kR.below bd kR.lt
 have kO6:=kO.below bd kO.lt
 have Mh:=mM.below bd mM.lt
 have lS6:=YT.lt
 generalize hu6:w5.drew=u6 at*
 have ZS:=k6.size
 have ha6:=ha.cV k6 Qk JY
 have hw6:B≤u6.heap.size:=by omega
 simp(disch:=omega)only[push_cast,aa,↓reduceIte,Nat.reduceEqDiff,Int.reduceEq,dV,fr,Nat.lt_irrefl,hu6,Qd.kP,Qd.kM0,YT.cM (af _) al aw,Qd.kE]
 refine ah (aag ((ha6.mono fun b hb=>Nat.lt_of_lt_of_le hb hw6).m) hm (hsr.small (by omega)) ((ha6.mono fun b hb=>Nat.lt_of_lt_of_le hb hw6).seen) hf.HM) ?_
 rintro v w7 ⟨rfl,b7⟩
 have k7:=k6.below b7 (Nat.le_refl _)
 have kK7:=hK.cV k7 Y0
 have kS7:=YT.below b7 lS6
 have kR7:=kR6.below b7 kR6.lt
 have kO7:=kO6.below b7 kO6.lt
 have Ue:=Mh.below b7 Mh.lt
 have hz7:=k7.size
 have ha7:=(ha.cV k7 Qk JY).mono fun b hb=>(Nat.lt_of_lt_of_le hb (by omega):b<w7.heap.size)
 have h17:=(h1.Qb k7 Qk JY).mono fun b hb=>(Nat.lt_of_lt_of_le hb (by omega):b<w7.heap.size)
 simp(disch:=omega)only[push_cast,aa,↓reduceIte,Nat.reduceEqDiff,Int.reduceEq]
 refine⟨b7,?_⟩
 refine ah (Ce ha7 hf hp h17 n1 kK7 hχ Ue (pf hm (gS hsr))) ?_
 intro v w8 h8
 obtain⟨⟨b,rfl,hb⟩,⟨χ2,hχ2,YU⟩,Q0⟩:=Kq h8
 have k8:=k7.trans Q0
 have kS8:=kS7.cV Q0 (kS7.qA Ue)
 have kR8:=kR7.cV Q0 (kR7.qA Ue)
 have kO8:=kO7.cV Q0 (kO7.qA Ue)
 cases b with
 |false=>
  have hn:¬Kp p free (iV p.m p.seen S):=fun hh=>by have:=hb.2 hh;cases this
  have hO2:=hO.skip (by rw[hS];exact hn)
  simp(disch:=omega)only[push_cast,aa,↓reduceIte,Nat.reduceEqDiff,Int.reduceEq,fr]
  exact hJ _ _ ⟨n+1,out,χ2,by omega,by omega,hO2,(by simp only[push_cast,↓reduceIte,Nat.reduceEqDiff,true_and,and_true,and_self,eq_self,fr]),kR8,kO8,hχ2,YU,k8⟩ (by simp only[push_cast,↓reduceIte,Nat.reduceEqDiff,intOf,fr];omega)
 |true=>
  have hy:=hb.1 rfl
  have hO2:=hO.join Tg (by rw[hS];exact hy)
  rw[hS]at hO2
  simp(disch:=omega)only[push_cast,aa,↓reduceIte,Nat.reduceEqDiff,Int.reduceEq,fr,kS8.cM (af _) al aw]
  refine ah (P4 kO8) ?_
  rintro v w9 ⟨rfl,k9,g9⟩
  simp(disch:=omega)only[push_cast,aa,↓reduceIte,Nat.reduceEqDiff,Int.reduceEq,fr]
  exact hJ _ _ ⟨n+1,_,χ2,by omega,by omega,hO2,(by simp only[push_cast,↓reduceIte,Nat.reduceEqDiff,true_and,and_true,and_self,eq_self,fr]),kR8.grown g9.aJ (by simp;omega),k9,hχ2,YU.grown g9.aJ (by simp;omega),k8.bQ g9 (by intro a ha;injection ha with ha;subst ha;show w.heap.size≤w1.heap.size;omega)⟩ (by simp only[push_cast,↓reduceIte,Nat.reduceEqDiff,intOf,fr];omega)
end Go.Proofs.YtcefeihlkpmejaaGreatDoor
