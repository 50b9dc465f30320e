/- A part of the proof. -/
import Derived.Test.YtcefeihlkpmejaaGreatDoorYExec
namespace Go.Proofs.YtcefeihlkpmejaaGreatDoor
set_option linter.unusedSimpArgs false
set_option linter.unusedVariables false
set_option linter.unusedSectionVars false
open Go.RowKit
inductive fy where
 |c (c:Code)
 |bl (id:Nat)
 |lp (J:Fr→World→Prop)
 |sc
def fy.low(N:NT):fy→It
 | .c cc=>.c (cC N cc)
 | .bl id=>.bl id
 | .lp J=>.lp J
 | .sc=>.sc
def RQ(N:NT)(ds:Dx)(Rf:Fr→World→Prop)(a:Act)(w:World):Prop:=∃f,Fits N ds a f∧Rf f w
def bR(P:Program)(N:NT)(ds:Dx)(Rf:Rx):List fy→Exit→Act→World→Prop
 |[],.normal,a,w=>RQ N ds Rf.ret a w
 |[],.ret,a,w=>RQ N ds Rf.ret a w
 |[],.panic ch,a,w=>(a.defers=ds.ds∧∀t,t<N.lo→a.tmps.getD t undef=ds.low t)∧Rf.ou ch w
 |[],_,_,_=>False
 | .c c :: k,e,a,w=>Exit.then (c.wp P (bR P N ds Rf k)) (bR P N ds Rf k) e a w
 | .bl id :: k,e,a,w=>Exit.inBlock id (bR P N ds Rf k) e a w
 | .lp J :: k,e,a,w=>Exit.then (RQ N ds J) (bR P N ds Rf k) e a w
 | .sc :: k,e,a,w=>Exit.noGoto (bR P N ds Rf k) e a w
section
variable {P:Program} {N:NT} {ds:Dx} {Rf:Rx} {pn:List PanicEntry→World→Prop}
theorem rh:∀(k:List fy) (a:Act) (w:World),RQ N ds Rf.ret a w→bR P N ds Rf k .ret a w
 |[],_,_,h=>h
 | .c _ :: k,a,w,h=>rh k a w h
 | .bl _ :: k,a,w,h=>rh k a w h
 | .lp _ :: k,a,w,h=>rh k a w h
 | .sc :: k,a,w,h=>rh k a w h
theorem iZ:∀(k:List fy) (ch:List PanicEntry) (a:Act) (w:World),bR P N ds Rf k (.panic ch) a w↔((a.defers=ds.ds∧∀t,t<N.lo→a.tmps.getD t undef=ds.low t)∧Rf.ou ch w)
 |[],_,_,_=>Iff.rfl
 | .c _ :: k,ch,a,w=>iZ k ch a w
 | .bl _ :: k,ch,a,w=>iZ k ch a w
 | .lp _ :: k,ch,a,w=>iZ k ch a w
 | .sc :: k,ch,a,w=>iZ k ch a w
theorem put_defers(a:Act)(d:Option Nat)(v:Value):(a.put d v).defers=a.defers:=by cases d<;>rfl
theorem dL{d:Option Nat}(h:uf N d=true):∀k,d=some k→k<N.n∧N.lo≤k:=by
 intro k hk;subst hk;simpa[uf]using h
theorem dj(k:List fy)(ch:List PanicEntry)(a:Act)(w:World)(d:Option Nat)(v:Value)(hd:uf N d=true)(h:bR P N ds Rf k (.panic ch) (a.put d v) w):bR P N ds Rf k (.panic ch) a w:=by
 rw[iZ]at h ⊢
 rw[put_defers]at h
 refine⟨⟨h.1.1,fun t ht=>?_⟩,h.2⟩
 rw[←h.1.2 t ht]
 cases d with
 |none=>rfl
 |some k=>
  have:=(dL hd k rfl).2
  simp only[Act.put,Array.getD_eq_getD_getElem?,Array.getElem?_setIfInBounds]
  rw[if_neg (by omega)]
theorem ig(k:List fy){f:Fr}{a:Act}(hf:Fits N ds a f)(ch:List PanicEntry)(w:World)(h:Rf.ou ch w):bR P N ds Rf k (.panic ch) a w:=(iZ k ch a w).2 ⟨⟨hf.defers,fun t ht=>by rw[hf.at_,hf.low t ht]⟩,h⟩
theorem ov:∀(k:List fy) (id:Nat) (k':List It),di id (k.map (fy.low N))=some k'→
  ∃rk,k'=rk.map (fy.low N)∧∀a w,bR P N ds Rf rk .normal a w→bR P N ds Rf k (.exit id) a w
 |[],_,_,h=>by simp[di]at h
 | .c _ :: k,id,k',h=>by
   obtain⟨rk,e,hh⟩:=ov k id k' (by simpa[di,fy.low]using h)
   exact⟨rk,e,fun a w hq=>hh a w hq⟩
 | .lp _ :: k,id,k',h=>by
   obtain⟨rk,e,hh⟩:=ov k id k' (by simpa[di,fy.low]using h)
   exact⟨rk,e,fun a w hq=>hh a w hq⟩
 | .sc :: k,id,k',h=>by
   obtain⟨rk,e,hh⟩:=ov k id k' (by simpa[di,fy.low]using h)
   exact⟨rk,e,fun a w hq=>hh a w hq⟩
 | .bl j :: k,id,k',h=>by
   by_cases hj:id=j
   ·subst hj
    have e:k.map (fy.low N)=k':=by simpa[di,fy.low]using h
    exact⟨k,e.symm,fun a w hq=>by simpa[bR,Exit.inBlock]using hq⟩
   ·obtain⟨rk,e,hh⟩:=ov k id k' (by simpa[di,fy.low,hj]using h)
    exact⟨rk,e,fun a w hq=>by simpa[bR,Exit.inBlock,hj]using hh a w hq⟩
theorem jY{g:FuncId}(h:db P g=true)(args:Array Value)(w:World):(callFunc g args).run P w= .ok (.enter g args) w:=by
 unfold db at h
 cases hf:P.funcs[g]?with
 |none=>simp[hf]at h
 |some fn=>
  simp only[hf,Bool.and_eq_true,Bool.not_eq_true']at h
  obtain⟨h1,h2⟩:=h
  have KC:fn.name≠ "runtime.NumGoroutine" :=by simpa using h1
  have h3:fn.body≠none:=by cases hb:fn.body<;>simp[hb]at h2 ⊢
  simp[callFunc,program,Sem.run,hf,KC,h3,pure]
theorem rj{o:Oper}{s:Sem Value}{ρ:Operand→Value}(hq:(bD o.op).isSome=true)(hs:valOf ρ o.type o.op=some s){w w':World}{v:Value}(hr:s.run P w= .ok v w'):
  (execOp ρ o).run P w= .ok (.value v) w'∨((execOp ρ o).run P w= .ok .skip w'∧v=undef):=by
 obtain⟨dst,op,ty,pos,after,guard⟩:=o
 have key:∀(s':Sem Value),some s'=some s→(do pure (Next.value (←s')):Sem Next).run P w= .ok (.value v) w':=by
  intro s' e;cases e;simp[hr]
 cases op
 case call c=>
  obtain⟨callee,args,argTypes⟩:=c
  cases callee with
  |value _=>simp[bD]at hq
  |invoke _ _=>simp[bD]at hq
  |builtin b=>
   cases b<;>first
    |(simp[bD]at hq;done)
    |(refine .inl ?_
      simp only[valOf]at hs
      simp only[execOp,resolve,invoke,builtin,Sem.run_bind,Sem.run_pure,Result.andThen_ok]
      simpa using key _ hs)
 case store t a x=>
  simp only[valOf,Option.some.injEq]at hs
  subst hs
  refine .inr ?_
  simp only[Sem.run_bind]at hr
  cases eU:(Instr.storeAt t (ρ a) (ρ x)).run P w with
  |ok _ w2=>
   simp only[eU,Result.andThen_ok,Sem.run_pure,Result.ok.injEq]at hr
   exact⟨by simp[execOp,eU,hr.2],hr.1.symm⟩
  |halt _ _=>simp[eU,Result.andThen]at hr
 case mapUpdate t m k x=>
  simp only[valOf,Option.some.injEq]at hs
  subst hs
  refine .inr ?_
  simp only[Sem.run_bind]at hr
  cases eU:(Instr.mapUpdate t (ρ m) (ρ k) (ρ x)).run P w with
  |ok _ w2=>
   simp only[eU,Result.andThen_ok,Sem.run_pure,Result.ok.injEq]at hr
   exact⟨by simp[execOp,eU,hr.2],hr.1.symm⟩
  |halt _ _=>simp[eU,Result.andThen]at hr
 case insert t m k x=>
  simp only[valOf,Option.some.injEq]at hs
  subst hs
  refine .inr ?_
  simp only[Sem.run_bind]at hr
  cases eU:(Instr.mapUpdate t (ρ m) (ρ k) (ρ x)).run P w with
  |ok _ w2=>
   simp only[eU,Result.andThen_ok,Sem.run_pure,Result.ok.injEq]at hr
   exact⟨by simp[execOp,eU,hr.2],hr.1.symm⟩
  |halt _ _=>simp[eU,Result.andThen]at hr
 all_goals first
  |(simp[bD]at hq;done)
  |(refine .inl ?_
    simp only[valOf]at hs
    simpa only[execOp]using key _ hs)
theorem th{o:Oper}{a:Act}{K':Act→World→Prop}{Q:Exit→Act→World→Prop}{w w':World}{v:Value}
  (h:(execOp a.eval o).run P w= .ok (.value v) w'∨((execOp a.eval o).run P w= .ok .skip w'∧v=undef))(hk:K' (a.put o.dst v) w'):o.wp P a w K' Q:=by
 unfold Oper.wp
 rcases h with h|⟨h,rfl⟩<;>rw[h]<;>exact hk
theorem Jf{K:Fr→World→Prop}{g:FuncId}{vs:List Value}{o:Oper}{a:Act}{f:Fr}{w:World}{K':Act→World→Prop}{Q:Exit→Act→World→Prop}(hf:Fits N ds a f)(hd:uf N o.dst=true)
  (he:(execOp a.eval o).run P w=(callFunc g vs.toArray).run P w)(h:vO P pn K g vs f o.dst w)(hP:∀ch w',pn ch w'→Q (.panic ch) a w')(hK:∀a f w,Fits N ds a f→K f w→K' a w):o.wp P a w K' Q:=by
 obtain⟨cL,hc⟩:=h
 unfold Oper.wp
 rw[he,jY cL,Oper.upon_enter]
 refine hc.mono ?_
 rintro e w' (⟨v,rfl,hk⟩|⟨ch,rfl,hk⟩)
 ·exact hK _ _ _ (hf.put _ (dL hd) v) hk
 ·exact hP ch w' hk
theorem yB{K:Fr→World→Prop}{o:Oper}{a:Act}{f:Fr}{w:World}{K':Act→World→Prop}{Q:Exit→Act→World→Prop}(hf:Fits N ds a f)(hd:uf N o.dst=true)
  (h:bT P pn K (dK o) w f w)(hP:∀ch w',pn ch w'→Q (.panic ch) a w')(hK:∀a f w,Fits N ds a f→K f w→K' a w):o.wp P a w K' Q:=by
 have oo:=hf.MA
 have DQ:=fun v=>hf.put o.dst (dL hd) v
 obtain⟨dst,op,ty,pos,after,guard⟩:=o
 have Aj:∀(o':Op),op=o'→(bD o').isSome=true→gU P K o' ty w f dst w→Oper.wp P ⟨dst,op,ty,pos,after,guard⟩ a w K' Q:=by
  intro o' eo hq hv
  subst eo
  unfold gU at hv
  cases hs:valOf (ev f) ty op with
  |none=>simp[hs]at hv
  |some s=>
   simp only[hs]at hv
   obtain⟨v,hr,hk⟩:=hv
   refine th (rj (o:=⟨dst,op,ty,pos,after,guard⟩) hq (by rw[oo];exact hs) (hr w (Below.refl _ _))) (hK _ _ _ (DQ v) hk)
 have aax:∀(o':Op),op=o'→(bD o').isSome=true→fZ P K o' ty f dst w→Oper.wp P ⟨dst,op,ty,pos,after,guard⟩ a w K' Q:=by
  intro o' eo hq hv
  subst eo
  unfold fZ at hv
  cases hs:valOf (ev f) ty op with
  |none=>simp[hs]at hv
  |some s=>
   simp only[hs]at hv
   obtain⟨v,w',hr,hk⟩:=hv
   exact th (rj (o:=⟨dst,op,ty,pos,after,guard⟩) hq (by rw[oo];exact hs) hr) (hK _ _ _ (DQ v) hk)
 cases op
 case panic y=>
  obtain⟨⟨t,z,hv⟩,hk⟩:=h
  unfold Oper.wp
  have hr:(execOp a.eval ⟨dst,.panic y,ty,pos,after,guard⟩).run P w= .halt (.panic (ev f y)) w:=by
   simp only[execOp,oo,hv,Instr.panic]
   rfl
  rw[hr,Oper.upon_panic]
  exact hP _ _ hk
 case move y=>exact th (.inl (by simp[execOp,oo])) (hK _ _ _ (DQ _) h)
 case assign y=>exact th (.inl (by simp[execOp,oo])) (hK _ _ _ (DQ _) h)
 case pick c y z=>
  obtain⟨t,ht,hk⟩:=h
  refine th (v:=if t then ev f y else ev f z) (w':=w) (.inl ?_) (hK _ _ _ (DQ _) hk)
  simp only[execOp,oo,ht,asBool]
  cases t<;>simp
 case nilCheck y=>
  obtain⟨hn,hk⟩:=h
  refine th (v:=ev f y) (w':=w) (.inl ?_) (hK _ _ _ (DQ _) hk)
  rcases hn with⟨p,hp⟩|⟨g,p,q,hp⟩<;>simp only[execOp,oo,hp]<;>rfl
 case call c=>
  obtain⟨callee,args,argTypes⟩:=c
  have gen:∀(g:Operand),callee= .value g→Ai P pn K (ev f g) (args.toList.map (ev f)) f dst w→Oper.wp P ⟨dst,.call ⟨callee,args,argTypes⟩,ty,pos,after,guard⟩ a w K' Q:=by
   intro g eg hv
   subst eg
   obtain⟨g',first,cap,hg,hc⟩:=hv
   refine Jf hf hd ?_ hc hP hK
   simp only[execOp,oo,resolve,Deferred.ofValue,hg,Sem.run_bind,Sem.run_pure,Result.andThen_ok,invoke]
   congr 3
   apply Array.ext'
   simp
  cases callee with
  |value g=>
   cases g with
   |func g=>
    refine Jf hf hd ?_ h hP hK
    simp only[execOp,oo,ev,resolve,Deferred.ofValue,Sem.run_bind,Sem.run_pure,Result.andThen_ok,invoke]
    congr 3
    apply Array.ext'
    simp
   |tmp t=>exact gen _ rfl h
   |const v=>exact gen _ rfl h
   |global g=>exact gen _ rfl h
  |invoke _ _=>exact h.elim
  |builtin b=>cases b<;>first|exact Aj _ rfl rfl h|exact aax _ rfl rfl h|exact h.elim
 all_goals first|exact Aj _ rfl rfl h|exact aax _ rfl rfl h|exact h.elim
theorem C0{o:Oper}{all:Array Oper}{a:Act}{f:Fr}(hf:Fits N ds a f){j s:Nat}{b:Bool}(hg:o.guard=some (j,b))(hs:(all[j]?).bind (·.dst)=some s):
  Region.wanted o (yielded all a.tmps)=(match f s with| .bool t=>decide (t=b)|_=>false):=by
 simp only[Region.wanted,hg,hf.yield,hs]
 cases f s<;>simp
 rename_i t;cases t<;>cases b<;>rfl
theorem ij{K:Fr→World→Prop}{all:Array Oper}{o:Oper}{a:Act}{f:Fr}{w:World}{K':Act→World→Prop}{Q:Exit→Act→World→Prop}(hf:Fits N ds a f)
  (h:bT P pn K (cI N all o) w f w)(hP:∀ch w',pn ch w'→Q (.panic ch) a w')(hK:∀a f w,Fits N ds a f→K f w→K' a w):
  if Region.wanted o (yielded all a.tmps)=true then o.wp P a w K' Q else K' (a.put o.dst undef) w:=by
 unfold cI at h
 by_cases hd:uf N o.dst=true
 ·rw[if_pos hd]at h
  cases hg:o.guard with
  |none=>
   simp only[hg]at h
   rw[if_pos (by simp[Region.wanted,hg])]
   exact yB hf hd h hP hK
  |some jb=>
   obtain⟨j,b⟩:=jb
   simp only[hg]at h
   cases hs:(all[j]?).bind (·.dst)with
   |none=>simp only[hs,bT]at h
   |some s=>
    simp only[hs,bT]at h
    rw[C0 hf hg hs]
    have DQ:=hf.put o.dst (dL hd) undef
    cases hfs:f s<;>simp only[hfs]at h ⊢
    case bool t=>
     by_cases ht:t=b
     ·rw[if_pos ht]at h;rw[if_pos (by simp[ht])];exact yB hf hd h hP hK
     ·rw[if_neg ht]at h;rw[if_neg (by simp[ht])];exact hK _ _ _ DQ h
    all_goals(rw[if_neg (by simp)];exact hK _ _ _ DQ h)
 ·rw[if_neg hd]at h;exact h.elim
theorem rm{K:Fr→World→Prop}{all:Array Oper}{o:Oper}{a:Act}{f:Fr}{b w:World}(hf:Fits N ds a f)(hq:(dK o).quiet=true)
  (h:bT P pn K (cI N all o) b f w):
  ∃v,uf N o.dst=true∧YieldsIf P all (Below b.heap.size b) o v a∧K (ai f o.dst v) w:=by
 unfold cI at h
 by_cases hd:uf N o.dst=true
 ·rw[if_pos hd]at h
  have raw:bT P pn K (dK o) b f w→∃v,(∀w',Below b.heap.size b w'→(execOp a.eval o).run P w'= .ok (.value v) w')∧K (ai f o.dst v) w:=by
   clear h
   intro h
   have oo:=hf.MA
   obtain⟨dst,op,ty,pos,after,guard⟩:=o
   have Aj:∀(o':Op),op=o'→bD o'=some true→gU P K o' ty b f dst w→
     ∃v,(∀w',Below b.heap.size b w'→(execOp a.eval ⟨dst,op,ty,pos,after,guard⟩).run P w'= .ok (.value v) w')∧K (ai f dst v) w:=by
    intro o' eo Rl hv
    subst eo
    unfold gU at hv
    cases hs:valOf (ev f) ty op with
    |none=>simp[hs]at hv
    |some s=>
     simp only[hs]at hv
     obtain⟨v,hr,hk⟩:=hv
     refine⟨v,fun w' DR=>?_,hk⟩
     rcases rj (o:=⟨dst,op,ty,pos,after,guard⟩) (ρ:=a.eval) (by rw[Rl];rfl) (by rw[oo];exact hs) (hr w' DR)with h|⟨h,_⟩
     ·exact h
     ·exfalso
      have:∀Jg,bD Jg=some true→∀dst ty pos after guard,∀r,(execOp (ev f) ⟨dst,Jg,ty,pos,after,guard⟩).run P w'= .ok .skip r→False:=by
       intro Jg Cv dst ty pos after guard r eM
       have fin:∀(s:Sem Value),(do pure (Next.value (←s)):Sem Next).run P w'= .ok .skip r→False:=by
        intro s hs
        simp only[Sem.run_bind]at hs
        cases hz:s.run P w'<;>simp[hz,Result.andThen]at hs
       cases Jg
       case call c=>
        obtain⟨callee,args,argTypes⟩:=c
        cases callee with
        |value _=>simp[bD]at Cv
        |invoke _ _=>simp[bD]at Cv
        |builtin bb=>
         cases bb<;>first
          |(simp[bD]at Cv;done)
          |(simp only[execOp,resolve,invoke,builtin,Sem.run_bind,Sem.run_pure,Result.andThen_ok]at eM
            exact fin _ (by simp only[Sem.run_bind,Sem.run_pure];exact eM))
       all_goals first
        |(simp[bD]at Cv;done)
        |(simp only[execOp]at eM;exact fin _ eM)
      rw[oo]at h
      exact this op Rl _ _ _ _ _ _ h
   cases op
   case move y=>exact⟨_,fun w' _=>by simp[execOp,oo],h⟩
   case assign y=>exact⟨_,fun w' _=>by simp[execOp,oo],h⟩
   case pick c y z=>
    obtain⟨t,ht,hk⟩:=h
    exact⟨_,fun w' _=>by simp only[execOp,oo,ht,asBool];cases t<;>simp,hk⟩
   case nilCheck y=>
    obtain⟨hn,hk⟩:=h
    refine⟨ev f y,fun w' _=>?_,hk⟩
    rcases hn with⟨p,hp⟩|⟨g,p,q,hp⟩<;>simp only[execOp,oo,hp]<;>rfl
   case call c=>
    obtain⟨callee,args,argTypes⟩:=c
    cases callee with
    |value g=>cases g<;>simp[dK,I.quiet]at hq
    |invoke _ _=>exact h.elim
    |builtin bb=>cases bb<;>first|exact Aj _ rfl rfl h|(simp[dK,bD,I.quiet]at hq;done)|exact h.elim
   all_goals first|exact Aj _ rfl rfl h|(simp[dK,bD,I.quiet]at hq;done)|exact h.elim
  cases hg:o.guard with
  |none=>
   simp only[hg]at h
   obtain⟨v,h1,h2⟩:=raw h
   exact⟨v,hd,.inl ⟨by simp[Region.wanted,hg],h1⟩,h2⟩
  |some jb=>
   obtain⟨j,bb⟩:=jb
   simp only[hg]at h
   cases hs:(all[j]?).bind (·.dst)with
   |none=>simp only[hs,bT]at h
   |some s=>
    simp only[hs,bT]at h
    have hw:=C0 hf hg hs
    cases hfs:f s<;>simp only[hfs]at h hw
    case bool t=>
     by_cases ht:t=bb
     ·rw[if_pos ht]at h
      obtain⟨v,h1,h2⟩:=raw h
      exact⟨v,hd,.inl ⟨by rw[hw];simp[ht],h1⟩,h2⟩
     ·rw[if_neg ht]at h;exact⟨undef,hd,.inr ⟨by rw[hw];simp[ht],rfl⟩,h⟩
    all_goals exact⟨undef,hd,.inr ⟨hw,rfl⟩,h⟩
 ·rw[if_neg hd]at h;exact h.elim
theorem DS{K:Fr→World→Prop}{all:Array Oper}{o:Oper}{a:Act}{f:Fr}{b w:World}{et:TypeId}(hf:Fits N ds a f)(hq:(dK o).quiet=true)
  (h:mT P K et (cI N all o) b f w):
  ∃v,uf N o.dst=true∧YieldsIf P all (dy P et b) o v a∧K (ai f o.dst v) w:=by
 unfold cI at h
 by_cases hd:uf N o.dst=true
 ·rw[if_pos hd]at h
  have raw:mT P K et (dK o) b f w→∃v,(∀w',dy P et b w'→(execOp a.eval o).run P w'= .ok (.value v) w')∧K (ai f o.dst v) w:=by
   clear h
   intro h
   have oo:=hf.MA
   obtain⟨dst,op,ty,pos,after,guard⟩:=o
   have Aj:∀(o':Op),op=o'→bD o'=some true→CZ P K et o' ty b f dst w→
     ∃v,(∀w',dy P et b w'→(execOp a.eval ⟨dst,op,ty,pos,after,guard⟩).run P w'= .ok (.value v) w')∧K (ai f dst v) w:=by
    intro o' eo Rl hv
    subst eo
    unfold CZ at hv
    cases hs:valOf (ev f) ty op with
    |none=>simp[hs]at hv
    |some s=>
     simp only[hs]at hv
     obtain⟨v,hr,hk⟩:=hv
     refine⟨v,fun w' DR=>?_,hk⟩
     rcases rj (o:=⟨dst,op,ty,pos,after,guard⟩) (ρ:=a.eval) (by rw[Rl];rfl) (by rw[oo];exact hs) (hr w' DR)with h|⟨h,_⟩
     ·exact h
     ·exfalso
      have:∀Jg,bD Jg=some true→∀dst ty pos after guard,∀r,(execOp (ev f) ⟨dst,Jg,ty,pos,after,guard⟩).run P w'= .ok .skip r→False:=by
       intro Jg Cv dst ty pos after guard r eM
       have fin:∀(s:Sem Value),(do pure (Next.value (←s)):Sem Next).run P w'= .ok .skip r→False:=by
        intro s hs
        simp only[Sem.run_bind]at hs
        cases hz:s.run P w'<;>simp[hz,Result.andThen]at hs
       cases Jg
       case call c=>
        obtain⟨callee,args,argTypes⟩:=c
        cases callee with
        |value _=>simp[bD]at Cv
        |invoke _ _=>simp[bD]at Cv
        |builtin bb=>
         cases bb<;>first
          |(simp[bD]at Cv;done)
          |(simp only[execOp,resolve,invoke,builtin,Sem.run_bind,Sem.run_pure,Result.andThen_ok]at eM
            exact fin _ (by simp only[Sem.run_bind,Sem.run_pure];exact eM))
       all_goals first
        |(simp[bD]at Cv;done)
        |(simp only[execOp]at eM;exact fin _ eM)
      rw[oo]at h
      exact this op Rl _ _ _ _ _ _ h
   cases op
   case move y=>exact⟨_,fun w' _=>by simp[execOp,oo],h⟩
   case assign y=>exact⟨_,fun w' _=>by simp[execOp,oo],h⟩
   case pick c y z=>
    obtain⟨t,ht,hk⟩:=h
    exact⟨_,fun w' _=>by simp only[execOp,oo,ht,asBool];cases t<;>simp,hk⟩
   case nilCheck y=>
    obtain⟨hn,hk⟩:=h
    refine⟨ev f y,fun w' _=>?_,hk⟩
    rcases hn with⟨p,hp⟩|⟨g,p,q,hp⟩<;>simp only[execOp,oo,hp]<;>rfl
   case call c=>
    obtain⟨callee,args,argTypes⟩:=c
    cases callee with
    |value g=>cases g<;>simp[dK,I.quiet]at hq
    |invoke _ _=>exact h.elim
    |builtin bb=>cases bb<;>first|exact Aj _ rfl rfl h|(simp[dK,bD,I.quiet]at hq;done)|exact h.elim
   all_goals first|exact Aj _ rfl rfl h|(simp[dK,bD,I.quiet]at hq;done)|exact h.elim
  cases hg:o.guard with
  |none=>
   simp only[hg]at h
   obtain⟨v,h1,h2⟩:=raw h
   exact⟨v,hd,.inl ⟨by simp[Region.wanted,hg],h1⟩,h2⟩
  |some jb=>
   obtain⟨j,bb⟩:=jb
   simp only[hg]at h
   cases hs:(all[j]?).bind (·.dst)with
   |none=>simp only[hs,mT]at h
   |some s=>simp only[hs,mT]at h
 ·rw[if_neg hd]at h;exact h.elim
theorem vP{K:Fr→World→Prop}{all:Array Oper}{o:Oper}{a:Act}{f:Fr}{w:World}{S:World→Prop}(hf:Fits N ds a f)(hq:(dK o).quiet=true)
  (h:lC P K S (cI N all o) f w):
  ∃v,uf N o.dst=true∧YieldsIf P all S o v a∧K (ai f o.dst v) w:=by
 unfold cI at h
 by_cases hd:uf N o.dst=true
 ·rw[if_pos hd]at h
  have raw:lC P K S (dK o) f w→∃v,(∀w',S w'→(execOp a.eval o).run P w'= .ok (.value v) w')∧K (ai f o.dst v) w:=by
   clear h
   intro h
   have oo:=hf.MA
   obtain⟨dst,op,ty,pos,after,guard⟩:=o
   have Aj:∀(o':Op),op=o'→bD o'=some true→qE P K S o' ty f dst w→
     ∃v,(∀w',S w'→(execOp a.eval ⟨dst,op,ty,pos,after,guard⟩).run P w'= .ok (.value v) w')∧K (ai f dst v) w:=by
    intro o' eo Rl hv
    subst eo
    unfold qE at hv
    cases hs:valOf (ev f) ty op with
    |none=>simp[hs]at hv
    |some s=>
     simp only[hs]at hv
     obtain⟨v,hr,hk⟩:=hv
     refine⟨v,fun w' DR=>?_,hk⟩
     rcases rj (o:=⟨dst,op,ty,pos,after,guard⟩) (ρ:=a.eval) (by rw[Rl];rfl) (by rw[oo];exact hs) (hr w' DR)with h|⟨h,_⟩
     ·exact h
     ·exfalso
      have:∀Jg,bD Jg=some true→∀dst ty pos after guard,∀r,(execOp (ev f) ⟨dst,Jg,ty,pos,after,guard⟩).run P w'= .ok .skip r→False:=by
       intro Jg Cv dst ty pos after guard r eM
       have fin:∀(s:Sem Value),(do pure (Next.value (←s)):Sem Next).run P w'= .ok .skip r→False:=by
        intro s hs
        simp only[Sem.run_bind]at hs
        cases hz:s.run P w'<;>simp[hz,Result.andThen]at hs
       cases Jg
       case call c=>
        obtain⟨callee,args,argTypes⟩:=c
        cases callee with
        |value _=>simp[bD]at Cv
        |invoke _ _=>simp[bD]at Cv
        |builtin bb=>
         cases bb<;>first
          |(simp[bD]at Cv;done)
          |(simp only[execOp,resolve,invoke,builtin,Sem.run_bind,Sem.run_pure,Result.andThen_ok]at eM
            exact fin _ (by simp only[Sem.run_bind,Sem.run_pure];exact eM))
       all_goals first
        |(simp[bD]at Cv;done)
        |(simp only[execOp]at eM;exact fin _ eM)
      rw[oo]at h
      exact this op Rl _ _ _ _ _ _ h
   cases op
   case move y=>exact⟨_,fun w' _=>by simp[execOp,oo],h⟩
   case assign y=>exact⟨_,fun w' _=>by simp[execOp,oo],h⟩
   case pick c y z=>
    obtain⟨t,ht,hk⟩:=h
    exact⟨_,fun w' _=>by simp only[execOp,oo,ht,asBool];cases t<;>simp,hk⟩
   case nilCheck y=>
    obtain⟨hn,hk⟩:=h
    refine⟨ev f y,fun w' _=>?_,hk⟩
    rcases hn with⟨p,hp⟩|⟨g,p,q,hp⟩<;>simp only[execOp,oo,hp]<;>rfl
   case call c=>
    obtain⟨callee,args,argTypes⟩:=c
    cases callee with
    |value g=>cases g<;>simp[dK,I.quiet]at hq
    |invoke _ _=>exact h.elim
    |builtin bb=>cases bb<;>first|exact Aj _ rfl rfl h|(simp[dK,bD,I.quiet]at hq;done)|exact h.elim
   all_goals first|exact Aj _ rfl rfl h|(simp[dK,bD,I.quiet]at hq;done)|exact h.elim
  cases hg:o.guard with
  |none=>
   simp only[hg]at h
   obtain⟨v,h1,h2⟩:=raw h
   exact⟨v,hd,.inl ⟨by simp[Region.wanted,hg],h1⟩,h2⟩
  |some jb=>
   obtain⟨j,bb⟩:=jb
   simp only[hg]at h
   cases hs:(all[j]?).bind (·.dst)with
   |none=>simp only[hs,lC]at h
   |some s=>simp only[hs,lC]at h
 ·rw[if_neg hd]at h;exact h.elim
theorem KD(o:Oper)(i:I):dK o≠ .q i:=by
 intro hc
 unfold dK at hc
 split at hc<;>first|(cases hc;done)|skip
 split at hc<;>cases hc
theorem Hq(o:Oper):dK o≠ .rb:=by
 intro hc
 unfold dK at hc
 split at hc<;>first|(cases hc;done)|skip
 split at hc<;>cases hc
theorem E7(o:Oper)(d:Option Nat)(p:Op)(ty:TypeId):dK o≠ .bF d p ty:=by
 intro hc
 unfold dK at hc
 split at hc<;>first|(cases hc;done)|skip
 split at hc<;>cases hc
theorem Hr(o:Oper)(t:TypeId)(i:I):dK o≠ .qx t i:=by
 intro hc
 unfold dK at hc
 split at hc<;>first|(cases hc;done)|skip
 split at hc<;>cases hc
theorem DT(o:Oper)(t:TypeId):dK o≠ .lr t:=by
 intro hc
 unfold dK at hc
 split at hc<;>first|(cases hc;done)|skip
 split at hc<;>cases hc
theorem E8(o:Oper):dK o≠ .eI:=by
 intro hc
 unfold dK at hc
 split at hc<;>first|(cases hc;done)|skip
 split at hc<;>cases hc
theorem pG(all:Array Oper)(o:Oper)(i:I):cI N all o≠ .q i:=by
 intro hc
 unfold cI at hc
 split at hc
 ·split at hc
  ·exact KD _ _ hc
  ·split at hc<;>cases hc
 ·cases hc
theorem ox(all:Array Oper)(o:Oper):cI N all o≠ .eI:=by
 intro hc
 unfold cI at hc
 split at hc
 ·split at hc
  ·exact E8 _ hc
  ·split at hc<;>cases hc
 ·cases hc
theorem jc(all:Array Oper)(o:Oper)(d:Option Nat)(p:Op)(ty:TypeId):cI N all o≠ .bF d p ty:=by
 intro hc
 unfold cI at hc
 split at hc
 ·split at hc
  ·exact E7 _ _ _ _ hc
  ·split at hc<;>cases hc
 ·cases hc
theorem rn(all:Array Oper)(o:Oper)(t:TypeId)(i:I):cI N all o≠ .qx t i:=by
 intro hc
 unfold cI at hc
 split at hc
 ·split at hc
  ·exact Hr _ _ _ hc
  ·split at hc<;>cases hc
 ·cases hc
theorem lD(all:Array Oper)(o:Oper)(t:TypeId):cI N all o≠ .lr t:=by
 intro hc
 unfold cI at hc
 split at hc
 ·split at hc
  ·exact DT _ _ hc
  ·split at hc<;>cases hc
 ·cases hc
theorem lF(all:Array Oper)(o:Oper):cI N all o≠ .rb:=by
 intro hc
 unfold cI at hc
 split at hc
 ·split at hc
  ·exact Hq _ hc
  ·split at hc<;>cases hc
 ·cases hc
theorem Ak{all:Array Oper}{b:World}{k:List It}{tl:List I}{Lq:Act→Prop}(ol:List Oper)(hq:∀o∈ol,(dK o).quiet=true):
  ∀(n:Nat) (a:Act) (f:Fr),Fits N ds a f→x P Rf n (ol.map (fun o=>.q (cI N all o))++tl) k b f b→
   (∀n' a' f',n'≤n→Fits N ds a' f'→x P Rf n' tl k b f' b→Lq a')→wpStill P all b Lq ol a:=by
 induction ol with
 |nil=>exact fun n a f hf h hL=>hL n a f (Nat.le_refl _) hf h
 |cons o ol ih=>
  intro n a f hf h hL
  cases n with
  |zero=>exact h.elim
  |succ n=>
   simp only[List.map_cons,List.cons_append,x]at h
   obtain⟨v,hd,hy,hk⟩:=rm hf (hq o (by simp)) h
   have aay:=ih (fun o' Jh=>hq o' (by simp[Jh])) n _ _ (hf.put o.dst (dL hd) v) hk (fun n' a' f' qF=>hL n' a' f' (by omega))
   unfold wpStill
   rcases hy with⟨hw,hr⟩|⟨hw,rfl⟩
   ·rw[if_pos hw,Oper.still,hr b (Below.refl _ _)];exact⟨rfl,aay⟩
   ·rw[if_neg (by simp[hw])];exact aay
def Dn(ops:Array Oper)(listed:Array Bool):Prop:=∀k,listed.getD k false=true→∀d∈ic ops k,listed.getD d false=true
theorem Al{ops:Array Oper}{k:Nat}{o:Oper}(ho:ops[k]? =some o){d:Nat}:d∈ic ops k↔∃e∈o.after,Region.binds .any e=true∧e.on=d:=by
 unfold ic
 rw[ho]
 simp only[List.mem_map,List.mem_filter,Array.mem_toList_iff]
 exact⟨fun⟨e,⟨h1,h2⟩,h3⟩=>⟨e,h1,h2,h3⟩,fun⟨e,h1,h2,h3⟩=>⟨e,⟨h1,h2⟩,h3⟩⟩
theorem Dn.cover{ops:Array Oper}{listed:Array Bool}(h:Dn ops listed):∀(n:Nat) (l:List Nat),(∀k∈l,listed.getD k false=true)→∀k∈cover ops n l,listed.getD k false=true
 |0,_,hl,k,hk=>hl k hk
 |n+1,l,hl,k,hk=>by
  refine Dn.cover h n _ (fun j hj=>?_) k hk
  rw[List.mem_eraseDups]at hj
  rcases List.mem_append.1 hj with hj|hj
  ·exact hl j hj
  ·obtain⟨i,hi,hj⟩:=List.mem_flatMap.1 hj
   exact h i (hl i hi) j hj
theorem jF{listed:Array Bool}{k:Nat}(h0:listed.getD k true=false)(h1:listed.getD k false=true):False:=by
 rcases Nat.lt_or_ge k listed.size with hh|hh
 ·simp[hh]at h0 h1;rw[h0]at h1;cases h1
 ·simp[Array.getElem?_eq_none hh]at h1
theorem Dn.ready{ops:Array Oper}{listed:Array Bool}(h:Dn ops listed){j:Nat}(hr:j∈Region.ready .any ops listed):∀k∈Go.Proofs.YtcefeihlkpmejaaGreatDoor.cover ops 12 (ic ops j),listed.getD k false=true:=by
 obtain⟨_,o,ho,jZ⟩:=mem_ready.1 hr
 refine h.cover 12 _ fun d hd=>?_
 obtain⟨e,he,hb,rfl⟩:=(Al ho).1 hd
 exact jZ e he hb
theorem Dn.alone{ops:Array Oper}{listed:Array Bool}(h:Dn ops listed){j:Nat}(hz:US ops j=true)(hr:j∈Region.ready .any ops listed){k:Nat}(hk:k∈Region.ready .any ops listed)(hp:ly (ops.getD k default)=false):k=j:=by
 refine Classical.byContradiction fun cY=>?_
 have aI:k<ops.size:=by
  obtain⟨_,o,ho,_⟩:=mem_ready.1 hk
  exact(Array.getElem?_eq_some_iff.1 ho).1
 have hc:=List.all_eq_true.1 hz k (List.mem_range.2 aI)
 simp only[Bool.or_eq_true,beq_iff_eq,cY,hp,false_or,Bool.false_eq_true,List.contains_iff_mem]at hc
 rcases hc with hc|hc
 ·exact jF (mem_ready.1 hk).1 (h.ready hr k hc)
 ·exact jF (mem_ready.1 hr).1 (h.ready hk j hc)
theorem Dn.M3{ops:Array Oper}{listed:Array Bool}(h:Dn ops listed){j:Nat}(hz:MT ops j=true)(hr:j∈Region.ready .any ops listed){k:Nat}(hk:k∈Region.ready .any ops listed)(hp:jy (ops.getD k default)=false):k=j:=by
 refine Classical.byContradiction fun cY=>?_
 have aI:k<ops.size:=by
  obtain⟨_,o,ho,_⟩:=mem_ready.1 hk
  exact(Array.getElem?_eq_some_iff.1 ho).1
 have hc:=List.all_eq_true.1 hz k (List.mem_range.2 aI)
 simp only[Bool.or_eq_true,beq_iff_eq,cY,hp,false_or,Bool.false_eq_true,List.contains_iff_mem]at hc
 rcases hc with hc|hc
 ·exact jF (mem_ready.1 hk).1 (h.ready hr k hc)
 ·exact jF (mem_ready.1 hr).1 (h.ready hk j hc)
theorem Dn.VW{ops:Array Oper}{listed:Array Bool}(h:Dn ops listed){j:Nat}(hz:MW ops j=true)(hr:j∈Region.ready .any ops listed){k:Nat}(hk:k∈Region.ready .any ops listed)(hp:zL (ops.getD k default)=false):k=j:=by
 refine Classical.byContradiction fun cY=>?_
 have aI:k<ops.size:=by
  obtain⟨_,o,ho,_⟩:=mem_ready.1 hk
  exact(Array.getElem?_eq_some_iff.1 ho).1
 have hc:=List.all_eq_true.1 hz k (List.mem_range.2 aI)
 simp only[Bool.or_eq_true,beq_iff_eq,cY,hp,false_or,Bool.false_eq_true,List.contains_iff_mem]at hc
 rcases hc with hc|hc
 ·exact jF (mem_ready.1 hk).1 (h.ready hr k hc)
 ·exact jF (mem_ready.1 hr).1 (h.ready hk j hc)
theorem Dn.next{ops:Array Oper}{listed:Array Bool}(h:Dn ops listed){j:Nat}(hr:j∈Region.ready .any ops listed):Dn ops (listed.setIfInBounds j true):=fun k hk d hd=>by
 by_cases e:j=k
 ·subst e
  obtain⟨_,o,ho,jZ⟩:=mem_ready.1 hr
  obtain⟨e,he,hb,rfl⟩:=(Al ho).1 hd
  exact getD_set_true (jZ e he hb)
 ·rw[getD_set_ne false e]at hk
  exact getD_set_true (h k hk d hd)
theorem Dn.start(ops:Array Oper)(n:Nat):Dn ops (Array.replicate n false):=fun k hk=>by
 rcases Nat.lt_or_ge k n with h|h
 ·simp[h]at hk
 ·simp[Array.getElem?_eq_none (show(Array.replicate n false).size≤k by simpa using h)]at hk
def bV(P:Program)(ops:Array Oper)(ct:Nat→Bool)(Q:Exit→Act→World→Prop):Nat→(World→Prop)→Array Bool→Act→World→Prop
 |0,_,listed,a,w=>Region.ready .any ops listed=[]∧Q .normal a w
 |n+1,S,listed,a,w=>(Region.ready .any ops listed=[]→Q .normal a w)∧
  ∀i∈Region.ready .any ops listed,wpOp P ops Q i (fun a' w'=>(ct i=true∧∃S':World→Prop,S' w'∧bV P ops ct Q n S' (listed.setIfInBounds i true) a' w')∨(S w'∧bV P ops ct Q n S (listed.setIfInBounds i true) a' w')) a w
theorem bV.any{ops:Array Oper}{ct:Nat→Bool}{Q:Exit→Act→World→Prop}:∀(n:Nat) (S:World→Prop) (listed:Array Bool) (a:Act) (w:World),bV P ops ct Q n S listed a w→wpAny P .any ops Q n listed a w
 |0,_,_,_,_,h=>h
 |n+1,_,_,_,_,h=>⟨h.1,fun i hi=>wpOp_mono (fun a' w' h'=>h'.elim (fun⟨_,S',_,h''⟩=>bV.any n S' _ a' w' h'') fun h''=>bV.any n _ _ a' w' h''.2) (h.2 i hi)⟩
theorem bV.nil{ops:Array Oper}{ct:Nat→Bool}{Q:Exit→Act→World→Prop}{S:World→Prop}{listed:Array Bool}{a:Act}{w:World}(hr:Region.ready .any ops listed=[])(h:Q .normal a w):∀n,bV P ops ct Q n S listed a w
 |0=>⟨hr,h⟩
 |_+1=>⟨fun _=>h,by rw[hr];simp⟩
theorem bV.look{ops:Array Oper}{ct:Nat→Bool}{Q:Exit→Act→World→Prop}{i:Nat}{oi:Oper}{v:Value}(hi:ops[i]? =some oi)(hs:Region.noSelect ops=true)(hz:∀(listed:Array Bool) (j:Nat),Dn ops listed→j∈Region.ready .any ops listed→i∈Region.ready .any ops listed→ct j=true→j=i)
  (hQ:∀c a w,Q (.panic c) (a.put oi.dst v) w→Q (.panic c) a w):
  ∀(n:Nat) (S:World→Prop) (listed:Array Bool) (a:Act) (w:World),Dn ops listed→
   (∀j oj,ops[j]? =some oj→j≠i→listed.getD j true=false→(∀e∈oj.after,Region.binds .any e=true→e.on≠i)→oi.apart ops oj=true)→
   i∈Region.ready .any ops listed→YieldsIf P ops S oi v a→S w→bV P ops ct Q n S (listed.setIfInBounds i true) (a.put oi.dst v) w→bV P ops ct Q (n+1) S listed a w
 |n,S,listed,a,w,hd,hf,hr,hy,hS,H=>by
  refine⟨fun h=>(by rw[h]at hr;cases hr),fun j hj=>?_⟩
  by_cases MB:j=i
  ·subst MB;exact hy.wpOp hi hS (.inr ⟨hS,H⟩)
  have Hf:=ready_mono hj MB
  cases n with
  |zero=>rw[H.1]at Hf;cases Hf
  |succ n=>
   obtain⟨M4,oj,VX,jZ⟩:=mem_ready.1 hj
   have VY:=(mem_ready.1 hr).1
   have hjz:¬ct j=true:=fun e=>MB (hz listed j hd hj hr e)
   have gY:∀e∈oj.after,Region.binds .any e=true→e.on≠i:=fun e he hb heq=>jF VY (heq▸jZ e he hb)
   have h2:=wpOp_putIf VX (hf j oj VX MB M4 gY) (fun cs b=>Region.noSelect_spec hs i oi cs b hi) (fun cs b=>Region.noSelect_spec hs j oj cs b VX) hQ hy (H.2 j Hf)
   refine wpOp_mono (fun a' w' h3=>?_) h2
   obtain⟨h3,h4⟩:=h3
   rcases h4 with h4|h4
   ·exact absurd h4.1 hjz
   refine .inr ⟨h4.1,bV.look hi hs hz hQ n S (listed.setIfInBounds j true) a' w' (hd.next hj) (fun k ok hk hki hun gY=>hf k ok hk hki ?_ gY) (ready_mono hr (Ne.symm MB)) h3 h4.1 ?_⟩
   ·by_cases hjk:j=k
    ·subst hjk;exact M4
    ·rwa [getD_set_ne true hjk]at hun
   ·rw[Array.setIfInBounds_comm _ _ MB]
    exact h4.2
theorem bV.oy{ops:Array Oper}{ct:Nat→Bool}{Q:Exit→Act→World→Prop}{i:Nat}{oi:Oper}{v:Value}(hi:ops[i]? =some oi)(hs:Region.noSelect ops=true)
  (hQ:∀c a w,Q (.panic c) (a.put oi.dst v) w→Q (.panic c) a w):
  ∀(n:Nat) (S:World→Prop) (listed:Array Bool) (a:Act) (w:World),Dn ops listed→
   (∀j oj,ops[j]? =some oj→j≠i→listed.getD j true=false→(∀e∈oj.after,Region.binds .any e=true→e.on≠i)→oi.apart ops oj=true)→
   i∈Region.ready .any ops listed→YieldsIf P ops (fun _=>True) oi v a→S w→bV P ops ct Q n S (listed.setIfInBounds i true) (a.put oi.dst v) w→bV P ops ct Q (n+1) S listed a w
 |n,S,listed,a,w,hd,hf,hr,hy,hS,H=>by
  refine⟨fun h=>(by rw[h]at hr;cases hr),fun j hj=>?_⟩
  by_cases MB:j=i
  ·subst MB;exact hy.wpOp hi trivial (.inr ⟨hS,H⟩)
  have Hf:=ready_mono hj MB
  cases n with
  |zero=>rw[H.1]at Hf;cases Hf
  |succ n=>
   obtain⟨M4,oj,VX,jZ⟩:=mem_ready.1 hj
   have VY:=(mem_ready.1 hr).1
   have gY:∀e∈oj.after,Region.binds .any e=true→e.on≠i:=fun e he hb heq=>jF VY (heq▸jZ e he hb)
   have h2:=wpOp_putIf VX (hf j oj VX MB M4 gY) (fun cs b=>Region.noSelect_spec hs i oi cs b hi) (fun cs b=>Region.noSelect_spec hs j oj cs b VX) hQ hy (H.2 j Hf)
   refine wpOp_mono (fun a' w' h3=>?_) h2
   obtain⟨h3,h4⟩:=h3
   have go:∀S':World→Prop,S' w'→bV P ops ct Q n S' ((listed.setIfInBounds i true).setIfInBounds j true) (a'.put oi.dst v) w'→bV P ops ct Q (n+1) S' (listed.setIfInBounds j true) a' w':=fun S' QN hA=>
    bV.oy hi hs hQ n S' (listed.setIfInBounds j true) a' w' (hd.next hj) (fun k ok hk hki hun gY=>hf k ok hk hki (by
     by_cases hjk:j=k
     ·subst hjk;exact M4
     ·rwa [getD_set_ne true hjk]at hun) gY) (ready_mono hr (Ne.symm MB)) h3 QN (by rw[Array.setIfInBounds_comm _ _ MB];exact hA)
   exact h4.elim (fun⟨hc,S',QN,hA⟩=>.inl ⟨hc,S',QN,go S' QN hA⟩) fun⟨QN,hA⟩=>.inr ⟨QN,go S QN hA⟩
theorem jG{all:Array Oper}{o:Oper}(hp:ly o=true)(a:Act):∃y,dK o= .mv o.dst y∧o.guard=none∧YieldsIf P all (fun _=>True) o (a.eval y) a:=by
 unfold ly at hp
 rw[Bool.and_eq_true]at hp
 have hg:o.guard=none:=by simpa using hp.1
 have hw:Region.wanted o (yielded all a.tmps)=true:=by simp[Region.wanted,hg]
 have hh:=hp.2
 split at hh
 ·rename_i x he
  exact⟨x,by unfold dK;rw[he],hg,.inl ⟨hw,fun w _=>by unfold execOp;rw[he];rfl⟩⟩
 ·rename_i x he
  exact⟨x,by unfold dK;rw[he],hg,.inl ⟨hw,fun w _=>by unfold execOp;rw[he];rfl⟩⟩
 ·cases hh
theorem lG{K:Fr→World→Prop}{all:Array Oper}{o:Oper}{a:Act}{f:Fr}{b w:World}(hf:Fits N ds a f)(ha:fY o=true)(h:bT P pn K (.bF o.dst o.op o.type) b f w):
  ∃v,YieldsIf P all (fun _=>True) o v a∧K (ai f o.dst v) w:=by
 unfold fY at ha
 rw[Bool.and_eq_true]at ha
 have hg:o.guard=none:=by simpa using ha.1
 have hw:Region.wanted o (yielded all a.tmps)=true:=by simp[Region.wanted,hg]
 have hh:=ha.2
 have oo:=hf.MA
 obtain⟨dst,op,ty,pos,after,guard⟩:=o
 simp only[bT,Ah]at h
 cases op<;>first
  |(cases hh;done)
  |(simp only[valOf]at h
    obtain⟨v,hr,hk⟩:=h
    exact⟨v,.inl ⟨hw,fun w' _=>by simp[execOp,oo,hr w']⟩,hk⟩)
theorem DU{K:Fr→World→Prop}{all:Array Oper}{o:Oper}{a:Act}{f:Fr}{b w:World}(hf:Fits N ds a f)(ha:tf o=true)(h:bT P pn K (.bF o.dst o.op o.type) b f w):
  ∃v,YieldsIf P all (fun _=>True) o v a∧K (ai f o.dst v) w:=by
 unfold tf at ha
 rw[Bool.and_eq_true]at ha
 have hg:o.guard=none:=by simpa using ha.1
 have hw:Region.wanted o (yielded all a.tmps)=true:=by simp[Region.wanted,hg]
 have hh:=ha.2
 have oo:=hf.MA
 obtain⟨dst,op,ty,pos,after,guard⟩:=o
 simp only[bT,Ah]at h
 cases op<;>first
  |(cases hh;done)
  |(simp only[valOf]at h
    obtain⟨v,hr,hk⟩:=h
    refine⟨v,.inl ⟨hw,fun w' _=>?_⟩,hk⟩
    have h2:=hr w'
    simp only[Sem.run_bind]at h2
    simp only[execOp,oo,Sem.run_bind]
    cases h3:(eqGuard _ _ _ _ _ _:Sem Unit).run P w'<;>simp_all)
  |(simp only[valOf]at h
    obtain⟨v,hr,hk⟩:=h
    exact⟨v,.inl ⟨hw,fun w' _=>by simp[execOp,oo,hr w']⟩,hk⟩)
theorem yC{K:Fr→World→Prop}{all:Array Oper}{o:Oper}{a:Act}{f:Fr}{b w:World}(hf:Fits N ds a f)(ha:jX o=true)(h:bT P pn K (cI N all o) b f w):
  ∃v,YieldsIf P all (fun _=>True) o v a∧K (ai f o.dst v) w:=by
 unfold jX at ha
 rw[Bool.and_eq_true]at ha
 have hg:o.guard=none:=by simpa using ha.1
 have hw:Region.wanted o (yielded all a.tmps)=true:=by simp[Region.wanted,hg]
 have hh:=ha.2
 have oo:=hf.MA
 obtain⟨dst,op,ty,pos,after,guard⟩:=o
 simp only at hg
 subst hg
 cases op<;>first|(cases hh;done)|skip
 rename_i y
 unfold cI at h
 split at h
 ·simp only[dK]at h
  obtain⟨hn,hk⟩:=h
  refine⟨ev f y,.inl ⟨hw,fun w' _=>?_⟩,hk⟩
  rcases hn with⟨p,hp⟩|⟨g,p,q,hp⟩<;>simp only[execOp,oo,hp]<;>rfl
 ·exact h.elim
theorem jd{all:Array Oper}{rk:List fy}(mL:Region.noSelect all=true):
  ∀(pl:List (Nat×Bool)) (n:Nat) (b:World) (listed:Array Bool) (a:Act) (f:Fr) (w:World),Fits N ds a f→Below b.heap.size b w→eu all pl listed=true→Dn all listed→
   x P Rf n (nK N all pl) (rk.map (fy.low N)) b f w→
   (∀n' a' f' w',n'≤n→Fits N ds a' f'→(∃b',x P Rf n' [] (rk.map (fy.low N)) b' f' w')→bR P N ds Rf rk .normal a' w')→
   bV P all (dY all) (bR P N ds Rf rk) pl.length (Below b.heap.size b) listed a w
 |[],n,b,listed,a,f,w,hf,_,cL,_,h,hL=>bV.nil (by simpa[eu]using cL) (hL n a f w (Nat.le_refl _) hf ⟨b,h⟩) 0
 |(i,true):: pl,n,b,listed,a,f,w,hf,hb,cL,hd,h,hL=>by
  simp only[eu,Bool.and_eq_true,decide_eq_true_eq]at cL
  obtain⟨⟨⟨⟨hq,hi⟩,hr⟩,Cn⟩,cU⟩:=cL
  cases n with
  |zero=>exact h.elim
  |succ n=>
   simp only[nK]at h
   have ik:all[i]? =some (all.getD i default):=by simp[hi]
   generalize all.getD i default=oi at*
   have eM:i∈Region.ready .any all listed:=by simpa using hr
   by_cases mU:(uf N oi.dst&&fY oi)=true
   ·have h':x P Rf (n+1) (.bF oi.dst oi.op oi.type :: nK N all pl) (rk.map (fy.low N)) b f w:=by
     unfold Ky at h;rw[if_pos mU]at h;exact h
    rw[Bool.and_eq_true]at mU
    obtain⟨v,pC,om⟩:=lG (P:=P) (all:=all) hf mU.2 h'
    exact bV.oy ik mL (fun c a w hh=>dj rk c _ _ _ _ (by first|assumption|exact mU.1|exact hI.2) hh) _ _ _ _ _ hd (Region.free_spec ik Cn) eM pC hb
     (jd mL pl n b _ _ _ _ (hf.put _ (dL mU.1) _) hb cU (hd.next eM) om fun n' a' f' w' qF=>hL n' a' f' w' (by omega))
   have h:bT P Rf.ou (x P Rf n (nK N all pl) (rk.map (fy.low N)) b) (cI N all oi) b f w:=by
    unfold Ky at h;rw[if_neg mU]at h;exact h
   obtain⟨v,Co,hy,hk⟩:=rm hf hq h
   rw[Bool.and_eq_true,Co]at mU
   by_cases hp:ly oi=true
   ·obtain⟨y,DV,hg,pC⟩:=jG (P:=P) (all:=all) hp a
    have hI:cI N all oi= .mv oi.dst y∧uf N oi.dst=true:=by
     unfold cI at h ⊢
     by_cases cL:uf N oi.dst=true
     ·rw[if_pos cL,hg];exact⟨DV,cL⟩
     ·rw[if_neg cL]at h;exact h.elim
    have om:x P Rf n (nK N all pl) (rk.map (fy.low N)) b (ai f oi.dst (a.eval y)) w:=by
     rw[hI.1]at h
     rw[hf.ev];exact h
    exact bV.oy ik mL (fun c a w hh=>dj rk c _ _ _ _ (by first|assumption|exact mU.1|exact hI.2) hh) _ _ _ _ _ hd (Region.free_spec ik Cn) eM pC hb
     (jd mL pl n b _ _ _ _ (hf.put _ (dL hI.2) _) hb cU (hd.next eM) om fun n' a' f' w' qF=>hL n' a' f' w' (by omega))
   by_cases MC:jX oi=true
   ·obtain⟨v',pC,om⟩:=yC (P:=P) (all:=all) hf MC h
    exact bV.oy ik mL (fun c a w hh=>dj rk c _ _ _ _ (by first|assumption|exact mU.1|exact hI.2) hh) _ _ _ _ _ hd (Region.free_spec ik Cn) eM pC hb
     (jd mL pl n b _ _ _ _ (hf.put _ (dL Co) _) hb cU (hd.next eM) om fun n' a' f' w' qF=>hL n' a' f' w' (by omega))
   have QO:jy oi=false:=by
    have hA:¬fY oi=true:=fun e=>mU ⟨rfl,e⟩
    unfold jy
    simp only[Bool.not_eq_true]at hp MC hA
    rw[hp,MC,hA];rfl
   exact bV.look ik mL (fun listed j hd hj hr e=>((hd.M3 (by unfold dY at e;rw[Bool.and_eq_true]at e;exact e.2) hj hr (by simpa[ik]using QO)).symm)) (fun c a w hh=>dj rk c _ _ _ _ (by first|assumption|exact mU.1|exact hI.2) hh) _ _ _ _ _ hd (Region.free_spec ik Cn) eM hy hb
    (jd mL pl n b _ _ _ _ (hf.put _ (dL Co) v) hb cU (hd.next eM) hk fun n' a' f' w' qF=>hL n' a' f' w' (by omega))
 |(i,false):: pl,n,b,listed,a,f,w,hf,hb,cL,hd,h,hL=>by
  simp only[eu,Bool.and_eq_true,decide_eq_true_eq]at cL
  obtain⟨⟨hi,hr⟩,cU⟩:=cL
  have ik:all[i]? =some (all.getD i default):=by simp[hi]
  have Hs:i∈Region.ready .any all listed:=by rw[hr];simp
  have h0:x P Rf n (cI N all (all.getD i default)::(if dY all i then .rb else .eI):: nK N all pl) (rk.map (fy.low N)) b f w:=h
  refine⟨fun h0=>(by rw[h0]at hr;cases hr),fun j hj=>?_⟩
  obtain rfl:j=i:=by rw[hr]at hj;simpa using hj
  generalize all.getD j default=oi at ik h0
  unfold wpOp
  simp only[ik]
  cases n with
  |zero=>exact h0.elim
  |succ n=>
   have hstep:bT P Rf.ou (x P Rf n ((if dY all j then .rb else .eI):: nK N all pl) (rk.map (fy.low N)) b) (cI N all oi) w f w:=by
    generalize hc:cI N all oi=ci at h0
    cases ci with
    |q i'=>exact absurd hc (pG _ _ _)
    |eI=>exact absurd hc (ox _ _)
    |rb=>exact absurd hc (lF _ _)
    |bF d o ty=>exact absurd hc (jc _ _ _ _ _)
    |qx t i'=>exact absurd hc (rn _ _ _ _)
    |lr t=>exact absurd hc (lD _ _ _)
    |mv d o=>exact h0
    |pick d c a b=>exact h0
    |aZ d y=>exact h0
    |val d o ty=>exact h0
    |aG d o ty=>exact h0
    |call d g args=>exact h0
    |ep d g args=>exact h0
    |Cm o=>exact h0
    |gd s bb d i'=>exact h0
    |bad=>exact h0
   have hs:=ij (Q:=bR P N ds Rf rk) (K':=fun a' w'=>(dY all j=true∧∃S':World→Prop,S' w'∧bV P all (dY all) (bR P N ds Rf rk) pl.length S' (listed.setIfInBounds j true) a' w')∨(Below b.heap.size b w'∧bV P all (dY all) (bR P N ds Rf rk) pl.length (Below b.heap.size b) (listed.setIfInBounds j true) a' w')) hf hstep (ig rk hf) (by
    intro a' f' w' fO hx
    cases n with
    |zero=>exact hx.elim
    |succ n=>
     by_cases hc:dY all j=true
     ·rw[if_pos hc]at hx
      exact .inl ⟨hc,_,(Below.refl _ _:Below w'.heap.size w' w'),jd mL pl n w' _ _ _ _ fO (Below.refl _ _) cU (hd.next Hs) hx fun n' KE KF C1 qF=>hL n' KE KF C1 (by omega)⟩
     ·rw[if_neg hc]at hx
      exact .inr ⟨hx.1,jd mL pl n b _ _ _ _ fO hx.1 cU (hd.next Hs) hx.2 fun n' KE KF C1 qF=>hL n' KE KF C1 (by omega)⟩)
   split
   ·rename_i hw;rw[if_pos hw]at hs;exact .inl hs
   ·rename_i hw;rw[if_neg hw]at hs;exact hs
theorem dy.refl(t:TypeId)(w:World):dy P t w w:=⟨Nat.le_refl _,fun _ _ _=>rfl⟩
theorem DW{K:Fr→World→Prop}{all:Array Oper}{o:Oper}{a:Act}{f:Fr}{b w:World}{et:TypeId}(hf:Fits N ds a f)(ha:jX o=true)(h:mT P K et (cI N all o) b f w):
  ∃v,YieldsIf P all (fun _=>True) o v a∧K (ai f o.dst v) w:=by
 unfold jX at ha
 rw[Bool.and_eq_true]at ha
 have hg:o.guard=none:=by simpa using ha.1
 have hw:Region.wanted o (yielded all a.tmps)=true:=by simp[Region.wanted,hg]
 have hh:=ha.2
 have oo:=hf.MA
 obtain⟨dst,op,ty,pos,after,guard⟩:=o
 simp only at hg
 subst hg
 cases op<;>first|(cases hh;done)|skip
 rename_i y
 unfold cI at h
 split at h
 ·simp only[dK]at h
  obtain⟨hn,hk⟩:=h
  refine⟨ev f y,.inl ⟨hw,fun w' _=>?_⟩,hk⟩
  rcases hn with⟨p,hp⟩|⟨g,p,q,hp⟩<;>simp only[execOp,oo,hp]<;>rfl
 ·exact h.elim
theorem ga{all:Array Oper}{rk:List fy}(mL:Region.noSelect all=true)(et:TypeId):
  ∀(pl:List (Nat×Bool)) (n:Nat) (b:World) (listed:Array Bool) (a:Act) (f:Fr) (w:World),Fits N ds a f→dy P et b w→eu all pl listed=true→Dn all listed→
   x P Rf n (nL N et all pl) (rk.map (fy.low N)) b f w→
   (∀n' a' f' w',n'≤n→Fits N ds a' f'→(∃b',x P Rf n' [] (rk.map (fy.low N)) b' f' w')→bR P N ds Rf rk .normal a' w')→
   bV P all (dY all) (bR P N ds Rf rk) pl.length (dy P et b) listed a w
 |[],n,b,listed,a,f,w,hf,_,cL,_,h,hL=>bV.nil (by simpa[eu]using cL) (hL n a f w (Nat.le_refl _) hf ⟨b,h⟩) 0
 |(i,true):: pl,n,b,listed,a,f,w,hf,hb,cL,hd,h,hL=>by
  simp only[eu,Bool.and_eq_true,decide_eq_true_eq]at cL
  obtain⟨⟨⟨⟨hq,hi⟩,hr⟩,Cn⟩,cU⟩:=cL
  cases n with
  |zero=>exact h.elim
  |succ n=>
   simp only[nL]at h
   have ik:all[i]? =some (all.getD i default):=by simp[hi]
   generalize all.getD i default=oi at*
   have eM:i∈Region.ready .any all listed:=by simpa using hr
   by_cases mU:(uf N oi.dst&&fY oi)=true
   ·have h':x P Rf (n+1) (.bF oi.dst oi.op oi.type :: nL N et all pl) (rk.map (fy.low N)) b f w:=by
     rw[if_pos mU]at h;exact h
    rw[Bool.and_eq_true]at mU
    obtain⟨v,pC,om⟩:=lG (P:=P) (all:=all) hf mU.2 h'
    exact bV.oy ik mL (fun c a w hh=>dj rk c _ _ _ _ (by first|assumption|exact mU.1|exact hI.2) hh) _ _ _ _ _ hd (Region.free_spec ik Cn) eM pC hb
     (ga mL et pl n b _ _ _ _ (hf.put _ (dL mU.1) _) hb cU (hd.next eM) om fun n' a' f' w' qF=>hL n' a' f' w' (by omega))
   have h:mT P (x P Rf n (nL N et all pl) (rk.map (fy.low N)) b) et (cI N all oi) b f w:=by
    rw[if_neg mU]at h;exact h
   obtain⟨v,Co,hy,hk⟩:=DS hf hq h
   rw[Bool.and_eq_true,Co]at mU
   by_cases hp:ly oi=true
   ·obtain⟨y,DV,hg,pC⟩:=jG (P:=P) (all:=all) hp a
    have hI:cI N all oi= .mv oi.dst y∧uf N oi.dst=true:=by
     unfold cI at h ⊢
     by_cases cL:uf N oi.dst=true
     ·rw[if_pos cL,hg];exact⟨DV,cL⟩
     ·rw[if_neg cL]at h;exact h.elim
    have om:x P Rf n (nL N et all pl) (rk.map (fy.low N)) b (ai f oi.dst (a.eval y)) w:=by
     rw[hI.1]at h
     rw[hf.ev];exact h
    exact bV.oy ik mL (fun c a w hh=>dj rk c _ _ _ _ (by first|assumption|exact mU.1|exact hI.2) hh) _ _ _ _ _ hd (Region.free_spec ik Cn) eM pC hb
     (ga mL et pl n b _ _ _ _ (hf.put _ (dL hI.2) _) hb cU (hd.next eM) om fun n' a' f' w' qF=>hL n' a' f' w' (by omega))
   by_cases MC:jX oi=true
   ·obtain⟨v',pC,om⟩:=DW (P:=P) (all:=all) hf MC h
    exact bV.oy ik mL (fun c a w hh=>dj rk c _ _ _ _ (by first|assumption|exact mU.1|exact hI.2) hh) _ _ _ _ _ hd (Region.free_spec ik Cn) eM pC hb
     (ga mL et pl n b _ _ _ _ (hf.put _ (dL Co) _) hb cU (hd.next eM) om fun n' a' f' w' qF=>hL n' a' f' w' (by omega))
   have QO:jy oi=false:=by
    have hA:¬fY oi=true:=fun e=>mU ⟨rfl,e⟩
    unfold jy
    simp only[Bool.not_eq_true]at hp MC hA
    rw[hp,MC,hA];rfl
   exact bV.look ik mL (fun listed j hd hj hr e=>((hd.M3 (by unfold dY at e;rw[Bool.and_eq_true]at e;exact e.2) hj hr (by simpa[ik]using QO)).symm)) (fun c a w hh=>dj rk c _ _ _ _ (by first|assumption|exact mU.1|exact hI.2) hh) _ _ _ _ _ hd (Region.free_spec ik Cn) eM hy hb
    (ga mL et pl n b _ _ _ _ (hf.put _ (dL Co) v) hb cU (hd.next eM) hk fun n' a' f' w' qF=>hL n' a' f' w' (by omega))
 |(i,false):: pl,n,b,listed,a,f,w,hf,hb,cL,hd,h,hL=>by
  simp only[eu,Bool.and_eq_true,decide_eq_true_eq]at cL
  obtain⟨⟨hi,hr⟩,cU⟩:=cL
  have ik:all[i]? =some (all.getD i default):=by simp[hi]
  have Hs:i∈Region.ready .any all listed:=by rw[hr];simp
  have h0:x P Rf n (cI N all (all.getD i default)::(if dY all i then .rb else .lr et):: nL N et all pl) (rk.map (fy.low N)) b f w:=h
  refine⟨fun h0=>(by rw[h0]at hr;cases hr),fun j hj=>?_⟩
  obtain rfl:j=i:=by rw[hr]at hj;simpa using hj
  generalize all.getD j default=oi at ik h0
  unfold wpOp
  simp only[ik]
  cases n with
  |zero=>exact h0.elim
  |succ n=>
   have hstep:bT P Rf.ou (x P Rf n ((if dY all j then .rb else .lr et):: nL N et all pl) (rk.map (fy.low N)) b) (cI N all oi) w f w:=by
    generalize hc:cI N all oi=ci at h0
    cases ci with
    |q i'=>exact absurd hc (pG _ _ _)
    |eI=>exact absurd hc (ox _ _)
    |rb=>exact absurd hc (lF _ _)
    |bF d o ty=>exact absurd hc (jc _ _ _ _ _)
    |qx t i'=>exact absurd hc (rn _ _ _ _)
    |lr t=>exact absurd hc (lD _ _ _)
    |mv d o=>exact h0
    |pick d c a b=>exact h0
    |aZ d y=>exact h0
    |val d o ty=>exact h0
    |aG d o ty=>exact h0
    |call d g args=>exact h0
    |ep d g args=>exact h0
    |Cm o=>exact h0
    |gd s bb d i'=>exact h0
    |bad=>exact h0
   have hs:=ij (Q:=bR P N ds Rf rk) (K':=fun a' w'=>(dY all j=true∧∃S':World→Prop,S' w'∧bV P all (dY all) (bR P N ds Rf rk) pl.length S' (listed.setIfInBounds j true) a' w')∨(dy P et b w'∧bV P all (dY all) (bR P N ds Rf rk) pl.length (dy P et b) (listed.setIfInBounds j true) a' w')) hf hstep (ig rk hf) (by
    intro a' f' w' fO hx
    cases n with
    |zero=>exact hx.elim
    |succ n=>
     by_cases hc:dY all j=true
     ·rw[if_pos hc]at hx
      exact .inl ⟨hc,_,(dy.refl et w':dy P et w' w'),ga mL et pl n w' _ _ _ _ fO (dy.refl et _) cU (hd.next Hs) hx fun n' KE KF C1 qF=>hL n' KE KF C1 (by omega)⟩
     ·rw[if_neg hc]at hx
      exact .inr ⟨hx.1,ga mL et pl n b _ _ _ _ fO hx.1 cU (hd.next Hs) hx.2 fun n' KE KF C1 qF=>hL n' KE KF C1 (by omega)⟩)
   split
   ·rename_i hw;rw[if_pos hw]at hs;exact .inl hs
   ·rename_i hw;rw[if_neg hw]at hs;exact hs
theorem KG{all:Array Oper}{rk:List fy}(mL:Region.noSelect all=true):
  ∀(t:PT) (n:Nat) (b:World) (fuel:Nat) (rs:Option (List Nat)) (listed:Array Bool) (a:Act) (f:Fr) (w:World),Fits N ds a f→Below b.heap.size b w→Dn all listed→lA all t fuel rs listed=true→
   (∀l,rs=some l→∀i∈l,i∈Region.ready .any all listed)→x P Rf n [] (.t b (pF N all t):: rk.map (fy.low N)) b f w→
   (∀n' a' f' w',n'≤n→Fits N ds a' f'→x P Rf n' [] (rk.map (fy.low N)) w' f' w'→bR P N ds Rf rk .normal a' w')→
   (rs=none→bV P all (fE all) (bR P N ds Rf rk) fuel (Below b.heap.size b) listed a w)∧
   (∀l,rs=some l→∀i∈l,wpOp P all (bR P N ds Rf rk) i (fun a' w'=>(fE all i=true∧∃S':World→Prop,S' w'∧bV P all (fE all) (bR P N ds Rf rk) (fuel-1) S' (listed.setIfInBounds i true) a' w')∨(Below b.heap.size b w'∧bV P all (fE all) (bR P N ds Rf rk) (fuel-1) (Below b.heap.size b) (listed.setIfInBounds i true) a' w')) a w):=by
 intro t
 induction t with
 |nil=>
  intro n b fuel rs listed a f w hf hb hd cL _ h hL
  cases rs with
  |some l=>cases fuel<;>simp[lA]at cL
  |none=>
   refine⟨fun _=>?_,fun l h=>by cases h⟩
   cases n with
   |zero=>exact h.elim
   |succ n=>exact bV.nil (by cases fuel<;>simpa[lA]using cL) (hL n a f w (by omega) hf h) fuel
 |q i t ih=>
  intro n b fuel rs listed a f w hf hb hd cL _ h hL
  cases fuel with
  |zero=>cases rs<;>simp[lA]at cL
  |succ fuel=>
   cases rs with
   |some l=>simp[lA]at cL
   |none=>
    refine⟨fun _=>?_,fun l h=>by cases h⟩
    simp only[lA,Bool.and_eq_true,decide_eq_true_eq]at cL
    obtain⟨⟨⟨⟨hq,hi⟩,hr⟩,Cn⟩,cU⟩:=cL
    cases n with
    |zero=>exact h.elim
    |succ n=>
     cases n with
     |zero=>exact h.elim
     |succ n=>
      have h':bT P Rf.ou (x P Rf n [] (.t b (pF N all t):: rk.map (fy.low N)) b) (cI N all (all.getD i default)) b f w:=h
      have ik:all[i]? =some (all.getD i default):=by simp[hi]
      generalize all.getD i default=oi at*
      obtain⟨v,Co,hy,hk⟩:=rm hf hq h'
      have eM:i∈Region.ready .any all listed:=by simpa using hr
      by_cases hp:ly oi=true
      ·obtain⟨y,DV,hg,pC⟩:=jG (P:=P) (all:=all) hp a
       have hI:cI N all oi= .mv oi.dst y:=by unfold cI;rw[if_pos Co,hg];exact DV
       have om:x P Rf n [] (.t b (pF N all t):: rk.map (fy.low N)) b (ai f oi.dst (a.eval y)) w:=by
        rw[hI]at h'
        rw[hf.ev];exact h'
       exact bV.oy ik mL (fun c a w hh=>dj rk c _ _ _ _ (by first|assumption|exact mU.1|exact hI.2) hh) _ _ _ _ _ hd (Region.free_spec ik Cn) eM pC hb
        ((ih n b fuel none _ _ _ _ (hf.put _ (dL Co) _) hb (hd.next eM) cU (fun l h=>by cases h) om fun n' a' f' w' qF=>hL n' a' f' w' (by omega)).1 rfl)
      exact bV.look ik mL (fun listed j hd hj hr e=>((hd.alone (by unfold fE at e;rw[Bool.and_eq_true]at e;exact e.2) hj hr (by simpa[ik]using hp)).symm)) (fun c a w hh=>dj rk c _ _ _ _ (by first|assumption|exact mU.1|exact hI.2) hh) _ _ _ _ _ hd (Region.free_spec ik Cn) eM hy hb
       ((ih n b fuel none _ _ _ _ (hf.put _ (dL Co) v) hb (hd.next eM) cU (fun l h=>by cases h) hk fun n' a' f' w' qF=>hL n' a' f' w' (by omega)).1 rfl)
 |act i t ih=>
  intro n b fuel rs listed a f w hf hb hd cL Ht h hL
  have key:∀ZA,fuel=ZA+1→i<all.size→i∈Region.ready .any all listed→lA all t ZA none (listed.setIfInBounds i true)=true→
    wpOp P all (bR P N ds Rf rk) i (fun a' w'=>(fE all i=true∧∃S':World→Prop,S' w'∧bV P all (fE all) (bR P N ds Rf rk) ZA S' (listed.setIfInBounds i true) a' w')∨(Below b.heap.size b w'∧bV P all (fE all) (bR P N ds Rf rk) ZA (Below b.heap.size b) (listed.setIfInBounds i true) a' w')) a w:=by
   intro ZA _ hi Hs cU
   cases n with
   |zero=>exact h.elim
   |succ n=>
    cases n with
    |zero=>
     have h0:x P Rf 1 [] (.t b (if fE all i then .cut (cI N all (all.getD i default)) (pF N all t)else .act (cI N all (all.getD i default)) (pF N all t)):: rk.map (fy.low N)) b f w:=h
     by_cases hc:fE all i=true
     ·rw[if_pos hc]at h0;exact h0.elim
     ·rw[if_neg hc]at h0;exact h0.elim
    |succ n=>
     have ik:all[i]? =some (all.getD i default):=by simp[hi]
     have h0:x P Rf (n+1+1) [] (.t b (if fE all i then .cut (cI N all (all.getD i default)) (pF N all t)else .act (cI N all (all.getD i default)) (pF N all t)):: rk.map (fy.low N)) b f w:=h
     generalize all.getD i default=oi at*
     have hstep:∀{l:List I} {k:List It},x P Rf (n+1) (cI N all oi :: l) k b f w→bT P Rf.ou (x P Rf n l k b) (cI N all oi) w f w:=fun{l k} h'=>by
      generalize hc:cI N all oi=ci at h'
      cases ci with
      |q i'=>exact absurd hc (pG _ _ _)
      |eI=>exact absurd hc (ox _ _)
      |rb=>exact absurd hc (lF _ _)
      |bF d o ty=>exact absurd hc (jc _ _ _ _ _)
      |qx t i'=>exact absurd hc (rn _ _ _ _)
      |lr t=>exact absurd hc (lD _ _ _)
      |mv d o=>exact h'
      |pick d c a b=>exact h'
      |aZ d y=>exact h'
      |val d o ty=>exact h'
      |aG d o ty=>exact h'
      |call d g args=>exact h'
      |ep d g args=>exact h'
      |Cm o=>exact h'
      |gd s bb d i'=>exact h'
      |bad=>exact h'
     unfold wpOp
     simp only[ik]
     by_cases hc:fE all i=true
     ·rw[if_pos hc]at h0
      have h':x P Rf (n+1) [cI N all oi] (.tn (pF N all t):: rk.map (fy.low N)) b f w:=h0
      have hs:=ij (Q:=bR P N ds Rf rk) (K':=fun a' w'=>(fE all i=true∧∃S':World→Prop,S' w'∧bV P all (fE all) (bR P N ds Rf rk) ZA S' (listed.setIfInBounds i true) a' w')∨(Below b.heap.size b w'∧bV P all (fE all) (bR P N ds Rf rk) ZA (Below b.heap.size b) (listed.setIfInBounds i true) a' w')) hf (hstep h') (ig rk hf) (by
       intro a' f' w' fO hx
       cases n with
       |zero=>exact hx.elim
       |succ n=>
        have zh:x P Rf n [] (.t w' (pF N all t):: rk.map (fy.low N)) w' f' w':=hx
        exact .inl ⟨hc,_,(Below.refl _ _:Below w'.heap.size w' w'),(ih n w' ZA none _ _ _ _ fO (Below.refl _ _) (hd.next Hs) cU (fun l h=>by cases h) zh fun n' KE KF C1 qF=>hL n' KE KF C1 (by omega)).1 rfl⟩)
      split
      ·rename_i hw;rw[if_pos hw]at hs;exact .inl hs
      ·rename_i hw;rw[if_neg hw]at hs;exact hs
     ·rw[if_neg hc]at h0
      have h':x P Rf (n+1) [cI N all oi,.eI] (.t b (pF N all t):: rk.map (fy.low N)) b f w:=h0
      have hs:=ij (Q:=bR P N ds Rf rk) (K':=fun a' w'=>(fE all i=true∧∃S':World→Prop,S' w'∧bV P all (fE all) (bR P N ds Rf rk) ZA S' (listed.setIfInBounds i true) a' w')∨(Below b.heap.size b w'∧bV P all (fE all) (bR P N ds Rf rk) ZA (Below b.heap.size b) (listed.setIfInBounds i true) a' w')) hf (hstep h') (ig rk hf) (by
       intro a' f' w' fO hx
       cases n with
       |zero=>exact hx.elim
       |succ n=>
        have zh:Below b.heap.size b w'∧x P Rf n [] (.t b (pF N all t):: rk.map (fy.low N)) b f' w':=hx
        exact .inr ⟨zh.1,(ih n b ZA none _ _ _ _ fO zh.1 (hd.next Hs) cU (fun l h=>by cases h) zh.2 fun n' KE KF C1 qF=>hL n' KE KF C1 (by omega)).1 rfl⟩)
      split
      ·rename_i hw;rw[if_pos hw]at hs;exact .inl hs
      ·rename_i hw;rw[if_neg hw]at hs;exact hs
  cases fuel with
  |zero=>cases rs<;>simp[lA]at cL
  |succ fuel=>
   cases rs with
   |none=>
    simp only[lA,Bool.and_eq_true,decide_eq_true_eq]at cL
    refine⟨fun _=>?_,fun l h=>by cases h⟩
    refine⟨fun h0=>(by rw[h0]at cL;cases cL.1.2),fun j hj=>?_⟩
    obtain rfl:j=i:=by rw[cL.1.2]at hj;simpa using hj
    exact key fuel rfl cL.1.1 hj cL.2
   |some l=>
    simp only[lA,Bool.and_eq_true,decide_eq_true_eq]at cL
    refine⟨fun h=>(by cases h),fun l' hl j hj=>?_⟩
    cases hl
    have hj0:=Ht l rfl j hj
    obtain rfl:j=i:=by rw[cL.1.2]at hj;simpa using hj
    exact key fuel rfl cL.1.1 hj0 cL.2
 |two u v ihu ihv=>
  intro n b fuel rs listed a f w hf hb hd cL Ht h hL
  cases fuel with
  |zero=>cases rs<;>simp[lA]at cL
  |succ fuel=>
   cases n with
   |zero=>exact h.elim
   |succ n=>
    have h':x P Rf n [] (.t b (pF N all u):: rk.map (fy.low N)) b f w∧x P Rf n [] (.t b (pF N all v):: rk.map (fy.low N)) b f w:=h
    have Rm:∀n' a' f' w',n'≤n→Fits N ds a' f'→x P Rf n' [] (rk.map (fy.low N)) w' f' w'→bR P N ds Rf rk .normal a' w':=fun n' a' f' w' qF=>hL n' a' f' w' (by omega)
    cases rs with
    |none=>
     cases hr:Region.ready .any all listed with
     |nil=>simp[lA,hr]at cL
     |cons i is=>
      simp only[lA,hr,Bool.and_eq_true]at cL
      have h1:=(ihu n b (fuel+1) (some [i]) listed a f w hf hb hd cL.1 (fun l hl j hj=>by cases hl;rw[hr];rw[List.mem_singleton.1 hj];exact List.mem_cons_self ..) h'.1 Rm).2 _ rfl
      have h2:=(ihv n b (fuel+1) (some is) listed a f w hf hb hd cL.2 (fun l hl j hj=>by cases hl;rw[hr];exact List.mem_cons_of_mem _ hj) h'.2 Rm).2 _ rfl
      refine⟨fun _=>⟨fun h0=>(by rw[hr]at h0;cases h0),fun j hj=>?_⟩,fun l h=>by cases h⟩
      rw[hr]at hj
      rcases List.mem_cons.1 hj with rfl|hj
      ·exact h1 _ (List.mem_singleton.2 rfl)
      ·exact h2 _ hj
    |some l=>
     cases l with
     |nil=>simp[lA]at cL
     |cons i is=>
      simp only[lA,Bool.and_eq_true]at cL
      have h1:=(ihu n b (fuel+1) (some [i]) listed a f w hf hb hd cL.1 (fun l hl j hj=>by cases hl;rw[List.mem_singleton.1 hj];exact Ht _ rfl _ (List.mem_cons_self ..)) h'.1 Rm).2 _ rfl
      have h2:=(ihv n b (fuel+1) (some is) listed a f w hf hb hd cL.2 (fun l hl j hj=>by cases hl;exact Ht _ rfl _ (List.mem_cons_of_mem _ hj)) h'.2 Rm).2 _ rfl
      refine⟨fun h=>(by cases h),fun l' hl j hj=>?_⟩
      cases hl
      rcases List.mem_cons.1 hj with rfl|hj
      ·exact h1 _ (List.mem_singleton.2 rfl)
      ·exact h2 _ hj
theorem Hu{K:Fr→World→Prop}{all:Array Oper}{o:Oper}{a:Act}{f:Fr}{b w:World}(hf:Fits N ds a f)(ha:E4 o=true)(h:bT P pn K (.bF o.dst o.op o.type) b f w):
  ∃v,YieldsIf P all (fun _=>True) o v a∧K (ai f o.dst v) w:=by
 unfold E4 at ha
 rw[Bool.and_eq_true]at ha
 have hg:o.guard=none:=by simpa using ha.1
 have hw:Region.wanted o (yielded all a.tmps)=true:=by simp[Region.wanted,hg]
 have hh:=ha.2
 have oo:=hf.MA
 obtain⟨dst,op,ty,pos,after,guard⟩:=o
 simp only[bT,Ah]at h
 cases op<;>first
  |(cases hh;done)
  |(simp only[valOf]at h
    obtain⟨v,hr,hk⟩:=h
    exact⟨v,.inl ⟨hw,fun w' _=>by simp[execOp,oo,hr w']⟩,hk⟩)
theorem DX{K:Fr→World→Prop}{all:Array Oper}{o:Oper}{a:Act}{f:Fr}{b w:World}(hf:Fits N ds a f)(hp:zM o=true)(h:bT P pn K (KB N all o) b f w):
  uf N o.dst=true∧∃v,YieldsIf P all (fun _=>True) o v a∧K (ai f o.dst v) w:=by
 have hd:uf N o.dst=true:=by
  by_cases hd:uf N o.dst=true
  ·exact hd
  ·have e:KB N all o= .bad:=by
    unfold KB cI
    rw[Bool.eq_false_iff.2 hd]
    rfl
   rw[e]at h
   exact h.elim
 refine⟨hd,?_⟩
 unfold KB at h
 rw[hd,Bool.true_and]at h
 by_cases h1:fY o=true
 ·rw[h1,Bool.true_or,if_pos rfl]at h
  exact lG hf h1 h
 by_cases h2:E4 o=true
 ·rw[h2,Bool.or_true,if_pos rfl]at h
  exact Hu hf h2 h
 rw[Bool.eq_false_iff.2 h1,Bool.eq_false_iff.2 h2]at h
 have h':bT P pn K (cI N all o) b f w:=h
 by_cases h3:ly o=true
 ·obtain⟨y,DV,hg,pC⟩:=jG (P:=P) (all:=all) h3 a
  have hI:cI N all o= .mv o.dst y:=by unfold cI;rw[if_pos hd,hg];exact DV
  rw[hI]at h'
  exact⟨_,pC,by rw[hf.ev];exact h'⟩
 have h4:jX o=true:=by
  unfold zM jy at hp
  rw[Bool.eq_false_iff.2 h1,Bool.eq_false_iff.2 h2,Bool.eq_false_iff.2 h3]at hp
  simpa using hp
 exact yC hf h4 h'
theorem Hv{all:Array Oper}{rk:List fy}(mL:Region.noSelect all=true):
  ∀(t:PT) (n:Nat) (b:World) (fuel:Nat) (rs:Option (List Nat)) (listed:Array Bool) (a:Act) (f:Fr) (w:World),Fits N ds a f→Dn all listed→fg all t fuel rs listed=true→
   (∀l,rs=some l→∀i∈l,i∈Region.ready .any all listed)→x P Rf n [] (.t b (qD N all t):: rk.map (fy.low N)) b f w→
   (∀n' a' f' w',n'≤n→Fits N ds a' f'→x P Rf n' [] (rk.map (fy.low N)) w' f' w'→bR P N ds Rf rk .normal a' w')→
   (rs=none→bV P all (fun _=>true) (bR P N ds Rf rk) fuel (fun _=>True) listed a w)∧
   (∀l,rs=some l→∀i∈l,wpOp P all (bR P N ds Rf rk) i (fun a' w'=>bV P all (fun _=>true) (bR P N ds Rf rk) (fuel-1) (fun _=>True) (listed.setIfInBounds i true) a' w') a w):=by
 intro t
 induction t with
 |nil=>
  intro n b fuel rs listed a f w hf hd cL _ h hL
  cases rs with
  |some l=>cases fuel<;>simp[fg]at cL
  |none=>
   refine⟨fun _=>?_,fun l h=>by cases h⟩
   cases n with
   |zero=>exact h.elim
   |succ n=>exact bV.nil (by cases fuel<;>simpa[fg]using cL) (hL n a f w (by omega) hf h) fuel
 |q i t ih=>
  intro n b fuel rs listed a f w hf hd cL _ h hL
  cases fuel with
  |zero=>cases rs<;>simp[fg]at cL
  |succ fuel=>
   cases rs with
   |some l=>simp[fg]at cL
   |none=>
    refine⟨fun _=>?_,fun l h=>by cases h⟩
    simp only[fg,Bool.and_eq_true,decide_eq_true_eq]at cL
    obtain⟨⟨⟨⟨hq,hi⟩,hr⟩,Cn⟩,cU⟩:=cL
    cases n with
    |zero=>exact h.elim
    |succ n=>
     cases n with
     |zero=>exact h.elim
     |succ n=>
      have h':bT P Rf.ou (x P Rf n [] (.t b (qD N all t):: rk.map (fy.low N)) b) (KB N all (all.getD i default)) b f w:=h
      have ik:all[i]? =some (all.getD i default):=by simp[hi]
      generalize all.getD i default=oi at*
      obtain⟨Co,v,hy,hk⟩:=DX hf hq h'
      have eM:i∈Region.ready .any all listed:=by simpa using hr
      exact bV.oy ik mL (fun c a w hh=>dj rk c _ _ _ _ (by first|assumption|exact mU.1|exact hI.2) hh) _ _ _ _ _ hd (Region.free_spec ik Cn) eM hy trivial
        ((ih n b fuel none _ _ _ _ (hf.put _ (dL Co) _) (hd.next eM) cU (fun l h=>by cases h) hk fun n' a' f' w' qF=>hL n' a' f' w' (by omega)).1 rfl)
 |act i t ih=>
  intro n b fuel rs listed a f w hf hd cL Ht h hL
  have key:∀ZA,fuel=ZA+1→i<all.size→i∈Region.ready .any all listed→fg all t ZA none (listed.setIfInBounds i true)=true→
    wpOp P all (bR P N ds Rf rk) i (fun a' w'=>bV P all (fun _=>true) (bR P N ds Rf rk) ZA (fun _=>True) (listed.setIfInBounds i true) a' w') a w:=by
   intro ZA _ hi Hs cU
   cases n with
   |zero=>exact h.elim
   |succ n=>
    cases n with
    |zero=>exact(show False from h).elim
    |succ n=>
     have ik:all[i]? =some (all.getD i default):=by simp[hi]
     have h0:x P Rf (n+1+1) [] (.t b (.cut (cI N all (all.getD i default)) (qD N all t)):: rk.map (fy.low N)) b f w:=h
     generalize all.getD i default=oi at*
     have hstep:∀{l:List I} {k:List It},x P Rf (n+1) (cI N all oi :: l) k b f w→bT P Rf.ou (x P Rf n l k b) (cI N all oi) w f w:=fun{l k} h'=>by
      generalize hc:cI N all oi=ci at h'
      cases ci with
      |q i'=>exact absurd hc (pG _ _ _)
      |eI=>exact absurd hc (ox _ _)
      |rb=>exact absurd hc (lF _ _)
      |bF d o ty=>exact absurd hc (jc _ _ _ _ _)
      |qx t i'=>exact absurd hc (rn _ _ _ _)
      |lr t=>exact absurd hc (lD _ _ _)
      |mv d o=>exact h'
      |pick d c a b=>exact h'
      |aZ d y=>exact h'
      |val d o ty=>exact h'
      |aG d o ty=>exact h'
      |call d g args=>exact h'
      |ep d g args=>exact h'
      |Cm o=>exact h'
      |gd s bb d i'=>exact h'
      |bad=>exact h'
     unfold wpOp
     simp only[ik]
     have h':x P Rf (n+1) [cI N all oi] (.tn (qD N all t):: rk.map (fy.low N)) b f w:=h0
     have hs:=ij (Q:=bR P N ds Rf rk) (K':=fun a' w'=>bV P all (fun _=>true) (bR P N ds Rf rk) ZA (fun _=>True) (listed.setIfInBounds i true) a' w') hf (hstep h') (ig rk hf) (by
      intro a' f' w' fO hx
      cases n with
      |zero=>exact hx.elim
      |succ n=>
       have zh:x P Rf n [] (.t w' (qD N all t):: rk.map (fy.low N)) w' f' w':=hx
       exact(ih n w' ZA none _ _ _ _ fO (hd.next Hs) cU (fun l h=>by cases h) zh fun n' KE KF C1 qF=>hL n' KE KF C1 (by omega)).1 rfl)
     split
     ·rename_i hw;rw[if_pos hw]at hs;exact .inl hs
     ·rename_i hw;rw[if_neg hw]at hs;exact hs
  cases fuel with
  |zero=>cases rs<;>simp[fg]at cL
  |succ fuel=>
   cases rs with
   |none=>
    simp only[fg,Bool.and_eq_true,decide_eq_true_eq]at cL
    refine⟨fun _=>?_,fun l h=>by cases h⟩
    refine⟨fun h0=>(by rw[h0]at cL;cases cL.1.2),fun j hj=>?_⟩
    obtain rfl:j=i:=by rw[cL.1.2]at hj;simpa using hj
    exact wpOp_mono (fun a' w' h=>.inr ⟨trivial,h⟩) (key fuel rfl cL.1.1 hj cL.2)
   |some l=>
    simp only[fg,Bool.and_eq_true,decide_eq_true_eq]at cL
    refine⟨fun h=>(by cases h),fun l' hl j hj=>?_⟩
    cases hl
    have hj0:=Ht l rfl j hj
    obtain rfl:j=i:=by rw[cL.1.2]at hj;simpa using hj
    exact key fuel rfl cL.1.1 hj0 cL.2
 |two u v ihu ihv=>
  intro n b fuel rs listed a f w hf hd cL Ht h hL
  cases fuel with
  |zero=>cases rs<;>simp[fg]at cL
  |succ fuel=>
   cases n with
   |zero=>exact h.elim
   |succ n=>
    have h':x P Rf n [] (.t b (qD N all u):: rk.map (fy.low N)) b f w∧x P Rf n [] (.t b (qD N all v):: rk.map (fy.low N)) b f w:=h
    have Rm:∀n' a' f' w',n'≤n→Fits N ds a' f'→x P Rf n' [] (rk.map (fy.low N)) w' f' w'→bR P N ds Rf rk .normal a' w':=fun n' a' f' w' qF=>hL n' a' f' w' (by omega)
    cases rs with
    |none=>
     cases hr:Region.ready .any all listed with
     |nil=>simp[fg,hr]at cL
     |cons i is=>
      simp only[fg,hr,Bool.and_eq_true]at cL
      have h1:=(ihu n b (fuel+1) (some [i]) listed a f w hf hd cL.1 (fun l hl j hj=>by cases hl;rw[hr];rw[List.mem_singleton.1 hj];exact List.mem_cons_self ..) h'.1 Rm).2 _ rfl
      have h2:=(ihv n b (fuel+1) (some is) listed a f w hf hd cL.2 (fun l hl j hj=>by cases hl;rw[hr];exact List.mem_cons_of_mem _ hj) h'.2 Rm).2 _ rfl
      refine⟨fun _=>⟨fun h0=>(by rw[hr]at h0;cases h0),fun j hj=>?_⟩,fun l h=>by cases h⟩
      rw[hr]at hj
      rcases List.mem_cons.1 hj with rfl|hj
      ·exact wpOp_mono (fun a' w' h=>.inr ⟨trivial,h⟩) (h1 _ (List.mem_singleton.2 rfl))
      ·exact wpOp_mono (fun a' w' h=>.inr ⟨trivial,h⟩) (h2 _ hj)
    |some l=>
     cases l with
     |nil=>simp[fg]at cL
     |cons i is=>
      simp only[fg,Bool.and_eq_true]at cL
      have h1:=(ihu n b (fuel+1) (some [i]) listed a f w hf hd cL.1 (fun l hl j hj=>by cases hl;rw[List.mem_singleton.1 hj];exact Ht _ rfl _ (List.mem_cons_self ..)) h'.1 Rm).2 _ rfl
      have h2:=(ihv n b (fuel+1) (some is) listed a f w hf hd cL.2 (fun l hl j hj=>by cases hl;exact Ht _ rfl _ (List.mem_cons_of_mem _ hj)) h'.2 Rm).2 _ rfl
      refine⟨fun h=>(by cases h),fun l' hl j hj=>?_⟩
      cases hl
      rcases List.mem_cons.1 hj with rfl|hj
      ·exact h1 _ (List.mem_singleton.2 rfl)
      ·exact h2 _ hj
theorem ti{all:Array Oper}{rk:List fy}(mL:Region.noSelect all=true){S:World→Prop}{K:Fr→World→Prop}(hK:∀a f w,Fits N ds a f→K f w→bR P N ds Rf rk .normal a w):
  ∀(pl:List (Nat×Bool)) (listed:Array Bool) (a:Act) (f:Fr) (w:World),Fits N ds a f→S w→eu all pl listed=true→Dn all listed→
   xs P Rf.ou S K (nJ N all pl) f w→bV P all (fun _=>false) (bR P N ds Rf rk) pl.length S listed a w
 |[],listed,a,f,w,hf,_,cL,_,h=>bV.nil (by simpa[eu]using cL) (hK a f w hf h) 0
 |(i,true):: pl,listed,a,f,w,hf,hb,cL,hd,h=>by
  simp only[eu,Bool.and_eq_true,decide_eq_true_eq]at cL
  obtain⟨⟨⟨⟨hq,hi⟩,hr⟩,Cn⟩,cU⟩:=cL
  simp only[nJ]at h
  have ik:all[i]? =some (all.getD i default):=by simp[hi]
  generalize all.getD i default=oi at*
  have eM:i∈Region.ready .any all listed:=by simpa using hr
  by_cases mU:(uf N oi.dst&&fY oi)=true
  ·have h':xs P Rf.ou S K (.bF oi.dst oi.op oi.type :: nJ N all pl) f w:=by
    unfold Ky at h;rw[if_pos mU]at h;exact h
   rw[Bool.and_eq_true]at mU
   obtain⟨v,pC,om⟩:=lG (P:=P) (pn:=Rf.ou) (K:=xs P Rf.ou S K (nJ N all pl)) (b:=w) (all:=all) hf mU.2 h'
   exact bV.oy ik mL (fun c a w hh=>dj rk c _ _ _ _ (by first|assumption|exact mU.1|exact hI.2) hh) _ _ _ _ _ hd (Region.free_spec ik Cn) eM pC hb
    (ti mL hK pl _ _ _ _ (hf.put _ (dL mU.1) _) hb cU (hd.next eM) om)
  have h':lC P (xs P Rf.ou S K (nJ N all pl)) S (cI N all oi) f w:=by
   unfold Ky at h;rw[if_neg mU]at h;exact h
  obtain⟨v,Co,hy,hk⟩:=vP hf hq h'
  exact bV.look ik mL (fun _ _ _ _ _ e=>by cases e) (fun c a w hh=>dj rk c _ _ _ _ (by first|assumption|exact mU.1|exact hI.2) hh) _ _ _ _ _ hd (Region.free_spec ik Cn) eM hy hb
   (ti mL hK pl _ _ _ _ (hf.put _ (dL Co) v) hb cU (hd.next eM) hk)
 |(i,false):: pl,listed,a,f,w,hf,hb,cL,hd,h=>by
  simp only[eu,Bool.and_eq_true,decide_eq_true_eq]at cL
  obtain⟨⟨hi,hr⟩,cU⟩:=cL
  have ik:all[i]? =some (all.getD i default):=by simp[hi]
  have Hs:i∈Region.ready .any all listed:=by rw[hr];simp
  have h0:xs P Rf.ou S K (cI N all (all.getD i default):: nJ N all pl) f w:=h
  refine⟨fun h0=>(by rw[h0]at hr;cases hr),fun j hj=>?_⟩
  obtain rfl:j=i:=by rw[hr]at hj;simpa using hj
  generalize all.getD j default=oi at ik h0
  unfold wpOp
  simp only[ik]
  have hstep:bT P Rf.ou (fun f' w'=>S w'∧xs P Rf.ou S K (nJ N all pl) f' w') (cI N all oi) w f w:=by
   generalize hc:cI N all oi=ci at h0
   cases ci with
   |q i'=>exact absurd hc (pG _ _ _)
   |bF d o ty=>exact absurd hc (jc _ _ _ _ _)
   |eI=>exact h0
   |rb=>exact absurd hc (lF _ _)
   |qx t i'=>exact h0
   |lr t=>exact h0
   |mv d o=>exact h0
   |pick d c a b=>exact h0
   |aZ d y=>exact h0
   |val d o ty=>exact h0
   |aG d o ty=>exact h0
   |call d g args=>exact h0
   |ep d g args=>exact h0
   |Cm o=>exact h0
   |gd s bb d i'=>exact h0
   |bad=>exact h0
  have hs:=ij (Q:=bR P N ds Rf rk) (K':=fun a' w'=>((false:Bool)=true∧∃S':World→Prop,S' w'∧bV P all (fun _=>false) (bR P N ds Rf rk) pl.length S' (listed.setIfInBounds j true) a' w')∨(S w'∧bV P all (fun _=>false) (bR P N ds Rf rk) pl.length S (listed.setIfInBounds j true) a' w')) hf hstep (ig rk hf)
   fun a' f' w' fO hx=>.inr ⟨hx.1,ti mL hK pl _ _ _ _ fO hx.1 cU (hd.next Hs) hx.2⟩
  split
  ·rename_i hw;rw[if_pos hw]at hs;exact .inl hs
  ·rename_i hw;rw[if_neg hw]at hs;exact hs
theorem DY{K:Fr→World→Prop}{all:Array Oper}{o:Oper}{a:Act}{f:Fr}{w:World}{S:World→Prop}(hf:Fits N ds a f)(ha:jX o=true)(h:lC P K S (cI N all o) f w):
  ∃v,YieldsIf P all (fun _=>True) o v a∧K (ai f o.dst v) w:=by
 unfold jX at ha
 rw[Bool.and_eq_true]at ha
 have hg:o.guard=none:=by simpa using ha.1
 have hw:Region.wanted o (yielded all a.tmps)=true:=by simp[Region.wanted,hg]
 have hh:=ha.2
 have oo:=hf.MA
 obtain⟨dst,op,ty,pos,after,guard⟩:=o
 simp only at hg
 subst hg
 cases op<;>first|(cases hh;done)|skip
 rename_i y
 unfold cI at h
 split at h
 ·simp only[dK]at h
  obtain⟨hn,hk⟩:=h
  refine⟨ev f y,.inl ⟨hw,fun w' _=>?_⟩,hk⟩
  rcases hn with⟨p,hp⟩|⟨g,p,q,hp⟩<;>simp only[execOp,oo,hp]<;>rfl
 ·exact h.elim
theorem gH{all:Array Oper}{rk:List fy}(mL:Region.noSelect all=true){K:Fr→World→Prop}(hK:∀a f w,Fits N ds a f→K f w→bR P N ds Rf rk .normal a w):
  ∀(pl:List (Nat×Bool)) (S:World→Prop) (listed:Array Bool) (a:Act) (f:Fr) (w:World),Fits N ds a f→S w→eu all pl listed=true→Dn all listed→
   xs P Rf.ou S K (fI N all pl) f w→bV P all (iY all) (bR P N ds Rf rk) pl.length S listed a w
 |[],S,listed,a,f,w,hf,_,cL,_,h=>bV.nil (by simpa[eu]using cL) (hK a f w hf h) 0
 |(i,true):: pl,S,listed,a,f,w,hf,hb,cL,hd,h=>by
  simp only[eu,Bool.and_eq_true,decide_eq_true_eq]at cL
  obtain⟨⟨⟨⟨hq,hi⟩,hr⟩,Cn⟩,cU⟩:=cL
  simp only[fI]at h
  have ik:all[i]? =some (all.getD i default):=by simp[hi]
  generalize all.getD i default=oi at*
  have eM:i∈Region.ready .any all listed:=by simpa using hr
  by_cases mU:(uf N oi.dst&&(fY oi||tf oi))=true
  ·have h':xs P Rf.ou S K (.bF oi.dst oi.op oi.type :: fI N all pl) f w:=by
    unfold VU at h;rw[if_pos mU]at h;exact h
   rw[Bool.and_eq_true]at mU
   obtain⟨v,pC,om⟩:∃v,YieldsIf P all (fun _=>True) oi v a∧xs P Rf.ou S K (fI N all pl) (ai f oi.dst v) w:=by
    rcases(Bool.or_eq_true _ _).mp mU.2 with hA|hA
    ·exact lG (P:=P) (pn:=Rf.ou) (K:=xs P Rf.ou S K (fI N all pl)) (b:=w) (all:=all) hf hA h'
    ·exact DU (P:=P) (pn:=Rf.ou) (K:=xs P Rf.ou S K (fI N all pl)) (b:=w) (all:=all) hf hA h'
   exact bV.oy ik mL (fun c a w hh=>dj rk c _ _ _ _ (by first|assumption|exact mU.1|exact hI.2) hh) _ _ _ _ _ hd (Region.free_spec ik Cn) eM pC hb
    (gH mL hK pl _ _ _ _ _ (hf.put _ (dL mU.1) _) hb cU (hd.next eM) om)
  have h':lC P (xs P Rf.ou S K (fI N all pl)) S (cI N all oi) f w:=by
   unfold VU at h;rw[if_neg mU]at h;exact h
  obtain⟨v,Co,hy,hk⟩:=vP hf hq h'
  rw[Bool.and_eq_true,Co]at mU
  by_cases hp:ly oi=true
  ·obtain⟨y,DV,hg,pC⟩:=jG (P:=P) (all:=all) hp a
   have hI:cI N all oi= .mv oi.dst y∧uf N oi.dst=true:=by
    unfold cI at h' ⊢
    by_cases cL:uf N oi.dst=true
    ·rw[if_pos cL,hg];exact⟨DV,cL⟩
    ·rw[if_neg cL]at h';exact h'.elim
   have om:xs P Rf.ou S K (fI N all pl) (ai f oi.dst (a.eval y)) w:=by
    rw[hI.1]at h'
    rw[hf.ev];exact h'
   exact bV.oy ik mL (fun c a w hh=>dj rk c _ _ _ _ hI.2 hh) _ _ _ _ _ hd (Region.free_spec ik Cn) eM pC hb
    (gH mL hK pl _ _ _ _ _ (hf.put _ (dL hI.2) _) hb cU (hd.next eM) om)
  by_cases MC:jX oi=true
  ·obtain⟨v',pC,om⟩:=DY (P:=P) (all:=all) hf MC h'
   exact bV.oy ik mL (fun c a w hh=>dj rk c _ _ _ _ Co hh) _ _ _ _ _ hd (Region.free_spec ik Cn) eM pC hb
    (gH mL hK pl _ _ _ _ _ (hf.put _ (dL Co) _) hb cU (hd.next eM) om)
  have QO:zL oi=false:=by
   have hA:¬fY oi=true:=fun e=>mU ⟨rfl,by rw[e];rfl⟩
   have hB:¬tf oi=true:=fun e=>mU ⟨rfl,by rw[e];exact Bool.or_true _⟩
   unfold zL jy
   simp only[Bool.not_eq_true]at hp MC hA hB
   rw[hp,MC,hA,hB];rfl
  exact bV.look ik mL (fun listed j hd hj hr e=>((hd.VW (by unfold iY at e;rw[Bool.and_eq_true]at e;exact e.2) hj hr (by simpa[ik]using QO)).symm)) (fun c a w hh=>dj rk c _ _ _ _ Co hh) _ _ _ _ _ hd (Region.free_spec ik Cn) eM hy hb
   (gH mL hK pl _ _ _ _ _ (hf.put _ (dL Co) v) hb cU (hd.next eM) hk)
 |(i,false):: pl,S,listed,a,f,w,hf,hb,cL,hd,h=>by
  simp only[eu,Bool.and_eq_true,decide_eq_true_eq]at cL
  obtain⟨⟨hi,hr⟩,cU⟩:=cL
  have ik:all[i]? =some (all.getD i default):=by simp[hi]
  have Hs:i∈Region.ready .any all listed:=by rw[hr];simp
  simp only[fI]at h
  refine⟨fun h0=>(by rw[h0]at hr;cases hr),fun j hj=>?_⟩
  obtain rfl:j=i:=by rw[hr]at hj;simpa using hj
  generalize all.getD j default=oi at ik h
  unfold wpOp
  simp only[ik]
  by_cases hc:iY all j=true
  ·rw[if_pos hc]at h
   have hstep:bT P Rf.ou (fun f' w'=>∃S':World→Prop,S' w'∧xs P Rf.ou S' K (fI N all pl) f' w') (cI N all oi) w f w:=h
   have hs:=ij (Q:=bR P N ds Rf rk) (K':=fun a' w'=>(iY all j=true∧∃S':World→Prop,S' w'∧bV P all (iY all) (bR P N ds Rf rk) pl.length S' (listed.setIfInBounds j true) a' w')∨(S w'∧bV P all (iY all) (bR P N ds Rf rk) pl.length S (listed.setIfInBounds j true) a' w')) hf hstep (ig rk hf)
    fun a' f' w' fO hx=>by
     obtain⟨S',QN,hx⟩:=hx
     exact .inl ⟨hc,S',QN,gH mL hK pl _ _ _ _ _ fO QN cU (hd.next Hs) hx⟩
   split
   ·rename_i hw;rw[if_pos hw]at hs;exact .inl hs
   ·rename_i hw;rw[if_neg hw]at hs;exact hs
  rw[if_neg hc]at h
  have hstep:bT P Rf.ou (fun f' w'=>S w'∧xs P Rf.ou S K (fI N all pl) f' w') (cI N all oi) w f w:=by
   generalize hc:cI N all oi=ci at h
   cases ci with
   |q i'=>exact absurd hc (pG _ _ _)
   |bF d o ty=>exact absurd hc (jc _ _ _ _ _)
   |rb=>exact absurd hc (lF _ _)
   |eI=>exact h
   |qx t i'=>exact h
   |lr t=>exact h
   |mv d o=>exact h
   |pick d c a b=>exact h
   |aZ d y=>exact h
   |val d o ty=>exact h
   |aG d o ty=>exact h
   |call d g args=>exact h
   |ep d g args=>exact h
   |Cm o=>exact h
   |gd s bb d i'=>exact h
   |bad=>exact h
  have hs:=ij (Q:=bR P N ds Rf rk) (K':=fun a' w'=>(iY all j=true∧∃S':World→Prop,S' w'∧bV P all (iY all) (bR P N ds Rf rk) pl.length S' (listed.setIfInBounds j true) a' w')∨(S w'∧bV P all (iY all) (bR P N ds Rf rk) pl.length S (listed.setIfInBounds j true) a' w')) hf hstep (ig rk hf)
   fun a' f' w' fO hx=>.inr ⟨hx.1,gH mL hK pl _ _ _ _ _ fO hx.1 cU (hd.next Hs) hx.2⟩
  split
  ·rename_i hw;rw[if_pos hw]at hs;exact .inl hs
  ·rename_i hw;rw[if_neg hw]at hs;exact hs
theorem qG(l:List Oper):∀o∈l.take (vN l),(dK o).quiet=true:=by
 induction l with
 |nil=>simp
 |cons o l ih=>
  unfold vN at*
  by_cases h:(dK o).quiet=true
  ·simp only[List.takeWhile_cons,h,if_true,List.length_cons,List.take_succ_cons,List.mem_cons]
   rintro o' (rfl|Jh)
   ·exact h
   ·exact ih o' Jh
  ·simp[h]
theorem sound(hm:P.follows .mixedOrders=true):∀(n:Nat) (rl:List Oper) (all:Array Oper) (rk:List fy) (b:World) (f:Fr) (w:World) (a:Act),Fits N ds a f→
  x P Rf n (rl.map (cI N all)) (rk.map (fy.low N)) b f w→wpList P all (bR P N ds Rf rk) rl a w:=by
 intro n
 induction n using Nat.strongRecOn with
 |_ n IH=>
 intro rl all rk b f w a hf h
 have DZ:∀n',n'<n→∀(rk:List fy) (b:World) (f:Fr) (w:World) (a:Act),Fits N ds a f→x P Rf n' [] (rk.map (fy.low N)) b f w→bR P N ds Rf rk .normal a w:=
  fun n' qF rk b f w a hf h=>IH n' qF [] #[] rk b f w a hf h
 cases n with
 |zero=>exact h.elim
 |succ n=>
 cases rl with
 |cons o rl=>
  simp only[List.map_cons]at h
  have hstep:bT P Rf.ou (x P Rf n (rl.map (cI N all)) (rk.map (fy.low N)) b) (cI N all o) w f w:=by
   generalize hc:cI N all o=ci at h
   cases ci with
   |q i'=>exact absurd hc (pG _ _ _)
   |eI=>exact absurd hc (ox _ _)
   |rb=>exact absurd hc (lF _ _)
   |bF d o ty=>exact absurd hc (jc _ _ _ _ _)
   |qx t i'=>exact absurd hc (rn _ _ _ _)
   |lr t=>exact absurd hc (lD _ _ _)
   |mv d o=>exact h
   |pick d c a b=>exact h
   |aZ d y=>exact h
   |val d o ty=>exact h
   |aG d o ty=>exact h
   |call d g args=>exact h
   |ep d g args=>exact h
   |Cm o=>exact h
   |gd s bb d i'=>exact h
   |bad=>exact h
  have Rn:=ij (Q:=bR P N ds Rf rk) (K':=wpList P all (bR P N ds Rf rk) rl) hf hstep (ig rk hf) (fun a' f' w' fO hx=>IH n (Nat.lt_succ_self n) rl all rk b f' w' a' fO hx)
  unfold wpList
  split
  ·rename_i hw;rw[if_pos hw]at Rn;exact .inl Rn
  ·rename_i hw;rw[if_neg hw]at Rn;exact Rn
 |nil=>
  show bR P N ds Rf rk .normal a w
  have lt:=Nat.lt_succ_self n
  cases rk with
  |nil=>exact⟨f,hf,h⟩
  |cons it rk=>
   cases it with
   |bl id=>exact DZ n lt rk _ _ _ _ hf h
   |sc=>exact DZ n lt rk _ _ _ _ hf h
   |lp J=>exact⟨f,hf,h⟩
   |c cc=>
    show cc.wp P (bR P N ds Rf rk) a w
    cases cc with
    |skip=>exact wp_skip (DZ n lt rk _ _ _ _ hf h)
    |label l=>exact wp_label (DZ n lt rk _ _ _ _ hf h)
    |ret=>exact wp_ret (rh rk a w ⟨f,hf,h⟩)
    |seq c1 c2=>
     refine wp_seq ?_
     have:=DZ n lt (.c c1 :: .c c2 :: rk) _ _ _ _ hf h
     exact Go.wp_mono (this:c1.wp P (bR P N ds Rf (.c c2 :: rk)) a w) (fun e a w hq=>hq)
    |cond c c1 c2=>
     obtain⟨t,ht,hk⟩:=h
     refine wp_cond (t:=t) (by rw[hf.ev];exact ht) ?_
     cases t
     ·exact DZ n lt (.c c2 :: rk) _ _ _ _ hf hk
     ·exact DZ n lt (.c c1 :: rk) _ _ _ _ hf hk
    |block id c=>
     refine wp_block ?_
     have:=DZ n lt (.c c :: .bl id :: rk) _ _ _ _ hf h
     exact Go.wp_mono (this:c.wp P (bR P N ds Rf (.bl id :: rk)) a w) (fun e a w hq=>hq)
    |scope c=>
     refine wp_scope_straight ?_
     have:=DZ n lt (.c c :: .sc :: rk) _ _ _ _ hf h
     exact Go.wp_mono (this:c.wp P (bR P N ds Rf (.sc :: rk)) a w) (fun e a w hq=>hq)
    |exit id=>
     have h':(match di id (rk.map (fy.low N))with|some k'=>x P Rf n [] k' w f w|none=>False):=h
     cases hp:di id (rk.map (fy.low N))with
     |none=>rw[hp]at h';exact h'.elim
     |some k'=>
      rw[hp]at h'
      obtain⟨rk',rfl,hh⟩:=ov (P:=P) (Rf:=Rf) rk id k' hp
      exact wp_exit (hh a w (DZ n lt rk' _ _ _ _ hf h'))
    |loop c=>
     obtain⟨J,μ,h0,hr⟩:=h
     refine wp_loop (RQ N ds J) (fun a w=>μ (fun t=>a.tmps.getD t undef) w) ⟨f,hf,h0⟩ ?_
     rintro a' w' ⟨f',fO,hJ⟩
     have:=DZ n lt (.c c :: .lp (fun f2 w2=>J f2 w2∧μ f2 w2<μ f' w'):: rk) _ _ _ _ fO (hr f' w' hJ)
     refine Go.wp_mono (this:c.wp P (bR P N ds Rf (.lp (fun f2 w2=>J f2 w2∧μ f2 w2<μ f' w'):: rk)) a' w') (fun e a2 w2 hq=>?_)
     cases e with
     |normal=>
      obtain⟨f2,ZE,jH,aI⟩:=hq
      refine⟨⟨f2,ZE,jH⟩,?_⟩
      rw[show(fun t=>a2.tmps.getD t undef)=f2 from funext ZE.at_,show(fun t=>a'.tmps.getD t undef)=f' from funext fO.at_]
      exact aI
     |_=>exact hq
    |region id ops draw=>
     cases draw with
     |false=>exact wp_region_list (IH n lt ops.toList ops rk _ f w a hf h)
     |true=>
      have h':x P Rf (n+1) [] (.c (MZ N ops):: rk.map (fy.low N)) b f w:=h
      unfold MZ at h'
      simp only at h'
      have hl:ops=ops.toList.toArray:=by simp
      split at h'
      ·split at h'
       ·rename_i t heq
        unfold DO at heq
        split at heq
        ·rename_i pt _
         split at heq
         ·rename_i hB
          simp only[Bool.and_eq_true]at hB
          injection heq with heq
          subst heq
          refine wp_region_any hm (bV.any (ct:=fun _=>true) _ (fun _=>True) _ _ _ ?_)
          exact(Hv (P:=P) (Rf:=Rf) (N:=N) (rk:=rk) hB.1 pt n w.drew _ none _ a f w.drew hf (Dn.start _ _) hB.2.1 (fun l h=>by cases h) h' (fun n' a' f' w' qF fO hx=>DZ n' (by omega) rk _ _ _ _ fO hx)).1 rfl
         ·cases heq
        ·cases heq
       ·unfold cZ at h'
        split at h'
        ·rename_i pl _
         split at h'
         ·rename_i hB
          simp only[Bool.and_eq_true,decide_eq_true_eq]at hB
          obtain⟨S,hS,h2⟩:=h'
          refine wp_region_any hm (bV.any (ct:=iY ops) _ S _ _ _ ?_)
          have hh:=gH (P:=P) (Rf:=Rf) (N:=N) (rk:=rk) hB.1 (fun a' f' w' fO hx=>DZ n (by omega) rk w' _ _ _ fO hx) pl S _ a f w.drew hf hS hB.2.1 (Dn.start _ _) h2
          rwa [hB.2.2]at hh
         ·exact h'.elim
        ·exact h'.elim
      split at h'
      ·rename_i hB
       simp only[Bool.and_eq_true,decide_eq_true_eq]at hB
       refine wp_region_still hm hB.2 ?_
       have hq:∀o∈ops.toList,(dK o).quiet=true:=by
        have:=qG ops.toList
        rwa [hB.1,←Array.length_toList,List.take_length]at this
       refine Ak (Rf:=Rf) (N:=N) (tl:=[]) (k:=rk.map (fy.low N)) ops.toList hq n a f hf (by rw[List.append_nil];exact h') ?_
       intro n' a' f' qF fO hx
       exact DZ n' (by omega) rk _ _ _ _ fO hx
      ·split at h'
       ·rename_i hB
        rw[hl]
        refine wp_region_still_tail (vN ops.toList) hm (by rw[←hl];exact hB) ?_
        rw[←hl]
        refine Ak (Rf:=Rf) (N:=N) (k:=rk.map (fy.low N)) _ (qG ops.toList) n a f hf h' ?_
        intro n' a' f' qF fO hx
        exact IH n' (by omega) _ ops rk _ f' _ a' fO hx
       ·split at h'
        ·rename_i pl _
         split at h'
         ·rename_i hB
          simp only[Bool.and_eq_true,decide_eq_true_eq]at hB
          split at h'
          ·unfold UU at h'
           split at h'
           ·rename_i et _
            refine wp_region_any hm (bV.any (ct:=dY ops) _ (dy P et w.drew) _ _ _ ?_)
            have hh:=ga (P:=P) (Rf:=Rf) (N:=N) (rk:=rk) hB.1.1 et pl n w.drew _ a f w.drew hf (dy.refl _ _) hB.1.2.1 (Dn.start _ _) h' (fun n' a' f' w' qF fO ⟨b',hx⟩=>DZ n' (by omega) rk b' _ _ _ fO hx)
            rwa [hB.1.2.2]at hh
           ·refine wp_region_any hm (bV.any (ct:=dY ops) _ (Below w.drew.heap.size w.drew) _ _ _ ?_)
            have hh:=jd (P:=P) (Rf:=Rf) (N:=N) (rk:=rk) hB.1.1 pl n w.drew _ a f w.drew hf (Below.refl _ _) hB.1.2.1 (Dn.start _ _) h' (fun n' a' f' w' qF fO ⟨b',hx⟩=>DZ n' (by omega) rk b' _ _ _ fO hx)
            rwa [hB.1.2.2]at hh
          ·split at h'
           ·obtain⟨S,hS,h2⟩:=h'
            refine wp_region_any hm (bV.any (ct:=iY ops) _ S _ _ _ ?_)
            have hh:=gH (P:=P) (Rf:=Rf) (N:=N) (rk:=rk) hB.1.1 (fun a' f' w' fO hx=>DZ n (by omega) rk w' _ _ _ fO hx) pl S _ a f w.drew hf hS hB.1.2.1 (Dn.start _ _) h2
            rwa [hB.1.2.2]at hh
           obtain⟨S,hS,h2⟩:=h'
           refine wp_region_any hm (bV.any (ct:=fun _=>false) _ S _ _ _ ?_)
           have hh:=ti (P:=P) (Rf:=Rf) (N:=N) (rk:=rk) hB.1.1 (fun a' f' w' fO hx=>DZ n (by omega) rk w' _ _ _ fO hx) pl _ a f w.drew hf hS hB.1.2.1 (Dn.start _ _) h2
           rwa [hB.1.2.2]at hh
         ·exact h'.elim
        ·unfold UT at h'
         split at h'
         ·rename_i pt _
          split at h'
          ·rename_i hB
           simp only[Bool.and_eq_true]at hB
           refine wp_region_any hm (bV.any (ct:=fE ops) _ (Below w.drew.heap.size w.drew) _ _ _ ?_)
           exact(KG (P:=P) (Rf:=Rf) (N:=N) (rk:=rk) hB.1 pt n w.drew _ none _ a f w.drew hf (Below.refl _ _) (Dn.start _ _) hB.2.1 (fun l h=>by cases h) h' (fun n' a' f' w' qF fO hx=>DZ n' (by omega) rk _ _ _ _ fO hx)).1 rfl
          ·exact h'.elim
         ·exact h'.elim
    |goto _=>exact h.elim
    |rangeFunc g ps b1 b2=>
     have h':x P Rf (n+1) [] (.c (if ps.toList.all (fun t=>uf N (some t))then .rf g ps.toList (QM N b1) (QM N b2)else .bad):: rk.map (fy.low N)) b f w:=h
     split at h'<;>exact h'.elim
    |refuse _=>exact h.elim
end
end Go.Proofs.YtcefeihlkpmejaaGreatDoor
