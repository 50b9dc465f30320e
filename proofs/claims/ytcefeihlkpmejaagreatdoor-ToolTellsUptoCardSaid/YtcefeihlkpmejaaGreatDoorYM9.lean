/- A part of the proof. -/
import Derived.Test.YtcefeihlkpmejaaGreatDoorYLaws
import Derived.Laws.Tables
import Derived.Test.YtcefeihlkpmejaaGreatDoorYIr
import Derived.Test.YtcefeihlkpmejaaGreatDoorYTy
import Derived.ProofKit
import Derived.OpenShut
import Derived.Deep.Slices
import Derived.Deep.Fields
import Derived.ChangeSame
import Derived.ChangeOld
import Derived.Lib.SmallJoins
import Derived.SizedLaws
import Derived.Lib.SplitLaws
import Derived.Shelf.Strings.SplitShaped
import Derived.Shelf.Small.Wraps
import Derived.Shelf.Strconv.Itoa3
namespace Go.Proofs.YtcefeihlkpmejaaGreatDoor
set_option linter.unusedSimpArgs false
set_option linter.unusedVariables false
set_option linter.unusedSectionVars false
section
open Go.RowKit
theorem bS{α:Type}(l:List α)(d:α)(k:Nat)(h:k<l.length):l.take (k+1)=l.take k++[l.getD k d]:=by
 rw[List.take_succ_eq_append_getElem h]
 simp[List.getD_eq_getElem?_getD,h]
theorem getD_map{α β:Type}(g:α→β)(l:List α)(d:α)(e:β)(k:Nat)(h:k<l.length):(l.map g).getD k e=g (l.getD k d):=by
 simp[List.getD_eq_getElem?_getD,h]
theorem bY{α:Type}(l:List α)(d:α)(k:Nat)(h:k<l.length):l.getD k d∈l:=by
 simp[List.getD_eq_getElem?_getD,h]
theorem fA{α:Type}(l:List α)(d x:α):x∈l↔∃k,k<l.length∧l.getD k d=x:=by
 constructor
 ·intro h
  obtain⟨k,hk,rfl⟩:=List.getElem_of_mem h
  exact⟨k,hk,by simp[List.getD_eq_getElem?_getD,hk]⟩
 ·rintro⟨k,hk,rfl⟩;exact bY l d k hk
theorem wu{α:Type}(d:α){l m:List α}(h:l.length=m.length)(hh:∀k,k<l.length→l.getD k d=m.getD k d):l=m:=by
 apply List.ext_getElem h
 intro k h1 h2
 have:=hh k h1
 simpa[List.getD_eq_getElem?_getD,h1,h2]using this
theorem wv{α:Type}(l:List α)(d x:α)(i k:Nat)(h:i<l.length):(l.set i x).getD k d=if k=i then x else l.getD k d:=by
 simp only[List.getD_eq_getElem?_getD,List.getElem?_set]
 by_cases e:k=i
 ·subst e;simp[h]
 ·rw[if_neg (fun h=>e h.symm),if_neg e]
abbrev iv(l:List Int):List Value:=l.map (Value.int .i64)
theorem WK(l:List Int):∀u∈iv l,u.oneCell'=true:=by
 intro u hu
 obtain⟨x,_,rfl⟩:=List.mem_map.1 hu
 rfl
abbrev cQ(B e:Nat)(w:World)(A:Option Addr)(c:Nat)(l:List Int):Prop:=Own B e 1 w A c l.length (iv l)
section
variable {P:Program} {K:Fr→World→Prop} {f:Fr} {d:Option Nat} {u w w':World} {B e bytes t ty:Nat} {A A2:Option Addr} {c c2 n:Nat} {l m:List Int} {ok:Nat→Prop}
theorem Ints.rd(h:Ints ok w A l):Rd w A (iv l):=
 ⟨fun hl=>h.isSome (by simpa using hl),fun j v hv=>by
  have hj:j<l.length:=by
   rcases Nat.lt_or_ge j l.length with h|h
   ·exact h
   ·rw[List.getElem?_eq_none (by simpa using h)]at hv;cases hv
  rw[h.cell j hj]
  simp only[List.getElem?_map,List.getElem?_eq_getElem hj,Option.map_some,Option.some.injEq]at hv
  rw[←hv];simp[List.getD_eq_getElem?_getD,hj]⟩
theorem Ints.abj(h:Rd w A (iv l))(hb:0<l.length→ok (A.getD default).block):Ints ok w A l:=
 ⟨fun hl=>h.isSome (by simpa using hl),hb,fun i hi=>h.cell i _ (by simp[List.getD_eq_getElem?_getD,hi])⟩
theorem cQ.ints(h:cQ B e w A c l):Ints (fun b=>B≤b∧A.map (·.block)=some b) w A l:=
 Ints.abj (h.rd (by decide)) fun hl=>by
  have hs:=h.isSome hl
  refine⟨(h.block hs).1,?_⟩
  cases A with
  |none=>cases hs
  |some a=>rfl
theorem tu(hT:uJ P t e 1 8)(mR:cQ B e w A c l)(x:Int)(hl:l.length+1≤17592186044416)(hB:B≤w.heap.size)
  (hk:∀A' c' w',cQ B e w' A' c' (l++[x])→bJ w w' A→(A'.map (·.block)=A.map (·.block)∨∃g,A'.map (·.block)=some g∧w.heap.size≤g)→A'.isSome=true→w.heap.size≤w'.heap.size→K (ai f d (.slice A' (l.length+1) c')) w'):
  cG P K (Builtin.append_ #[t,t] ty #[.slice A l.length c,.slice (some ⟨w.heap.size,0,none⟩) 1 1]) f d (w.alloc (.cells [.int .i64 x].toArray e)):=by
 refine pH hT ty (mR.alloc _) (HA w [.int .i64 x] e) rfl (by intro u hu;simp at hu;subst hu;rfl) (by omega) (by omega) (by simp;omega) ?_
 intro A' c' w' ho hg hA hs hz
 have Cw:w.heap.size≤w'.heap.size:=by have:(w.alloc (.cells [.int .i64 x].toArray e)).heap.size=w.heap.size+1:=by simp
                                      omega
 refine hk A' c' w' ?_ ⟨⟨hg.aJ.os,hg.aJ.tape,hg.aJ.output,Cw,fun k hk cY=>?_⟩⟩ ?_ (hs (by decide)) Cw
 ·unfold cQ;simpa using ho
 ·rw[hg.aJ.block k (by simp;omega) cY,Below.heap_alloc w _ k hk]
 ·rcases hA with h|h
  ·exact .inl h
  ·exact .inr ⟨_,h,by simp⟩
theorem A6(hT:uJ P t e 1 8)(mR:cQ B e w A c l)(hr:Ints ok w A2 m)(hl:l.length+m.length≤17592186044416)(hB:B≤w.heap.size)
  (hk:∀A' c' w',cQ B e w' A' c' (l++m)→bJ w w' A→(A'.map (·.block)=A.map (·.block)∨∃g,A'.map (·.block)=some g∧w.heap.size≤g)→w.heap.size≤w'.heap.size→K (ai f d (.slice A' (l.length+m.length) c')) w'):
  cG P K (Builtin.append_ #[t,t] ty #[.slice A l.length c,.slice A2 m.length c2]) f d w:=by
 refine pH hT ty mR hr.rd (by simp) (WK m) (by omega) (by omega) hB ?_
 intro A' c' w' ho hg hA hs hz
 refine hk A' c' w' ?_ hg ?_ hz
 ·unfold cQ;simpa using ho
 ·rcases hA with h|h
  ·exact .inl h
  ·exact .inr ⟨_,h,Nat.le_refl _⟩
theorem Jk(_h1:aR P ty=some false)(h2:aL P ty=some 1)(mR:cQ B e w A c l)(j:Nat)(hj:j<l.length)(x:Int)
  (hk:∀w',cQ B e w' A c (l.set j x)→bJ w w' A→w'.heap.size=w.heap.size→K (ai f d undef) w'):
  cG P K (do Instr.storeAt ty (.pointer (some (eA A j))) (.int .i64 x);pure undef) f d w:=by
 rcases mR.form with⟨_,h0,_⟩|⟨g,rfl,_,hg⟩
 ·omega
 ·have hs:=mR.own.stored j (.int .i64 x)
  have hc:=mR.ints.cell j hj
  rw[jz]at hc ⊢
  have hf:=mR.own.frozenAt (g:=g) j
  refine⟨undef,w.setCell ⟨g,j,none⟩ (.int .i64 x),?_,hk _ ?_ ⟨hs.2⟩ (by simp)⟩
  ·unfold aL at h2
   cases hi:P.info? ty with
   |none=>simp[hi]at h2
   |some ie=>
    simp only[hi,Option.map_some,Option.some.injEq]at h2
    simp[Instr.storeAt,Instr.sureAddr,storeVar,sizeOf,typeInfo,hi,h2,Value.cells,storeCells,addr_add,run_store_int,stored,hc,hf]
  ·refine⟨?_⟩
   have:=hs.1
   rw[List.length_set]
   unfold iv
   rw[List.map_set]
   exact this
theorem zS(o:Operand)(lo hi mx:Option Operand):gU P K (.slice t o lo hi mx) ty u f d w=aq P K (Instr.sliceAt t (ev f o) (lo.map (ev f)) (hi.map (ev f)) (mx.map (ev f))) u f d w:=propext Iff.rfl
theorem HE{sz:Nat}(hT:uJ P t e sz bytes)(k:Nat)(hk:k≤n)(_hc:n≤c):aq P K (Instr.sliceAt t (.slice A n c) (some (.int .i64 k)) none none) u f d w=
  K (ai f d (.slice (if c=k then A else A.map (·.add (k*sz))) (n-k) (c-k))) w:=
 aM u f d w fun w' _=>by
  obtain⟨i,z,hi,hz,hs,hb,WL⟩:=hT.get
  have h1:(0:Int)≤(k:Int)∧(k:Int)≤(n:Int):=by omega
  simp[Instr.sliceAt,run_underlying hT.under,Instr.slice,Instr.sliceBounds,Instr.sliceBound,asIntOf,hk,sizeOf,typeInfo,hi,hs]
theorem ef(a b:Value):aq P K (Instr.extract (.tuple #[a,b]) 0) u f d w=K (ai f d a) w:=eS u f d w _ 0 (by simp)
theorem eh(a b:Value):aq P K (Instr.extract (.tuple #[a,b]) 1) u f d w=K (ai f d b) w:=eS u f d w _ 1 (by simp)
theorem wy(a b c:Value):aq P K (Instr.extract (.tuple #[a,b,c]) 0) u f d w=K (ai f d a) w:=eS u f d w _ 0 (by simp)
theorem wz(a b c:Value):aq P K (Instr.extract (.tuple #[a,b,c]) 1) u f d w=K (ai f d b) w:=eS u f d w _ 1 (by simp)
theorem wC(a b c:Value):aq P K (Instr.extract (.tuple #[a,b,c]) 2) u f d w=K (ai f d c) w:=eS u f d w _ 2 (by simp)
theorem Jl(x0 x1 x2 x3:Value):aq P K (Instr.extract (.tuple #[x0,x1,x2,x3]) 0) u f d w=K (ai f d x0) w:=eS u f d w _ 0 (by simp)
theorem Jm(x0 x1 x2 x3:Value):aq P K (Instr.extract (.tuple #[x0,x1,x2,x3]) 1) u f d w=K (ai f d x1) w:=eS u f d w _ 1 (by simp)
theorem Jn(x0 x1 x2 x3:Value):aq P K (Instr.extract (.tuple #[x0,x1,x2,x3]) 2) u f d w=K (ai f d x2) w:=eS u f d w _ 2 (by simp)
theorem Jo(x0 x1 x2 x3:Value):aq P K (Instr.extract (.tuple #[x0,x1,x2,x3]) 3) u f d w=K (ai f d x3) w:=eS u f d w _ 3 (by simp)
end
attribute [push_cast] ef eh wy wz wC Jl Jm Jn Jo zS Option.map_some Option.map_none
end
section
open Go.RowKit
section
variable {P:Program} {R:Rx} {pn:List PanicEntry→World→Prop}
theorem HF(n:Nat)(k:List It)(b b':World)(f:Fr)(w:World)(h:x P R n [] k b f w):x P R n [] k b' f w:=by
 cases n with
 |zero=>exact h
 |succ n=>cases k with
  |nil=>exact h
  |cons i k=>cases i<;>exact h
theorem aP{K K':Fr→World→Prop}(hK:∀f w,K f w→K' f w):∀(i:I) (u:World) (f:Fr) (w:World),bT P pn K i u f w→bT P pn K' i u f w
 | .mv _ _,_,_,_,h=>hK _ _ h
 | .pick _ _ _ _,_,_,_,⟨t,ht,h⟩=>⟨t,ht,hK _ _ h⟩
 | .aZ _ _,_,_,_,⟨h0,h⟩=>⟨h0,hK _ _ h⟩
 | .val d o ty,u,f,w,h=>by
   have h':gU P K o ty u f d w:=h
   show gU P K' o ty u f d w
   unfold gU at*
   cases hv:valOf (ev f) ty o with
   |none=>simp[hv]at h'
   |some s=>simp only[hv]at h' ⊢;obtain⟨v,hr,hk⟩:=h';exact⟨v,hr,hK _ _ hk⟩
 | .aG d o ty,_,f,w,h=>by
   have h':fZ P K o ty f d w:=h
   show fZ P K' o ty f d w
   unfold fZ at*
   cases hv:valOf (ev f) ty o with
   |none=>simp[hv]at h'
   |some s=>simp only[hv]at h' ⊢;obtain⟨v,w',hr,hk⟩:=h';exact⟨v,w',hr,hK _ _ hk⟩
 | .call _ _ _,_,_,_,⟨h0,h⟩=>⟨h0,h.mono fun _ _ hh=>hh.elim (fun⟨v,he,hk⟩=>.inl ⟨v,he,hK _ _ hk⟩) .inr⟩
 | .Cm _,_,_,_,h=>h
 | .ep _ _ _,_,_,_,⟨g,p,q,hg,h0,h⟩=>⟨g,p,q,hg,h0,h.mono fun _ _ hh=>hh.elim (fun⟨v,he,hk⟩=>.inl ⟨v,he,hK _ _ hk⟩) .inr⟩
 | .gd s b d i,u,f,w,h=>by
   simp only[bT]at h ⊢
   split
   ·rename_i t ht
    simp only[ht]at h
    split
    ·rename_i hb;rw[if_pos hb]at h;exact aP hK i u f w h
    ·rename_i hb;rw[if_neg hb]at h;exact hK _ _ h
   ·rename_i cY
    split at h
    ·rename_i t ht;exact absurd ht (cY t)
    ·exact hK _ _ h
 | .bF d o ty,_,f,w,h=>by
   simp only[bT,Ah]at h ⊢
   split
   ·rename_i s hs
    rw[hs]at h
    obtain⟨v,hr,hk⟩:=h
    exact⟨v,hr,hK _ _ hk⟩
   ·rename_i hs;rw[hs]at h;exact h
 | .q _,_,_,_,h=>h.elim
 | .eI,_,_,_,h=>h.elim
 | .qx _ _,_,_,_,h=>h.elim
 | .lr _,_,_,_,h=>h.elim
 | .rb,_,_,_,h=>h.elim
 | .bad,_,_,_,h=>h.elim
theorem A8{P:Program}{K K':Fr→World→Prop}(hK:∀f w,K f w→K' f w)(t:TypeId):∀(i:I) (u:World) (f:Fr) (w:World),mT P K t i u f w→mT P K' t i u f w
 | .mv _ _,_,_,_,h=>hK _ _ h
 | .pick _ _ _ _,_,_,_,⟨t,ht,h⟩=>⟨t,ht,hK _ _ h⟩
 | .aZ _ _,_,_,_,⟨hn,h⟩=>⟨hn,hK _ _ h⟩
 | .val d o ty,u,f,w,h=>by
   simp only[mT,CZ]at h ⊢
   split
   ·rename_i s hs
    rw[hs]at h
    obtain⟨v,hr,hk⟩:=h
    exact⟨v,hr,hK _ _ hk⟩
   ·rename_i hs;rw[hs]at h;exact h
 | .aG _ _ _,_,_,_,h=>h.elim
 | .bF _ _ _,_,_,_,h=>h.elim
 | .call _ _ _,_,_,_,h=>h.elim
 | .ep _ _ _,_,_,_,h=>h.elim
 | .Cm _,_,_,_,h=>h.elim
 | .gd _ _ _ _,_,_,_,h=>h.elim
 | .q _,_,_,_,h=>h.elim
 | .eI,_,_,_,h=>h.elim
 | .qx _ _,_,_,_,h=>h.elim
 | .lr _,_,_,_,h=>h.elim
 | .rb,_,_,_,h=>h.elim
 | .bad,_,_,_,h=>h.elim
theorem HG{P:Program}{K K':Fr→World→Prop}{S:World→Prop}(hK:∀f w,K f w→K' f w):∀(i:I) (f:Fr) (w:World),lC P K S i f w→lC P K' S i f w
 | .mv _ _,_,_,h=>hK _ _ h
 | .pick _ _ _ _,_,_,⟨t,ht,h⟩=>⟨t,ht,hK _ _ h⟩
 | .aZ _ _,_,_,⟨hn,h⟩=>⟨hn,hK _ _ h⟩
 | .val d o ty,f,w,h=>by
   simp only[lC,qE]at h ⊢
   split
   ·rename_i s hs
    rw[hs]at h
    obtain⟨v,hr,hk⟩:=h
    exact⟨v,hr,hK _ _ hk⟩
   ·rename_i hs;rw[hs]at h;exact h
 | .aG _ _ _,_,_,h=>h.elim
 | .bF _ _ _,_,_,h=>h.elim
 | .call _ _ _,_,_,h=>h.elim
 | .ep _ _ _,_,_,h=>h.elim
 | .Cm _,_,_,h=>h.elim
 | .gd _ _ _ _,_,_,h=>h.elim
 | .q _,_,_,h=>h.elim
 | .eI,_,_,h=>h.elim
 | .qx _ _,_,_,h=>h.elim
 | .lr _,_,_,h=>h.elim
 | .rb,_,_,h=>h.elim
 | .bad,_,_,h=>h.elim
theorem wD{K K':Fr→World→Prop}(hK:∀f w,K f w→K' f w):∀(l:List I) {S:World→Prop} (f:Fr) (w:World),xs P pn S K l f w→xs P pn S K' l f w
 |[],_,f,w,h=>hK f w h
 | .rb :: j :: l,_,f,w,h=>by
   have hs:∀f w,(∃S':World→Prop,S' w∧xs P pn S' K l f w)→(∃S':World→Prop,S' w∧xs P pn S' K' l f w):=fun f w ⟨S',h1,h2⟩=>⟨S',h1,wD hK l f w h2⟩
   exact aP (pn:=pn) hs j w f w h
 |[.rb],_,f,w,h=>h.elim
 |i :: l,S,f,w,h=>by
  have ih:=fun f w=>wD hK l (S:=S) f w
  have hs:∀f w,(S w∧xs P pn S K l f w)→(S w∧xs P pn S K' l f w):=fun f w hh=>⟨hh.1,ih f w hh.2⟩
  cases i with
  |q i=>exact HG ih i f w h
  |bF d o ty=>exact aP (pn:=pn) ih (.bF d o ty) w f w h
  |eI=>exact h.elim
  |rb=>cases l with
   |nil=>exact h.elim
   |cons j l=>
    have hs:∀f w,(∃S':World→Prop,S' w∧xs P pn S' K l f w)→(∃S':World→Prop,S' w∧xs P pn S' K' l f w):=fun f w ⟨S',h1,h2⟩=>⟨S',h1,wD hK l f w h2⟩
    exact aP (pn:=pn) hs j w f w h
  |qx t i=>exact h.elim
  |lr t=>exact h.elim
  |mv d o=>exact hs _ w h
  |pick d c o p=>exact aP (pn:=pn) hs (.pick d c o p) w f w h
  |aZ d o=>exact aP (pn:=pn) hs (.aZ d o) w f w h
  |val d o ty=>exact aP (pn:=pn) hs (.val d o ty) w f w h
  |aG d o ty=>exact aP (pn:=pn) hs (.aG d o ty) w f w h
  |call d g args=>exact aP (pn:=pn) hs (.call d g args) w f w h
  |ep d g args=>exact aP (pn:=pn) hs (.ep d g args) w f w h
  |Cm o=>exact aP (pn:=pn) hs (.Cm o) w f w h
  |gd s bb d i=>exact aP (pn:=pn) hs (.gd s bb d i) w f w h
  |bad=>exact h.elim
theorem cK{S:World→Prop}{K:Fr→World→Prop}{s:Sem Value}{v:Value}{f:Fr}{d:Option Nat}{w:World}(h:∀w',S w'→aq P (fun f' _=>f' 0=v) s w' f (some 0) w')(hs:S w):Hp P K S s f d w=K (ai f d v) w:=by
 refine propext ⟨fun⟨v',hr,hk⟩=>?_,fun hk=>⟨v,fun w' DR=>?_,hk⟩⟩
 ·obtain⟨v2,xp,hv⟩:=h w hs
  have:=hr w hs
  rw[xp w (Below.refl _ _)]at this
  injection this with this
  have HH:v2=v:=hv
  rw[←this,HH]at hk
  exact hk
 ·obtain⟨v2,xp,hv⟩:=h w' DR
  have HH:v2=v:=hv
  rw[←HH]
  exact xp w' (Below.refl _ _)
theorem jr(id:Nat)(E:Fr→World→Prop)(k2:List It):∀(k1:List It) (k':List It),di id (k1++ .lp E :: k2)=some k'→
  (∃k3,k'=k3++ .lp E :: k2∧di id (k1++k2)=some (k3++k2))∨di id (k1++k2)=some k'
 |[],k',h=>.inr (by simpa[di]using h)
 | .c _ :: k1,k',h=>jr id E k2 k1 k' h
 | .lp _ :: k1,k',h=>jr id E k2 k1 k' h
 | .sc :: k1,k',h=>jr id E k2 k1 k' h
 | .t _ _ :: k1,k',h=>jr id E k2 k1 k' h
 | .tn _ :: k1,k',h=>jr id E k2 k1 k' h
 | .bl j :: k1,k',h=>by
   simp only[List.cons_append,di]at h ⊢
   by_cases hj:id=j
   ·rw[if_pos hj]at h ⊢
    injection h with h
    exact .inl ⟨k1,h.symm,rfl⟩
   ·rw[if_neg hj]at h ⊢
    exact jr id E k2 k1 k' h
theorem bX:∀(n:Nat) (l:List I) (k:List It) (b:World) (f:Fr) (w:World),x P R n l k b f w→x P R (n+1) l k b f w
 |0,_,_,_,_,_,h=>h.elim
 |n+1,[],[],_,_,_,h=>h
 |n+1,[],.bl _ :: k,_,f,w,h=>bX n [] k w f w h
 |n+1,[],.sc :: k,_,f,w,h=>bX n [] k w f w h
 |n+1,[],.lp _ :: _,_,_,_,h=>h
 |n+1,[],.t b0 t :: k,b,f,w,h=>by
  cases t with
  |nil=>exact bX n [] k w f w h
  |q i t=>exact bX n [.q i] (.t b0 t :: k) b0 f w h
  |act i t=>exact bX n [i,.eI] (.t b0 t :: k) b0 f w h
  |cut i t=>exact bX n [i] (.tn t :: k) b0 f w h
  |two t u=>
   have h':x P R n [] (.t b0 t :: k) b0 f w∧x P R n [] (.t b0 u :: k) b0 f w:=h
   exact⟨bX n [] (.t b0 t :: k) b0 f w h'.1,bX n [] (.t b0 u :: k) b0 f w h'.2⟩
 |n+1,[],.tn t :: k,_,f,w,h=>bX n [] (.t w t :: k) w f w h
 |n+1,[],.c c :: k,b,f,w,h=>by
  cases c with
  |sk=>exact bX n [] k w f w h
  |sq a d=>exact bX n [] (.c a :: .c d :: k) w f w h
  |op l=>exact bX n l k w f w h
  |dr l=>exact bX n l k w.drew f w.drew h
  |Kx t=>exact bX n [] (.t w.drew t :: k) w.drew f w.drew h
  |Hm l=>
   obtain⟨S,hS,h'⟩:=h
   exact⟨S,hS,wD (fun f' w' hh=>bX n [] k w' f' w' hh) l f w.drew h'⟩
  |cd c a d=>
   obtain⟨t,ht,hh⟩:=h
   refine⟨t,ht,?_⟩
   cases t
   ·exact bX n [] (.c d :: k) w f w hh
   ·exact bX n [] (.c a :: k) w f w hh
  |bl id c=>exact bX n [] (.c c :: .bl id :: k) w f w h
  |lo c=>
   obtain⟨J,μ,h0,hr⟩:=h
   exact⟨J,μ,h0,fun f' w' hJ=>bX n _ _ w' f' w' (hr f' w' hJ)⟩
  |ex id=>
   have h':(match di id k with|some k'=>x P R n [] k' w f w|none=>False):=h
   show(match di id k with|some k'=>x P R (n+1) [] k' w f w|none=>False)
   cases hp:di id k with
   |none=>rw[hp]at h';exact h'.elim
   |some k'=>rw[hp]at h';exact bX n [] k' w f w h'
  |sc c=>exact bX n [] (.c c :: .sc :: k) w f w h
  |rt=>exact h
  |rf _ _ _ _=>exact h.elim
  |bad=>exact h.elim
 |n+1,i :: l,k,b,f,w,h=>by
  cases i with
  |q i=>exact aP (fun f w hh=>bX n l k b f w hh) i b f w h
  |eI=>exact⟨h.1,bX n l k b f w h.2⟩
  |qx t i=>exact A8 (fun f w hh=>bX n l k b f w hh) t i b f w h
  |lr t=>exact⟨h.1,bX n l k b f w h.2⟩
  |rb=>exact bX n l k w f w h
  |mv d o=>exact bX n l k b _ w h
  |pick d c o p=>exact aP (fun f w hh=>bX n l k b f w hh) (.pick d c o p) w f w h
  |aZ d o=>exact aP (fun f w hh=>bX n l k b f w hh) (.aZ d o) w f w h
  |val d o ty=>exact aP (fun f w hh=>bX n l k b f w hh) (.val d o ty) w f w h
  |bF d o ty=>exact aP (fun f w hh=>bX n l k b f w hh) (.bF d o ty) w f w h
  |aG d o ty=>exact aP (fun f w hh=>bX n l k b f w hh) (.aG d o ty) w f w h
  |call d g args=>exact aP (fun f w hh=>bX n l k b f w hh) (.call d g args) w f w h
  |ep d g args=>exact aP (fun f w hh=>bX n l k b f w hh) (.ep d g args) w f w h
  |Cm o=>exact aP (fun f w hh=>bX n l k b f w hh) (.Cm o) w f w h
  |gd s bb d i=>exact aP (fun f w hh=>bX n l k b f w hh) (.gd s bb d i) w f w h
  |bad=>exact h.elim
theorem Bb{n m:Nat}(h:n≤m){l:List I}{k:List It}{b:World}{f:Fr}{w:World}(hx:x P R n l k b f w):x P R m l k b f w:=by
 obtain⟨d,rfl⟩:=Nat.le.dest h
 clear h
 induction d with
 |zero=>exact hx
 |succ d ih=>exact bX _ _ _ _ _ _ ih
theorem eO(E:Fr→World→Prop)(m:Nat)(k2:List It)(hE:∀f w,E f w→x P R m [] k2 w f w):∀(n:Nat) (l:List I) (k1:List It) (b:World) (f:Fr) (w:World),
  x P R n l (k1++ .lp E :: k2) b f w→x P R (n+m) l (k1++k2) b f w
 |0,_,_,_,_,_,h=>h.elim
 |n+1,[],[],b,f,w,h=>Bb (by omega) (HF _ _ _ b _ _ (hE f w h))
 |n+1,[],.bl _ :: k,_,f,w,h=>by rw[show n+1+m=n+m+1 by omega];exact eO E m k2 hE n [] k w f w h
 |n+1,[],.sc :: k,_,f,w,h=>by rw[show n+1+m=n+m+1 by omega];exact eO E m k2 hE n [] k w f w h
 |n+1,[],.lp _ :: _,_,_,_,h=>by rw[show n+1+m=n+m+1 by omega];exact h
 |n+1,[],.t b0 t :: k,b,f,w,h=>by
  rw[show n+1+m=n+m+1 by omega]
  cases t with
  |nil=>exact eO E m k2 hE n [] k w f w h
  |q i t=>exact eO E m k2 hE n [.q i] (.t b0 t :: k) b0 f w h
  |act i t=>exact eO E m k2 hE n [i,.eI] (.t b0 t :: k) b0 f w h
  |cut i t=>exact eO E m k2 hE n [i] (.tn t :: k) b0 f w h
  |two t u=>
   have h':x P R n [] (.t b0 t ::(k++ .lp E :: k2)) b0 f w∧x P R n [] (.t b0 u ::(k++ .lp E :: k2)) b0 f w:=h
   exact⟨eO E m k2 hE n [] (.t b0 t :: k) b0 f w h'.1,eO E m k2 hE n [] (.t b0 u :: k) b0 f w h'.2⟩
 |n+1,[],.tn t :: k,_,f,w,h=>by rw[show n+1+m=n+m+1 by omega];exact eO E m k2 hE n [] (.t w t :: k) w f w h
 |n+1,[],.c c :: k,b,f,w,h=>by
  rw[show n+1+m=n+m+1 by omega]
  cases c with
  |sk=>exact eO E m k2 hE n [] k w f w h
  |sq a d=>exact eO E m k2 hE n [] (.c a :: .c d :: k) w f w h
  |op l=>exact eO E m k2 hE n l k w f w h
  |dr l=>exact eO E m k2 hE n l k w.drew f w.drew h
  |Kx t=>exact eO E m k2 hE n [] (.t w.drew t :: k) w.drew f w.drew h
  |Hm l=>
   obtain⟨S,hS,h'⟩:=h
   exact⟨S,hS,wD (fun f' w' hh=>eO E m k2 hE n [] k w' f' w' hh) l f w.drew h'⟩
  |cd c a d=>
   obtain⟨t,ht,hh⟩:=h
   refine⟨t,ht,?_⟩
   cases t
   ·exact eO E m k2 hE n [] (.c d :: k) w f w hh
   ·exact eO E m k2 hE n [] (.c a :: k) w f w hh
  |bl id c=>exact eO E m k2 hE n [] (.c c :: .bl id :: k) w f w h
  |lo c=>
   obtain⟨J,μ,h0,hr⟩:=h
   exact⟨J,μ,h0,fun f' w' hJ=>eO E m k2 hE n [] (.c c :: .lp _ :: k) w' f' w' (hr f' w' hJ)⟩
  |ex id=>
   have h':(match di id (k++ .lp E :: k2)with|some k'=>x P R n [] k' w f w|none=>False):=h
   show(match di id (k++k2)with|some k'=>x P R (n+m) [] k' w f w|none=>False)
   cases hp:di id (k++ .lp E :: k2)with
   |none=>rw[hp]at h';exact h'.elim
   |some k'=>
    rw[hp]at h'
    rcases jr id E k2 k k' hp with⟨k3,rfl,h3⟩|h3
    ·rw[h3];exact eO E m k2 hE n [] k3 w f w h'
    ·rw[h3];exact Bb (by omega) h'
  |sc c=>exact eO E m k2 hE n [] (.c c :: .sc :: k) w f w h
  |rt=>exact h
  |rf _ _ _ _=>exact h.elim
  |bad=>exact h.elim
 |n+1,i :: l,k,b,f,w,h=>by
  rw[show n+1+m=n+m+1 by omega]
  have K:∀f w,x P R n l (k++ .lp E :: k2) b f w→x P R (n+m) l (k++k2) b f w:=fun f w hh=>eO E m k2 hE n l k b f w hh
  cases i with
  |q i=>exact aP K i b f w h
  |eI=>exact⟨h.1,K f w h.2⟩
  |qx t i=>exact A8 K t i b f w h
  |lr t=>exact⟨h.1,K f w h.2⟩
  |rb=>exact eO E m k2 hE n l k w f w h
  |mv d o=>exact K _ w h
  |pick d c o p=>exact aP K (.pick d c o p) w f w h
  |aZ d o=>exact aP K (.aZ d o) w f w h
  |val d o ty=>exact aP K (.val d o ty) w f w h
  |bF d o ty=>exact aP K (.bF d o ty) w f w h
  |aG d o ty=>exact aP K (.aG d o ty) w f w h
  |call d g args=>exact aP K (.call d g args) w f w h
  |ep d g args=>exact aP K (.ep d g args) w f w h
  |Cm o=>exact aP K (.Cm o) w f w h
  |gd s bb d i=>exact aP K (.gd s bb d i) w f w h
  |bad=>exact h.elim
theorem cut(E:Fr→World→Prop)(n m:Nat){N:Nat}(hN:n+m≤N){c:C}{k:List It}{b:World}{f:Fr}{w:World}
  (h1:∀E':Fr→World→Prop,(∀f w,E f w→E' f w)→x P R n [] (.c c :: .lp E' :: k) w f w)(h2:∀f w,E f w→x P R m [] k w f w):x P R N [] (.c c :: k) b f w:=
 Bb hN (HF _ _ _ b _ _ (eO E m k h2 n [] [.c c] w f w (h1 E fun _ _ h=>h)))
theorem WM(E:Fr→World→Prop)(n m:Nat){N:Nat}(hN:n+m≤N){b0:World}{t:T}{k:List It}{b:World}{f:Fr}{w:World}
  (h1:∀E':Fr→World→Prop,(∀f w,E f w→E' f w)→x P R n [] (.t b0 t :: .lp E' :: k) b f w)(h2:∀f w,E f w→x P R m [] k w f w):x P R N [] (.t b0 t :: k) b f w:=
 Bb hN (eO E m k h2 n [] [.t b0 t] b f w (h1 E fun _ _ h=>h))
end
end
section
open Go.RowKit
theorem Ob{p:Nat→Prop}(h:∃n,p n):∃n,p n∧∀k,p k→n≤k:=by
 obtain⟨n,hn⟩:=h
 induction n using Nat.strongRecOn with
 |_ n ih=>
  by_cases hx:∃k,k<n∧p k
  ·obtain⟨k,hk,hp⟩:=hx
   exact ih k hk hp
  ·exact⟨n,hn,fun k hk=>by
    rcases Nat.lt_or_ge k n with h|h
    ·exact absurd ⟨k,h,hk⟩ hx
    ·exact h⟩
theorem wE{X:List I→List It→World→Fr→World→Prop}{c:C}{k:List It}{f:Fr}{w:World}(I:Nat→Fr→World→Prop){n0:Nat}(h0:I n0 f w)
  (h:∀n f w,I n f w→∀J:Fr→World→Prop,(∀n' f' w',I n' f' w'→n'<n→J f' w')→X [] (.c c :: .lp J :: k) w f w):Je X c k f w:=by
 have hm:∀f w,∃n,(∃n,I n f w)→I n f w∧∀k,I k f w→n≤k:=fun f w=>by
  by_cases hx:∃n,I n f w
  ·obtain⟨n,hn⟩:=Ob hx
   exact⟨n,fun _=>hn⟩
  ·exact⟨0,fun h=>absurd h hx⟩
 refine ax (fun f w=>∃n,I n f w) (fun f w=>Classical.choose (hm f w)) ⟨n0,h0⟩ ?_
 intro f w hx J hJ
 refine h _ f w (Classical.choose_spec (hm f w) hx).1 J fun n' f' w' hi hn=>hJ f' w' ⟨n',hi⟩ ?_
 exact Nat.lt_of_le_of_lt ((Classical.choose_spec (hm f' w') ⟨n',hi⟩).2 n' hi) hn
end
section
open Go.RowKit
section
variable {P:Program} {K:Fr→World→Prop} {f:Fr} {d:Option Nat} {u w w':World} {g:Nat} {t ty:TypeId} {cs old:List Value}
theorem au{s:Sem Value}{v:Value}(he:cG P K s f d w=K (ai f d v) (w.alloc (.cells cs.toArray t)))
  (h:∀w',aE w' w.heap.size t cs→Below w.heap.size w w'→w'.heap.size=w.heap.size+1→K (ai f d v) w'):cG P K s f d w:=by
 rw[he]
 exact h _ (aE.new w t cs) ((Below.refl _ _).alloc (Nat.le_refl _) _) (by simp)
theorem aO(t:TypeId)(cs:List Value):cG P K (Instr.box t (.agg cs.toArray)) f d w=K (ai f d (.pointer (some ⟨w.heap.size,0,none⟩))) (w.alloc (.cells cs.toArray t)):=Hz t _
theorem aC(hk:aE w g t old)(vd:aL P ty=some cs.length)(ho:old.length=cs.length)(h1:cs.all (·.oneCell')=true)
  (h:∀w',aE w' g t cs→bJ w w' (some ⟨g,0,none⟩)→w'.heap.size=w.heap.size→K (ai f d undef) w'):
  cG P K (do Instr.storeAt ty (.pointer (some ⟨g,0,none⟩)) (.agg cs.toArray);pure undef) f d w:=by
 have hr:=run_storeVar_row (P:=P) w g t ty old.toArray cs.toArray hk (by simpa[aL]using vd) (by simpa using ho) (by simpa using h1)
 have hs:(w.setRow g cs.toArray).heap.size=w.heap.size:=by simp[World.setRow]
 refine⟨undef,w.setRow g cs.toArray,?_,h _ ?_ ⟨⟨rfl,rfl,rfl,by rw[hs];exact Nat.le_refl _,fun k hk cY=>?_⟩⟩ hs⟩
 ·simp[Instr.storeAt,Instr.sureAddr,hr]
 ·exact setRow_heap w g _ _ _ _ hk
 ·exact setRow_other w g k _ (by simpa using cY)
theorem drawn{B:Nat}(h:Below B w w'):Below B w w'.drew:=⟨h.os,h.tape,h.output,h.size,h.block⟩
theorem WN(x y z:Value)(a b c:Int):Instr.fill (fun i=>some (i*1,1)) #[x,y,z] [(0,.int .i64 a),(1,.int .i64 b),(2,.int .i64 c)]=some #[.int .i64 a,.int .i64 b,.int .i64 c]:=by
 simp[Instr.fill,Value.cells]
theorem Jp{e bytes:Nat}(hT:uJ P t e 1 bytes)(a b c:Int):
  cG P K (Instr.buildSlice t 3 #[(0,.int .i64 a),(1,.int .i64 b),(2,.int .i64 c)]) f d w=K (ai f d (.slice (some ⟨w.heap.size,0,none⟩) 3 3)) (w.alloc (.cells [.int .i64 a,.int .i64 b,.int .i64 c].toArray e)):=by
 obtain⟨i,z,hi,hz,hs,hb,hc⟩:=hT.get
 refine fa ?_
 have Sx:(Array.range 3).map (z.cells[·%z.cells.size]!)= #[z.cells[0%z.cells.size]!,z.cells[1%z.cells.size]!,z.cells[2%z.cells.size]!]:=by
  apply Array.ext';simp[List.range_succ]
 have hf:=WN (z.cells[0%z.cells.size]!) (z.cells[1%z.cells.size]!) (z.cells[2%z.cells.size]!) a b c
 rw[←Sx]at hf
 simp only[Instr.buildSlice,run_underlying hT.under,sizeOf,typeInfo,Sem.run_bind,Result.andThen_ok]
 simp only[Nat.mul_one]at hf
 simp[hi,hs,zeroValue,typeInfo,hz,newRow,hf]
def ay(a:cH):List Value:=[.int .i64 a.bK,.int .i64 a.dI,.int .i64 a.dt]
abbrev iD(a:cH):Value:= .agg (ay a).toArray
theorem il.CH{ok:Nat→Prop}{A:Option Addr}{l:List cH}(h:il ok u A l)(ht:aR P ty=some true)(hs:aL P ty=some 3)(i:Nat)(hi:i<l.length):
  aq P K (Instr.loadAt ty (.pointer (some (eA A (i*3))))) u f d w=K (ai f d (iD (l.getD i default))) w:=
 mW ht hs rfl fun j v hv=>by
  have hj:j<3:=by
   rcases Nat.lt_or_ge j 3 with h|h
   ·exact h
   ·rw[List.getElem?_eq_none (by simpa[ay]using h)]at hv;cases hv
  have hc:=h.cell i hi j hj
  have hA:=h.isSome (by omega)
  cases A with
  |none=>cases hA
  |some a=>
   rw[tm]at hc ⊢
   rw[add_add,hc]
   match j,hj with
   |0,_=>simpa[ay,cH.cell]using hv
   |1,_=>simpa[ay,cH.cell]using hv
   |2,_=>simpa[ay,cH.cell]using hv
theorem aE.a0{a:cH}(h:aE u g t (ay a))(ht:aR P ty=some false):aq P K (Instr.loadAt ty (.pointer (some ⟨g,0,none⟩))) u f d w=K (ai f d (.int .i64 a.bK)) w:=h.ld ht 0 (by simp[ay])
theorem aE.a1{a:cH}(h:aE u g t (ay a))(ht:aR P ty=some false):aq P K (Instr.loadAt ty (.pointer (some ⟨g,1,none⟩))) u f d w=K (ai f d (.int .i64 a.dI)) w:=h.ld ht 1 (by simp[ay])
theorem aE.a2{a:cH}(h:aE u g t (ay a))(ht:aR P ty=some false):aq P K (Instr.loadAt ty (.pointer (some ⟨g,2,none⟩))) u f d w=K (ai f d (.int .i64 a.dt)) w:=h.ld ht 2 (by simp[ay])
theorem aE.aA{a:cH}(h:aE u g t (ay a))(ht:aR P ty=some true)(hs:aL P ty=some 3):aq P K (Instr.loadAt ty (.pointer (some ⟨g,0,none⟩))) u f d w=K (ai f d (iD a)) w:=h.dC ht hs
theorem aE.m0{a:MV}{m:aN}(h:aE u g t (a.cells m))(ht:aR P ty=some false):aq P K (Instr.loadAt ty (.pointer (some ⟨g,0,none⟩))) u f d w=K (ai f d (.int .i64 m.aj)) w:=h.ld ht 0 (by simp)
theorem aE.m1{a:MV}{m:aN}(h:aE u g t (a.cells m))(ht:aR P ty=some false):aq P K (Instr.loadAt ty (.pointer (some ⟨g,1,none⟩))) u f d w=K (ai f d (.int .i64 m.events)) w:=h.ld ht 1 (by simp)
theorem aE.m2{a:MV}{m:aN}(h:aE u g t (a.cells m))(ht:aR P ty=some false):aq P K (Instr.loadAt ty (.pointer (some ⟨g,2,none⟩))) u f d w=K (ai f d (.slice a.As m.aB.length a.cs)) w:=h.ld ht 2 (by simp)
theorem aE.m3{a:MV}{m:aN}(h:aE u g t (a.cells m))(ht:aR P ty=some false):aq P K (Instr.loadAt ty (.pointer (some ⟨g,3,none⟩))) u f d w=K (ai f d (.slice a.Aa m.ag.length a.ca)) w:=h.ld ht 3 (by simp)
theorem aE.m4{a:MV}{m:aN}(h:aE u g t (a.cells m))(ht:aR P ty=some false):aq P K (Instr.loadAt ty (.pointer (some ⟨g,4,none⟩))) u f d w=K (ai f d (.slice a.Ae m.ends.length a.ce)) w:=h.ld ht 4 (by simp)
theorem aE.mA{a:MV}{m:aN}(h:aE u g t (a.cells m))(ht:aR P ty=some true)(hs:aL P ty=some 5):aq P K (Instr.loadAt ty (.pointer (some ⟨g,0,none⟩))) u f d w=K (ai f d (a.val m)) w:=h.dC ht hs
end
attribute [push_cast] Nat.zero_add List.getD_cons_zero List.getD_cons_succ
end
section
open Go.RowKit
section
variable {P:Program} {K:Fr→World→Prop} {u:World} {f:Fr} {d:Option Nat} {w w':World} {t ty g:Nat} {xo yo:Operand}
theorem wrap_i64(n:Int)(h0: -9223372036854775808≤n)(h1:n≤9223372036854775807):IntKind.i64.wrap n=n:=IntWalk.i64_in _ ⟨h0,h1⟩
theorem wrap_u64(n:Nat)(h:n<2^64):IntKind.u64.wrap n=n:=by
 have hb:IntKind.u64.bits=64:=rfl
 have hs:IntKind.u64.signed=false:=rfl
 simp only[IntKind.wrap,hb,hs,Bool.false_and,Bool.false_eq_true,if_false]
 exact Int.emod_eq_of_lt (by omega) (by exact_mod_cast h)
theorem Sy(n m:Nat)(hm:0<m)(hn:n≤9223372036854775807):aq P K (bW .quo t xo yo (.int .i64 n) (.int .i64 m)) u f d w=K (ai f d (.int .i64 (n/m:Nat))) w:=
 aM u f d w fun w' _=>by
  have h0:(m:Int)≠0:=by omega
  have h1:(n:Int).tdiv m=((n/m:Nat):Int):=by rw[Int.ofNat_tdiv]
  have h2:n/m≤n:=Nat.div_le_self n m
  have h3:IntKind.i64.wrap ((n/m:Nat):Int)=((n/m:Nat):Int):=by
   generalize n/m=q at*
   exact wrap_i64 _ (by omega) (by omega)
  show((do eqGuard .quo t xo yo (.int .i64 n) (.int .i64 m);Op.intDiv .quo .i64 n m):Sem Value).run P w'=_
  unfold Op.intDiv
  rw[if_neg h0]
  show Result.ok (Value.int .i64 (IntKind.i64.wrap ((n:Int).tdiv m))) w'=_
  rw[h1,h3]
theorem Sz(n m:Nat)(hm:0<m):aq P K (bW .rem t xo yo (.int .i64 n) (.int .i64 m)) u f d w=K (ai f d (.int .i64 (n%m:Nat))) w:=
 aM u f d w fun w' _=>by
  have h0:(m:Int)≠0:=by omega
  have h1:(n:Int).tmod m=((n%m:Nat):Int):=by rw[Int.ofNat_tmod]
  simp only[bW,eqGuard,binOp,Op.intDiv,if_neg h0,h1]
  simp
theorem Oc(k:Nat)(hk:k<64):aq P K (bW .shl t xo yo (.int .u64 1) (.int .i64 k)) u f d w=K (ai f d (.int .u64 (2^k:Nat))) w:=
 aM u f d w fun w' _=>by
  have h0:¬((k:Int)<0):=by omega
  have hb:IntKind.u64.bits=64:=rfl
  have h1:min k 64=k:=by omega
  have h2:(1:Int)*2^k=((2^k:Nat):Int):=by simp
  have h3:2^k<2^64:=Nat.pow_lt_pow_right (by decide) hk
  simp only[bW,eqGuard,binOp,Op.shift,if_neg h0,Int.toNat_natCast,hb,h1,h2,wrap_u64 _ h3]
  simp
theorem SB(x k:Nat)(hk:k<64):aq P K (bW .shr t xo yo (.int .u64 x) (.int .i64 k)) u f d w=K (ai f d (.int .u64 (x>>>k:Nat))) w:=
 aM u f d w fun w' _=>by
  have h0:¬((k:Int)<0):=by omega
  have hb:IntKind.u64.bits=64:=rfl
  have h1:min k 64=k:=by omega
  have h2:(x:Int).fdiv (2^k)=((x>>>k:Nat):Int):=by
   have e:(2:Int)^k=((2^k:Nat):Int):=by simp
   rw[e,Nat.shiftRight_eq_div_pow,Int.fdiv_eq_ediv_of_nonneg _ (Int.natCast_nonneg _)]
   rfl
  show(Op.shift .shr .u64 x .i64 k:Sem Value).run P w'=_
  unfold Op.shift
  rw[if_neg h0]
  show Result.ok (Value.int .u64 ((x:Int).fdiv (2^(min (k:Int).toNat 64)))) w'=_
  rw[Int.toNat_natCast,h1,h2]
theorem Jq(x y:Nat)(hx:x<2^64)(hy:y<2^64):aq P K (bW .and t xo yo (.int .u64 x) (.int .u64 y)) u f d w=K (ai f d (.int .u64 (x&&&y:Nat))) w:=
 aM u f d w fun w' _=>by
  have hb:IntKind.u64.bits=64:=rfl
  have h1:(BitVec.ofInt 64 (x:Int)&&&BitVec.ofInt 64 (y:Int)).toNat=x&&&y:=by
   rw[BitVec.toNat_and];simp[BitVec.toNat_ofInt,Nat.mod_eq_of_lt hx,Nat.mod_eq_of_lt hy]
  have h2:x&&&y<2^64:=Nat.and_lt_two_pow x hy
  have h3:=wrap_u64 _ h2
  show Result.ok (Value.int .u64 (IntKind.u64.wrap ((BitVec.ofInt 64 (x:Int)&&&BitVec.ofInt 64 (y:Int)).toNat:Int))) w'=_
  rw[h1,h3]
theorem WO(x y:Nat)(hx:x<2^64)(hy:y<2^64):aq P K (bW .or t xo yo (.int .u64 x) (.int .u64 y)) u f d w=K (ai f d (.int .u64 (x|||y:Nat))) w:=
 aM u f d w fun w' _=>by
  have hb:IntKind.u64.bits=64:=rfl
  have h1:(BitVec.ofInt 64 (x:Int)|||BitVec.ofInt 64 (y:Int)).toNat=x|||y:=by
   rw[BitVec.toNat_or];simp[BitVec.toNat_ofInt,Nat.mod_eq_of_lt hx,Nat.mod_eq_of_lt hy]
  have h2:x|||y<2^64:=Nat.or_lt_two_pow hx hy
  have h3:=wrap_u64 _ h2
  show Result.ok (Value.int .u64 (IntKind.u64.wrap ((BitVec.ofInt 64 (x:Int)|||BitVec.ofInt 64 (y:Int)).toNat:Int))) w'=_
  rw[h1,h3]
theorem K0(n:Nat)(hn:n≤9223372036854775807):aq P K (bW .quo t xo yo (.int .i64 n) (.int .i64 64)) u f d w=K (ai f d (.int .i64 (n/64:Nat))) w:=Sy n 64 (by decide) hn
theorem K3(n:Nat):aq P K (bW .rem t xo yo (.int .i64 n) (.int .i64 64)) u f d w=K (ai f d (.int .i64 (n%64:Nat))) w:=Sz n 64 (by decide)
theorem Od(x:Nat)(hx:x<2^64):aq P K (bW .and t xo yo (.int .u64 x) (.int .u64 1)) u f d w=K (ai f d (.int .u64 (x&&&1:Nat))) w:=Jq x 1 hx (by decide)
theorem Bc{n q:Nat}(h:n/64=q)(hn:n≤9223372036854775807):aq P K (bW .quo t xo yo (.int .i64 n) (.int .i64 64)) u f d w=K (ai f d (.int .i64 q)) w:=h▸K0 n hn
theorem Bd{n q:Nat}(h:n%64=q):aq P K (bW .rem t xo yo (.int .i64 n) (.int .i64 64)) u f d w=K (ai f d (.int .i64 q)) w:=h▸K3 n
theorem K4{x z:Nat}(h:x&&&1=z)(hx:x<2^64):aq P K (bW .and t xo yo (.int .u64 x) (.int .u64 1)) u f d w=K (ai f d (.int .u64 z)) w:=h▸Od x hx
theorem Oe{x k z:Nat}(h:x>>>k=z)(hk:k<64):aq P K (bW .shr t xo yo (.int .u64 x) (.int .i64 k)) u f d w=K (ai f d (.int .u64 z)) w:=h▸SB x k hk
theorem K5{k z:Nat}(h:2^k=z)(hk:k<64):aq P K (bW .shl t xo yo (.int .u64 1) (.int .i64 k)) u f d w=K (ai f d (.int .u64 z)) w:=h▸Oc k hk
theorem Be{x y z:Nat}(h:x&&&y=z)(hx:x<2^64)(hy:y<2^64):aq P K (bW .and t xo yo (.int .u64 x) (.int .u64 y)) u f d w=K (ai f d (.int .u64 z)) w:=h▸Jq x y hx hy
theorem Jr{x y z:Nat}(h:x|||y=z)(hx:x<2^64)(hy:y<2^64):aq P K (bW .or t xo yo (.int .u64 x) (.int .u64 y)) u f d w=K (ai f d (.int .u64 z)) w:=h▸WO x y hx hy
theorem ft{cs:List Value}(hk:aE w g t cs)(vd:aL P ty=some 1)(j:Nat)(hj:j<cs.length)(k:IntKind)(x:Int)
  (h:∀w',aE w' g t (cs.set j (.int k x))→bJ w w' (some ⟨g,0,none⟩)→w'.heap.size=w.heap.size→K (ai f d undef) w'):
  cG P K (do Instr.storeAt ty (.pointer (some ⟨g,j,none⟩)) (.int k x);pure undef) f d w:=by
 have hc:=hk.cell j
 have hf:=hk.frozen j
 refine⟨undef,w.setCell ⟨g,j,none⟩ (.int k x),?_,h _ (hk.set j _) ⟨⟨rfl,rfl,rfl,by simp,fun _ om cY=>Below.heap_setCell w _ _ _ (by simpa using cY)⟩⟩ (by simp)⟩
 unfold aL at vd
 cases hi:P.info? ty with
 |none=>simp[hi]at vd
 |some ie=>
  simp only[hi,Option.map_some,Option.some.injEq]at vd
  rw[List.getElem?_eq_getElem hj]at hc
  simp[Instr.storeAt,Instr.sureAddr,storeVar,sizeOf,typeInfo,hi,vd,Value.cells,storeCells,addr_add,run_store_int,stored,hc,hf]
end
end
section
open Go.RowKit
structure C8{α:Type}(enc:α→List Value)(sz:Nat):Prop where
 len:∀a,(enc a).length=sz
 one:∀a,∀u∈enc a,u.oneCell'=true
theorem ve{α:Type}{enc:α→List Value}{sz:Nat}(E:C8 enc sz):∀(l:List α) (i:Nat) (a:α) (j:Nat),l[i]? =some a→j<sz→(l.flatMap enc)[i*sz+j]? =(enc a)[j]?
 |[],i,a,j,h,_=>by simp at h
 |b :: l,0,a,j,h,hj=>by
  simp only[List.getElem?_cons_zero,Option.some.injEq]at h
  subst h
  rw[List.flatMap_cons,Nat.zero_mul,Nat.zero_add,List.getElem?_append_left (by rw[E.len];exact hj)]
 |b :: l,i+1,a,j,h,hj=>by
  simp only[List.getElem?_cons_succ]at h
  rw[List.flatMap_cons,List.getElem?_append_right (by rw[E.len,Nat.succ_mul];omega),E.len,show(i+1)*sz+j-sz=i*sz+j by rw[Nat.succ_mul];omega]
  exact ve E l i a j h hj
theorem aaa{α:Type}{enc:α→List Value}{sz:Nat}(E:C8 enc sz):∀l:List α,(l.flatMap enc).length=l.length*sz
 |[]=>by simp
 |b :: l=>by rw[List.flatMap_cons,List.length_append,E.len,aaa E l,List.length_cons,Nat.succ_mul];omega
structure bq{α:Type}(enc:α→List Value)(sz:Nat)(ok:Nat→Prop)(w:World)(A:Option Addr)(l:List α):Prop where
 isSome:0<l.length→A.isSome=true
 block:0<l.length→ok (A.getD default).block
 cell:∀i a,l[i]? =some a→∀j v,(enc a)[j]? =some v→w.cell? (eA A (i*sz+j))=some v
abbrev bH{α:Type}(enc:α→List Value)(B e sz:Nat)(w:World)(A:Option Addr)(c:Nat)(l:List α):Prop:=Own B e sz w A c l.length (l.flatMap enc)
section
variable {α:Type} {enc:α→List Value} {sz:Nat} {P:Program} {K:Fr→World→Prop} {u w w':World} {f:Fr} {d:Option Nat} {ok vJ:Nat→Prop} {A:Option Addr} {l:List α} {B e bytes t ty c:Nat}
theorem bq.nil(ok:Nat→Prop)(w:World)(A:Option Addr):bq enc sz ok w A []:=⟨fun h=>absurd h (by simp),fun h=>absurd h (by simp),fun i a h=>by simp at h⟩
theorem bq.mono(h:bq enc sz ok u A l)(hk:∀b,ok b→vJ b):bq enc sz vJ u A l:=⟨h.isSome,fun hl=>hk _ (h.block hl),h.cell⟩
theorem bq.keep(h:bq enc sz ok u A l)(hk:∀b,ok b→w.heap[b]? =u.heap[b]?):bq enc sz ok w A l:=
 ⟨h.isSome,h.block,fun i a hi j v hv=>by
  rw[←h.cell i a hi j v hv]
  exact World.cell?_of_block (by rw[oz];exact hk _ (h.block (by rcases Nat.lt_or_ge i l.length with h1|h1;omega;rw[List.getElem?_eq_none h1]at hi;cases hi)))⟩
theorem bq.below(h:bq enc sz (·<B) u A l)(hb:Below B u w):bq enc sz (·<B) w A l:=h.keep fun b aI=>hb.block b aI
theorem bq.same(h:bq enc sz ok u A l)(k:Same u w):bq enc sz ok w A l:=h.keep fun b _=>by rw[k.heap]
theorem bH.fS(h:bH enc B e sz w A c l)(E:C8 enc sz)(hs:0<sz):bq enc sz (fun b=>B≤b∧A.map (·.block)=some b) w A l:=by
 have hr:=h.rd hs
 refine⟨fun hl=>h.isSome hl,fun hl=>?_,fun i a hi j v hv=>?_⟩
 ·have hA:=h.isSome hl
  refine⟨(h.block hA).1,?_⟩
  cases A with
  |none=>cases hA
  |some a=>rfl
 ·refine hr.cell _ v ?_
  have hj:j<sz:=by
   rcases Nat.lt_or_ge j sz with h1|h1
   ·exact h1
   ·rw[List.getElem?_eq_none (by rw[E.len];exact h1)]at hv;cases hv
  rw[ve E l i a j hi hj,hv]
theorem bq.ld(h:bq enc sz ok u A l)(ht:aR P ty=some false){i:Nat}{a:α}(hi:l[i]? =some a){j:Nat}{v:Value}(hv:(enc a)[j]? =some v):
  aq P K (Instr.loadAt ty (.pointer (some (eA A (i*sz+j))))) u f d w=K (ai f d v) w:=eG u f d w ht (h.cell i a hi j v hv)
theorem bq.Nf(h:bq enc sz ok u A l)(ht:aR P ty=some false){i:Nat}{a:α}(hi:l[i]? =some a){v:Value}(hv:(enc a)[0]? =some v):
  aq P K (Instr.loadAt ty (.pointer (some (eA A (i*sz))))) u f d w=K (ai f d v) w:=h.ld ht hi (j:=0) hv
theorem bq.CH(h:bq enc sz ok u A l)(ht:aR P ty=some true){i:Nat}{a:α}(hi:l[i]? =some a)(j:Nat){vs:List Value}(hs:aL P ty=some vs.length)(hv:∀k v,vs[k]? =some v→(enc a)[j+k]? =some v):
  aq P K (Instr.loadAt ty (.pointer (some (eA A (i*sz+j))))) u f d w=K (ai f d (.agg vs.toArray)) w:=
 mW ht hs rfl fun k v hk=>by
  have:=h.cell i a hi (j+k) v (hv k v hk)
  cases A with
  |none=>
   have hA:=h.isSome (by rcases Nat.lt_or_ge i l.length with h1|h1;omega;rw[List.getElem?_eq_none h1]at hi;cases hi)
   cases hA
  |some ad=>rw[tm]at this ⊢;rw[add_add,Nat.add_assoc,this]
theorem bq.dC(h:bq enc sz ok u A l)(E:C8 enc sz)(ht:aR P ty=some true){i:Nat}{a:α}(hi:l[i]? =some a)(hs:aL P ty=some sz):
  aq P K (Instr.loadAt ty (.pointer (some (eA A (i*sz))))) u f d w=K (ai f d (.agg (enc a).toArray)) w:=
 h.CH ht hi 0 (by rw[E.len];exact hs) fun k v hk=>by rwa [Nat.zero_add]
theorem dA(E:C8 enc sz)(hT:uJ P t e sz bytes)(mR:bH enc B e sz w A c l)(x:α)(hl:(l.length+1)*bytes≤140737488355328)(ZF:l.length+1≤9223372036854775807)(hB:B≤w.heap.size)
  (hk:∀A' c' w',bH enc B e sz w' A' c' (l++[x])→bJ w w' A→(A'.map (·.block)=A.map (·.block)∨∃g,A'.map (·.block)=some g∧w.heap.size≤g)→A'.isSome=true→w.heap.size≤w'.heap.size→K (ai f d (.slice A' (l.length+1) c')) w'):
  cG P K (Builtin.append_ #[t,t] ty #[.slice A l.length c,.slice (some ⟨w.heap.size,0,none⟩) 1 1]) f d (w.alloc (.cells (enc x).toArray e)):=by
 refine pH hT ty (mR.alloc _) (HA w (enc x) e) (by rw[E.len,Nat.one_mul]) (E.one x) hl ZF (by simp;omega) ?_
 intro A' c' w' ho hg hA hs hz
 have Cw:w.heap.size≤w'.heap.size:=by have:(w.alloc (.cells (enc x).toArray e)).heap.size=w.heap.size+1:=by simp
                                      omega
 refine hk A' c' w' ?_ ⟨⟨hg.aJ.os,hg.aJ.tape,hg.aJ.output,Cw,fun k hk cY=>?_⟩⟩ ?_ (hs (by decide)) Cw
 ·unfold bH
  rw[List.flatMap_append,List.flatMap_cons,List.flatMap_nil,List.append_nil,List.length_append,List.length_cons,List.length_nil,Nat.zero_add]
  exact ho
 ·rw[hg.aJ.block k (by simp;omega) cY,Below.heap_alloc w _ k hk]
 ·rcases hA with h|h
  ·exact .inl h
  ·exact .inr ⟨_,h,by simp⟩
theorem ea(E:C8 enc sz)(hT:uJ P t e sz bytes)(x:α)(kq:sz≤1000):
  cG P K (Instr.buildSlice t 1 #[(0,.agg (enc x).toArray)]) f d w=K (ai f d (.slice (some ⟨w.heap.size,0,none⟩) 1 1)) (w.alloc (.cells (enc x).toArray e)):=
 zP hT _ (by simp[Value.cells,E.len]) kq
theorem zT(E:C8 enc sz)(w:World)(x:α)(e:Nat):bH enc w.heap.size e sz (w.alloc (.cells (enc x).toArray e)) (some ⟨w.heap.size,0,none⟩) 1 [x]:=
 ⟨⟨by simp[E.len],.inr ⟨w.heap.size,1,(enc x).toArray,rfl,Nat.le_refl _,heap_alloc_new w _,Nat.le_refl _,by decide,by simp[E.len],by simpa using List.take_of_length_le (by simp[E.len])⟩⟩⟩
theorem Fu(w:World)(x:Int)(e:Nat):cQ w.heap.size e (w.alloc (.cells [.int .i64 x].toArray e)) (some ⟨w.heap.size,0,none⟩) 1 [x]:=
 ⟨⟨rfl,.inr ⟨w.heap.size,1, #[.int .i64 x],rfl,Nat.le_refl _,heap_alloc_new w _,Nat.le_refl _,by decide,rfl,rfl⟩⟩⟩
theorem aE.oZ{g:Nat}{cs:List Value}(h:aE u g t cs)(ht:aR P ty=some true)(j:Nat){vs:List Value}(hs:aL P ty=some vs.length)(hv:∀k v,vs[k]? =some v→cs[j+k]? =some v):
  aq P K (Instr.loadAt ty (.pointer (some ⟨g,j,none⟩))) u f d w=K (ai f d (.agg vs.toArray)) w:=
 mW ht hs rfl fun k v hk=>by rw[addr_add,h.cell,hv k v hk]
end
def iE(P:Program)(t:TypeId):Option (List (Nat×Nat)×List Value):=
 match P.info? t,P.underlying t with
 |some it,some (.struct fields)=>
  match it.zero,fields.toList.mapM (fun f=>(P.info? f.type).map fun i=>(f.offset,i.size))with
  |some z,some places=>some (places,z.cells.toList)
  |_,_=>none
 |_,_=>none
theorem ss{P:Program}{t:TypeId}{pl:List (Nat×Nat)}{zs:List Value}(h:iE P t=some (pl,zs))(parts:List (Nat×Value)):P.built t parts=Instr.fill (pl.toArray[·]?) zs.toArray parts:=by
 unfold iE at h
 unfold Program.built
 split at h
 ·split at h
  ·injection h with h
   injection h with h1 h2
   subst h1 h2
   simp[*]
  ·cases h
 ·cases h
def sv(zs:List Value)(off:Nat)(vs:List Value):List Value:=zs.take off++vs++zs.drop (off+vs.length)
theorem K6(vs:List Value):∀(off k:Nat) (zs:Array Value),off+k+vs.length≤zs.size→
  ((vs.zipIdx k).foldl (fun cs (p:Value×Nat)=>cs.setIfInBounds (off+p.2) p.1) zs).toList=zs.toList.take (off+k)++vs++zs.toList.drop (off+k+vs.length):=by
 induction vs with
 |nil=>intro off k zs _;simp
 |cons v vs ih=>
  intro off k zs h
  simp only[List.length_cons]at h
  simp only[List.zipIdx_cons,List.foldl_cons]
  rw[ih off (k+1) _ (by simp;omega),Array.toList_setIfInBounds]
  have hk:off+k<zs.toList.length:=by simp;omega
  rw[show off+(k+1)=off+k+1 by omega,List.take_succ_eq_append_getElem (by simpa using hk)]
  simp only[List.take_set_of_le (Nat.le_refl _),List.getElem_set_self,List.length_cons]
  rw[List.drop_set_of_lt (by omega),show off+k+1+vs.length=off+k+(vs.length+1) by omega]
  simp
theorem eB{pl:Nat→Option (Nat×Nat)}{zs:List Value}{i off size:Nat}{v:Value}{rest:List (Nat×Value)}(hp:pl i=some (off,size))(hv:v.cells.size=size)(hs:off+size≤zs.length):
  Instr.fill pl zs.toArray ((i,v):: rest)=Instr.fill pl (sv zs off v.cells.toList).toArray rest:=by
 have h1:=K6 v.cells.toList off 0 zs.toArray (by simp[hv];omega)
 simp only[Instr.fill,hp,hv]
 rw[if_neg (by simp;omega)]
 congr 1
 apply Array.ext'
 rw[←Array.foldl_toList,Array.toList_zipIdx,h1]
 simp[sv]
theorem sw(pl:Nat→Option (Nat×Nat))(zs:Array Value):Instr.fill pl zs []=some zs:=rfl
section
variable {P:Program} {K:Fr→World→Prop} {u w:World} {f:Fr} {d:Option Nat} {t ty:Nat}
theorem HI(g:FuncId)(first cap:Array Operand):gU P K (.makeFunc (.func g) first cap) ty u f d w=K (ai f d (.func (.func g) (first.map (ev f)) (cap.map (ev f)))) w:=
 (show gU P K (.makeFunc (.func g) first cap) ty u f d w=aq P K (Instr.makeFunc (.func g) (first.map (ev f)) (cap.map (ev f))) u f d w from propext Iff.rfl).trans (aM u f d w fun w' _=>by simp[Instr.makeFunc])
theorem SC(parts:Array (Nat×Operand)):gU P K (.build t parts) ty u f d w=aq P K (Instr.build t (parts.map fun(i,x)=>(i,ev f x))) u f d w:=propext Iff.rfl
theorem gF{parts:Array (Nat×Value)}{cs:List Value}(h:P.built t parts.toList=some cs.toArray):aq P K (Instr.build t parts) u f d w=K (ai f d (.agg cs.toArray)) w:=
 aM u f d w fun w' _=>run_build w' t parts _ h
theorem UZ{z:List Value}{o0 s0 o1 s1:Nat}(h:iE P t=some ([(o0,s0),(o1,s1)],z))(hz:z.length=s0+s1)(h0:o0=0)(h1:o1=s0){v0 v1:Value}(k0:v0.cells.size=s0)(k1:v1.cells.size=s1):
  aq P K (Instr.build t #[(0,v0),(1,v1)]) u f d w=K (ai f d (.agg (v0.cells.toList++v1.cells.toList).toArray)) w:=by
 refine gF ?_
 subst h0 h1
 rw[ss h]
 rw[eB (off:=0) (size:=o1) rfl k0 (by omega),eB (off:=o1) (size:=s1) rfl k1 (by simp[sv,k0];omega),sw]
 have e:sv (sv z 0 v0.cells.toList) o1 v1.cells.toList=v0.cells.toList++v1.cells.toList:=by
  have a0:v0.cells.toList.length=o1:=by simpa using k0
  have a1:v1.cells.toList.length=s1:=by simpa using k1
  unfold sv
  rw[List.take_zero,List.nil_append,Nat.zero_add,List.take_left' a0,List.drop_eq_nil_of_le (by simp[k0,k1];omega),List.append_nil]
 rw[e]
theorem Js{z:List Value}{o0 s0 o1 s1 o2 s2:Nat}(h:iE P t=some ([(o0,s0),(o1,s1),(o2,s2)],z))(hz:z.length=s0+s1+s2)(h0:o0=0)(h1:o1=s0)(h2:o2=s0+s1){v0 v1 v2:Value}
  (k0:v0.cells.size=s0)(k1:v1.cells.size=s1)(k2:v2.cells.size=s2):
  aq P K (Instr.build t #[(0,v0),(1,v1),(2,v2)]) u f d w=K (ai f d (.agg (v0.cells.toList++v1.cells.toList++v2.cells.toList).toArray)) w:=by
 refine gF ?_
 subst h0 h1 h2
 have a0:v0.cells.toList.length=o1:=by simpa using k0
 have a1:v1.cells.toList.length=s1:=by simpa using k1
 have a2:v2.cells.toList.length=s2:=by simpa using k2
 rw[ss h]
 rw[eB (off:=0) (size:=o1) rfl k0 (by omega),eB (off:=o1) (size:=s1) rfl k1 (by simp[sv,k0];omega),eB (off:=o1+s1) (size:=s2) rfl k2 (by simp[sv,k0,k1];omega),sw]
 have e:sv (sv z 0 v0.cells.toList) o1 v1.cells.toList=v0.cells.toList++v1.cells.toList++z.drop (o1+s1):=by
  unfold sv
  rw[List.take_zero,List.nil_append,Nat.zero_add,List.take_left' a0,List.drop_append,List.drop_eq_nil_of_le (by omega),List.nil_append,a0,a1]
  simp
 rw[e]
 congr 2
 unfold sv
 have a01:(v0.cells.toList++v1.cells.toList).length=o1+s1:=by simp[k0,k1]
 rw[List.take_left' a01,List.drop_eq_nil_of_le (by simp[k0,k1,k2];omega),List.append_nil]
end
attribute [push_cast] HI SC List.map_toArray
end
section
open Go.RowKit
def Bf(l:List Int)(b:Int)(i:Nat):Prop:=0≤l.getD i 0∧l.getD i 0<b∧l.getD i 0<2147483648∧(0<i→l.getD (i-1) 0<l.getD i 0)
instance (l:List Int) (b:Int) (i:Nat):Decidable (Bf l b i):=by unfold Bf;exact inferInstance
def az(l:List Int)(b:Int):Prop:=∀i,i<l.length→Bf l b i
instance (l:List Int) (b:Int):Decidable (az l b):=by unfold az;exact inferInstance
end
section
open Go.RowKit
theorem nY{ok:Nat→Prop}{w:World}{A:Option Addr}{l:List Int}(h:Ints ok w A l)(c:Nat)(b:Int)(hl:l.length≤9223372036854775807):
  dw Tryz.prog 65 [.slice A l.length c,.int .i64 b] w fun v w'=>v= .bool (decide (az l b))∧Same w w':=by
 refine HB (by simp) 100000 fun Q hQ=>?_
 simp(disch:=omega)only[push_cast,aa,↓reduceIte,Nat.reduceEqDiff,Int.reduceEq,Fl]
 refine ax (fun f w'=>∃k:Nat,k≤l.length∧f 1= .int .i64 b∧f 5= .int .i64 (if k=0 then-1 else l.getD (k-1) 0)∧f 8= .slice A l.length c∧f 9= .int .i64 l.length∧f 10= .int .i64 k∧(∀i,i<k→Bf l b i)∧Same w w')
  (fun f _=>l.length-(intOf (f 10)).toNat) ⟨0,Nat.zero_le _,rfl,rfl,rfl,rfl,rfl,fun i hi=>absurd hi (by omega),Same.refl w⟩ ?_
 rintro f w1 ⟨k,hk,h1,h5,h8,h9,h10,jN,hs⟩ J hJ
 have hI:=h.same hs
 by_cases aI:k<l.length
 ·have hA:=h.isSome (by omega)
  have bad:¬Bf l b k→decide (az l b)=false:=fun h1=>decide_eq_false fun h2=>h1 (h2 k aI)
  have eP:Bf l b k→∀i,i<k+1→Bf l b i:=fun h1 i hi=>if e:i=k then e▸h1 else jN i (by omega)
  have Fv:(if k=0 then-1 else l.getD (k-1) 0)<l.getD k 0↔0≤l.getD k 0∧(0<k→l.getD (k-1) 0<l.getD k 0):=by
   by_cases h0:k=0
   ·rw[if_pos h0];exact⟨fun h=>⟨by omega,fun h1=>absurd h1 (by omega)⟩,fun h=>by have:=h.1;omega⟩
   ·have h2:=(jN (k-1) (by omega)).1
    rw[if_neg h0];exact⟨fun h=>⟨by omega,fun _=>h⟩,fun h=>h.2 (by omega)⟩
  generalize(if k=0 then-1 else l.getD (k-1) 0)=last at*
  by_cases c1:l.getD k 0≤last
  ·have B:=bad fun h=>by have:=Fv.2 ⟨h.1,h.2.2.2⟩;omega
   simp(disch:=omega)only[push_cast,aa,↓reduceIte,Nat.reduceEqDiff,Int.reduceEq,lT,h1,h5,h8,h9,h10,aI,c1,hI.ld ak]
   exact aF (hQ _ _ ⟨(by simp only[push_cast,↓reduceIte,Nat.reduceEqDiff,Int.reduceEq,B]),hs⟩)
  have hl:=Fv.1 (by omega)
  by_cases c2:min b 2147483648≤l.getD k 0
  ·have B:=bad fun h=>by have:=h.2;omega
   simp(disch:=omega)only[push_cast,aa,↓reduceIte,Nat.reduceEqDiff,Int.reduceEq,lT,h1,h5,h8,h9,h10,aI,c1,c2,hI.ld ak]
   exact aF (hQ _ _ ⟨(by simp only[push_cast,↓reduceIte,Nat.reduceEqDiff,Int.reduceEq,B]),hs⟩)
  ·have G:=eP ⟨hl.1,by omega,by omega,hl.2⟩
   simp(disch:=omega)only[push_cast,aa,↓reduceIte,Nat.reduceEqDiff,Int.reduceEq,lT,h1,h5,h8,h9,h10,aI,c1,c2,hI.ld ak]
   exact hJ _ _ ⟨k+1,aI,(by simp only[push_cast,↓reduceIte,Nat.reduceEqDiff,Int.reduceEq,h1]),(by simp only[push_cast,↓reduceIte,Nat.reduceEqDiff,Int.reduceEq,Nat.add_one_ne_zero,Nat.add_sub_cancel]),(by simp only[push_cast,↓reduceIte,Nat.reduceEqDiff,Int.reduceEq,h8]),(by simp only[push_cast,↓reduceIte,Nat.reduceEqDiff,Int.reduceEq,h9]),(by simp only[push_cast,↓reduceIte,Nat.reduceEqDiff,Int.reduceEq]),G,hs⟩ (by simp only[push_cast,↓reduceIte,Nat.reduceEqDiff,h10,intOf];omega)
 ·have B:decide (az l b)=true:=decide_eq_true fun i hi=>jN i (by omega)
  simp(disch:=omega)only[push_cast,aa,↓reduceIte,Nat.reduceEqDiff,Int.reduceEq,lT,h1,h5,h8,h9,h10,aI]
  exact aF (hQ _ _ ⟨(by simp only[push_cast,↓reduceIte,Nat.reduceEqDiff,Int.reduceEq,B]),hs⟩)
theorem D3{ok:Nat→Prop}{w:World}{A:Option Addr}{l:List Int}(h:Ints ok w A l)(c:Nat)(b:Int)(hl:l.length≤9223372036854775807):
  dw Tryz.prog 114 [.slice A l.length c,.int .i64 b] w fun v w'=>(∃k:Int,v= .int .i64 k∧(0≤k↔b∈l))∧Same w w':=by
 refine xM (by simp) 100000 fun Q hQ=>?_
 simp(disch:=omega)only[push_cast,aa,↓reduceIte,Nat.reduceEqDiff,Int.reduceEq,sh]
 refine ax (fun f w'=>∃k:Nat,k≤l.length∧f 0= .slice A l.length c∧f 1= .int .i64 b∧f 7= .int .i64 l.length∧f 8= .int .i64 k∧(∀i,i<k→l.getD i 0≠b)∧Same w w')
  (fun f _=>l.length-(intOf (f 8)).toNat) ⟨0,Nat.zero_le _,rfl,rfl,rfl,rfl,fun i hi=>absurd hi (by omega),Same.refl w⟩ ?_
 rintro f w1 ⟨k,hk,h0,h1,h7,h8,jN,hs⟩ J hJ
 have hI:=h.same hs
 by_cases aI:k<l.length
 ·have hA:=h.isSome (by omega)
  by_cases c1:b=l.getD k 0
  ·simp(disch:=omega)only[push_cast,aa,↓reduceIte,Nat.reduceEqDiff,Int.reduceEq,fz,h0,h1,h7,h8,aI,c1,hI.ld ak]
   exact aF (hQ _ _ ⟨⟨k,(by simp only[push_cast,↓reduceIte,Nat.reduceEqDiff,Int.reduceEq]),fun _=>c1▸bY l 0 k aI,fun _=>by omega⟩,hs⟩)
  ·simp(disch:=omega)only[push_cast,aa,↓reduceIte,Nat.reduceEqDiff,Int.reduceEq,fz,h0,h1,h7,h8,aI,c1,hI.ld ak]
   exact hJ _ _ ⟨k+1,aI,(by simp only[push_cast,↓reduceIte,Nat.reduceEqDiff,Int.reduceEq,h0]),(by simp only[push_cast,↓reduceIte,Nat.reduceEqDiff,Int.reduceEq,h1]),(by simp only[push_cast,↓reduceIte,Nat.reduceEqDiff,Int.reduceEq,h7]),(by simp only[push_cast,↓reduceIte,Nat.reduceEqDiff,Int.reduceEq]),fun i hi=>if e:i=k then e▸fun h=>c1 h.symm else jN i (by omega),hs⟩ (by simp only[push_cast,↓reduceIte,Nat.reduceEqDiff,h8,intOf];omega)
 ·simp(disch:=omega)only[push_cast,aa,↓reduceIte,Nat.reduceEqDiff,Int.reduceEq,fz,h0,h1,h7,h8,aI]
  refine aF (hQ _ _ ⟨⟨-1,(by simp only[push_cast,↓reduceIte,Nat.reduceEqDiff,Int.reduceEq]),fun h=>absurd h (by omega),fun h=>?_⟩,hs⟩)
  obtain⟨i,hi,he⟩:=(fA l 0 b).1 h
  exact absurd he (jN i (by omega))
theorem zy{ok:Nat→Prop}{w:World}{A:Option Addr}{l:List Int}(h:Ints ok w A l)(c:Nat)(b:Int)(hl:l.length≤9223372036854775807):
  dw Tryz.prog 91 [.slice A l.length c,.int .i64 b] w fun v w'=>v= .bool (decide (b∈l))∧Same w w':=by
 refine tX (by simp) 100000 fun Q hQ=>?_
 simp(disch:=omega)only[push_cast,aa,↓reduceIte,Nat.reduceEqDiff,Int.reduceEq,nc]
 refine ah (D3 h c b hl) ?_
 rintro v w' ⟨⟨k,rfl,hk⟩,hs⟩
 simp(disch:=omega)only[push_cast,aa,↓reduceIte,Nat.reduceEqDiff,Int.reduceEq]
 exact aF (hQ _ _ ⟨(by simp only[push_cast,↓reduceIte,Nat.reduceEqDiff,Int.reduceEq,hk]),hs⟩)
theorem nt{ok:Nat→Prop}{w:World}{A:Option Addr}{l:List Int}(h:Ints ok w A l)(c:Nat)(b:Int)(hl:l.length≤9223372036854775807):
  dw Tryz.prog 45 [.slice A l.length c,.int .i64 b] w fun v w'=>v= .bool (decide (b∈l))∧Same w w':=by
 refine Fk (by simp) 100000 fun Q hQ=>?_
 simp(disch:=omega)only[push_cast,aa,↓reduceIte,Nat.reduceEqDiff,Int.reduceEq,C4]
 refine ah (zy h c b hl) ?_
 rintro v w' ⟨rfl,hs⟩
 simp(disch:=omega)only[push_cast,aa,↓reduceIte,Nat.reduceEqDiff,Int.reduceEq]
 exact aF (hQ _ _ ⟨(by simp only[push_cast,↓reduceIte,Nat.reduceEqDiff,Int.reduceEq]),hs⟩)
end
section
open Go.RowKit
theorem Ints.lt{ok:Nat→Prop}{w:World}{A:Option Addr}{l:List Int}(h:Ints ok w A l):Ints (·<w.heap.size) w A l:=
 ⟨h.isSome,fun hl=>by have:=World.block_lt_of_cell? w _ (h.cell 0 hl);rwa [oz]at this,h.cell⟩
def fc(l m:List Int)(inn:Bool):List Int:=l.filter fun x=>decide (x∈m)==inn
def ins(x:Int):List Int→List Int
 |[]=>[x]
 |y :: l=>if y<x then y :: ins x l else if y=x then y :: l else x :: y :: l
def aD(l:List Int):List Int:=l.foldl (fun o x=>ins x o) []
theorem SD(x:Int)(o:List Int):(ins x o).length≤o.length+1:=by
 induction o with
 |nil=>simp[ins]
 |cons y o ih=>unfold ins;split;·simpa using ih
               ·split<;>simp
theorem Fw(l:List Int):(aD l).length≤l.length:=by
 have key:∀(l o:List Int),(l.foldl (fun o x=>ins x o) o).length≤o.length+l.length:=by
  intro l
  induction l with
  |nil=>simp
  |cons x l ih=>intro o;have:=ih (ins x o);have:=SD x o;simp only[List.foldl_cons,List.length_cons];omega
 have:=key l []
 simpa[aD]using this
end
section
open Go.RowKit
def tlA(A:Option Addr)(c:Nat):Option Addr:=if c=1 then A else A.map (·.add (1*1))
end
section
open Go.RowKit
def aW(l:List Int):Prop:=l.Pairwise (·<·)
theorem aW.ext:∀{l m:List Int},aW l→aW m→(∀x,x∈l↔x∈m)→l=m
 |[],[],_,_,_=>rfl
 |[],y :: m,_,_,h=>absurd ((h y).2 (List.mem_cons_self ..)) (by simp)
 |x :: l,[],_,_,h=>absurd ((h x).1 (List.mem_cons_self ..)) (by simp)
 |x :: l,y :: m,hl,hm,h=>by
  have Fx:=List.pairwise_cons.1 hl
  have HJ:=List.pairwise_cons.1 hm
  have h1:x=y:=by
   have a1:=(h x).1 (List.mem_cons_self ..)
   have a2:=(h y).2 (List.mem_cons_self ..)
   rcases List.mem_cons.1 a1 with e|e
   ·exact e
   ·rcases List.mem_cons.1 a2 with e2|e2
    ·exact e2.symm
    ·have:=HJ.1 x e;have:=Fx.1 y e2;omega
  subst h1
  rw[aW.ext Fx.2 HJ.2 fun z=>⟨fun hz=>?_,fun hz=>?_⟩]
  ·rcases List.mem_cons.1 ((h z).1 (List.mem_cons_of_mem _ hz))with e|e
   ·have:=Fx.1 z hz;omega
   ·exact e
  ·rcases List.mem_cons.1 ((h z).2 (List.mem_cons_of_mem _ hz))with e|e
   ·have:=HJ.1 z hz;omega
   ·exact e
theorem az.strict{l:List Int}{b:Int}(h:az l b):aW l:=by
 have key:∀j i:Nat,i<j→j<l.length→l.getD i 0<l.getD j 0:=by
  intro j
  induction j with
  |zero=>intro i hi;omega
  |succ j ih=>
   intro i hi hj
   have h1:=(h (j+1) hj).2.2.2 (by omega)
   simp only[Nat.add_sub_cancel]at h1
   rcases Nat.lt_or_ge i j with D4|D4
   ·have:=ih i D4 (by omega);omega
   ·rw[show i=j by omega];exact h1
 refine List.pairwise_iff_getElem.2 fun i j hi hj D4=>?_
 have:=key j i D4 hj
 simpa[List.getD_eq_getElem?_getD,hi,hj]using this
theorem az.kZ{l:List Int}{b:Int}(h:aW l)(hb:∀x∈l,0≤x∧x<b∧x<2147483648):az l b:=fun i hi=>by
 have h1:=hb _ (bY l 0 i hi)
 refine⟨h1.1,h1.2.1,h1.2.2,fun h0=>?_⟩
 have:=List.pairwise_iff_getElem.1 h (i-1) i (by omega) hi (by omega)
 simpa[List.getD_eq_getElem?_getD,hi,show i-1<l.length by omega]using this
theorem az.mem{l:List Int}{b:Int}(h:az l b){x:Int}(hx:x∈l):0≤x∧x<b∧x<2147483648:=by
 obtain⟨k,hk,rfl⟩:=(fA l 0 x).1 hx
 have:=h k hk
 exact⟨this.1,this.2.1,this.2.2.1⟩
theorem D5(x z:Int):∀o:List Int,z∈ins x o↔z=x∨z∈o
 |[]=>by simp[ins]
 |y :: o=>by
  unfold ins
  split
  ·rw[List.mem_cons,D5 x z o,List.mem_cons];exact⟨fun h=>by rcases h with h|h|h<;>simp[h],fun h=>by rcases h with h|h|h<;>simp[h]⟩
  ·split
   ·rename_i h;subst h;simp
   ·simp
theorem Bg(x:Int):∀o:List Int,aW o→aW (ins x o)
 |[],_=>by simp[ins,aW]
 |y :: o,h=>by
  have h':=List.pairwise_cons.1 h
  unfold ins
  split
  ·rename_i aI
   refine List.pairwise_cons.2 ⟨fun z hz=>?_,Bg x o h'.2⟩
   rcases(D5 x z o).1 hz with e|e
   ·omega
   ·exact h'.1 z e
  ·split
   ·exact h
   ·refine List.pairwise_cons.2 ⟨fun z hz=>?_,h⟩
    rcases List.mem_cons.1 hz with e|e
    ·omega
    ·have:=h'.1 z e;omega
theorem dW(l:List Int):aW (aD l)∧∀z,z∈aD l↔z∈l:=by
 have key:∀(l o:List Int),aW o→aW (l.foldl (fun o x=>ins x o) o)∧∀z,z∈l.foldl (fun o x=>ins x o) o↔z∈o∨z∈l:=by
  intro l
  induction l with
  |nil=>intro o h;simp[h]
  |cons x l ih=>
   intro o h
   obtain⟨h1,h2⟩:=ih (ins x o) (Bg x o h)
   refine⟨h1,fun z=>?_⟩
   rw[List.foldl_cons,h2,D5,List.mem_cons]
   exact⟨fun h=>by rcases h with(h|h)|h<;>simp[h],fun h=>by rcases h with h|h|h<;>simp[h]⟩
 have:=key l [] (by simp[aW])
 simpa[aD]using this
end
section
open Go.RowKit
def cH.lt(a b:cH):Prop:=a.bK<b.bK∨(a.bK=b.bK∧(a.dI<b.dI∨(a.dI=b.dI∧a.dt<b.dt)))
instance (a b:cH):Decidable (a.lt b):=inferInstanceAs (Decidable (_∨_))
def aN.Bh(m:aN)(a:cH):Prop:=(0≤a.bK∧a.bK<m.aj)∧(0≤a.dt∧a.dt<m.aj)∧(0≤a.dI∧a.dI<m.events)
instance (m:aN) (a:cH):Decidable (m.Bh a):=inferInstanceAs (Decidable (_∧_))
def aN.At(m:aN)(i:Nat):Prop:=m.Bh (m.ag.getD i default)∧(0<i→(m.ag.getD (i-1) default).lt (m.ag.getD i default))
instance (m:aN) (i:Nat):Decidable (m.At i):=inferInstanceAs (Decidable (_∧_))
def aN.bZ(m:aN):Prop:=1≤m.aj∧m.aj≤256∧0≤m.events∧m.events≤8∧m.ag.length≤4096∧az m.aB m.aj∧az m.ends m.aj∧∀i,i<m.ag.length→m.At i
instance (m:aN):Decidable m.bZ:=inferInstanceAs (Decidable (_∧_))
end
section
open Go.RowKit
theorem xV(a:Int)(w:World):dw Tryz.prog 134 [.int .i64 a] w fun v w'=>v= .bool false∧Same w w':=by
 refine CG (by simp) 100000 fun Q hQ=>?_
 simp(disch:=omega)only[push_cast,aa,↓reduceIte,Nat.reduceEqDiff,Int.reduceEq,yF,eq_self]
 exact aF (hQ _ _ ⟨(by simp only[push_cast,↓reduceIte,Nat.reduceEqDiff,Int.reduceEq]),Same.refl _⟩)
def fT(x y:Int):Int:=if x<y then-1 else if y<x then 1 else 0
theorem gL(x y:Int)(w:World):dw Tryz.prog 101 [.int .i64 x,.int .i64 y] w fun v w'=>v= .int .i64 (fT x y)∧Same w w':=by
 refine zw (by simp) 100000 fun Q hQ=>?_
 simp(disch:=omega)only[push_cast,aa,↓reduceIte,Nat.reduceEqDiff,Int.reduceEq,ur]
 refine ah (xV x w) ?_
 rintro v w1 ⟨rfl,s1⟩
 simp(disch:=omega)only[push_cast,aa,↓reduceIte,Nat.reduceEqDiff,Int.reduceEq]
 refine ah (xV y w1) ?_
 rintro v w2 ⟨rfl,s2⟩
 by_cases c1:x<y
 ·have r:fT x y= -1:=if_pos c1
  simp(disch:=omega)only[push_cast,aa,↓reduceIte,Nat.reduceEqDiff,Int.reduceEq,c1]
  exact aF (hQ _ _ ⟨(by simp only[push_cast,↓reduceIte,Nat.reduceEqDiff,Int.reduceEq,r]),s1.trans s2⟩)
 by_cases c2:y<x
 ·have r:fT x y=1:=by unfold fT;rw[if_neg c1,if_pos c2]
  simp(disch:=omega)only[push_cast,aa,↓reduceIte,Nat.reduceEqDiff,Int.reduceEq,c1,c2]
  exact aF (hQ _ _ ⟨(by simp only[push_cast,↓reduceIte,Nat.reduceEqDiff,Int.reduceEq,r]),s1.trans s2⟩)
 ·have r:fT x y=0:=by unfold fT;rw[if_neg c1,if_neg c2]
  simp(disch:=omega)only[push_cast,aa,↓reduceIte,Nat.reduceEqDiff,Int.reduceEq,c1,c2]
  exact aF (hQ _ _ ⟨(by simp only[push_cast,↓reduceIte,Nat.reduceEqDiff,Int.reduceEq,r]),s1.trans s2⟩)
def yT:List Int→Int
 |[]=>0
 |x :: l=>if x=0 then yT l else x
theorem D6:∀(l:List Int) (k:Nat),(∀i,i<k→l.getD i 0=0)→yT l=yT (l.drop k)
 |_,0,_=>rfl
 |[],_+1,_=>rfl
 |x :: l,k+1,h=>by
  have h0:=h 0 (by omega)
  simp only[List.getD_cons_zero]at h0
  rw[yT,if_pos h0,D6 l k fun i hi=>by simpa using h (i+1) (by omega),List.drop_succ_cons]
theorem Fy(l:List Int)(k:Nat)(hk:k<l.length)(h:∀i,i<k→l.getD i 0=0)(hn:¬l.getD k 0=0):yT l=l.getD k 0:=by
 rw[D6 l k h,List.drop_eq_getElem_cons hk,yT]
 have e:l[k]=l.getD k 0:=by simp[List.getD_eq_getElem?_getD,hk]
 rw[e,if_neg hn]
theorem Of{ok:Nat→Prop}{w:World}{A:Option Addr}{l:List Int}(h:Ints ok w A l)(c:Nat)(hl:l.length≤9223372036854775807):
  dw Tryz.prog 50 [.slice A l.length c] w fun v w'=>v= .int .i64 (yT l)∧Same w w':=by
 refine AB (by simp) 100000 fun Q hQ=>?_
 simp(disch:=omega)only[push_cast,aa,↓reduceIte,Nat.reduceEqDiff,Int.reduceEq,AA]
 refine ax (fun f w'=>∃k:Nat,k≤l.length∧f 3= .int .i64 0∧f 6= .slice A l.length c∧f 7= .int .i64 l.length∧f 8= .int .i64 k∧(∀i,i<k→l.getD i 0=0)∧Same w w')
  (fun f _=>l.length-(intOf (f 8)).toNat) ⟨0,Nat.zero_le _,rfl,rfl,rfl,rfl,fun i hi=>absurd hi (by omega),Same.refl w⟩ ?_
 rintro f w1 ⟨k,hk,h3,h6,h7,h8,hp,hs⟩ J hJ
 have hI:=h.same hs
 by_cases aI:k<l.length
 ·have hA:=h.isSome (by omega)
  by_cases c1:l.getD k 0=0
  ·simp(disch:=omega)only[push_cast,aa,↓reduceIte,Nat.reduceEqDiff,Int.reduceEq,gv,h3,h6,h7,h8,aI,c1,hI.ld ak]
   exact hJ _ _ ⟨k+1,aI,(by simp only[push_cast,↓reduceIte,Nat.reduceEqDiff,Int.reduceEq,h3]),(by simp only[push_cast,↓reduceIte,Nat.reduceEqDiff,Int.reduceEq,h6]),(by simp only[push_cast,↓reduceIte,Nat.reduceEqDiff,Int.reduceEq,h7]),(by simp only[push_cast,↓reduceIte,Nat.reduceEqDiff,Int.reduceEq]),fun i hi=>if e:i=k then e▸c1 else hp i (by omega),hs⟩ (by simp only[push_cast,↓reduceIte,Nat.reduceEqDiff,h8,intOf];omega)
  ·have r:=Fy l k aI hp c1
   simp(disch:=omega)only[push_cast,aa,↓reduceIte,Nat.reduceEqDiff,Int.reduceEq,gv,h3,h6,h7,h8,aI,c1,hI.ld ak]
   exact aF (hQ _ _ ⟨(by simp only[push_cast,↓reduceIte,Nat.reduceEqDiff,Int.reduceEq,r]),hs⟩)
 ·have r:yT l=0:=by rw[D6 l k hp,List.drop_eq_nil_of_le (by omega)];rfl
  simp(disch:=omega)only[push_cast,aa,↓reduceIte,Nat.reduceEqDiff,Int.reduceEq,gv,h3,h6,h7,h8,aI]
  exact aF (hQ _ _ ⟨(by simp only[push_cast,↓reduceIte,Nat.reduceEqDiff,Int.reduceEq,r]),hs⟩)
def K7(a b:cH):Int:=yT [fT a.bK b.bK,fT a.dI b.dI,fT a.dt b.dt]
theorem Jt(a b:cH):0≤K7 a b↔¬a.lt b:=by
 unfold K7 cH.lt fT
 simp only[yT]
 repeat' split
 all_goals omega
theorem Bi{w:World}{g t:Nat}{l:List Int}(h:aE w g t (iv l)):Ints (·<w.heap.size) w (some ⟨g,0,none⟩) l:=
 ⟨fun _=>rfl,fun _=>h.lt,fun i hi=>by rw[jz,h.cell];simp[List.getD_eq_getElem?_getD,hi]⟩
theorem CI(a b:cH)(w:World):
  dw Tryz.prog 103 [iD a,iD b] w fun v w'=>v= .int .i64 (K7 a b)∧Below w.heap.size w w':=by
 refine wc (by simp) 100000 fun Q hQ=>?_
 simp(disch:=omega)only[push_cast,aa,↓reduceIte,Nat.reduceEqDiff,Int.reduceEq,qM]
 refine au (aO _ (ay a)) ?_
 intro w1 k1 b1 z1
 simp(disch:=omega)only[push_cast,aa,↓reduceIte,Nat.reduceEqDiff,Int.reduceEq]
 refine au (aO _ (ay b)) ?_
 intro w2 k2 b2 z2
 have bb:Below w.heap.size w w2:=b1.trans (b2.mono b1.size)
 have k3:=(k1.below b2 (by omega)).drew
 have k4:=k2.drew
 simp(disch:=omega)only[push_cast,aa,↓reduceIte,Nat.reduceEqDiff,Int.reduceEq,k4.a0 ak,k4.a1 ak,k4.a2 ak,k3.a0 ak,k3.a1 ak,k3.a2 ak]
 refine ah (gL _ _ _) ?_
 rintro v w3 ⟨rfl,s3⟩
 have q3:=s3.below w2.drew.heap.size
 simp(disch:=omega)only[push_cast,aa,↓reduceIte,Nat.reduceEqDiff,Int.reduceEq]
 refine⟨q3,?_⟩
 refine ah (gL _ _ _) ?_
 rintro v w4 ⟨rfl,s4⟩
 have q4:=(s3.trans s4).below w2.drew.heap.size
 simp(disch:=omega)only[push_cast,aa,↓reduceIte,Nat.reduceEqDiff,Int.reduceEq]
 refine⟨q4,?_⟩
 refine ah (gL _ _ _) ?_
 rintro v w5 ⟨rfl,s5⟩
 have q5:=((s3.trans s4).trans s5).below w2.drew.heap.size
 simp(disch:=omega)only[push_cast,aa,↓reduceIte,Nat.reduceEqDiff,Int.reduceEq]
 refine⟨q5,?_⟩
 refine au (Jp fq _ _ _) ?_
 intro w6 k6 b6 z6
 have q6:=q5.trans (b6.mono q5.size)
 simp(disch:=omega)only[push_cast,aa,↓reduceIte,Nat.reduceEqDiff,Int.reduceEq]
 refine⟨q6,?_⟩
 refine ah (Of (l:=[fT a.bK b.bK,fT a.dI b.dI,fT a.dt b.dt]) (Bi k6) 3 (by simp)) ?_
 rintro v w7 ⟨rfl,s7⟩
 have q7:=q6.trans (s7.below w2.drew.heap.size)
 simp(disch:=omega)only[push_cast,aa,↓reduceIte,Nat.reduceEqDiff,Int.reduceEq]
 refine⟨q7,?_⟩
 exact aF (hQ _ _ ⟨(by simp only[push_cast,↓reduceIte,Nat.reduceEqDiff,Int.reduceEq,K7]),(drawn bb).trans (q7.mono bb.size)⟩)
theorem vf(n b:Int)(w:World):dw Tryz.prog 102 [.int .i64 n,.int .i64 b] w fun v w'=>v= .bool (decide (0≤n∧n<b))∧Same w w':=by
 refine v8 (by simp) 100000 fun Q hQ=>?_
 by_cases c1:0≤n
 ·have r:decide (0≤n∧n<b)=decide (n<b):=decide_eq_decide.2 (by omega)
  simp(disch:=omega)only[push_cast,aa,↓reduceIte,Nat.reduceEqDiff,Int.reduceEq,j5,c1]
  exact aF (hQ _ _ ⟨(by simp only[push_cast,↓reduceIte,Nat.reduceEqDiff,Int.reduceEq,r]),Same.refl _⟩)
 ·have r:decide (0≤n∧n<b)=false:=decide_eq_false (by omega)
  simp(disch:=omega)only[push_cast,aa,↓reduceIte,Nat.reduceEqDiff,Int.reduceEq,j5,c1]
  exact aF (hQ _ _ ⟨(by simp only[push_cast,↓reduceIte,Nat.reduceEqDiff,Int.reduceEq,r]),Same.refl _⟩)
end
section
open Go.RowKit
theorem nu{w:World}{a:MV}{m:aN}(h:zj (·<w.heap.size) w a m)(hf:m.Fits):
  dw Tryz.prog 64 [a.val m] w fun v w'=>v= .bool (decide m.bZ)∧Below w.heap.size w w':=by
 have mm:m.bZ↔1≤m.aj∧m.aj≤256∧0≤m.events∧m.events≤8∧m.ag.length≤4096∧az m.aB m.aj∧az m.ends m.aj∧∀i,i<m.ag.length→m.At i:=Iff.rfl
 refine zu (by simp) 100000 fun Q hQ=>?_
 simp(disch:=omega)only[push_cast,aa,↓reduceIte,Nat.reduceEqDiff,Int.reduceEq,uo]
 refine au (aO _ (a.cells m)) ?_
 intro w1 k1 b1 z1
 have h1:=h.below b1
 have nS:=hf.Wm
 have nE:=hf.aga
 by_cases c1:m.aj<1
 ·have r:decide m.bZ=false:=decide_eq_false fun hm=>by rw[mm]at hm;omega
  simp(disch:=omega)only[push_cast,aa,↓reduceIte,Nat.reduceEqDiff,Int.reduceEq,c1,k1.m0 ak,k1.m1 ak]
  exact aF (hQ _ _ ⟨(by simp only[push_cast,↓reduceIte,Nat.reduceEqDiff,Int.reduceEq,r]),b1⟩)
 by_cases c2:256<m.aj
 ·have r:decide m.bZ=false:=decide_eq_false fun hm=>by rw[mm]at hm;omega
  simp(disch:=omega)only[push_cast,aa,↓reduceIte,Nat.reduceEqDiff,Int.reduceEq,c1,c2,k1.m0 ak,k1.m1 ak]
  exact aF (hQ _ _ ⟨(by simp only[push_cast,↓reduceIte,Nat.reduceEqDiff,Int.reduceEq,r]),b1⟩)
 by_cases c3:m.events<0
 ·have r:decide m.bZ=false:=decide_eq_false fun hm=>by rw[mm]at hm;omega
  simp(disch:=omega)only[push_cast,aa,↓reduceIte,Nat.reduceEqDiff,Int.reduceEq,c1,c2,c3,k1.m0 ak,k1.m1 ak]
  exact aF (hQ _ _ ⟨(by simp only[push_cast,↓reduceIte,Nat.reduceEqDiff,Int.reduceEq,r]),b1⟩)
 by_cases c4:8<m.events
 ·have r:decide m.bZ=false:=decide_eq_false fun hm=>by rw[mm]at hm;omega
  simp(disch:=omega)only[push_cast,aa,↓reduceIte,Nat.reduceEqDiff,Int.reduceEq,c1,c2,c3,c4,k1.m0 ak,k1.m1 ak]
  exact aF (hQ _ _ ⟨(by simp only[push_cast,↓reduceIte,Nat.reduceEqDiff,Int.reduceEq,r]),b1⟩)
 simp(disch:=omega)only[push_cast,aa,↓reduceIte,Nat.reduceEqDiff,Int.reduceEq,c1,c2,c3,c4,k1.m0 ak,k1.m1 ak,k1.m2 aS]
 refine ah (nY h1.aB a.cs m.aj (by omega)) ?_
 rintro v w2 ⟨rfl,s2⟩
 have k2:=k1.same s2
 have h2:=h1.same s2
 by_cases c6:az m.aB m.aj
 case neg=>
  have r:decide m.bZ=false:=decide_eq_false fun hm=>c6 (mm.1 hm).2.2.2.2.2.1
  simp(disch:=omega)only[push_cast,aa,↓reduceIte,Nat.reduceEqDiff,Int.reduceEq,c6]
  exact aF (hQ _ _ ⟨(by simp only[push_cast,↓reduceIte,Nat.reduceEqDiff,Int.reduceEq,r]),b1.trans (s2.below _)⟩)
 simp(disch:=omega)only[push_cast,aa,↓reduceIte,Nat.reduceEqDiff,Int.reduceEq,c6,k2.m0 ak,k2.m4 aS]
 refine ah (nY h2.ends a.ce m.aj (by omega)) ?_
 rintro v w3 ⟨rfl,s3⟩
 have b3:Below w.heap.size w w3:=b1.trans ((s2.trans s3).below _)
 by_cases c7:az m.ends m.aj
 case neg=>
  have r:decide m.bZ=false:=decide_eq_false fun hm=>c7 (mm.1 hm).2.2.2.2.2.2.1
  simp(disch:=omega)only[push_cast,aa,↓reduceIte,Nat.reduceEqDiff,Int.reduceEq,c7]
  exact aF (hQ _ _ ⟨(by simp only[push_cast,↓reduceIte,Nat.reduceEqDiff,Int.reduceEq,r]),b3⟩)
 have k3:=k2.same s3
 by_cases c5:(4096:Int)<(m.ag.length:Int)
 ·have r:decide m.bZ=false:=decide_eq_false fun hm=>by rw[mm]at hm;omega
  simp(disch:=omega)only[push_cast,aa,↓reduceIte,Nat.reduceEqDiff,Int.reduceEq,c7,c5,k3.m3 fQ]
  exact aF (hQ _ _ ⟨(by simp only[push_cast,↓reduceIte,Nat.reduceEqDiff,Int.reduceEq,r]),b3⟩)
 simp(disch:=omega)only[push_cast,aa,↓reduceIte,Nat.reduceEqDiff,Int.reduceEq,c7,c5,k3.m3 fQ]
 refine ax (fun f w'=>∃k:Nat,k≤m.ag.length∧f 1= .pointer (some ⟨w.heap.size,0,none⟩)∧f 3= .func (.func 102) #[] #[]∧f 47= .slice a.Aa m.ag.length a.ca∧f 48= .int .i64 m.ag.length∧f 49= .int .i64 k∧
   (∀i,i<k→m.At i)∧aE w' w.heap.size 27 (a.cells m)∧Below w.heap.size w w')
  (fun f _=>m.ag.length-(intOf (f 49)).toNat) ⟨0,Nat.zero_le _,rfl,rfl,rfl,rfl,rfl,fun i hi=>absurd hi (by omega),k3,b3⟩ ?_
 clear k3 b3 s3 s2 h2 k2 h1 k1 b1 z1
 rintro f w1 ⟨k,hk,g1,g3,g47,g48,WQ,hp,k1,b1⟩ J hJ
 have h1:=(h.below b1).ag
 by_cases aI:k<m.ag.length
 case neg=>
  have r:decide m.bZ=true:=decide_eq_true (mm.2 ⟨by omega,by omega,by omega,by omega,by omega,c6,c7,fun i hi=>hp i (by omega)⟩)
  simp(disch:=omega)only[push_cast,aa,↓reduceIte,Nat.reduceEqDiff,Int.reduceEq,aad,g1,g47,g48,WQ,aI]
  exact aF (hQ _ _ ⟨(by simp only[push_cast,↓reduceIte,Nat.reduceEqDiff,Int.reduceEq,r]),b1⟩)
 have hA:=h1.isSome (by omega)
 simp(disch:=omega)only[push_cast,aa,↓reduceIte,Nat.reduceEqDiff,Int.reduceEq,aad,g1,g47,g48,WQ,aI,h1.CH vI bz]
 refine au sr ?_
 intro w2 k2 b2 z2
 simp(disch:=omega)only[push_cast,aa,↓reduceIte,Nat.reduceEqDiff,Int.reduceEq]
 refine aC k2 (cs:=ay (m.ag.getD k default)) bz rfl (by simp[ay,Value.oneCell']) ?_
 intro w3 k3 q3 z3
 generalize hy:m.ag.getD k default=y at*
 have hz:w.heap.size<w1.heap.size:=k1.lt
 have iT:Below w1.heap.size w1 w3:=q3.below b2 (by omega) (by intro a ha;injection ha with ha;subst ha;exact Nat.le_refl _)
 have k5:=(k1.below iT hz).drew
 have b5:=drawn (b1.trans (iT.mono b1.size))
 have h5:=(h.below b5).ag
 have QP:=k3.drew
 have bad:¬m.Bh y→decide m.bZ=false:=fun hn=>decide_eq_false fun hm=>by
  have:=((mm.1 hm).2.2.2.2.2.2.2 k aI).1
  rw[hy]at this
  exact hn this
 have ok:m.Bh y↔(0≤y.bK∧y.bK<m.aj)∧(0≤y.dt∧y.dt<m.aj)∧(0≤y.dI∧y.dI<m.events):=Iff.rfl
 generalize hw3:w3.drew=u at*
 have q4:= @Same.below
 simp(disch:=omega)only[push_cast,aa,↓reduceIte,Nat.reduceEqDiff,Int.reduceEq,hw3,g1,g3,QP.a0 ak,QP.a1 ak,QP.a2 ak,k5.m0 ak,k5.m1 ak,lH,List.map_cons,List.map_nil,List.nil_append,List.append_nil]
 refine ah (vf _ _ _) ?_
 rintro v w4 ⟨rfl,s4⟩
 have q4:=s4.below u.heap.size
 by_cases d1:0≤y.bK∧y.bK<m.aj
 case neg=>
  have r:=bad fun hh=>d1 (ok.1 hh).1
  simp(disch:=omega)only[push_cast,aa,↓reduceIte,Nat.reduceEqDiff,Int.reduceEq,decide_eq_false d1]
  refine⟨q4,q4,q4,q4,?_⟩
  exact aF (hQ _ _ ⟨(by simp only[push_cast,↓reduceIte,Nat.reduceEqDiff,Int.reduceEq,r]),b5.trans (q4.mono b5.size)⟩)
 simp(disch:=omega)only[push_cast,aa,↓reduceIte,Nat.reduceEqDiff,Int.reduceEq,decide_eq_true d1,g1,g3,QP.a0 ak,QP.a1 ak,QP.a2 ak,k5.m0 ak,k5.m1 ak,lH,List.map_cons,List.map_nil,List.nil_append,List.append_nil]
 refine⟨q4,?_⟩
 refine ah (vf _ _ _) ?_
 rintro v w5 ⟨rfl,s5⟩
 have q5:=(s4.trans s5).below u.heap.size
 by_cases d2:0≤y.dt∧y.dt<m.aj
 case neg=>
  have r:=bad fun hh=>d2 (ok.1 hh).2.1
  simp(disch:=omega)only[push_cast,aa,↓reduceIte,Nat.reduceEqDiff,Int.reduceEq,decide_eq_false d2]
  refine⟨q5,q5,q5,?_⟩
  exact aF (hQ _ _ ⟨(by simp only[push_cast,↓reduceIte,Nat.reduceEqDiff,Int.reduceEq,r]),b5.trans (q5.mono b5.size)⟩)
 simp(disch:=omega)only[push_cast,aa,↓reduceIte,Nat.reduceEqDiff,Int.reduceEq,decide_eq_true d2,g1,g3,QP.a0 ak,QP.a1 ak,QP.a2 ak,k5.m0 ak,k5.m1 ak,lH,List.map_cons,List.map_nil,List.nil_append,List.append_nil]
 refine⟨q5,?_⟩
 refine ah (vf _ _ _) ?_
 rintro v w6 ⟨rfl,s6⟩
 have q6:=((s4.trans s5).trans s6).below u.heap.size
 have k6:=k5.same ((s4.trans s5).trans s6)
 have b6:=b5.trans (q6.mono b5.size)
 by_cases d3:0≤y.dI∧y.dI<m.events
 case neg=>
  have r:=bad fun hh=>d3 (ok.1 hh).2.2
  simp(disch:=omega)only[push_cast,aa,↓reduceIte,Nat.reduceEqDiff,Int.reduceEq,decide_eq_false d3]
  refine⟨q6,q6,?_⟩
  exact aF (hQ _ _ ⟨(by simp only[push_cast,↓reduceIte,Nat.reduceEqDiff,Int.reduceEq,r]),b6⟩)
 have cL:m.Bh y:=ok.2 ⟨d1,d2,d3⟩
 by_cases d7:(0:Int)<(k:Int)
 case neg=>
  have ME:m.At k:=⟨by rw[hy];exact cL,fun h0=>absurd h0 (by omega)⟩
  simp(disch:=omega)only[push_cast,aa,↓reduceIte,Nat.reduceEqDiff,Int.reduceEq,decide_eq_true d3,d7,g1,g3,g47,g48,WQ]
  refine⟨q6,q6,?_⟩
  exact hJ _ _ ⟨k+1,aI,(by simp only[push_cast,↓reduceIte,Nat.reduceEqDiff,Int.reduceEq,g1]),(by simp only[push_cast,↓reduceIte,Nat.reduceEqDiff,Int.reduceEq,g3]),(by simp only[push_cast,↓reduceIte,Nat.reduceEqDiff,Int.reduceEq,g47]),(by simp only[push_cast,↓reduceIte,Nat.reduceEqDiff,Int.reduceEq,g48]),(by simp only[push_cast,↓reduceIte,Nat.reduceEqDiff,Int.reduceEq]),fun i hi=>if e:i=k then e▸ME else hp i (by omega),k6,b6⟩ (by simp only[push_cast,↓reduceIte,Nat.reduceEqDiff,WQ,intOf];omega)
 have e1:((k:Int)-1).toNat=k-1:=by omega
 simp(disch:=omega)only[push_cast,aa,↓reduceIte,Nat.reduceEqDiff,Int.reduceEq,decide_eq_true d3,g1,g3,WQ,d7,e1,k5.m3 fQ,QP.aA vI bz,h5.CH vI bz]
 refine⟨q6,?_⟩
 refine ah (CI _ _ _) ?_
 rintro v w7 ⟨rfl,b7⟩
 have q7:Below u.heap.size u w7:=q6.trans (b7.mono q6.size)
 have b8:=b5.trans (q7.mono b5.size)
 have k8:=k5.below q7 k5.lt
 by_cases d8:(m.ag.getD (k-1) default).lt y
 ·have ME:m.At k:=⟨by rw[hy];exact cL,fun _=>by rw[hy];exact d8⟩
  have d9:¬0≤K7 (m.ag.getD (k-1) default) y:=by rw[Jt];exact fun hn=>hn d8
  simp(disch:=omega)only[push_cast,aa,↓reduceIte,Nat.reduceEqDiff,Int.reduceEq,d9,WQ]
  refine⟨q7,?_⟩
  exact hJ _ _ ⟨k+1,aI,(by simp only[push_cast,↓reduceIte,Nat.reduceEqDiff,Int.reduceEq,g1]),(by simp only[push_cast,↓reduceIte,Nat.reduceEqDiff,Int.reduceEq,g3]),(by simp only[push_cast,↓reduceIte,Nat.reduceEqDiff,Int.reduceEq,g47]),(by simp only[push_cast,↓reduceIte,Nat.reduceEqDiff,Int.reduceEq,g48]),(by simp only[push_cast,↓reduceIte,Nat.reduceEqDiff,Int.reduceEq]),fun i hi=>if e:i=k then e▸ME else hp i (by omega),k8,b8⟩ (by simp only[push_cast,↓reduceIte,Nat.reduceEqDiff,WQ,intOf];omega)
 ·have r:decide m.bZ=false:=decide_eq_false fun hm=>by
   have:=((mm.1 hm).2.2.2.2.2.2.2 k aI).2 (by omega)
   rw[hy]at this
   exact d8 this
  have d9:0≤K7 (m.ag.getD (k-1) default) y:=by rw[Jt];exact d8
  simp(disch:=omega)only[push_cast,aa,↓reduceIte,Nat.reduceEqDiff,Int.reduceEq,d9]
  refine⟨q7,?_⟩
  exact aF (hQ _ _ ⟨(by simp only[push_cast,↓reduceIte,Nat.reduceEqDiff,Int.reduceEq,r]),b8⟩)
end
open Go.RowKit
section
variable {P:Program} {K:Fr→World→Prop} {ty:TypeId} {u:World} {f:Fr} {d:Option Nat} {w:World}
theorem agd(t:TypeId)(o i:Operand):gU P K (.index t o i) ty u f d w=aq P K (Instr.index t (ev f o) (ev f i)) u f d w:=propext Iff.rfl
theorem qk(s:ByteArray):(⟨s.data.toList.toArray⟩:ByteArray)=s:=by cases s;rfl
theorem sy{a b:ByteArray}(h:a.data.toList=b.data.toList):a=b:=by rw[←qk a,←qk b,h]
theorem HK(a b:ByteArray):(a.toList==b.toList)=decide (a=b):=by
 rw[ByteArray.toList_eq,ByteArray.toList_eq]
 by_cases h:a=b
 ·subst h;simp
 ·rw[decide_eq_false h]
  exact beq_eq_false_iff_ne.2 fun e=>h (sy e)
theorem K8(t:TypeId)(xo yo:Operand)(a b:ByteArray):aq P K (bW .eql t xo yo (.string a) (.string b)) u f d w=K (ai f d (.bool (decide (a=b)))) w:=
 aM u f d w fun w' _=>by simp[bW,eqGuard,binOp,Op.stringOp,HK]
theorem HL(t:TypeId)(xo yo:Operand)(a b:ByteArray)(h:a.size+b.size≤9223372036854775807):aq P K (bW .add t xo yo (.string a) (.string b)) u f d w=K (ai f d (.string (a++b))) w:=
 aM u f d w fun w' _=>by
  have:¬(((a.size+b.size:Nat):Int)>IntKind.i64.max):=by
   have e:IntKind.i64.max=9223372036854775807:=by decide
   rw[e];omega
  simp only[bW,eqGuard,binOp,Op.stringOp]
  rw[if_neg this]
  simp
theorem SE{t:TypeId}(ht:P.underlying t=some .string)(s:ByteArray):aq P K (Builtin.len_ #[t] ty #[.string s]) u f d w=K (ai f d (.int .i64 s.size)) w:=
 aM u f d w fun w' _=>by simp[Builtin.len_,run_underlying ht,goInt]
def wF(s:ByteArray)(i:Nat):Int:=((s.data.toList.getD i 0).toNat:Int)
theorem WR{t:TypeId}(ht:P.underlying t=some .string)(s:ByteArray)(k:IntKind)(i:Nat)(h:i<s.size):aq P K (Instr.index t (.string s) (.int k i)) u f d w=K (ai f d (.int .u8 (wF s i))) w:=
 aM u f d w fun w' _=>by
  have h1:(0:Int)≤(i:Int):=by omega
  have h2:s[i]? =some (s.data.toList.getD i 0):=by
   rw[getElem?_pos s i h]
   congr 1
   rw[List.getD_eq_getElem?_getD,Array.getElem?_toList,Array.getElem?_eq_getElem (by exact h)]
   rfl
  simp[Instr.index,run_underlying ht,asIntOf,h2,wF]
end
attribute [push_cast] agd K8
theorem Fz:Tryz.prog.underlying 9=some .string:=by kernel_rfl
section
variable {K:Fr→World→Prop} {ty:TypeId} {u:World} {f:Fr} {d:Option Nat} {w:World}
theorem WT(s:ByteArray):aq Tryz.prog K (Builtin.len_ #[9] ty #[.string s]) u f d w=K (ai f d (.int .i64 s.size)) w:=SE Fz s
theorem D7(s:ByteArray)(k:IntKind)(i:Nat)(h:i<s.size):aq Tryz.prog K (Instr.index 9 (.string s) (.int k i)) u f d w=K (ai f d (.int .u8 (wF s i))) w:=WR Fz s k i h
end
attribute [push_cast] WT
def pa(c:Int):Prop:=(97≤c∧c≤122)∨(65≤c∧c≤90)
instance (c:Int):Decidable (pa c):=inferInstanceAs (Decidable (_∨_))
def zz(c:Int):Prop:=pa c∨(48≤c∧c≤57)∨c=95
instance (c:Int):Decidable (zz c):=inferInstanceAs (Decidable (_∨_))
theorem yU(c:Int)(w:World):dw Tryz.prog 38 [.int .u8 c] w fun v w'=>v= .bool (decide (pa c))∧Same w w':=by
 refine zn (by simp) 1000 fun Q hQ=>?_
 by_cases h1:97≤c<;>by_cases h2:c≤122<;>by_cases h3:65≤c<;>by_cases h4:c≤90<;>
  (simp(disch:=omega)only[push_cast,aa,↓reduceIte,Nat.reduceEqDiff,Int.reduceEq,nW,h1,h2,h3,h4];exact aF (hQ _ _ ⟨by simp only[push_cast,↓reduceIte,Nat.reduceEqDiff];simp[pa,h1,h2,h3,h4],Same.refl _⟩))
theorem K9(c:Int)(w:World):dw Tryz.prog 39 [.int .u8 c] w fun v w'=>v= .bool (decide (zz c))∧Same w w':=by
 refine CD (by simp) 1000 fun Q hQ=>?_
 simp(disch:=omega)only[push_cast,aa,↓reduceIte,Nat.reduceEqDiff,Int.reduceEq,rE]
 refine ah (yU c w) ?_
 rintro v w1 ⟨rfl,s1⟩
 by_cases h0:pa c
 ·simp(disch:=omega)only[push_cast,aa,↓reduceIte,Nat.reduceEqDiff,Int.reduceEq,decide_eq_true h0]
  exact aF (hQ _ _ ⟨by(try simp only[push_cast,↓reduceIte,Nat.reduceEqDiff]);simp[zz,h0],s1⟩)
 by_cases h3:c=95
 ·have e3:=eq_true h3
  by_cases h1:48≤c<;>by_cases h2:c≤57<;>
   (simp(disch:=omega)only[push_cast,aa,↓reduceIte,Nat.reduceEqDiff,Int.reduceEq,decide_eq_false h0,h1,h2,e3];exact aF (hQ _ _ ⟨by simp only[push_cast,↓reduceIte,Nat.reduceEqDiff];simp[zz,h0,h3],s1⟩))
 ·by_cases h1:48≤c<;>by_cases h2:c≤57<;>
   (simp(disch:=omega)only[push_cast,aa,↓reduceIte,Nat.reduceEqDiff,Int.reduceEq,decide_eq_false h0,h1,h2,h3];exact aF (hQ _ _ ⟨by simp only[push_cast,↓reduceIte,Nat.reduceEqDiff];simp[zz,h0,h1,h2,h3],s1⟩))
open Go.RowKit
def zC(s:ByteArray):List Value:=[.string s]
theorem ql:C8 zC 1:=⟨fun _=>rfl,fun s u hu=>by
 unfold zC at hu
 rw[List.mem_singleton.1 hu];rfl⟩
abbrev dE(ok:Nat→Prop)(w:World)(A:Option Addr)(l:List ByteArray):Prop:=bq zC 1 ok w A l
theorem dE.ld{K:Fr→World→Prop}{u:World}{f:Fr}{d:Option Nat}{w:World}{i:Nat}{ok:Nat→Prop}{A:Option Addr}{l:List ByteArray}{s:ByteArray}(h:dE ok u A l)(hi:l[i]? =some s):
  aq Tryz.prog K (Instr.loadAt 9 (.pointer (some (eA A i)))) u f d w=K (ai f d (.string s)) w:=by
 have:=bq.Nf (P:=Tryz.prog) (K:=K) (f:=f) (d:=d) (w:=w) h zQ hi (v:= .string s) rfl
 rwa [Nat.mul_one]at this
theorem dE.take{ok:Nat→Prop}{u:World}{A:Option Addr}{l:List ByteArray}(h:dE ok u A l)(k:Nat):dE ok u A (l.take k):=
 ⟨fun hl=>h.isSome (by rw[List.length_take]at hl;omega),fun hl=>h.block (by rw[List.length_take]at hl;omega),fun i a hi=>h.cell i a (by
  rw[List.getElem?_take]at hi
  split at hi
  ·exact hi
  ·cases hi)⟩
theorem dE.same{u u':World}{A:Option Addr}{l:List ByteArray}(h:dE (·<u.heap.size) u A l)(s:Same u u'):dE (·<u'.heap.size) u' A l:=
 (bq.same h s).mono fun b hb=>Nat.lt_of_lt_of_le hb (s.below u.heap.size).size
theorem yV{P:Program}{K:Fr→World→Prop}{u w:World}{f:Fr}{d:Option Nat}{A:Option Addr}{n c e bytes t:Nat}{sz:Nat}(hT:uJ P t e sz bytes)(k:Nat)(hk:k≤c):aq P K (Instr.sliceAt t (.slice A n c) none (some (.int .i64 k)) none) u f d w=K (ai f d (.slice A k c)) w:=
 aM u f d w fun w' _=>by
  obtain⟨i,z,hi,hz,hs,hb,WL⟩:=hT.get
  have h1:(0:Int)≤(k:Int)∧(k:Int)≤(c:Int):=by omega
  cases A with
  |none=>simp[Instr.sliceAt,run_underlying hT.under,Instr.slice,Instr.sliceBounds,Instr.sliceBound,asIntOf,hk,sizeOf,typeInfo,hi,hs]
  |some a=>simp[Instr.sliceAt,run_underlying hT.under,Instr.slice,Instr.sliceBounds,Instr.sliceBound,asIntOf,hk,sizeOf,typeInfo,hi,hs,Addr.add]
instance amf (s:ByteArray) (l:List ByteArray):Decidable (s∈l):=decidable_of_iff (∃x∈l,x=s) ⟨fun⟨_,h,e⟩=>e▸h,fun h=>⟨s,h,rfl⟩⟩
def jW(s:ByteArray)(l:List ByteArray):Int:=if s∈l then(l.findIdx (fun x=>decide (x=s)):Int)else-1
theorem La{s:ByteArray}{l:List ByteArray}{k:Nat}(h:l[k]? =some s)(gY:∀j,j<k→l[j]?≠some s):jW s l=k:=by
 have hm:=List.mem_of_getElem? h
 unfold jW
 rw[if_pos hm]
 congr 1
 have key:∀(l:List ByteArray) (k:Nat),l[k]? =some s→(∀j,j<k→l[j]?≠some s)→l.findIdx (fun x=>decide (x=s))=k:=by
  intro l
  induction l with
  |nil=>intro k h;simp at h
  |cons x l ih=>
   intro k h gY
   cases k with
   |zero=>
    simp only[List.getElem?_cons_zero,Option.some.injEq]at h
    subst h
    simp[List.findIdx_cons]
   |succ k=>
    have hx:x≠s:=fun e=>gY 0 (by omega) (by simp[e])
    rw[List.findIdx_cons,decide_eq_false hx,ih k (by simpa using h) fun j hj=>by have:=gY (j+1) (by omega);simpa using this]
    rfl
 exact key l k h gY
theorem Og{s:ByteArray}{l:List ByteArray}(h:∀j,j<l.length→l[j]?≠some s):jW s l= -1:=by
 unfold jW
 rw[if_neg]
 intro hm
 obtain⟨j,hj⟩:=List.mem_iff_getElem?.1 hm
 exact h j (List.getElem?_eq_some_iff.1 hj).1 hj
theorem Ju{s:ByteArray}{l:List ByteArray}:0≤jW s l↔s∈l:=by
 unfold jW
 by_cases h:s∈l
 ·rw[if_pos h];exact⟨fun _=>h,fun _=>by omega⟩
 ·rw[if_neg h];exact⟨fun h=>by omega,fun h'=>absurd h' h⟩
theorem xW{w:World}{A:Option Addr}{l:List ByteArray}(h:dE (·<w.heap.size) w A l)(c:Nat)(hl:l.length≤9223372036854775806)(s:ByteArray):
  dw Tryz.prog 86 [.slice A l.length c,.string s] w fun v w'=>v= .int .i64 (jW s l)∧Same w w':=by
 refine rV (by simp) 1000 fun Q hQ=>?_
 simp(disch:=omega)only[push_cast,aa,↓reduceIte,Nat.reduceEqDiff,Int.reduceEq,mc]
 refine ax (fun f w'=>∃k:Nat,k≤l.length∧(f 0= .slice A l.length c∧f 1= .string s∧f 7= .int .i64 l.length∧f 8= .int .i64 k)∧(∀j,j<k→l[j]?≠some s)∧w'=w)
  (fun f _=>l.length-(intOf (f 8)).toNat) ⟨0,Nat.zero_le _,⟨rfl,rfl,rfl,rfl⟩,fun i hi=>absurd hi (by omega),rfl⟩ ?_
 rintro f w1 ⟨k,hk,fr,gY,rfl⟩ J hJ
 have gZ:(intOf (f 8)).toNat=k:=by rw[fr.2.2.2];simp[intOf]
 by_cases aI:k<l.length
 case neg=>
  simp(disch:=omega)only[push_cast,aa,↓reduceIte,Nat.reduceEqDiff,Int.reduceEq,dT,fr,aI]
  exact aF (hQ _ _ ⟨by simp only[push_cast,↓reduceIte,Nat.reduceEqDiff];rw[Og fun j hj=>gY j (by omega)],Same.refl _⟩)
 have hx:l[k]? =some (l[k]'aI):=List.getElem?_eq_getElem aI
 generalize l[k]'aI=x at hx
 have sA:=h.isSome (by omega)
 by_cases hc:s=x
 ·have ec:=eq_true hc
  simp(disch:=omega)only[push_cast,aa,↓reduceIte,Nat.reduceEqDiff,Int.reduceEq,dT,fr,aI,sA,h.ld hx,ec]
  exact aF (hQ _ _ ⟨by simp only[push_cast,↓reduceIte,Nat.reduceEqDiff,fr];rw[La (by rw[hc];exact hx) gY],Same.refl _⟩)
 ·simp(disch:=omega)only[push_cast,aa,↓reduceIte,Nat.reduceEqDiff,Int.reduceEq,dT,fr,aI,sA,h.ld hx,hc]
  exact hJ _ _ ⟨k+1,aI,(by simp only[push_cast,↓reduceIte,Nat.reduceEqDiff,true_and,and_true,and_self,eq_self,fr]),fun j hj=>by
   by_cases e:j=k
   ·subst e;rw[hx];exact fun e=>hc (Option.some.inj e).symm
   ·exact gY j (by omega),rfl⟩ (by rw[gZ];simp only[push_cast,↓reduceIte,Nat.reduceEqDiff,intOf,fr];omega)
theorem wG{w:World}{A:Option Addr}{l:List ByteArray}(h:dE (·<w.heap.size) w A l)(c:Nat)(hl:l.length≤9223372036854775806)(s:ByteArray):
  dw Tryz.prog 35 [.slice A l.length c,.string s] w fun v w'=>v= .bool (decide (s∈l))∧Same w w':=by
 refine oG (by simp) 1000 fun Q hQ=>?_
 simp(disch:=omega)only[push_cast,aa,↓reduceIte,Nat.reduceEqDiff,Int.reduceEq,iR]
 refine ah (xW h c hl s) ?_
 rintro v w1 ⟨rfl,s1⟩
 simp(disch:=omega)only[push_cast,aa,↓reduceIte,Nat.reduceEqDiff,Int.reduceEq]
 exact aF (hQ _ _ ⟨by simp only[push_cast,↓reduceIte,Nat.reduceEqDiff,Ju],s1⟩)
open Go.RowKit
section
open Go.RowKit Go.ChangeShapes Go.WideShapes Go.Deep Go.Joins
def abn{H:Type}(P:Program)(t:TypeId)(d:DataW H):Prop:=∀n∈d.weights P t,n≤reachBytes
theorem FA{H:Type}{P:Program}{ts:List TypeId}{ds:List (DataW H)}(h:(DataW.weightsEach P ts ds).all (·≤reachBytes)=true)(j:Nat){t:TypeId}{d:DataW H}(ht:ts[j]? =some t)(hd:ds[j]? =some d):abn P t d:=
 fun n hn=>by simpa using List.all_eq_true.1 h n (DataW.weights_mem_each ht hd n hn)
section
variable {H:Type} {enc:TypeId×Value→H} {P:Program} {w:World} {base:Nat} {spare:Nat→Bool} {held:Bool} {r:Reach} {b0:Nat} {v:Value} {d:DataW H} {p:List MemPlace}
structure MV.FB(a:MV)(m:aN):Prop where
 s:m.aB.length≤a.cs
 a_:m.ag.length≤a.ca
 e:m.ends.length≤a.ce
end
end
section
open Go.RowKit Go.ChangeShapes Go.WideShapes Go.Deep Go.Joins
structure cO where
 m:aN
 seen:List Int
 aK:List Int
structure PV where
 m:MV
 Ap:Option Addr
 cp:Nat
 Aq:Option Addr
 cq:Nat
abbrev PV.cells(a:PV)(p:cO):List Value:=[.int .i64 p.m.aj,.int .i64 p.m.events,.slice a.m.As p.m.aB.length a.m.cs,.slice a.m.Aa p.m.ag.length a.m.ca,.slice a.m.Ae p.m.ends.length a.m.ce,.slice a.Ap p.seen.length a.cp,.slice a.Aq p.aK.length a.cq]
abbrev PV.val(a:PV)(p:cO):Value:= .agg (a.cells p).toArray
structure tv(ok:Nat→Prop)(w:World)(a:PV)(p:cO):Prop where
 m:zj ok w a.m p.m
 seen:Ints ok w a.Ap p.seen
 aK:Ints ok w a.Aq p.aK
section
variable {u w:World} {ok vJ:Nat→Prop} {a:PV} {p:cO}
theorem tv.mono(h:tv ok u a p)(hk:∀b,ok b→vJ b):tv vJ u a p:=⟨h.m.mono hk,h.seen.mono hk,h.aK.mono hk⟩
theorem tv.keep(h:tv ok u a p)(hk:∀b,ok b→w.heap[b]? =u.heap[b]?):tv ok w a p:=⟨h.m.keep hk,h.seen.keep hk,h.aK.keep hk⟩
theorem tv.below{B:Nat}(h:tv (·<B) u a p)(hb:Below B u w):tv (·<B) w a p:=h.keep fun b aI=>hb.block b aI
end
structure cO.Fits(p:cO):Prop where
 m:p.m.Fits
 seen:∀x∈p.seen,ug x
 aK:∀x∈p.aK,ug x
 HM:p.seen.length≤17592186043904
 Oh:p.aK.length≤17592186043904
end
open Go.RowKit
structure Pj where
 S:List ByteArray
 E:List ByteArray
 m:aN
 seen:List Int
 free:List Int
 av:List Int
 aK:List Int
structure JV where
 AS:Option Addr
 cS:Nat
 AE:Option Addr
 cE:Nat
 m:MV
 Ap:Option Addr
 cp:Nat
 Af:Option Addr
 cf:Nat
 Au:Option Addr
 cu:Nat
 Aq:Option Addr
 cq:Nat
abbrev JV.cells(a:JV)(p:Pj):List Value:=[.slice a.AS p.S.length a.cS,.slice a.AE p.E.length a.cE,.int .i64 p.m.aj,.int .i64 p.m.events,.slice a.m.As p.m.aB.length a.m.cs,.slice a.m.Aa p.m.ag.length a.m.ca,.slice a.m.Ae p.m.ends.length a.m.ce,
 .slice a.Ap p.seen.length a.cp,.slice a.Af p.free.length a.cf,.slice a.Au p.av.length a.cu,.slice a.Aq p.aK.length a.cq]
abbrev JV.val(a:JV)(p:Pj):Value:= .agg (a.cells p).toArray
structure C9(ok:Nat→Prop)(w:World)(a:JV)(p:Pj):Prop where
 S:dE ok w a.AS p.S
 E:dE ok w a.AE p.E
 m:zj ok w a.m p.m
 seen:Ints ok w a.Ap p.seen
 free:Ints ok w a.Af p.free
 av:Ints ok w a.Au p.av
 aK:Ints ok w a.Aq p.aK
section
variable {u w:World} {ok vJ:Nat→Prop} {a:JV} {p:Pj}
theorem C9.mono(h:C9 ok u a p)(hk:∀b,ok b→vJ b):C9 vJ u a p:=⟨h.S.mono hk,h.E.mono hk,h.m.mono hk,h.seen.mono hk,h.free.mono hk,h.av.mono hk,h.aK.mono hk⟩
theorem C9.keep(h:C9 ok u a p)(hk:∀b,ok b→w.heap[b]? =u.heap[b]?):C9 ok w a p:=⟨h.S.keep hk,h.E.keep hk,h.m.keep hk,h.seen.keep hk,h.free.keep hk,h.av.keep hk,h.aK.keep hk⟩
theorem C9.up(h:C9 (·<u.heap.size) u a p)(b:Below u.heap.size u w):C9 (·<w.heap.size) w a p:=(h.keep fun _ hl=>b.block _ hl).mono fun _ hl=>Nat.lt_of_lt_of_le hl b.size
end
structure JV.FB(a:JV)(p:Pj):Prop where
 S:p.S.length≤a.cS
 E:p.E.length≤a.cE
 m:a.m.FB p.m
section
variable {K:Fr→World→Prop} {u w:World} {f:Fr} {d:Option Nat} {g t:Nat} {a:JV} {p:Pj}
theorem aE.jA(h:aE u g t (a.cells p)):aq Tryz.prog K (Instr.loadAt 29 (.pointer (some ⟨g,0,none⟩))) u f d w=K (ai f d (a.val p)) w:=h.dC Fm ml
theorem aE.jM(h:aE u g t (a.cells p)):aq Tryz.prog K (Instr.loadAt 27 (.pointer (some ⟨g,2,none⟩))) u f d w=K (ai f d (a.m.val p.m)) w:=
 h.oZ iC 2 (vs:=a.m.cells p.m) fR fun k v hv=>by
  match k,hv with
  |0,hv=>exact hv
  |1,hv=>exact hv
  |2,hv=>exact hv
  |3,hv=>exact hv
  |4,hv=>exact hv
  |k+5,hv=>simp at hv
theorem aE.jS(h:aE u g t (a.cells p)):aq Tryz.prog K (Instr.loadAt 22 (.pointer (some ⟨g,0,none⟩))) u f d w=K (ai f d (.slice a.AS p.S.length a.cS)) w:=h.ld we 0 (by simp)
theorem aE.jE(h:aE u g t (a.cells p)):aq Tryz.prog K (Instr.loadAt 22 (.pointer (some ⟨g,1,none⟩))) u f d w=K (ai f d (.slice a.AE p.E.length a.cE)) w:=h.ld we 1 (by simp)
theorem aE.jst(h:aE u g t (a.cells p)):aq Tryz.prog K (Instr.loadAt 24 (.pointer (some ⟨g,4,none⟩))) u f d w=K (ai f d (.slice a.m.As p.m.aB.length a.m.cs)) w:=h.ld aS 4 (by simp)
theorem aE.jar(h:aE u g t (a.cells p)):aq Tryz.prog K (Instr.loadAt 25 (.pointer (some ⟨g,5,none⟩))) u f d w=K (ai f d (.slice a.m.Aa p.m.ag.length a.m.ca)) w:=h.ld fQ 5 (by simp)
theorem aE.j1(h:aE u g t (a.cells p)):aq Tryz.prog K (Instr.loadAt 24 (.pointer (some ⟨g,7,none⟩))) u f d w=K (ai f d (.slice a.Ap p.seen.length a.cp)) w:=h.ld aS 7 (by simp)
theorem aE.j2(h:aE u g t (a.cells p)):aq Tryz.prog K (Instr.loadAt 24 (.pointer (some ⟨g,8,none⟩))) u f d w=K (ai f d (.slice a.Af p.free.length a.cf)) w:=h.ld aS 8 (by simp)
theorem aE.j3(h:aE u g t (a.cells p)):aq Tryz.prog K (Instr.loadAt 24 (.pointer (some ⟨g,9,none⟩))) u f d w=K (ai f d (.slice a.Au p.av.length a.cu)) w:=h.ld aS 9 (by simp)
theorem aE.j4(h:aE u g t (a.cells p)):aq Tryz.prog K (Instr.loadAt 24 (.pointer (some ⟨g,10,none⟩))) u f d w=K (ai f d (.slice a.Aq p.aK.length a.cq)) w:=h.ld aS 10 (by simp)
end
open Go.RowKit
theorem wH{P:Program}{K:Fr→World→Prop}{u:World}{f:Fr}{d:Option Nat}{w:World}(t:TypeId)(xo yo:Operand)(l m:List UInt8)(h:l.length+m.length≤9223372036854775807):aq P K (bW .add t xo yo (.string ⟨l.toArray⟩) (.string ⟨m.toArray⟩)) u f d w=K (ai f d (.string ⟨(l++m).toArray⟩)) w:=by
 have e:(⟨l.toArray⟩:ByteArray)++⟨m.toArray⟩=⟨(l++m).toArray⟩:=by
  refine sy ?_
  rw[ByteArray.data_append]
  simp
 rw[HL t xo yo _ _ (by
  have h1:(⟨l.toArray⟩:ByteArray).size=l.length:=by simp[ByteArray.size]
  have h2:(⟨m.toArray⟩:ByteArray).size=m.length:=by simp[ByteArray.size]
  omega),e]
theorem dE.ldb{K:Fr→World→Prop}{u:World}{f:Fr}{d:Option Nat}{w:World}{i:Nat}{ok:Nat→Prop}{A:Option Addr}{l:List ByteArray}{s:ByteArray}(h:dE ok u A l)(hi:l[i]? =some s):
  aq Tryz.prog K (Instr.loadAt 9 (.pointer (some (eA A i)))) u f d w=K (ai f d (.string ⟨s.data.toList.toArray⟩)) w:=by rw[qk];exact h.ld hi
def nm(names:List ByteArray)(x:Int):ByteArray:=names.getD x.toNat ⟨#[]⟩
theorem U0{names:List ByteArray}{x:Int}(h0:0≤x)(h1:x<names.length):names[x.toNat]? =some (nm names x):=by
 unfold nm
 rw[List.getD_eq_getElem?_getD,List.getElem?_eq_getElem (by omega)];rfl
def sp(W:List ByteArray):List UInt8:=W.flatMap fun s=>32 :: s.data.toList
theorem SF(W:List ByteArray)(s:ByteArray):sp (W++[s])=sp W++32 :: s.data.toList:=by simp[sp]
theorem Oi{W:List ByteArray}(h:∀s∈W,s.data.toList.length≤16):(sp W).length≤17*W.length:=by
 induction W with
 |nil=>simp[sp]
 |cons s W ih=>
  have h1:=h s List.mem_cons_self
  have h2:=ih fun s hs=>h s (List.mem_cons_of_mem _ hs)
  unfold sp at*
  rw[List.flatMap_cons,List.length_append,List.length_cons,List.length_cons]
  omega
def qm(names:List ByteArray):Prop:=∀s∈names,s.data.toList.length≤16
def D8(names:List ByteArray)(l:List Int):List ByteArray:=l.map (nm names)
theorem Da{names:List ByteArray}{l:List Int}(hn:qm names)(hl:∀x∈l,0≤x∧x<names.length):∀s∈D8 names l,s.data.toList.length≤16:=fun s hs=>by
 obtain⟨x,hx,rfl⟩:=List.mem_map.1 hs
 exact hn _ (List.mem_of_getElem? (U0 (hl x hx).1 (hl x hx).2))
open Go.RowKit
def ck(b:UInt8):List UInt8→List (List UInt8)
 |[]=>[[]]
 |c :: l=>if c=b then []:: ck b l else match ck b l with
  |[]=>[[c]]
  |p :: ps=>(c :: p):: ps
theorem tx(b:UInt8):∀l,ck b l≠[]
 |[]=>by simp[ck]
 |c :: l=>by
  unfold ck
  split
  ·simp
  ·split<;>simp
theorem jO(b c:UInt8)(l:List UInt8):ck b (c :: l)=if c=b then []:: ck b l else match ck b l with
  |[]=>[[c]]
  |p :: ps=>(c :: p):: ps:=rfl
theorem vg(b:UInt8):∀l m,ck b (l++b :: m)=ck b l++ck b m
 |[],m=>by
  rw[List.nil_append,jO,if_pos rfl];rfl
 |c :: l,m=>by
  have ih:=vg b l m
  rw[List.cons_append,jO,jO,ih]
  by_cases e:c=b
  ·rw[if_pos e,if_pos e];rfl
  ·rw[if_neg e,if_neg e]
   have:=tx b l
   cases h:ck b l with
   |nil=>exact absurd h this
   |cons p ps=>simp only[List.cons_append]
theorem vh(b:UInt8):∀l,(ck b l).length≤l.length+1
 |[]=>by simp[ck]
 |c :: l=>by
  have ih:=vh b l
  unfold ck
  split
  ·simp only[List.length_cons];omega
  ·split
   ·simp
   ·rename_i h;rw[h]at ih;simp only[List.length_cons]at ih ⊢;omega
theorem wI(b:UInt8):∀l,∀p∈ck b l,p.length≤l.length
 |[],p,hp=>by simp[ck]at hp;subst hp;simp
 |c :: l,p,hp=>by
  have ih:=wI b l
  unfold ck at hp
  split at hp
  ·rcases List.mem_cons.1 hp with rfl|hp
   ·simp
   ·have:=ih p hp;simp only[List.length_cons];omega
  ·split at hp
   ·rcases List.mem_cons.1 hp with rfl|hp
    ·simp
    ·cases hp
   ·rename_i q ps h
    rcases List.mem_cons.1 hp with rfl|hp
    ·have:=ih q (by rw[h];exact List.mem_cons_self);simp only[List.length_cons];omega
    ·have:=ih p (by rw[h];exact List.mem_cons_of_mem _ hp);simp only[List.length_cons];omega
def CJ(L:List (List UInt8)):List (List UInt8):=if L.getLast?=some []then L.dropLast else L
def eb(s:List UInt8):List (List UInt8):=(CJ (ck 10 s)).take 40
def iU{σ:Type}(A:σ→List UInt8→List UInt8×σ):σ→List (List UInt8)→List UInt8
 |_,[]=>[]
 |st,l :: L=>(A st l).1++10 :: iU A (A st l).2 L
def js{σ:Type}(A:σ→List UInt8→List UInt8×σ):σ→List (List UInt8)→σ
 |st,[]=>st
 |st,l :: L=>js A (A st l).2 L
theorem xX{σ:Type}(A:σ→List UInt8→List UInt8×σ):∀(L M:List (List UInt8)) (st:σ),iU A st (L++M)=iU A st L++iU A (js A st L) M
 |[],M,st=>rfl
 |l :: L,M,st=>by
  rw[List.cons_append,iU,iU,xX A L M,js]
  simp
open Go.Shelf Go.RowKit
def jB:Go.Shelf.Ren:=⟨fun|146=>12|221=>31|268=>77|138=>78|143=>79|195=>106|197=>107|218=>108|219=>109|260=>138|217=>139|225=>140|224=>141|267=>142|266=>157|314=>158|n=>n,fun|9=>9|31=>22|3=>3|4=>4|0=>0|105=>174|21=>21|5=>5|46=>161|119=>212|139=>215|138=>214|146=>216|51=>187|n=>n,fun|1=>1|3=>3|4=>4|n=>n⟩
theorem xY:Go.Proofs.LaysM.n146 Tryz.prog jB where
 mixed:=by kernel_rfl
 f138:=Tryz.func78.trans (congrArg some (by kernel_rfl))
 f143:=Tryz.func79.trans (congrArg some (by kernel_rfl))
 f146:=Tryz.func12.trans (congrArg some (by kernel_rfl))
 f195:=Tryz.func106.trans (congrArg some (by kernel_rfl))
 f197:=Tryz.func107.trans (congrArg some (by kernel_rfl))
 f217:=Tryz.func139.trans (congrArg some (by kernel_rfl))
 f218:=Tryz.func108.trans (congrArg some (by kernel_rfl))
 f219:=Tryz.func109.trans (congrArg some (by kernel_rfl))
 f221:=Tryz.func31.trans (congrArg some (by kernel_rfl))
 f224:=Tryz.func141.trans (congrArg some (by kernel_rfl))
 f225:=Tryz.func140.trans (congrArg some (by kernel_rfl))
 f260:=Tryz.func138.trans (congrArg some (by kernel_rfl))
 f266:=Tryz.func157.trans (congrArg some (by kernel_rfl))
 f267:=Tryz.func142.trans (congrArg some (by kernel_rfl))
 f268:=Tryz.func77.trans (congrArg some (by kernel_rfl))
 f314:=Tryz.func158.trans (congrArg some (by kernel_rfl))
 t0:=Tryz.underlying0
 a0:=Tryz.isAgg0
 z0:=Tryz.sizeOf0
 v0:=Tryz.zeroValue0
 t3:=Tryz.underlying3
 a3:=Tryz.isAgg3
 z3:=Tryz.sizeOf3
 v3:=Tryz.zeroValue3
 t4:=Tryz.underlying4
 a4:=Tryz.isAgg4
 z4:=Tryz.sizeOf4
 v4:=Tryz.zeroValue4
 t5:=Tryz.underlying5
 a5:=Tryz.isAgg5
 z5:=Tryz.sizeOf5
 v5:=Tryz.zeroValue5
 t9:=Tryz.underlying9
 a9:=Tryz.isAgg9
 z9:=Tryz.sizeOf9
 v9:=Tryz.zeroValue9
 t21:=Tryz.underlying21
 a21:=Tryz.isAgg21
 z21:=Tryz.sizeOf21
 v21:=Tryz.zeroValue21
 t31:=Tryz.underlying22
 a31:=Tryz.isAgg22
 z31:=Tryz.sizeOf22
 v31:=Tryz.zeroValue22
 t46:=Tryz.underlying161
 a46:=Tryz.isAgg161
 z46:=Tryz.sizeOf161
 v46:=Tryz.zeroValue161
 t51:=Tryz.underlying187
 a51:=Tryz.isAgg187
 z51:=Tryz.sizeOf187
 v51:=Tryz.zeroValue187
 t105:=Tryz.underlying174
 a105:=Tryz.isAgg174
 z105:=Tryz.sizeOf174
 v105:=Tryz.zeroValue174
 t119:=Tryz.underlying212
 a119:=Tryz.isAgg212
 z119:=Tryz.sizeOf212
 t138:=Tryz.underlying214
 a138:=Tryz.isAgg214
 z138:=Tryz.sizeOf214
 v138:=Tryz.zeroValue214
 t139:=Tryz.underlying215
 a139:=Tryz.isAgg215
 z139:=Tryz.sizeOf215
 v139:=Tryz.zeroValue215
 t146:=Tryz.underlying216
 a146:=Tryz.isAgg216
 z146:=Tryz.sizeOf216
 v146:=Tryz.zeroValue216
 g1:=by kernel_rfl
 g3:=by kernel_rfl
 g4:=by kernel_rfl
 i0:=by kernel_rfl
 i3:=by kernel_rfl
 i4:=by kernel_rfl
 i5:=by kernel_rfl
 i9:=by kernel_rfl
 i21:=by kernel_rfl
 i31:=by kernel_rfl
 i46:=by kernel_rfl
 i51:=by kernel_rfl
 i105:=by kernel_rfl
 i138:=by kernel_rfl
 i139:=by kernel_rfl
 i146:=by kernel_rfl
 m1:=by kernel_rfl
 s1_3:=fun w h=>Go.Proofs.cell_of_shapedOpen_int (zero:= #[.int .i64 0]) (t:=3) h (of_decide_eq_true (by kernel_rfl)) (by kernel_rfl) rfl (by kernel_rfl) (by kernel_rfl) Tryz.underlying3
 m3:=by kernel_rfl
 m4:=by kernel_rfl
def yW:Go.Shelf.Ren:=⟨fun|103=>32|210=>80|206=>110|n=>n,fun|9=>9|4=>4|24=>85|3=>3|n=>n,fun|n=>n⟩
theorem SH:Go.Proofs.Lays.n103 Tryz.prog yW where
 mixed:=by kernel_rfl
 f103:=Tryz.func32.trans (congrArg some (by kernel_rfl))
 f206:=Tryz.func110.trans (congrArg some (by kernel_rfl))
 f210:=Tryz.func80.trans (congrArg some (by kernel_rfl))
 t3:=Tryz.underlying3
 a3:=Tryz.isAgg3
 z3:=Tryz.sizeOf3
 v3:=Tryz.zeroValue3
 t4:=Tryz.underlying4
 a4:=Tryz.isAgg4
 z4:=Tryz.sizeOf4
 v4:=Tryz.zeroValue4
 t9:=Tryz.underlying9
 a9:=Tryz.isAgg9
 z9:=Tryz.sizeOf9
 v9:=Tryz.zeroValue9
 t24:=Tryz.underlying85
 a24:=Tryz.isAgg85
 z24:=Tryz.sizeOf85
 v24:=Tryz.zeroValue85
def wJ:Go.Shelf.Ren:=⟨fun|171=>83|243=>113|246=>148|283=>162|284=>163|285=>164|286=>165|129=>125|317=>170|318=>171|319=>172|320=>173|337=>174|338=>136|n=>n,fun|3=>3|9=>9|2=>2|4=>4|171=>223|0=>0|53=>105|37=>65|5=>5|173=>225|212=>237|51=>187|20=>20|213=>238|46=>161|232=>239|233=>211|n=>n,fun|17=>7|18=>8|19=>2|n=>n⟩
theorem On:Go.Proofs.LaysM.n171 Tryz.prog wJ where
 mixed:=by kernel_rfl
 f129:=Tryz.func125.trans (congrArg some (by kernel_rfl))
 f171:=Tryz.func83.trans (congrArg some (by kernel_rfl))
 f243:=Tryz.func113.trans (congrArg some (by kernel_rfl))
 f246:=Tryz.func148.trans (congrArg some (by kernel_rfl))
 f283:=Tryz.func162.trans (congrArg some (by kernel_rfl))
 f284:=Tryz.func163.trans (congrArg some (by kernel_rfl))
 f285:=Tryz.func164.trans (congrArg some (by kernel_rfl))
 f286:=Tryz.func165.trans (congrArg some (by kernel_rfl))
 f317:=Tryz.func170.trans (congrArg some (by kernel_rfl))
 f318:=Tryz.func171.trans (congrArg some (by kernel_rfl))
 f319:=Tryz.func172.trans (congrArg some (by kernel_rfl))
 f320:=Tryz.func173.trans (congrArg some (by kernel_rfl))
 f337:=Tryz.func174.trans (congrArg some (by kernel_rfl))
 f338:=Tryz.func136.trans (congrArg some (by kernel_rfl))
 t0:=Tryz.underlying0
 a0:=Tryz.isAgg0
 z0:=Tryz.sizeOf0
 v0:=Tryz.zeroValue0
 t2:=Tryz.underlying2
 a2:=Tryz.isAgg2
 z2:=Tryz.sizeOf2
 v2:=Tryz.zeroValue2
 t3:=Tryz.underlying3
 a3:=Tryz.isAgg3
 z3:=Tryz.sizeOf3
 v3:=Tryz.zeroValue3
 t4:=Tryz.underlying4
 a4:=Tryz.isAgg4
 z4:=Tryz.sizeOf4
 v4:=Tryz.zeroValue4
 t5:=Tryz.underlying5
 a5:=Tryz.isAgg5
 z5:=Tryz.sizeOf5
 v5:=Tryz.zeroValue5
 t9:=Tryz.underlying9
 a9:=Tryz.isAgg9
 z9:=Tryz.sizeOf9
 v9:=Tryz.zeroValue9
 t20:=Tryz.underlying20
 a20:=Tryz.isAgg20
 z20:=Tryz.sizeOf20
 v20:=Tryz.zeroValue20
 t37:=Tryz.underlying65
 a37:=Tryz.isAgg65
 z37:=Tryz.sizeOf65
 v37:=Tryz.zeroValue65
 t46:=Tryz.underlying161
 a46:=Tryz.isAgg161
 z46:=Tryz.sizeOf161
 v46:=Tryz.zeroValue161
 t51:=Tryz.underlying187
 a51:=Tryz.isAgg187
 z51:=Tryz.sizeOf187
 v51:=Tryz.zeroValue187
 t53:=Tryz.underlying105
 a53:=Tryz.isAgg105
 z53:=Tryz.sizeOf105
 v53:=Tryz.zeroValue105
 t171:=Tryz.underlying223
 a171:=Tryz.isAgg223
 z171:=Tryz.sizeOf223
 v171:=Tryz.zeroValue223
 t173:=Tryz.underlying225
 a173:=Tryz.isAgg225
 z173:=Tryz.sizeOf225
 v173:=Tryz.zeroValue225
 t212:=Tryz.underlying237
 a212:=Tryz.isAgg237
 z212:=Tryz.sizeOf237
 v212:=Tryz.zeroValue237
 t213:=Tryz.underlying238
 a213:=Tryz.isAgg238
 z213:=Tryz.sizeOf238
 t232:=Tryz.underlying239
 a232:=Tryz.isAgg239
 z232:=Tryz.sizeOf239
 v232:=Tryz.zeroValue239
 t233:=Tryz.underlying211
 a233:=Tryz.isAgg211
 z233:=Tryz.sizeOf211
 v233:=Tryz.zeroValue211
 g17:=by kernel_rfl
 g18:=by kernel_rfl
 g19:=by kernel_rfl
 i0:=by kernel_rfl
 i2:=by kernel_rfl
 i3:=by kernel_rfl
 i4:=by kernel_rfl
 i5:=by kernel_rfl
 i9:=by kernel_rfl
 i20:=by kernel_rfl
 i37:=by kernel_rfl
 i46:=by kernel_rfl
 i51:=by kernel_rfl
 i53:=by kernel_rfl
 i171:=by kernel_rfl
 i173:=by kernel_rfl
 i212:=by kernel_rfl
 i232:=by kernel_rfl
 i233:=by kernel_rfl
 m17:=by kernel_rfl
 m18:=by kernel_rfl
 m19:=by kernel_rfl
theorem rC:(yW.f 103)=32:=by kernel_rfl
theorem strings_CutPrefix(s p:ByteArray)(w:World):dw Tryz.prog 32 [.string s,.string p] w fun v w'=>v= .tuple #[.string ⟨(Lib.trimPrefix s.data.toList p.data.toList).toArray⟩,.bool (Lib.hasPrefix s.data.toList p.data.toList)]∧w'=w:=by
 refine⟨by kernel_rfl,?_⟩
 have h:=Any.strings_CutPrefix SH s p w
 rw[rC]at h
 exact h.mono fun e w' ⟨h1,h2⟩=>⟨_,h1,rfl,h2⟩
theorem HN(w:World)(k:Nat)(os:Array Obj):Below w.heap.size w (Go.Sort.grow (w.drewN k) os):=
 ⟨rfl,rfl,rfl,by simp[Go.Sort.grow,World.drewN],fun b hb=>by simp[Go.Sort.grow,World.drewN,Array.getElem?_append,hb]⟩
theorem rI:(wJ.f 171)=83:=by kernel_rfl
theorem strconv_Itoa(n:Int)(h0: -9223372036854775808≤n)(h1:n≤9223372036854775807)(w:World)(age:Lib.TabIs Tryz.prog w "internal/strconv.uint64pow10" .u64 Lib.pow10Tab):
  dw Tryz.prog 83 [.int .i64 n] w fun v w'=>v= .string ⟨(Lib.itoa n).toArray⟩∧Below w.heap.size w w':=by
 refine⟨by kernel_rfl,?_⟩
 have h:=Any.strconv_Itoa On n h0 h1 w age
 rw[rI]at h
 exact h.mono fun e w' ⟨h1,k,os,h2⟩=>⟨_,h1,rfl,h2▸HN w k os⟩
theorem yX(c:UInt8):∀l:List UInt8,Lib.splitK [c] 0 (Lib.count l [c]) l=ck c l
 |[]=>by rw[Lib.count_one];rfl
 |b :: l=>by
  have ih:=yX c l
  by_cases h:b=c
  ·subst h
   rw[Lib.count_cons_eq,Nat.add_comm,jO,if_pos rfl,←ih]
   have hi:Lib.index (b :: l) [b]=0:=by unfold Lib.index;rw[if_pos (by simp)]
   rw[Lib.splitK,hi,if_neg (by decide)]
   simp
  ·rw[Lib.count_cons_ne b c l h,jO,if_neg h,←ih]
   have hi:Lib.index (b :: l) [c]=if Lib.index l [c]== -1 then-1 else Lib.index l [c]+1:=by
    rw[Lib.index,if_neg (by simp;exact fun e=>h e.symm)]
   cases hk:Lib.count l [c]with
   |zero=>rfl
   |succ k=>
    rw[Lib.splitK,Lib.splitK,hi]
    have Hy:=Lib.index_ge l [c]
    by_cases h1:Lib.index l [c]= -1
    ·rw[h1];rfl
    ·have e1:¬(Lib.index l [c]== -1)=true:=by simpa using h1
     rw[if_neg e1,if_neg (by simp;omega),if_neg e1]
     obtain⟨i,SI⟩:∃i:Nat,Lib.index l [c]=i:=⟨(Lib.index l [c]).toNat,by omega⟩
     rw[SI]
     have e2:((i:Int)+1).toNat=i+1:=by omega
     rw[e2,Int.toNat_natCast]
     simp
theorem rS:(jB.f 146)=12:=by kernel_rfl
theorem strings_Split(s sep:ByteArray)(w:World)(m:Int)(hm:w.cell? ⟨1,0,none⟩=some (.int .i64 m))(hs:s.size<4294967281)(h1:1≤sep.size):
  dw Tryz.prog 12 [.string s,.string sep] w fun v w'=>v= .slice (some ⟨w.heap.size,0,none⟩) (Lib.countB s sep+1) (Lib.countB s sep+1)∧w'=w.alloc (.cells ((Lib.splitB sep 0 (Lib.countB s sep) s).map Value.string).toArray 9):=by
 refine⟨by kernel_rfl,?_⟩
 have hh:=Any.strings_Split (ρ:=jB) {xY with} xY.i9 s sep m w hs hm h1
 rw[rS]at hh
 exact hh.mono fun e w' ⟨h1,h2⟩=>⟨_,h1,rfl,h2⟩
theorem FC(c:UInt8)(s:ByteArray)(w:World)(m:Int)(hm:w.cell? ⟨1,0,none⟩=some (.int .i64 m))(hs:s.size<4294967281):
  dw Tryz.prog 12 [.string s,.string ⟨#[c]⟩] w fun v w'=>∃L:List ByteArray,L.map (·.data.toList)=ck c s.data.toList∧v= .slice (some ⟨w.heap.size,0,none⟩) L.length L.length∧dE (·<w'.heap.size) w' (some ⟨w.heap.size,0,none⟩) L∧Below w.heap.size w w':=by
 refine(strings_Split s ⟨#[c]⟩ w m hm hs (Nat.le_refl 1)).mono ?_
 rintro v w' ⟨rfl,rfl⟩
 have hl:=Lib.splitB_all ⟨#[c]⟩ (Nat.le_refl 1) 0 _ s rfl
 have e:((Lib.splitB ⟨#[c]⟩ 0 (Lib.countB s ⟨#[c]⟩) s).map Value.string)=(Lib.splitB ⟨#[c]⟩ 0 (Lib.countB s ⟨#[c]⟩) s).flatMap zC:=by
  generalize Lib.splitB ⟨#[c]⟩ 0 (Lib.countB s ⟨#[c]⟩) s=L
  induction L with
  |nil=>rfl
  |cons x L ih=>rw[List.map_cons,List.flatMap_cons,ih];rfl
 refine⟨Lib.splitB ⟨#[c]⟩ 0 (Lib.countB s ⟨#[c]⟩) s,?_,by rw[hl],?_,(Below.refl _ _).alloc (Nat.le_refl _) _⟩
 ·rw[Lib.splitB_data]
  exact yX c s.data.toList
 ·rw[e]
  generalize Lib.splitB ⟨#[c]⟩ 0 (Lib.countB s ⟨#[c]⟩) s=L
  have hb:=aE.new w 9 (L.flatMap zC)
  refine⟨fun _=>rfl,fun _=>hb.lt,fun i x hi j v hv=>?_⟩
  rw[jz,hb.cell]
  cases j with
  |succ j=>simp[zC]at hv
  |zero=>
   rw[Nat.mul_one,Nat.add_zero,←hv]
   have e2:L.flatMap zC=L.map Value.string:=by
    clear hi hv hb
    induction L with
    |nil=>rfl
    |cons x L ih=>rw[List.map_cons,List.flatMap_cons,ih];rfl
   rw[e2,List.getElem?_map,hi];rfl
open Go.RowKit
theorem Db:(ByteArray.mk #[32])=⟨([32]:List UInt8).toArray⟩:=rfl
theorem mo{ok ok2:Nat→Prop}{w:World}(pt:List UInt8)(hpt:pt.length≤2000000){A:Option Addr}{names:List ByteArray}(h:dE ok w A names)(c:Nat)(hn:qm names)
  {A2:Option Addr}{l:List Int}(h2:Ints ok2 w A2 l)(c2:Nat)(hl:∀x∈l,0≤x∧x<names.length)(nl:l.length≤100000):
  dw Tryz.prog 85 [.string ⟨pt.toArray⟩,.slice A names.length c,.slice A2 l.length c2] w fun v w'=>v= .string ⟨(pt++sp (D8 names l)).toArray⟩∧Same w w':=by
 refine AI (by simp) 1000 fun Q hQ=>?_
 simp(disch:=omega)only[push_cast,aa,↓reduceIte,Nat.reduceEqDiff,Int.reduceEq,vZ]
 refine ax (fun f w'=>∃k:Nat,k≤l.length∧(f 1= .slice A names.length c∧f 9= .slice A2 l.length c2∧f 0= .string ⟨(pt++sp (D8 names (l.take k))).toArray⟩∧f 10= .int .i64 l.length∧f 11= .int .i64 k)∧Same w w')
  (fun f _=>l.length-(intOf (f 11)).toNat) ⟨0,Nat.zero_le _,⟨rfl,rfl,by simp[sp,D8,UQ,xn],rfl,rfl⟩,Same.refl w⟩ ?_
 rintro f w1 ⟨k,hk,fr,s1⟩ J hJ
 have gZ:(intOf (f 11)).toNat=k:=by rw[fr.2.2.2.2];simp[intOf]
 have Oo:=Oi (Da hn fun x hx=>hl x (List.mem_of_mem_take (i:=k) hx))
 have ZG:(D8 names (l.take k)).length=k:=by unfold D8;rw[List.length_map,List.length_take];omega
 generalize hX:sp (D8 names (l.take k))=X at*
 by_cases aI:k<l.length
 case neg=>
  obtain rfl:k=l.length:=by omega
  rw[List.take_length]at hX
  simp(disch:=first|with_reducible assumption|omega|(simp only[List.length_append,List.length_cons,List.length_nil];omega))only[push_cast,aa,↓reduceIte,Nat.reduceEqDiff,Int.reduceEq,lZ,fr,Nat.lt_irrefl,wH]
  exact aF (hQ _ _ ⟨by simp only[push_cast,↓reduceIte,Nat.reduceEqDiff,fr,hX],s1⟩)
 have hx:=hl (l.getD k 0) (by rw[List.getD_eq_getElem?_getD,List.getElem?_eq_getElem aI];exact List.getElem_mem aI)
 have MF:l.take (k+1)=l.take k++[l.getD k 0]:=bS l 0 k aI
 have i2:=h2.same s1
 have i1:=bq.same h s1
 have sA2:=h2.isSome (by omega)
 have sA:=h.isSome (by omega)
 have ld2:=fun{K:Fr→World→Prop} {f:Fr} {d:Option Nat} {w':World}=>i2.ld (P:=Tryz.prog) (K:=K) (f:=f) (d:=d) (w:=w') ak k aI
 generalize l.getD k 0=x at*
 have Oq:=U0 hx.1 hx.2
 have Lb:=hn _ (List.mem_of_getElem? Oq)
 have ld1:=fun{K:Fr→World→Prop} {f:Fr} {d:Option Nat} {w':World}=>dE.ldb (K:=K) (f:=f) (d:=d) (w:=w') i1 Oq
 have QQ:x<(names.length:Int):=hx.2
 have MG:0≤x:=hx.1
 simp(disch:=first|with_reducible assumption|omega|(simp only[List.length_append,List.length_cons,List.length_nil];omega))only[push_cast,aa,↓reduceIte,Nat.reduceEqDiff,Int.reduceEq,lZ,fr,aI,sA2,ld2,sA,ld1,MG,QQ,Db,wH]
 exact hJ _ _ ⟨k+1,aI,⟨(by simp only[push_cast,↓reduceIte,Nat.reduceEqDiff,Int.reduceEq,fr]),(by simp only[push_cast,↓reduceIte,Nat.reduceEqDiff,Int.reduceEq,fr]),by
  simp only[push_cast,↓reduceIte,Nat.reduceEqDiff,fr]
  rw[MF]
  unfold D8
  rw[List.map_append,List.map_cons,List.map_nil,SF]
  unfold D8 at hX
  rw[hX]
  simp,(by simp only[push_cast,↓reduceIte,Nat.reduceEqDiff,Int.reduceEq,fr]),(by simp only[push_cast,↓reduceIte,Nat.reduceEqDiff,Int.reduceEq,fr])⟩,s1⟩ (by rw[gZ];simp only[push_cast,↓reduceIte,Nat.reduceEqDiff,intOf,fr];omega)
theorem aak{ok ok2:Nat→Prop}{w:World}(pt:List UInt8)(hpt:pt.length≤2000000){A:Option Addr}{names:List ByteArray}(h:dE ok w A names)(c:Nat)(hn:qm names)(nn:names.length≤17592186043904)
  {A2:Option Addr}{l:List Int}(h2:Ints ok2 w A2 l)(c2:Nat)(hl:∀x∈l,0≤x∧x<names.length)(nl:l.length≤100000):
  dw Tryz.prog 24 [.string ⟨pt.toArray⟩,.slice A names.length c,.slice A2 l.length c2] w fun v w'=>v= .string ⟨(pt++sp (D8 names l)).toArray⟩∧Same w w':=by
 refine abE (by simp) 1000 fun Q hQ=>?_
 simp(disch:=omega)only[push_cast,aa,↓reduceIte,Nat.reduceEqDiff,Int.reduceEq,aa3]
 refine ax (fun f w'=>∃k:Nat,k≤l.length∧(f 1= .slice A names.length c∧f 2= .slice A2 l.length c2∧f 0= .string ⟨(pt++sp (D8 names (l.take k))).toArray⟩∧f 7= .int .i64 k)∧Same w w')
  (fun f _=>l.length-(intOf (f 7)).toNat) ⟨0,Nat.zero_le _,⟨rfl,rfl,by simp[sp,D8,UQ,xn],rfl⟩,Same.refl w⟩ ?_
 rintro f w1 ⟨k,hk,fr,s1⟩ J hJ
 have gZ:(intOf (f 7)).toNat=k:=by rw[fr.2.2.2];simp[intOf]
 have Oo:=Oi (Da hn fun x hx=>hl x (List.mem_of_mem_take (i:=k) hx))
 have ZG:(D8 names (l.take k)).length=k:=by unfold D8;rw[List.length_map,List.length_take];omega
 generalize hX:sp (D8 names (l.take k))=X at*
 by_cases aI:k<l.length
 case neg=>
  obtain rfl:k=l.length:=by omega
  rw[List.take_length]at hX
  simp(disch:=first|with_reducible assumption|omega|(simp only[List.length_append,List.length_cons,List.length_nil];omega))only[push_cast,aa,↓reduceIte,Nat.reduceEqDiff,Int.reduceEq,aaj,fr,Nat.lt_irrefl,wH]
  exact aF (hQ _ _ ⟨by simp only[push_cast,↓reduceIte,Nat.reduceEqDiff,fr,hX],s1⟩)
 have hx:=hl (l.getD k 0) (by rw[List.getD_eq_getElem?_getD,List.getElem?_eq_getElem aI];exact List.getElem_mem aI)
 have MF:l.take (k+1)=l.take k++[l.getD k 0]:=bS l 0 k aI
 have i2:=h2.same s1
 have i1:=bq.same h s1
 have sA2:=h2.isSome (by omega)
 have sA:=h.isSome (by omega)
 have ld2:=fun{K:Fr→World→Prop} {f:Fr} {d:Option Nat} {w':World}=>i2.ld (P:=Tryz.prog) (K:=K) (f:=f) (d:=d) (w:=w') ak k aI
 generalize l.getD k 0=x at*
 have Oq:=U0 hx.1 hx.2
 have Lb:=hn _ (List.mem_of_getElem? Oq)
 have ld1:=fun{K:Fr→World→Prop} {f:Fr} {d:Option Nat} {w':World}=>dE.ldb (K:=K) (f:=f) (d:=d) (w:=w') i1 Oq
 have QQ:x<(names.length:Int):=hx.2
 have MG:0≤x:=hx.1
 have Tq:¬x<0:=by omega
 have hx3:¬(names.length:Int)≤x:=by omega
 simp(disch:=first|with_reducible assumption|omega|(simp only[List.length_append,List.length_cons,List.length_nil];omega))only[push_cast,aa,↓reduceIte,Nat.reduceEqDiff,Int.reduceEq,aaj,fr,aI,sA2,ld2,sA,ld1,Tq,hx3,MG,QQ,Db,wH]
 exact hJ _ _ ⟨k+1,aI,⟨(by simp only[push_cast,↓reduceIte,Nat.reduceEqDiff,Int.reduceEq,fr]),(by simp only[push_cast,↓reduceIte,Nat.reduceEqDiff,Int.reduceEq,fr]),by
  simp only[push_cast,↓reduceIte,Nat.reduceEqDiff,fr]
  rw[MF]
  unfold D8
  rw[List.map_append,List.map_cons,List.map_nil,SF]
  unfold D8 at hX
  rw[hX]
  simp,(by simp only[push_cast,↓reduceIte,Nat.reduceEqDiff,Int.reduceEq,fr])⟩,s1⟩ (by rw[gZ];simp only[push_cast,↓reduceIte,Nat.reduceEqDiff,intOf,fr];omega)
theorem acf{ok:Nat→Prop}{w:World}{A:Option Addr}{l:List ByteArray}(h:dE ok w A l)(c:Nat)(hl:l.length≤9223372036854775806)(s:ByteArray):
  dw Tryz.prog 29 [.slice A l.length c,.string s] w fun v w'=>v= .int .i64 (jW s l)∧Same w w':=by
 refine abH (by simp) 1000 fun Q hQ=>?_
 simp(disch:=omega)only[push_cast,aa,↓reduceIte,Nat.reduceEqDiff,Int.reduceEq,abk]
 refine ax (fun f w'=>∃k:Nat,k≤l.length∧(f 0= .slice A l.length c∧f 1= .string s∧f 5= .int .i64 k)∧(∀j,j<k→l[j]?≠some s)∧w'=w)
  (fun f _=>l.length-(intOf (f 5)).toNat) ⟨0,Nat.zero_le _,⟨rfl,rfl,rfl⟩,fun i hi=>absurd hi (by omega),rfl⟩ ?_
 rintro f w1 ⟨k,hk,fr,gY,rfl⟩ J hJ
 have gZ:(intOf (f 5)).toNat=k:=by rw[fr.2.2];simp[intOf]
 by_cases aI:k<l.length
 case neg=>
  simp(disch:=omega)only[push_cast,aa,↓reduceIte,Nat.reduceEqDiff,Int.reduceEq,Om,fr,aI]
  exact aF (hQ _ _ ⟨by simp only[push_cast,↓reduceIte,Nat.reduceEqDiff];rw[Og fun j hj=>gY j (by omega)],Same.refl _⟩)
 have hx:l[k]? =some (l[k]'aI):=List.getElem?_eq_getElem aI
 generalize l[k]'aI=x at hx
 have sA:=h.isSome (by omega)
 by_cases hc:x=s
 ·have ec:=eq_true hc
  simp(disch:=omega)only[push_cast,aa,↓reduceIte,Nat.reduceEqDiff,Int.reduceEq,Om,fr,aI,sA,h.ld hx,ec]
  exact aF (hQ _ _ ⟨by simp only[push_cast,↓reduceIte,Nat.reduceEqDiff,fr];rw[La (by rw[←hc];exact hx) gY],Same.refl _⟩)
 ·simp(disch:=omega)only[push_cast,aa,↓reduceIte,Nat.reduceEqDiff,Int.reduceEq,Om,fr,aI,sA,h.ld hx,hc]
  exact hJ _ _ ⟨k+1,aI,(by simp only[push_cast,↓reduceIte,Nat.reduceEqDiff,true_and,and_true,and_self,eq_self,fr]),fun j hj=>by
   by_cases e:j=k
   ·subst e;rw[hx];exact fun e=>hc (Option.some.inj e)
   ·exact gY j (by omega),rfl⟩ (by rw[gZ];simp only[push_cast,↓reduceIte,Nat.reduceEqDiff,intOf,fr];omega)
open Go.RowKit
abbrev stB:List UInt8:=[115,116,97,116,101,115]
abbrev evB:List UInt8:=[101,118,101,110,116,115]
abbrev snB:List UInt8:=[115,101,101,110]
abbrev frB:List UInt8:=[102,114,101,101]
abbrev fuB:List UInt8:=[102,97,117,108,116,115]
abbrev scB:List UInt8:=[115,101,99,114,101,116]
abbrev saB:List UInt8:=[115,116,97,114,116,115]
abbrev enB:List UInt8:=[101,110,100,115]
abbrev arB:List UInt8:=[97,114,114,111,119,115]
theorem tz(s:ByteArray):s.size=s.data.toList.length:=by rw[Array.length_toList];rfl
theorem Ot{l:List Int}{b:Int}(h:az l b):∀x∈l,0≤x∧x<b:=fun x hx=>⟨(h.mem hx).1,(h.mem hx).2.1⟩
end Go.Proofs.YtcefeihlkpmejaaGreatDoor
