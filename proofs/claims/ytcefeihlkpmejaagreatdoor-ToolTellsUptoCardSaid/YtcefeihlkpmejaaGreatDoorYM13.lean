/- A part of the proof. -/
import Derived.Test.YtcefeihlkpmejaaGreatDoorYM12
import Derived.Lib.SliceRun
import Derived.Test.YtcefeihlkpmejaaGreatDoorYLaws
import Derived.RangeFuncCalls
import Derived.RangeFuncNested
import Derived.RangeFuncBox
import Derived.RangeFuncLeaves
import Derived.RangeFuncBound
import Derived.WalkKit
import Derived.Shelf.Abstract
import Derived.StillTail
import Derived.OrdersIn
import Derived.Test.YtcefeihlkpmejaaGreatDoorYM9
import Derived.Test.YtcefeihlkpmejaaGreatDoorYM10
namespace Go.Proofs.YtcefeihlkpmejaaGreatDoor
set_option linter.unusedSimpArgs false
set_option linter.unusedVariables false
set_option linter.unusedSectionVars false
open Go.RowKit
def Gl(x y:Nat):Nat:=(BitVec.ofNat 64 x&&& ~~~BitVec.ofNat 64 y).toNat
theorem Gm(x y k:Nat)(hk:k<64):(Gl x y).testBit k=(x.testBit k&& !y.testBit k):=by
 unfold Gl
 rw[BitVec.testBit_toNat,BitVec.getLsbD_and,BitVec.getLsbD_not,BitVec.getLsbD_ofNat,BitVec.getLsbD_ofNat]
 simp[hk]
theorem J5(x y:Nat):Gl x y<2^64:=(BitVec.ofNat 64 x&&& ~~~BitVec.ofNat 64 y).isLt
theorem Dz{P:Program}{K:Fr→World→Prop}{u w:World}{f:Fr}{d:Option Nat}{t:TypeId}{xo yo:Operand}{x y z:Nat}(h:Gl x y=z):aq P K (bW .andNot t xo yo (.int .u64 x) (.int .u64 y)) u f d w=K (ai f d (.int .u64 z)) w:=
 aM u f d w fun w' _=>by
  have hb:IntKind.u64.bits=64:=rfl
  have h1:(BitVec.ofInt 64 (x:Int)&&& ~~~BitVec.ofInt 64 (y:Int)).toNat=z:=by rw[←h];simp only[BitVec.ofInt_natCast];rfl
  have h3:=wrap_u64 z (h▸J5 x y)
  show Result.ok (Value.int .u64 (IntKind.u64.wrap ((BitVec.ofInt 64 (x:Int)&&& ~~~BitVec.ofInt 64 (y:Int)).toNat:Int))) w'=_
  rw[h1,h3]
theorem within_iff{a b:List Int}(ha:Small a):km a b↔∀i,i<4→Gl ((ae a).getD i 0) ((ae b).getD i 0)=0:=by
 constructor
 ·intro h i hi
  refine Nat.eq_of_testBit_eq fun k=>?_
  rw[Nat.zero_testBit]
  rcases Nat.lt_or_ge k 64 with hk|hk
  ·rw[Gm _ _ _ hk]
   have h1:=bh a (64*i+k) (by omega)
   have h2:=bh b (64*i+k) (by omega)
   unfold aV at h1 h2
   rw[show(64*i+k)/64=i by omega,show(64*i+k)%64=k by omega]at h1 h2
   rw[h1,h2]
   by_cases c:((64*i+k:Nat):Int)∈a
   ·rw[decide_eq_true c,decide_eq_true (h _ c)];rfl
   ·rw[decide_eq_false c];rfl
  ·exact Nat.testBit_lt_two_pow (Nat.lt_of_lt_of_le (J5 _ _) (Nat.pow_le_pow_right (by decide) hk))
 ·intro h x hx
  have hs:=ha x hx
  have h1:=bh a x.toNat (by omega)
  have h2:=bh b x.toNat (by omega)
  rw[show((x.toNat:Nat):Int)=x by omega]at h1 h2
  unfold aV at h1 h2
  have h3:=Gm ((ae a).getD (x.toNat/64) 0) ((ae b).getD (x.toNat/64) 0) (x.toNat%64) (Nat.mod_lt _ (by decide))
  rw[h _ (by omega),Nat.zero_testBit,h1,h2]at h3
  simpa[hx]using h3
theorem BO{a b:List Int}(ha:Small a)(w:World):
  dw Tryz.prog 70 [bC a,bC b] w fun v w'=>v= .bool (decide (km a b))∧Below w.heap.size w w':=by
 refine pJ (by simp) 100000 fun Q hQ=>?_
 simp(disch:=omega)only[push_cast,aa,↓reduceIte,Nat.reduceEqDiff,Int.reduceEq,jJ]
 refine au (aO _ (setCells (ae a))) ?_
 intro w1 k1 b1 z1
 simp(disch:=omega)only[push_cast,aa,↓reduceIte,Nat.reduceEqDiff,Int.reduceEq]
 refine au (aO _ (setCells (ae b))) ?_
 intro w2 k2 b2 z2
 have k1:=k1.below b2 (by omega)
 have b2:=b1.trans (b2.mono b1.size)
 simp(disch:=omega)only[push_cast,aa,↓reduceIte,Nat.reduceEqDiff,Int.reduceEq]
 refine ax (fun f w'=>∃i:Nat,i≤4∧(f 2= .pointer (some ⟨w.heap.size,0,none⟩)∧f 3= .pointer (some ⟨w1.heap.size,0,none⟩)∧f 6= .int .i64 i)∧
   (∀j,j<i→Gl ((ae a).getD j 0) ((ae b).getD j 0)=0)∧aE w' w.heap.size 107 (setCells (ae a))∧aE w' w1.heap.size 107 (setCells (ae b))∧Below w.heap.size w w')
  (fun f _=>4-(intOf (f 6)).toNat) ⟨0,by omega,⟨rfl,rfl,rfl⟩,fun j hj=>absurd hj (by omega),k1,k2,b2⟩ ?_
 clear k1 k2 b2
 rintro f w3 ⟨i,hi,fr,hp,k1,k2,b3⟩ J hJ
 by_cases aI:(i:Int)<4
 case neg=>
  have r:decide (km a b)=true:=decide_eq_true ((within_iff ha).2 fun j hj=>hp j (by omega))
  simp(disch:=omega)only[push_cast,aa,↓reduceIte,Nat.reduceEqDiff,Int.reduceEq,dz,fr,aI]
  exact aF (hQ _ _ ⟨(by simp only[push_cast,↓reduceIte,Nat.reduceEqDiff,Int.reduceEq,r]),b3⟩)
 have Bp:i<4:=by omega
 have hx:=(af a).2 i
 have hy:=(af b).2 i
 have U2:=k1.drew
 have k2':=k2.drew
 have hwd:∀(z:Nat),Gl ((ae a).getD i 0) ((ae b).getD i 0)=z→z≠0→decide (km a b)=false:=fun z h1 h2=>decide_eq_false fun h=>h2 (h1▸(within_iff ha).1 h i Bp)
 generalize hv:(ae a).getD i 0=x at*
 generalize hu:(ae b).getD i 0=y at*
 generalize hz:Gl x y=z at*
 by_cases c:z=0
 ·subst c
  simp(disch:=omega)only[push_cast,aa,↓reduceIte,Nat.reduceEqDiff,Int.reduceEq,dz,fr,aI,Int.natCast_nonneg,Dz hz,U2.uu (af a) dR i Bp hv,k2'.uu (af b) dR i Bp hu]
  exact hJ _ _ ⟨i+1,by omega,(by simp only[push_cast,↓reduceIte,Nat.reduceEqDiff,true_and,and_true,and_self,eq_self,fr]),fun j hj=>if e:j=i then by rw[e,hv,hu,hz]else hp j (by omega),U2,k2',drawn b3⟩ (by simp only[push_cast,↓reduceIte,Nat.reduceEqDiff,intOf,fr];omega)
 ·have r:=hwd z rfl c
  have c':¬((z:Int)=0):=by omega
  simp(disch:=omega)only[push_cast,aa,↓reduceIte,Nat.reduceEqDiff,Int.reduceEq,dz,fr,aI,Int.natCast_nonneg,Dz hz,c',U2.uu (af a) dR i Bp hv,k2'.uu (af b) dR i Bp hu]
  exact aF (hQ _ _ ⟨(by simp only[push_cast,↓reduceIte,Nat.reduceEqDiff,Int.reduceEq,r]),drawn b3⟩)
def dx(s l:List Int):Prop:=s≠[]∧km s l
instance (s l:List Int):Decidable (dx s l):=inferInstanceAs (Decidable (_∧_))
theorem yg{s:List Int}(hs:Small s):ae s=ae []↔s=[]:=by
 constructor
 ·intro h
  cases s with
  |nil=>rfl
  |cons x s=>
   have:=(ny h (hs x (by simp)).1 (hs x (by simp)).2).1 (by simp)
   simp at this
 ·rintro rfl;rfl
theorem fX{w:World}{s:List Int}(hs:Small s){A:Option Addr}{c:Nat}{l:List Int}(h:Ints (·<w.heap.size) w A l)(n1:l.length≤17592186043904)(hl:Small l):
  dw Tryz.prog 56 [bC s,.slice A l.length c] w fun v w'=>v= .bool (decide (dx s l))∧Below w.heap.size w w':=by
 refine vU (by simp) 100000 fun Q hQ=>?_
 simp(disch:=omega)only[push_cast,aa,↓reduceIte,Nat.reduceEqDiff,Int.reduceEq,qK]
 refine au (aO _ (setCells (ae s))) ?_
 intro w1 k1 b1 z1
 have sd:Same w1 w1.drew:=(Same.refl w1).drew
 replace k1:=k1.same sd
 have bb:=b1.trans (sd.below _)
 generalize hu:w1.drew=u at*
 have Pl:=fun{K f d w}=>k1.cM (K:=K) (f:=f) (d:=d) (w:=w) (af _) al aw
 by_cases e:ae s=ae []
 case pos=>
  have r:decide (dx s l)=false:=decide_eq_false fun hh=>hh.1 ((yg hs).1 e)
  simp(disch:=omega)only[push_cast,aa,↓reduceIte,Nat.reduceEqDiff,Int.reduceEq,hu,tG,tC,decide_eq_true e,Pl]
  refine⟨Below.refl _ _,Below.refl _ _,?_⟩
  exact aF (hQ _ _ ⟨(by simp only[push_cast,↓reduceIte,Nat.reduceEqDiff,Int.reduceEq,r]),bb⟩)
 simp(disch:=omega)only[push_cast,aa,↓reduceIte,Nat.reduceEqDiff,Int.reduceEq,hu,tG,tC,decide_eq_false e,Pl]
 refine ah (gO (h.up bb) c n1 hl) ?_
 rintro v w2 ⟨rfl,b2⟩
 simp(disch:=omega)only[push_cast,aa,↓reduceIte,Nat.reduceEqDiff,Int.reduceEq]
 refine⟨b2,?_⟩
 refine ah (BO hs _) ?_
 rintro v w3 ⟨rfl,b3⟩
 replace b2:=b2.trans (b3.mono b2.size)
 simp(disch:=omega)only[push_cast,aa,↓reduceIte,Nat.reduceEqDiff,Int.reduceEq]
 refine⟨b2,?_⟩
 have r:decide (dx s l)=decide (km s l):=decide_eq_decide.2 ⟨fun hh=>hh.2,fun hh=>⟨fun e'=>e ((yg hs).2 e'),hh⟩⟩
 exact aF (hQ _ _ ⟨(by simp only[push_cast,↓reduceIte,Nat.reduceEqDiff,Int.reduceEq,r]),bb.trans (b2.mono bb.size)⟩)
theorem DA{P:Program}{K:Fr→World→Prop}{u w:World}{f:Fr}{d:Option Nat}{t e:TypeId}{xo yo:Operand}(ht:P.underlying t=some (.slice e))(A:Option Addr)(n c n' c':Nat):aq P K (bW .eql t xo yo (.slice A n c) (.slice none n' c')) u f d w=K (ai f d (.bool A.isNone)) w:=
 aM u f d w fun w' _=>by
  simp only[bW,eqGuard]
  exact Lib.run_eql_slice_nil w' t e A n c n' c' ht
theorem xc{w:World}{A:Option Addr}{c:Nat}{l:List Int}(h:Ints (·<w.heap.size) w A l)(hl:l.length≤17592186043904):
  dw Tryz.prog 96 [.slice A l.length c] w fun v w'=>∃A' c',v= .slice A' l.length c'∧cQ w.heap.size 3 w' A' c' l∧Below w.heap.size w w':=by
 have ht:Tryz.prog.underlying 24=some (.slice 3):=Tryz.underlying24
 refine xJ (by simp) 100000 fun Q hQ=>?_
 by_cases hA:A.isNone=true
 ·have Vo:l=[]:=by
   cases l with
   |nil=>rfl
   |cons x l=>
    have:=h.isSome (by simp)
    cases A<;>simp_all
  subst Vo
  simp(disch:=omega)only[push_cast,aa,↓reduceIte,Nat.reduceEqDiff,Int.reduceEq,mh,DA ht,hA]
  exact aF (hQ _ _ ⟨none,0,(by simp only[push_cast,↓reduceIte,Nat.reduceEqDiff,Int.reduceEq,List.length_nil]),Own.nil _ _ _ _,Below.refl _ _⟩)
 ·have hA':A.isNone=false:=Bool.not_eq_true _▸hA
  simp(disch:=omega)only[push_cast,aa,↓reduceIte,Nat.reduceEqDiff,Int.reduceEq,mh,DA ht,hA']
  have b8:Below w.heap.size w (w.alloc (.cells [].toArray 3)):=(Below.refl _ _).alloc (Nat.le_refl _) _
  have o8:cQ w.heap.size 3 (w.alloc (.cells [].toArray 3)) (some ⟨w.heap.size,0,none⟩) 0 []:=⟨World.ownsRow_made w #[] 0 (Nat.le_refl _) (by decide) (by simp)⟩
  generalize w.alloc (Obj.cells [].toArray 3)=w8 at*
  refine A6 (l:=[]) fq o8 (h.up b8) (by simp;omega) b8.size ?_
  intro A9 c9 w9 o9 hg9 _ z9
  rw[List.nil_append]at o9
  simp(disch:=omega)only[push_cast,aa,↓reduceIte,Nat.reduceEqDiff,Int.reduceEq,List.length_nil,Nat.zero_add]
  exact aF (hQ _ _ ⟨A9,c9,(by simp only[push_cast,↓reduceIte,Nat.reduceEqDiff,Int.reduceEq,List.length_nil,Nat.zero_add]),o9,hg9.below b8 b8.size o8.uh⟩)
structure dq(B e:Nat)(w:World)(A:Option Addr)(l:List Int):Prop where
 ints:Ints (fun b=>B≤b∧b<w.heap.size∧∃cs r,w.heap[b]? =some (.cells cs e r)) w A l
section
variable {B e:Nat} {w w':World} {A:Option Addr} {l:List Int}
theorem dq.nil(B e:Nat)(w:World)(A:Option Addr):dq B e w A []:=⟨Ints.nil _ _ _⟩
theorem dq.lt(h:dq B e w A l):Ints (·<w.heap.size) w A l:=h.ints.mono fun _ hb=>hb.2.1
theorem dq.mid(h:dq B e w A l):Ints (fun b=>B≤b∧b<w.heap.size) w A l:=h.ints.mono fun _ hb=>⟨hb.1,hb.2.1⟩
theorem dq.keep(h:dq B e w A l)(hz:w.heap.size≤w'.heap.size)(hk:∀b,B≤b→b<w.heap.size→(∃cs r,w.heap[b]? =some (.cells cs e r))→w'.heap[b]? =w.heap[b]?):dq B e w' A l:=by
 refine⟨⟨h.ints.isSome,fun hl=>?_,fun i hi=>?_⟩⟩
 ·obtain⟨h0,h1,cs,r,h3⟩:=h.ints.block hl
  exact⟨h0,by omega,cs,r,by rw[hk _ h0 h1 ⟨cs,r,h3⟩];exact h3⟩
 ·obtain⟨h0,h1,h2⟩:=h.ints.block (by omega)
  rw[←h.ints.cell i hi]
  exact World.cell?_of_block (by rw[oz];exact hk _ h0 h1 h2)
theorem dq.below(h:dq B e w A l)(hb:Below w.heap.size w w'):dq B e w' A l:=h.keep hb.size fun b _ aI _=>hb.block b aI
theorem dq.same(h:dq B e w A l)(hs:Same w w'):dq B e w' A l:=h.below (hs.below _)
theorem dq.bQ{e' sz c n B':Nat}{A2:Option Addr}{xs:List Value}(h:dq B e w A l)(ho:Own B' e' sz w A2 c n xs)(cY:e'≠e)(hg:bJ w w' A2):dq B e w' A l:=
 h.keep hg.aJ.size fun b _ aI hor=>hg.aJ.block b aI (by
  rcases ho.own.2 with⟨h0,_⟩|⟨g,cap,cur,hv,hB,hh,_⟩
  ·injection h0 with h0;subst h0;simp
  ·injection hv with hv
   subst hv
   simp only[Option.map_some,ne_eq,Option.some.injEq]
   rintro rfl
   obtain⟨cs,r,h1⟩:=hor
   rw[h1]at hh
   injection hh with hh
   injection hh with _ ht
   exact cY ht.symm)
theorem dq.iJ{g t:Nat}{cs:List Value}(h:dq B e w A l)(hb:aE w g t cs)(cY:t≠e){i:Nat}(hg:bJ w w' (some ⟨g,i,none⟩)):dq B e w' A l:=
 h.keep hg.aJ.size fun b _ aI hor=>hg.aJ.block b aI (by
  simp only[Option.map_some,ne_eq,Option.some.injEq]
  rintro rfl
  obtain⟨Wl,r,h1⟩:=hor
  unfold aE at hb
  rw[hb]at h1
  injection h1 with h1
  injection h1 with _ ht
  exact cY ht)
theorem dq.BP{P:Program}{k b0:Nat}{kv:List (Value×Value)}(h:dq B e w A l)(hm:df P k w b0 kv){i:Nat}(hg:bJ w w' (some ⟨b0,i,none⟩)):dq B e w' A l:=
 h.keep hg.aJ.size fun b _ aI hor=>hg.aJ.block b aI (by
  simp only[Option.map_some,ne_eq,Option.some.injEq]
  rintro rfl
  obtain⟨Wl,r,h1⟩:=hor
  obtain⟨es,_,HJ,_⟩:=hm
  rw[HJ]at h1
  injection h1 with h1
  cases h1)
theorem dq.BQ{B' c:Nat}(h:cQ B' e w A c l)(hB:B≤B'):dq B e w A l:=by
 refine⟨?_⟩
 have hi:=cQ.ints h
 refine⟨hi.isSome,fun hl=>?_,hi.cell⟩
 have hA:=h.isSome hl
 have hb:=h.block hA
 refine⟨by omega,hb.2,?_⟩
 rcases h.own.2 with⟨h0,_⟩|⟨g,cap,cur,hv,_,hh,_⟩
 ·injection h0 with h0;subst h0;cases hA
 ·injection hv with hv
  subst hv
  exact⟨cur,_,hh⟩
end
structure Pc where
 s:List Int
 W:Option Addr
 cw:Nat
 w:List Int
def Pc.cells(p:Pc):List Value:=setCells (ae p.s)++[.slice p.W p.w.length p.cw]
def Pc.abs(p:Pc):List Int×List Int:=(p.s,p.w)
theorem bc:C8 Pc.cells 5:=⟨fun p=>by simp[Pc.cells,ao],fun p u hu=>by
 unfold Pc.cells at hu
 rcases List.mem_append.1 hu with hu|hu
 ·exact List.all_eq_true.1 (aH _) u hu
 ·rw[List.mem_singleton.1 hu];rfl⟩
theorem Pc.uB(p:Pc):(Pc.cells p)[4]? =some (.slice p.W p.w.length p.cw):=by
 unfold Pc.cells
 rw[List.getElem?_append_right (by rw[ao];omega),ao];rfl
theorem Pc.cell0(p:Pc):∀k v,(setCells (ae p.s))[k]? =some v→(Pc.cells p)[0+k]? =some v:=fun k v h=>by
 unfold Pc.cells
 rw[Nat.zero_add,List.getElem?_append_left (by
  rcases Nat.lt_or_ge k (setCells (ae p.s)).length with h1|h1
  ·exact h1
  ·rw[List.getElem?_eq_none h1]at h;cases h)]
 exact h
theorem Pm:iE Tryz.prog 112=some ([(0,4),(4,1)],[.int .u64 0,.int .u64 0,.int .u64 0,.int .u64 0,.slice none 0 0]):=by kernel_rfl
theorem acn{K:Fr→World→Prop}{u:World}{f:Fr}{d:Option Nat}{w:World}(s:List Int)(W:Option Addr)(n c:Nat):
  aq Tryz.prog K (Instr.build 112 #[(0,bC s),(1,.slice W n c)]) u f d w=K (ai f d (.agg (setCells (ae s)++[Value.slice W n c]).toArray)) w:=by
 have:=UZ (P:=Tryz.prog) (K:=K) (u:=u) (f:=f) (d:=d) (w:=w) Pm rfl rfl rfl (v0:=bC s) (v1:= .slice W n c) (by simp[Value.cells,ao]) rfl
 rw[this];rfl
theorem Iw{K:Fr→World→Prop}{u:World}{f:Fr}{d:Option Nat}{w:World}(x:Pc):
  aq Tryz.prog K (Instr.build 112 #[(0,bC x.s),(1,.slice x.W x.w.length x.cw)]) u f d w=K (ai f d (.agg x.cells.toArray)) w:=acn x.s x.W x.w.length x.cw
theorem Pn{K:Fr→World→Prop}{u:World}{f:Fr}{d:Option Nat}{w:World}(s:List Int):
  aq Tryz.prog K (Instr.build 112 #[(0,bC s)]) u f d w=K (ai f d (.agg (Pc.cells ⟨s,none,0,[]⟩).toArray)) w:=by
 refine gF ?_
 rw[ss Pm]
 rw[eB (off:=0) (size:=4) rfl (by simp[Value.cells,ao]) (by decide),sw]
 congr 2
 unfold sv Pc.cells
 simp[Value.cells,ao]
theorem Gn(ps:List Pc)(p:Pc):x8 ((ps++[p]).map (·.s))=x8 (ps.map (·.s))++[(bC p.s,.int .i64 (ps.length:Int))]:=by
 rw[List.map_append,List.map_singleton,Lk,List.length_map]
theorem sT{w:World}{first:List Int}{A0:Option Addr}{c0:Nat}{es:List Int}{g:FuncId}{cap:Array Value}{step:List Int→Int→List Int}{U:List Int→Prop}(hU1:∀s,U s→U1 s)(h0:U first)(Eh:Ints (·<w.heap.size) w A0 es)(hn:es.length≤8)
  (hU:∀s,U s→∀e∈es,U (step s e))
  (hstep:∀w',Below w.heap.size w w'→∀s,U s→∀e∈es,dw Tryz.prog g ([bC s,.int .i64 e]++cap.toList) w' fun v w2=>v=bC (step s e)∧Below w'.heap.size w' w2):
  dw Tryz.prog 52 [bC first,.slice A0 es.length c0,.func (.func g) #[] cap] w fun v w'=>
   ∃(A:Option Addr) (c:Nat) (ps:List Pc) (k:Nat),v= .slice A ps.length c∧bq Pc.cells 5 (fun b=>w.heap.size≤b∧b<w'.heap.size) w' A ps∧(∀p∈ps,Ints (fun b=>w.heap.size≤b∧b<w'.heap.size) w' p.W p.w)∧Below w.heap.size w w'∧
    ps.map Pc.abs=a8 step es first k∧k≤ps.length∧ps.length≤264∧(ps.length=k∨256<ps.length):=by
 have LM:Tryz.prog.underlying 137=some (.map 107 3):=Tryz.underlying137
 have XU:(Tryz.prog.info? 3).map (·.zero)=some (some (.int .i64 0)):=by kernel_rfl
 have EZ:first=(⟨first,none,0,[]⟩:Pc).s:=rfl
 refine uW (by simp) 100000 fun Q hQ=>?_
 simp(disch:=omega)only[push_cast,aa,↓reduceIte,Nat.reduceEqDiff,Int.reduceEq,oK]
 refine au (aO _ (setCells (ae first))) ?_
 intro w1 k1 b1 z1
 simp(disch:=omega)only[push_cast,aa,↓reduceIte,Nat.reduceEqDiff,Int.reduceEq,k1.cM (af _) al aw,Pn,ea bc kz _ (by decide)]
 have o2:=zT bc w1 ⟨first,none,0,[]⟩ 112
 have b2:Below w1.heap.size w1 (w1.alloc (.cells (Pc.cells ⟨first,none,0,[]⟩).toArray 112)):=(Below.refl _ _).alloc (Nat.le_refl _) _
 generalize w1.alloc (.cells (Pc.cells ⟨first,none,0,[]⟩).toArray 112)=w2 at*
 have k2:=k1.below b2 k1.lt
 replace b2:=b1.trans (b2.mono b1.size)
 replace o2:=o2.base (B':=w.heap.size) b1.size
 simp(disch:=omega)only[push_cast,aa,↓reduceIte,Nat.reduceEqDiff,Int.reduceEq,lf]
 refine pg (k:=107) _ ?_
 intro w3 m3 b3 z3
 have k3:=k2.below b3 k2.lt
 have o3:=o2.below b3 (Nat.le_refl _)
 replace b3:=b2.trans (b3.mono b2.size)
 have zb2:=b2.size
 simp(disch:=omega)only[push_cast,aa,↓reduceIte,Nat.reduceEqDiff,Int.reduceEq,wR,k3.cM (af _) al aw]
 refine tF eT LM m3 (jD _) (by simp) _ ?_
 intro w4 m4 g4 z4
 have o4:=o3.bQ g4 (.inr fun e=>m3.gG o3 e.symm)
 have b4:=g4.below b3 b3.size (by intro a ha;injection ha with ha;subst ha;exact zb2)
 simp(disch:=omega)only[push_cast,aa,↓reduceIte,Nat.reduceEqDiff,Int.reduceEq]
 refine ax (fun f w'=>∃(k:Nat) (ps:List Pc) (A:Option Addr) (c:Nat),k≤ps.length∧
   (f 1= .slice A0 es.length c0∧f 2= .func (.func g) #[] cap∧f 7= .slice A ps.length c∧f 8= .map (some w2.heap.size)∧f 9= .int .i64 k)∧
   ps.map Pc.abs=a8 step es first k∧ps.length≤264∧
   bH Pc.cells w.heap.size 112 5 w' A c ps∧(∀p∈ps,dq w.heap.size 3 w' p.W p.w)∧df Tryz.prog 107 w' w2.heap.size (x8 (ps.map (·.s)))∧Below w.heap.size w w')
  (fun f _=>300-(intOf (f 9)).toNat) ⟨0,[⟨first,none,0,[]⟩],_,1,by simp,⟨rfl,rfl,rfl,rfl,rfl⟩,rfl,by simp,o4,fun p hp=>by rw[List.mem_singleton.1 hp];exact dq.nil _ _ _ _,m4,b4⟩ ?_
 clear o4 m4 b4 g4 k3 m3 b3 o3 k2 o2 b2 k1 b1
 rintro f w5 ⟨k,ps,A,c,hk,fr,hL,hL2,ho,qY,hm,b5⟩ J hJ
 have gZ:(intOf (f 9)).toNat=k:=by rw[fr.2.2.2.2];simp[intOf]
 have hlb:ps.length=(a8 step es first k).length:=by rw[←hL,List.length_map]
 have CM:∀(h:ps.length=k∨256<ps.length),∃A' c' Gp k',Value.slice A ps.length c=Value.slice A' Gp.length c'∧bq Pc.cells 5 (fun b=>w.heap.size≤b∧b<w5.heap.size) w5 A' Gp∧(∀p∈Gp,Ints (fun b=>w.heap.size≤b∧b<w5.heap.size) w5 p.W p.w)∧Below w.heap.size w w5∧
    Gp.map Pc.abs=a8 step es first k'∧k'≤Gp.length∧Gp.length≤264∧(Gp.length=k'∨256<Gp.length):=fun h=>
  ⟨A,c,ps,k,rfl,((bH.fS ho bc (by decide)).both (bq.lt bc (by decide) (bH.fS ho bc (by decide)))).mono fun b hb=>⟨hb.1.1,hb.2⟩,fun p hp=>(qY p hp).mid,b5,hL,hk,hL2,h⟩
 by_cases aI:k<ps.length
 case neg=>
  simp(disch:=omega)only[push_cast,aa,↓reduceIte,Nat.reduceEqDiff,Int.reduceEq,eJ,fr,aI]
  exact aF (hQ _ _ (CM (.inl (by omega))))
 by_cases hle:(ps.length:Int)≤256
 case neg=>
  simp(disch:=omega)only[push_cast,aa,↓reduceIte,Nat.reduceEqDiff,Int.reduceEq,eJ,fr,aI,hle]
  exact aF (hQ _ _ (CM (.inr (by omega))))
 clear CM
 have Po:(a8 step es first k)[k]? =some ((a8 step es first k)[k]'(by omega)):=List.getElem?_eq_getElem _
 generalize(a8 step es first k)[k]'(by omega)=q at Po
 have hUq:U q.1:=(mu (step:=step) (es:=es) hU h0 k).univ q (List.mem_of_getElem? Po)
 simp(disch:=omega)only[push_cast,aa,↓reduceIte,Nat.reduceEqDiff,Int.reduceEq,eJ,fr,aI,hle]
 refine ax (fun f' w'=>∃(j:Nat) (ps:List Pc) (A:Option Addr) (c:Nat),j≤es.length∧
   (f' 1= .slice A0 es.length c0∧f' 2= .func (.func g) #[] cap∧f' 7= .slice A ps.length c∧f' 8= .map (some w2.heap.size)∧f' 9= .int .i64 k∧f' 32= .slice A0 es.length c0∧f' 33= .int .i64 es.length∧f' 34= .int .i64 j)∧
   ps.map Pc.abs=jQ step es first k j∧ps.length≤256+j∧
   bH Pc.cells w.heap.size 112 5 w' A c ps∧(∀p∈ps,dq w.heap.size 3 w' p.W p.w)∧df Tryz.prog 107 w' w2.heap.size (x8 (ps.map (·.s)))∧Below w.heap.size w w')
  (fun f' _=>es.length-(intOf (f' 34)).toNat) ⟨0,ps,A,c,Nat.zero_le _,(by simp only[push_cast,↓reduceIte,Nat.reduceEqDiff,true_and,and_true,and_self,eq_self,fr]),hL,by omega,ho,qY,hm,b5⟩ ?_
 have jN:=Eg (step:=step) (es:=es) first k
 have J6:k≤256:=by omega
 have ahc:=fx Po
 clear hm ho qY aI hk b5 hL hL2 hlb fr hle
 rintro f w5 ⟨j,ps,A,c,hj,fr,hL,hL2,ho,qY,hm,b5⟩ J2 jH
 have ub:(jQ step es first k j)[k]? =some q:=by rw[cJ (jN j) ahc];exact Po
 have hlb:ps.length=(jQ step es first k j).length:=by rw[←hL,List.length_map]
 have aI:k<ps.length:=by have:=(jN j).length_le;omega
 by_cases tP:j<es.length
 case neg=>
  obtain rfl:j=es.length:=by omega
  rw[Lf]at hL
  simp(disch:=omega)only[push_cast,aa,↓reduceIte,Nat.reduceEqDiff,Int.reduceEq,gw,fr,Nat.lt_irrefl]
  exact hJ _ _ ⟨k+1,ps,A,c,by omega,(by simp only[push_cast,↓reduceIte,Nat.reduceEqDiff,true_and,and_true,and_self,eq_self,fr]),hL,by omega,ho,qY,hm,b5⟩ (by rw[gZ];simp only[push_cast,↓reduceIte,Nat.reduceEqDiff,intOf,fr];omega)
 obtain⟨p,XV,Z5⟩:∃p,ps[k]? =some p∧Pc.abs p=q:=by
  refine⟨ps[k]'aI,List.getElem?_eq_getElem aI,?_⟩
  have:(ps.map Pc.abs)[k]? =some (Pc.abs (ps[k]'aI)):=by rw[List.getElem?_map,List.getElem?_eq_getElem aI];rfl
  rw[hL,ub]at this
  exact(Option.some.inj this).symm
 have Hk:p.s=q.1:=congrArg Prod.fst Z5
 have Q7:p.w=q.2:=congrArg Prod.snd Z5
 have TI:=HX _ _ _ _ _ ub
 have hA:=ho.isSome (by omega)
 have hR:=bq.lt bc (by decide) (bH.fS ho bc (by decide))
 have acp:=fun{K:Fr→World→Prop} {f:Fr} {d:Option Nat} {w':World}=>bq.CH (P:=Tryz.prog) (K:=K) (f:=f) (d:=d) (w:=w') hR al XV 0 (vs:=setCells (ae p.s)) (bn _) p.cell0
 have Z6:=Eh.below b5
 have hAe:=Z6.isSome (by omega)
 have XW:=bY es 0 j tP
 have du:=HW step es first k j tP
 have TJ:=fun{K f d w}=>Z6.ld (P:=Tryz.prog) (K:=K) (f:=f) (d:=d) (w:=w) ak j tP
 generalize es.getD j 0=e at*
 rw[Hk]at acp
 simp(disch:=omega)only[push_cast,aa,↓reduceIte,Nat.reduceEqDiff,Int.reduceEq,gw,fr,tP,aI,TJ,acp]
 refine ah (hstep w5 b5 q.1 hUq e XW) ?_
 rintro v w6 ⟨rfl,XO⟩
 have XX:=ho.below XO (Nat.le_refl _)
 have hm6:=hm.below XO hm.lt
 have ahd:∀p∈ps,dq w.heap.size 3 w6 p.W p.w:=fun p hp=>(qY p hp).below XO
 have b6:=b5.trans (XO.mono b5.size)
 have hUs:U (step q.1 e):=hU _ hUq _ XW
 generalize hs:step q.1 e=s at*
 simp(disch:=omega)only[push_cast,aa,↓reduceIte,Nat.reduceEqDiff,Int.reduceEq,fr]
 refine au (cs:=setCells (ae [])) cB ?_
 intro w7 k7 b7 z7
 have ho7:=XX.below b7 (Nat.le_refl _)
 have hm7:=hm6.below b7 hm6.lt
 have ahf:∀p∈ps,dq w.heap.size 3 w7 p.W p.w:=fun p hp=>(ahd p hp).below b7
 have z6:=b6.size
 have b7:=b6.trans (b7.mono b6.size)
 simp(disch:=omega)only[push_cast,aa,↓reduceIte,Nat.reduceEqDiff,Int.reduceEq]
 refine aC k7 (cs:=setCells (ae s)) (bn _) (by rw[ao,ao]) (aH _) ?_
 intro w8 k8 g8 z8
 have Z7:=ho7.bQ g8 (.inr (ho7.bG k7 (by decide)))
 have hm8:=hm7.grown g8.aJ (by have:=hm6.lt;simp;omega)
 have acs:∀p∈ps,dq w.heap.size 3 w8 p.W p.w:=fun p hp=>(ahf p hp).iJ k7 (by decide) g8
 have b8:=g8.below b7 b7.size (by intro a ha;injection ha with ha;subst ha;exact z6)
 have hl8:=fun{K:Fr→World→Prop} {f:Fr} {d:Option Nat} {w':World}=>k8.cM (K:=K) (f:=f) (d:=d) (w:=w') (af _) al aw
 simp(disch:=omega)only[push_cast,aa,↓reduceIte,Nat.reduceEqDiff,Int.reduceEq,fr,hl8,eC]
 have XY:=Bv (step:=step) (es:=es) hU h0 k j
 have acu:ps.map (·.s)=(jQ step es first k j).map (·.1):=by rw[←hL,List.map_map];rfl
 refine ph eT LM XU true hm8 (jD _) (fun v hv=>?_) fun gY=>?_
 ·obtain⟨i,t,hit,XZ⟩:=FO hv
  injection XZ with XZ hvi
  subst hvi
  have ZO:t∈(jQ step es first k j).map (·.1):=by rw[←acu];exact List.mem_of_getElem? hit
  have htU:U t:=by
   obtain⟨r,hr,rfl⟩:=List.mem_map.1 ZO
   exact XY.univ r hr
  obtain rfl:=By (hU1 _ htU) (hU1 _ hUs) XZ.symm
  rw[FL ub (by rw[hs];exact ZO)]at du
  simp(disch:=omega)only[push_cast,aa,↓reduceIte,Nat.reduceEqDiff,Int.reduceEq,fr]
  exact jH _ _ ⟨j+1,ps,A,c,tP,(by simp only[push_cast,↓reduceIte,Nat.reduceEqDiff,true_and,and_true,and_self,eq_self,fr]),by rw[du];exact hL,by omega,Z7,acs,hm8,b8⟩ (by simp only[push_cast,↓reduceIte,Nat.reduceEqDiff,intOf,fr];omega)
 ·have X0:s∉(jQ step es first k j).map (·.1):=fun fN=>by
   rw[←acu]at fN
   obtain⟨i,hi⟩:=List.mem_iff_getElem?.1 fN
   exact gY _ (FP hi) rfl
  rw[FM ub (by rw[hs];exact X0),hs]at du
  simp(disch:=omega)only[push_cast,aa,↓reduceIte,Nat.reduceEqDiff,Int.reduceEq,fr,hl8,nz]
  refine tF eT LM hm8 (jD _) gY _ ?_
  intro w9 m9 g9 z9
  have Z8:=Z7.bQ g9 (.inr fun e=>hm8.gG Z7 e.symm)
  have k9:=k8.grown g9.aJ (by have:=hm6.lt;simp;omega)
  have Pp:∀p∈ps,dq w.heap.size 3 w9 p.W p.w:=fun p hp=>(acs p hp).BP hm8 g9
  have b9:=g9.below b8 b8.size (by intro a ha;injection ha with ha;subst ha;exact zb2)
  have sd:Same w9 w9.drew:=(Same.refl w9).drew
  replace Z8:=Z8.same sd
  replace k9:=k9.same sd
  replace m9:=m9.same sd
  replace Pp:∀p∈ps,dq w.heap.size 3 w9.drew p.W p.w:=fun p hp=>(Pp p hp).same sd
  replace b9:=b9.trans (sd.below _)
  have zd:w9.drew.heap.size=w9.heap.size:=by rw[←sd.heap]
  generalize hu:w9.drew=u at*
  have hl9:=fun{K:Fr→World→Prop} {f:Fr} {d:Option Nat} {w':World}=>k9.cM (K:=K) (f:=f) (d:=d) (w:=w') (af _) al aw
  have hR9:=bq.lt bc (by decide) (bH.fS Z8 bc (by decide))
  have hlw:=fun{K:Fr→World→Prop} {f:Fr} {d:Option Nat} {w':World}=>bq.ld (P:=Tryz.prog) (K:=K) (f:=f) (d:=d) (w:=w') hR9 aS XV (j:=4) p.uB
  have kG:=List.mem_of_getElem? XV
  have TK:∀(xw:World) (MO:Option Addr) (c12:Nat) (Z9:cQ u.heap.size 3 xw MO c12 (p.w++[e])) (iT:Below u.heap.size u xw) (A':Option Addr) (c':Nat) (BH:World) (oR:bH Pc.cells w.heap.size 112 5 BH A' c' (ps++[⟨s,MO,c12,p.w++[e]⟩])) (g14:bJ xw BH A),
    ∃(j':Nat) (Gp:List Pc),j'=j+1∧Gp=ps++[⟨s,MO,c12,p.w++[e]⟩]∧Gp.map Pc.abs=jQ step es first k (j+1)∧Gp.length≤256+(j+1)∧bH Pc.cells w.heap.size 112 5 BH A' c' Gp∧(∀p∈Gp,dq w.heap.size 3 BH p.W p.w)∧df Tryz.prog 107 BH w2.heap.size (x8 (Gp.map (·.s)))∧Below w.heap.size w BH:=by
   intro xw MO c12 Z9 iT A' c' BH oR g14
   have Eu:=Z8.below iT (Nat.le_refl _)
   have m13:=m9.below iT m9.lt
   refine⟨j+1,_,rfl,rfl,?_,by simp;omega,oR,fun r hr=>?_,?_,g14.below (b9.trans (iT.mono b9.size)) (by have:=b9.size;have:=iT.size;omega) Eu.uh⟩
   ·rw[du,List.map_append,hL]
    show _++[(s,p.w++[e])]=_
    rw[Q7]
   ·rcases List.mem_append.1 hr with hr|hr
    ·exact((Pp r hr).below iT).bQ Eu (by decide) g14
    ·rw[List.mem_singleton.1 hr]
     exact(dq.BQ Z9 b9.size).bQ Eu (by decide) g14
   ·rw[Gn]
    exact m13.grown g14.aJ (m13.gG Eu)
  simp(disch:=omega)only[push_cast,aa,↓reduceIte,Nat.reduceEqDiff,Int.reduceEq,fr,hu,hl9,hlw]
  have hwk:p.w.length≤k:=by rw[Q7];exact TI
  rw[tj]
  refine⟨?_,?_⟩
  ·simp(disch:=omega)only[push_cast,aa,↓reduceIte,Nat.reduceEqDiff,Int.reduceEq]
   refine ah (xc (Pp p kG).lt (by omega)) ?_
   rintro v uv ⟨A10,c10,rfl,TL,fM⟩
   simp(disch:=omega)only[push_cast,aa,↓reduceIte,Nat.reduceEqDiff,Int.reduceEq,yS]
   refine⟨fM,fM.alloc fM.size _,?_⟩
   refine tu fq TL e (by omega) fM.size ?_
   intro MO c12 vq Z9 X1 _ _ z12
   have eZ:=X1.below fM fM.size TL.uh
   have Ix:=Z8.below eZ (Nat.le_refl _)
   rw[show p.w.length+1=(p.w++[e]).length by simp]
   simp(disch:=omega)only[push_cast,aa,↓reduceIte,Nat.reduceEqDiff,Int.reduceEq,Iw ⟨s,MO,c12,p.w++[e]⟩,ea bc kz _ (by decide)]
   refine⟨eZ,eZ.alloc eZ.size _,?_⟩
   refine dA bc kz Ix ⟨s,MO,c12,p.w++[e]⟩ (by omega) (by omega) (Nat.le_trans b9.size eZ.size) ?_
   intro A' c' BH oR g14 acv acw Vp
   obtain⟨j',Gp,rfl,rfl,q1,q2,q3,q4,q5,q6⟩:=TK vq MO c12 Z9 eZ A' c' BH oR g14
   simp(disch:=omega)only[push_cast,aa,↓reduceIte,Nat.reduceEqDiff,Int.reduceEq,fr]
   exact jH _ _ ⟨j+1,_,A',c',tP,(by simp only[push_cast,↓reduceIte,Nat.reduceEqDiff,true_and,and_true,and_self,eq_self,fr,List.length_append,List.length_cons,List.length_nil]),q1,q2,q3,q4,q5,q6⟩ (by simp only[push_cast,↓reduceIte,Nat.reduceEqDiff,intOf,fr];omega)
  ·have bE:Below u.heap.size u (u.alloc (.cells [.int .i64 e].toArray 3)):=(Below.refl _ _).alloc (Nat.le_refl _) _
   have oE:=Fu u e 3
   simp(disch:=omega)only[push_cast,aa,↓reduceIte,Nat.reduceEqDiff,Int.reduceEq,yS]
   refine⟨bE,?_⟩
   generalize u.alloc (.cells [.int .i64 e].toArray 3)=uv at*
   refine ah (xc ((Pp p kG).below bE).lt (by omega)) ?_
   rintro v zY ⟨A10,c10,rfl,TL,vK⟩
   have fM:=bE.trans (vK.mono bE.size)
   replace oE:=oE.below vK (Nat.le_refl _)
   replace TL:=TL.base bE.size
   simp(disch:=omega)only[push_cast,aa,↓reduceIte,Nat.reduceEqDiff,Int.reduceEq]
   refine⟨fM,?_⟩
   refine A6 (m:=[e]) fq TL (cQ.ints oE) (by simp;omega) fM.size ?_
   intro MO c12 vq Z9 X1 _ z12
   have eZ:=X1.below fM fM.size TL.uh
   have Ix:=Z8.below eZ (Nat.le_refl _)
   rw[show p.w.length+[e].length=(p.w++[e]).length by simp]
   simp(disch:=omega)only[push_cast,aa,↓reduceIte,Nat.reduceEqDiff,Int.reduceEq,Iw ⟨s,MO,c12,p.w++[e]⟩,ea bc kz _ (by decide)]
   refine⟨eZ,eZ.alloc eZ.size _,?_⟩
   refine dA bc kz Ix ⟨s,MO,c12,p.w++[e]⟩ (by omega) (by omega) (Nat.le_trans b9.size eZ.size) ?_
   intro A' c' BH oR g14 acv acw Vp
   obtain⟨j',Gp,rfl,rfl,q1,q2,q3,q4,q5,q6⟩:=TK vq MO c12 Z9 eZ A' c' BH oR g14
   simp(disch:=omega)only[push_cast,aa,↓reduceIte,Nat.reduceEqDiff,Int.reduceEq,fr]
   exact jH _ _ ⟨j+1,_,A',c',tP,(by simp only[push_cast,↓reduceIte,Nat.reduceEqDiff,true_and,and_true,and_self,eq_self,fr,List.length_append,List.length_cons,List.length_nil]),q1,q2,q3,q4,q5,q6⟩ (by simp only[push_cast,↓reduceIte,Nat.reduceEqDiff,intOf,fr];omega)
open Go.RowKit
structure Kn where
 R:Option Addr
 cr:Nat
 r:List Int
 W:Option Addr
 cw:Nat
 w:List Int
def Kn.cells(p:Kn):List Value:=[.slice p.R p.r.length p.cr,.slice p.W p.w.length p.cw]
def Kn.abs(p:Kn):List Int×List Int:=(p.r,p.w)
theorem uC:C8 Kn.cells 2:=⟨fun _=>rfl,fun p u hu=>by
 unfold Kn.cells at hu
 simp only[List.mem_cons,List.not_mem_nil,or_false]at hu
 rcases hu with rfl|rfl<;>rfl⟩
theorem Gq{step:List Int→Int→List Int}{es first:List Int}(h0:az first 6)(hU:∀s,az s 6→∀e∈es,az (step s e) 6)(k j:Nat):(jQ step es first k j).length≤64:=
 (Bv (U:=fun s=>az s 6) hU h0 k j).len qN 64 (fun _ h=>sC h) (fun _ _ h h' e=>pd h h' e)
theorem jx{p:cO}(h:p.bZ)(s:List Int)(e:Int):az (bo p s e) 6:=(Bt h.1 _ _ _).more h.2.1
theorem gT{p:cO}(h:p.bZ):az (bg p) 6:=(vu h.1).more h.2.1
def BR(o:Option (List Int))(b:Bool)(w:List Int):Prop:=match o with
 |some v=>b=true∧w=v
 |none=>b=false∧w=[]
theorem BR.unique{o:Option (List Int)}{b b':Bool}{w w':List Int}(h:BR o b w)(h':BR o b' w'):b=b'∧w=w':=by
 cases o with
 |none=>exact⟨h.1.trans h'.1.symm,h.2.trans h'.2.symm⟩
 |some v=>exact⟨h.1.trans h'.1.symm,h.2.trans h'.2.symm⟩
noncomputable def j8(aK only:List Int)(s:List Int):Bool:=decide (dx (fc s only true) aK)
open Go.RowKit
theorem Ev{l:List Int}{b:Int}(h:az l b):l.length≤b.toNat:=by
 have:=cP b.toNat (l.map Int.toNat) (by
  rw[List.nodup_iff_pairwise_ne,List.pairwise_map]
  exact(List.nodup_iff_pairwise_ne.1 (aW.nodup h.strict)).imp_of_mem fun{x y} hx hy F4 e=>F4 (by have:=h.mem hx;have:=h.mem hy;omega)) fun x hx=>by
  obtain⟨y,hy,rfl⟩:=List.mem_map.1 hx
  have:=h.mem hy;omega
 simpa using this
theorem cO.bZ.Gr{p:cO}(h:p.bZ):p.seen.length≤8:=by
 have:=Ev h.2.2.1
 have:=h.1.2.2.2.1
 omega
theorem Iy{S:Type}[DecidableEq S]{t:S→Bool}{l:List (S×List Int)}(h:∀x∈l,t x.1=false):iI t l=none:=by
 rcases vv t l with⟨h',_⟩|⟨x,hx,ht,_⟩
 ·exact h'
 ·rw[h x hx]at ht;cases ht
noncomputable def acx(aK s:List Int):Bool:=decide (dx s aK)
def Ew(p:cO)(b:Bool)(o:List Int)(e:Int):Prop:=
 (¬p.bZ∧b=false∧o=[]∧e=2)∨(p.bZ∧e=0∧∃k,(a8 (bo p) p.seen (bg p) k).length=k∧BR (iI (acx p.aK) (a8 (bo p) p.seen (bg p) k)) b o)
def acy(p:cO)(w:World)(v:Value)(w':World):Prop:=
 ∃(b:Bool) (O:Option Addr) (co:Nat) (o:List Int) (e:Int),v= .tuple #[.bool b,.slice O o.length co,.int .i64 e]∧Ints (fun x=>w.heap.size≤x∧x<w'.heap.size) w' O o∧o.length≤100000∧Below w.heap.size w w'∧Ew p b o e
theorem Ex{w:World}{a:PV}{p:cO}(ha:tv (·<w.heap.size) w a p)(hf:p.Fits):dw Tryz.prog 22 [a.val p] w (acy p w):=by
 refine xB (by simp) 100000 fun Q hQ=>?_
 simp(disch:=omega)only[push_cast,aa,↓reduceIte,Nat.reduceEqDiff,Int.reduceEq,rz]
 refine au (aO _ (a.cells p)) ?_
 intro w1 k1 b1 z1
 simp(disch:=omega)only[push_cast,aa,↓reduceIte,Nat.reduceEqDiff,Int.reduceEq,k1.J4]
 refine ah (nC (ha.up b1) hf) ?_
 rintro v w2 ⟨rfl,b2⟩
 replace k1:=k1.below b2 k1.lt
 have bb:=b1.trans (b2.mono b1.size)
 by_cases p1:p.bZ
 case neg=>
  simp(disch:=omega)only[push_cast,aa,↓reduceIte,Nat.reduceEqDiff,Int.reduceEq,decide_eq_false p1]
  exact E9 (hQ _ _ ⟨false,none,0,[],2,(by simp only[push_cast,↓reduceIte,Nat.reduceEqDiff,Int.reduceEq,List.length_nil]),Ints.nil _ _ _,by simp,bb,.inl ⟨p1,rfl,rfl,rfl⟩⟩)
 have hm:=p1.1
 have eU:p.m.aj≤256:=hm.2.1
 have nP:=p1.Gr
 have nQ:=hf.Oh
 have sd:Same w2 w2.drew:=(Same.refl w2).drew
 replace k1:=k1.same sd
 replace bb:=bb.trans (sd.below _)
 generalize hu:w2.drew=u at*
 simp(disch:=omega)only[push_cast,aa,↓reduceIte,Nat.reduceEqDiff,Int.reduceEq,decide_eq_true p1,hu,k1.J4,k1.p5]
 refine ah (aao (ha.up bb) hf hm) ?_
 rintro v w3 ⟨rfl,b3⟩
 have ot:=bb.trans (b3.mono bb.size)
 have k3:=k1.below b3 k1.lt
 simp(disch:=omega)only[push_cast,aa,↓reduceIte,Nat.reduceEqDiff,Int.reduceEq]
 refine⟨b3,?_⟩
 refine ah (sT (step:=bo p) (U:=fun s=>az s 6) (fun s hs=>⟨hs.strict,hs.small (by decide)⟩) (gT p1) (ha.up ot).seen nP (fun s _ e _=>jx p1 s e)
  (fun w' hw s hs e he=>BL (k3.below hw k3.lt) (ha.up (ot.trans (hw.mono ot.size))) hf hm s e)) ?_
 rintro v w4 ⟨A,c,ps,k,rfl,hR,qY,b4,xd,Pk,ahh,TK⟩
 have kh:=ot.trans (b4.mono ot.size)
 have Hh:=b3.trans (b4.mono b3.size)
 have k4:=k3.below b4 k3.lt
 have TH:=Gq (step:=bo p) (es:=p.seen) (gT p1) (fun s _ e _=>jx p1 s e) k 0
 rw[Bu]at TH
 have TF:ps.length=(a8 (bo p) p.seen (bg p) k).length:=by rw[←xd,List.length_map]
 have hke:ps.length=k:=by omega
 have TM:=(jC (step:=bo p) p1.2.2.1.strict (bg p) k).sorted
 have zE:∀x∈ps,az x.s 6:=fun x hx=>by
  have kG:(x.s,x.w)∈a8 (bo p) p.seen (bg p) k:=by rw[←xd];exact List.mem_map.2 ⟨x,hx,rfl⟩
  exact(mu (step:=bo p) (es:=p.seen) (U:=fun s=>az s 6) (fun s _ e _=>jx p1 s e) (gT p1) k).univ _ kG
 have J7:∀(i:Nat) (x:Pc),ps[i]? =some x→x.w.length≤i:=fun i x hx=>by
  have:(a8 (bo p) p.seen (bg p) k)[i]? =some x.abs:=by rw[←xd,List.getElem?_map,hx];rfl
  exact qp _ _ _ _ this
 simp(disch:=omega)only[push_cast,aa,↓reduceIte,Nat.reduceEqDiff,Int.reduceEq]
 refine⟨Hh,?_⟩
 refine ax (fun f w'=>∃(i:Nat),i≤ps.length∧(f 1= .pointer (some ⟨w.heap.size,0,none⟩)∧f 15= .slice A ps.length c∧f 16= .int .i64 ps.length∧f 17= .int .i64 i)∧
   (∀(j:Nat) (x:Pc),j<i→ps[j]? =some x→¬dx x.s p.aK)∧Below w4.heap.size w4 w')
  (fun f _=>ps.length-(intOf (f 17)).toNat) ⟨0,Nat.zero_le _,⟨rfl,rfl,rfl,rfl⟩,fun j x hj=>absurd hj (by omega),Below.refl _ _⟩ ?_
 rintro f w5 ⟨i,hi,fr,gY,b5⟩ J hJ
 have re:=kh.trans (b5.mono kh.size)
 have z34:=b4.size
 have z23:=b3.size
 have hz:=bb.size
 by_cases aI:i<ps.length
 case neg=>
  obtain rfl:i=ps.length:=by omega
  simp(disch:=omega)only[push_cast,aa,↓reduceIte,Nat.reduceEqDiff,Int.reduceEq,je,fr,Nat.lt_irrefl]
  refine E9 (hQ _ _ ⟨false,none,0,[],0,(by simp only[push_cast,↓reduceIte,Nat.reduceEqDiff,Int.reduceEq,List.length_nil]),Ints.nil _ _ _,by simp,re,.inr ⟨p1,rfl,k,by omega,?_⟩⟩)
  rw[Iy fun x hx=>?_]
  ·exact⟨rfl,rfl⟩
  ·rw[←xd]at hx
   obtain⟨y,hy,rfl⟩:=List.mem_map.1 hx
   obtain⟨j,hj⟩:=List.mem_iff_getElem?.1 hy
   exact decide_eq_false (gY j y (fx hj) hj)
 have Po:ps[i]? =some (ps[i]'aI):=List.getElem?_eq_getElem aI
 have kG:ps[i]'aI∈ps:=List.getElem_mem aI
 generalize ps[i]'aI=x at*
 have X2:bq Pc.cells 5 (fun b=>w3.heap.size≤b∧b<w4.heap.size) w5 A ps:=hR.keep fun b hb=>b5.block b hb.2
 have hA:=X2.isSome (by omega)
 have ud:=fun{K:Fr→World→Prop} {f:Fr} {d:Option Nat} {w':World}=>X2.dC (P:=Tryz.prog) (K:=K) (f:=f) (d:=d) (w:=w') bc kU Po dS
 simp(disch:=omega)only[push_cast,aa,↓reduceIte,Nat.reduceEqDiff,Int.reduceEq,je,fr,aI,ud]
 refine au (cs:=Pc.cells ⟨[],none,0,[]⟩) xU ?_
 intro w6 k6 b6 z6
 simp(disch:=omega)only[push_cast,aa,↓reduceIte,Nat.reduceEqDiff,Int.reduceEq]
 refine aC k6 (cs:=Pc.cells x) (by rw[bc.len];exact dS) (by rw[bc.len,bc.len]) (List.all_eq_true.2 (bc.one x)) ?_
 intro w7 k7 g7 z7
 have Ou:=g7.below b6 b6.size (by intro a ha;injection ha with ha;subst ha;exact Nat.le_refl _)
 have b7:=b5.trans (Ou.mono b5.size)
 have Cr:=kh.trans (b7.mono kh.size)
 have ZP:=k4.below b7 k4.lt
 have LN:=fun{K:Fr→World→Prop} {f:Fr} {d:Option Nat} {w':World}=>k7.oZ (P:=Tryz.prog) (K:=K) (f:=f) (d:=d) (w:=w') al 0 (vs:=setCells (ae x.s)) (bn _) x.cell0
 simp(disch:=omega)only[push_cast,aa,↓reduceIte,Nat.reduceEqDiff,Int.reduceEq,fr,ZP.p6,LN]
 refine ah (fX ((zE x kG).small (by decide)) (ha.up Cr).aK (by omega) (p1.2.2.2.small eU)) ?_
 rintro v w8 ⟨rfl,b8⟩
 have b48:=b7.trans (b8.mono b7.size)
 by_cases ht:dx x.s p.aK
 ·have Vj:Same w8 w8.drew:=(Same.refl w8).drew
  have k8:=(k7.below b8 k7.lt).same Vj
  have Pq:=fun{K:Fr→World→Prop} {f:Fr} {d:Option Nat} {w':World}=>k8.ld (P:=Tryz.prog) (K:=K) (f:=f) (d:=d) (w:=w') aS 4 (by rw[bc.len];omega)
  have OJ:(Pc.cells x).getD 4 undef= .slice x.W x.w.length x.cw:=by rw[List.getD_eq_getElem?_getD,x.uB];rfl
  rw[OJ]at Pq
  have bx:=(b48.trans (Vj.below _))
  generalize hu8:w8.drew=u8 at*
  simp(disch:=omega)only[push_cast,aa,↓reduceIte,Nat.reduceEqDiff,Int.reduceEq,decide_eq_true ht,fr,hu8,Pq]
  have hw:=J7 i x Po
  refine E9 (hQ _ _ ⟨true,x.W,x.cw,x.w,0,(by simp only[push_cast,↓reduceIte,Nat.reduceEqDiff,Int.reduceEq]),((qY x kG).keep fun b hb=>bx.block b hb.2).mono fun b hb=>⟨by have:=hb.1;omega,by have:=hb.2;have:=bx.size;omega⟩,by omega,kh.trans (bx.mono kh.size),.inr ⟨p1,rfl,k,by omega,?_⟩⟩)
  rw[Gk TM (k:=i) (x:=x.abs) (by rw[←xd,List.getElem?_map,Po];rfl) (decide_eq_true ht) fun j hj y hy=>?_]
  ·exact⟨rfl,rfl⟩
  ·rw[←xd,List.getElem?_map]at hy
   obtain⟨z,hz,rfl⟩:=Option.map_eq_some_iff.1 hy
   exact decide_eq_false (gY j z hj hz)
 ·simp(disch:=omega)only[push_cast,aa,↓reduceIte,Nat.reduceEqDiff,Int.reduceEq,decide_eq_false ht,fr]
  exact hJ _ _ ⟨i+1,aI,(by simp only[push_cast,↓reduceIte,Nat.reduceEqDiff,true_and,and_true,and_self,eq_self,fr]),fun j y hj hy=>by
   by_cases e:j=i
   ·subst e;rw[Po]at hy;rw[←Option.some.inj hy];exact ht
   ·exact gY j y (by omega) hy,b48⟩ (by simp only[push_cast,↓reduceIte,Nat.reduceEqDiff,intOf,fr];omega)
open Go.RowKit
open Go.RowKit
def yh(ar:List cH)(l:List Int)(e:Int):List Int:=(ar.filter fun a=>decide (a.dI=e)&&decide (a.dt∈l)).map (·.bK)
theorem LO(ar:List cH)(l:List Int)(e:Int)(k:Nat)(h:k<ar.length):
  yh (ar.take (k+1)) l e=if(ar.getD k default).dI=e∧(ar.getD k default).dt∈l then yh (ar.take k) l e++[(ar.getD k default).bK]else yh (ar.take k) l e:=by
 unfold yh
 rw[bS ar default k h,List.filter_append,List.map_append]
 by_cases c:(ar.getD k default).dI=e∧(ar.getD k default).dt∈l
 ·rw[if_pos c,List.filter_cons,if_pos (by rw[Bool.and_eq_true,decide_eq_true_eq,decide_eq_true_eq];exact c)];rfl
 ·rw[if_neg c,List.filter_cons,if_neg (by rw[Bool.and_eq_true,decide_eq_true_eq,decide_eq_true_eq];exact c)];simp
theorem Pr{ar:List cH}{l:List Int}{e x:Int}:x∈yh ar l e↔∃a∈ar,a.dI=e∧a.dt∈l∧a.bK=x:=by
 unfold yh
 simp only[List.mem_map,List.mem_filter,Bool.and_eq_true,decide_eq_true_eq]
 exact⟨fun⟨a,⟨h1,h2,h3⟩,h4⟩=>⟨a,h1,h2,h3,h4⟩,fun⟨a,h1,h2,h3,h4⟩=>⟨a,⟨h1,h2,h3⟩,h4⟩⟩
abbrev Vq(m:aN)(seen:List Int):List (Int×Int):=Hg (FK seen) true m.ag
noncomputable def Gs(m:aN)(seen l:List Int)(e:Int):List Int:=pick (jP (Vq m seen) (yh m.ag l e))
theorem LP{m:aN}(hm:m.bZ){seen:List Int}:∀p∈Vq m seen,0≤p.2∧p.2<m.aj:=fun p hp=>by
 obtain⟨a,ha,_,rfl⟩:=zV.1 hp
 exact(bZ.arr hm ha).1
theorem vw{m:aN}(hm:m.bZ)(l:List Int)(e:Int):∀x∈yh m.ag l e,0≤x∧x<m.aj:=fun x hx=>by
 obtain⟨a,ha,_,_,rfl⟩:=Pr.1 hx
 exact(bZ.arr hm ha).1
theorem y8{m:aN}(hm:m.bZ){seen l:List Int}(hl:∀x∈l,0≤x∧x<m.aj){x:Int}(h:jP (Vq m seen) l x):0≤x∧x<m.aj:=
 jP.all (p:=fun x=>0≤x∧x<m.aj) hl (fun p hp _=>LP hm p hp) h
theorem LQ{m:aN}(hm:m.bZ){seen l:List Int}{e x:Int}:x∈Gs m seen l e↔jP (Vq m seen) (yh m.ag l e) x:=by
 unfold Gs
 rw[wL]
 exact⟨fun h=>h.2,fun h=>⟨by have:=y8 hm (vw hm l e) h;have:=hm.2.1;omega,h⟩⟩
theorem LR{m:aN}(hm:m.bZ)(seen l:List Int)(e:Int):az (Gs m seen l e) m.aj:=Br fun x hx=>(y8 hm (vw hm l e) hx).2
def vz(m:aN)(seen l:List Int):Prop:=∀a∈m.ag,a.dI∉seen→a.dt∈l→a.bK∈l
theorem Ey{m:aN}(hm:m.bZ)(seen l:List Int)(e:Int):vz m seen (Gs m seen l e):=fun a ha hs ht=>by
 rw[LQ hm]at ht ⊢
 exact jP.step (a.dt,a.bK) (zV.2 ⟨a,ha,by simpa[FK]using hs,rfl⟩) ht
theorem TN(n:Int)(h:0≤n)(h1:n≤256):az (Lj n.toNat) n:=az.kZ (Iq _) fun x hx=>by
 have:=JD.1 hx;omega
theorem Iz{m:aN}(hm:m.bZ)(seen:List Int):vz m seen (Lj m.aj.toNat):=fun a ha _ _=>by
 have:=(bZ.arr hm ha).1
 exact JD.2 ⟨this.1,by omega⟩
noncomputable abbrev dv(p:cO):List Int→Int→List Int:=Gs p.m p.seen
noncomputable abbrev oe(p:cO):List Int:=Lj p.m.aj.toNat
noncomputable def IA(p:cO)(word:List Int):List Int:=word.foldr (fun e s=>dv p s e) (oe p)
def UB(p:cO)(s:List Int):Prop:=az s p.m.aj∧vz p.m p.seen s
theorem UB.all{p:cO}(h:p.m.bZ):UB p (oe p):=⟨TN _ (by have:=h.1;omega) h.2.1,Iz h _⟩
theorem UB.back{p:cO}(h:p.m.bZ)(s:List Int)(e:Int):UB p (dv p s e):=⟨LR h _ _ _,Ey h _ _ _⟩
open Go.RowKit
theorem Ps(k:Nat):Lj (k+1)=Lj k++[(k:Int)]:=by unfold Lj;rw[List.range_succ,List.map_append];rfl
theorem Gt{w:World}{a:MV}{m:aN}(h:zj (·<w.heap.size) w a m)(h0:0≤m.aj)(h1:m.aj≤256):
  dw Tryz.prog 98 [a.val m] w fun v w'=>v=bC (Lj m.aj.toNat)∧Below w.heap.size w w':=by
 refine zv (by simp) 100000 fun Q hQ=>?_
 simp(disch:=omega)only[push_cast,aa,↓reduceIte,Nat.reduceEqDiff,Int.reduceEq,uq]
 refine au (aO _ (a.cells m)) ?_
 intro w1 k1 b1 z1
 simp(disch:=omega)only[push_cast,aa,↓reduceIte,Nat.reduceEqDiff,Int.reduceEq]
 refine au (cs:=setCells (ae [])) cB ?_
 intro w2 k2 b2 z2
 replace k1:=k1.below b2 k1.lt
 have bb:=b1.trans (b2.mono b1.size)
 simp(disch:=omega)only[push_cast,aa,↓reduceIte,Nat.reduceEqDiff,Int.reduceEq]
 refine au (cs:=setCells (ae [])) cB ?_
 intro w3 k3 b3 z3
 replace k1:=k1.below b3 k1.lt
 replace k2:=k2.below b3 k2.lt
 replace bb:=bb.trans (b3.mono bb.size)
 simp(disch:=omega)only[push_cast,aa,↓reduceIte,Nat.reduceEqDiff,Int.reduceEq,k1.m0 ak]
 refine ax (fun f w'=>∃k:Nat,(k:Int)≤m.aj∧(f 2= .pointer (some ⟨w1.heap.size,0,none⟩)∧f 3= .pointer (some ⟨w2.heap.size,0,none⟩)∧f 6= .int .i64 m.aj∧f 7= .int .i64 k)∧
   aE w' w1.heap.size 107 (setCells (ae []))∧aE w' w2.heap.size 107 (setCells (ae (Lj k)))∧Below w.heap.size w w')
  (fun f _=>m.aj.toNat-(intOf (f 7)).toNat) ⟨0,h0,⟨rfl,rfl,rfl,rfl⟩,k2,k3,bb⟩ ?_
 clear k1 k2 k3 bb
 rintro f w4 ⟨k,hk,fr,k2,k3,bb⟩ J hJ
 by_cases aI:(k:Int)<m.aj
 case neg=>
  obtain rfl:k=m.aj.toNat:=by omega
  simp(disch:=omega)only[push_cast,aa,↓reduceIte,Nat.reduceEqDiff,Int.reduceEq,aae,fr,aI,k3.cM (af _) al aw]
  refine aC k2 (cs:=setCells (ae (Lj m.aj.toNat))) (bn _) (by rw[ao,ao]) (aH _) ?_
  intro w5 k5 g5 z5
  simp(disch:=omega)only[push_cast,aa,↓reduceIte,Nat.reduceEqDiff,Int.reduceEq]
  exact zk k5 al (bn _) (by simp only[push_cast,↓reduceIte,Nat.reduceEqDiff,Int.reduceEq,fr]) (hQ _ _ ⟨rfl,g5.below bb bb.size (by intro a ha;injection ha with ha;subst ha;show w.heap.size≤w1.heap.size;omega)⟩)
 simp(disch:=omega)only[push_cast,aa,↓reduceIte,Nat.reduceEqDiff,Int.reduceEq,aae,fr,aI]
 refine ah (pc k (by omega) (by omega) k3) ?_
 rintro v w5 ⟨rfl,k5,g5,z5⟩
 simp(disch:=omega)only[push_cast,aa,↓reduceIte,Nat.reduceEqDiff,Int.reduceEq,fr]
 exact hJ _ _ ⟨k+1,by omega,(by simp only[push_cast,↓reduceIte,Nat.reduceEqDiff,true_and,and_true,and_self,eq_self,fr]),k2.grown g5.aJ (by simp;omega),by rw[Ps];exact k5,g5.below bb bb.size (by intro a ha;injection ha with ha;subst ha;show w.heap.size≤w2.heap.size;omega)⟩ (by simp only[push_cast,↓reduceIte,Nat.reduceEqDiff,intOf,fr];omega)
theorem Ez{w:World}{a:PV}{p:cO}(ha:tv (·<w.heap.size) w a p)(hf:p.Fits)(hm:p.m.bZ)(s:List Int)(e:Int):
  dw Tryz.prog 99 [a.val p,bC s,.int .i64 e] w fun v w'=>v=bC (dv p s e)∧Below w.heap.size w w':=by
 have hr:=bZ.JF hm
 have nA:=hm.2.2.2.2.1
 have nP:=hf.HM
 have hE:∀q∈Vq p.m p.seen,0≤q.2∧q.2<256:=hr.Hg (FK p.seen) true
 have hEE:Hg (FK p.seen) true p.m.ag=Vq p.m p.seen:=rfl
 have jN:Small (yh p.m.ag s e):=fun x hx=>by have:=vw hm s e x hx;have:=hm.2.1;omega
 refine xL (by simp) 100000 fun Q hQ=>?_
 simp(disch:=omega)only[push_cast,aa,↓reduceIte,Nat.reduceEqDiff,Int.reduceEq,sf]
 refine au (aO _ (a.cells p)) ?_
 intro w1 kP b1 z1
 simp(disch:=omega)only[push_cast,aa,↓reduceIte,Nat.reduceEqDiff,Int.reduceEq]
 refine au (aO _ (setCells (ae s))) ?_
 intro w2 k1 b2 z2
 replace kP:=kP.below b2 kP.lt
 have bb:=b1.trans (b2.mono b1.size)
 simp(disch:=omega)only[push_cast,aa,↓reduceIte,Nat.reduceEqDiff,Int.reduceEq]
 refine au (cs:=setCells (ae [])) cB ?_
 intro w3 k2 b3 z3
 replace kP:=kP.below b3 kP.lt
 replace k1:=k1.below b3 k1.lt
 replace bb:=bb.trans (b3.mono bb.size)
 simp(disch:=omega)only[push_cast,aa,↓reduceIte,Nat.reduceEqDiff,Int.reduceEq]
 refine au (cs:=setCells (ae [])) cB ?_
 intro w4 k3 b4 z4
 replace kP:=kP.below b4 kP.lt
 replace k1:=k1.below b4 k1.lt
 replace k2:=k2.below b4 k2.lt
 replace bb:=bb.trans (b4.mono bb.size)
 simp(disch:=omega)only[push_cast,aa,↓reduceIte,Nat.reduceEqDiff,Int.reduceEq,kP.p3]
 refine ax (fun f' w'=>∃k:Nat,k≤p.m.ag.length∧(f' 2= .int .i64 e∧f' 3= .pointer (some ⟨w.heap.size,0,none⟩)∧f' 4= .pointer (some ⟨w1.heap.size,0,none⟩)∧f' 6= .pointer (some ⟨w2.heap.size,0,none⟩)∧f' 7= .pointer (some ⟨w3.heap.size,0,none⟩)∧f' 15= .slice a.m.Aa p.m.ag.length a.m.ca∧f' 16= .int .i64 p.m.ag.length∧f' 17= .int .i64 k)∧
   aE w' w.heap.size 67 (a.cells p)∧aE w' w1.heap.size 107 (setCells (ae s))∧aE w' w2.heap.size 107 (setCells (ae []))∧aE w' w3.heap.size 107 (setCells (ae (yh (p.m.ag.take k) s e)))∧Below w.heap.size w w')
  (fun f' _=>p.m.ag.length-(intOf (f' 17)).toNat) ⟨0,Nat.zero_le _,⟨rfl,rfl,rfl,rfl,rfl,rfl,rfl,rfl⟩,kP,k1,k2,k3,bb⟩ ?_
 clear kP k1 k2 k3 bb
 rintro f w7 ⟨k,hk,fr,kP,k1,k2,k3,bb⟩ J hJ
 have zb:=bb.size
 by_cases aI:k<p.m.ag.length
 case pos=>
  have hI:=(ha.up bb).m.ag
  have hA:=hI.isSome (by omega)
  have pD:=LO p.m.ag s e k aI
  have HP:=bY p.m.ag default k aI
  simp(disch:=omega)only[push_cast,aa,↓reduceIte,Nat.reduceEqDiff,Int.reduceEq,jq,fr,aI,hI.CH vI bz]
  refine au sr ?_
  intro w8 k8 b8 z8
  simp(disch:=omega)only[push_cast,aa,↓reduceIte,Nat.reduceEqDiff,Int.reduceEq]
  refine aC k8 (cs:=ay (p.m.ag.getD k default)) bz rfl (by simp[ay,Value.oneCell']) ?_
  intro w9 k9 g9 z9
  generalize hy:p.m.ag.getD k default=y at*
  obtain⟨QS,QT⟩:=hr y HP
  have b9:Below w7.heap.size w7 w9:=g9.below b8 (by omega) (by intro a ha;injection ha with ha;subst ha;exact Nat.le_refl _)
  replace kP:=kP.below b9 kP.lt
  replace k1:=k1.below b9 k1.lt
  replace k2:=k2.below b9 k2.lt
  replace k3:=k3.below b9 k3.lt
  replace bb:=bb.trans (b9.mono bb.size)
  by_cases q1:y.dI=e
  case neg=>
   rw[if_neg (fun hh=>q1 hh.1)]at pD
   simp(disch:=omega)only[push_cast,aa,↓reduceIte,Nat.reduceEqDiff,Int.reduceEq,fr,k9.a1 ak,q1]
   exact hJ _ _ ⟨k+1,aI,(by simp only[push_cast,↓reduceIte,Nat.reduceEqDiff,true_and,and_true,and_self,eq_self,fr]),kP,k1,k2,by rw[pD];exact k3,bb⟩ (by simp only[push_cast,↓reduceIte,Nat.reduceEqDiff,intOf,fr];omega)
  simp(disch:=omega)only[push_cast,aa,↓reduceIte,Nat.reduceEqDiff,Int.reduceEq,fr,k9.a1 ak,q1,eq_self,k9.a2 ak,k1.cM (af _) al aw]
  refine ah (pb _ y.dt QT.1 QT.2 _) ?_
  rintro v uv ⟨rfl,fM⟩
  replace kP:=kP.below fM kP.lt
  replace k1:=k1.below fM k1.lt
  replace k2:=k2.below fM k2.lt
  replace k3:=k3.below fM k3.lt
  replace k9:=k9.below fM k9.lt
  replace bb:=bb.trans (fM.mono bb.size)
  by_cases q2:y.dt∈s
  case neg=>
   rw[if_neg (fun hh=>q2 hh.2)]at pD
   simp(disch:=omega)only[push_cast,aa,↓reduceIte,Nat.reduceEqDiff,Int.reduceEq,fr,decide_eq_false q2]
   exact hJ _ _ ⟨k+1,aI,(by simp only[push_cast,↓reduceIte,Nat.reduceEqDiff,true_and,and_true,and_self,eq_self,fr]),kP,k1,k2,by rw[pD];exact k3,bb⟩ (by simp only[push_cast,↓reduceIte,Nat.reduceEqDiff,intOf,fr];omega)
  rw[if_pos ⟨q1,q2⟩]at pD
  simp(disch:=omega)only[push_cast,aa,↓reduceIte,Nat.reduceEqDiff,Int.reduceEq,fr,decide_eq_true q2,k9.a0 ak]
  refine ah (pc y.bK QS.1 QS.2 k3) ?_
  rintro v vq ⟨rfl,y6,g12,z12⟩
  simp(disch:=omega)only[push_cast,aa,↓reduceIte,Nat.reduceEqDiff,Int.reduceEq,fr]
  exact hJ _ _ ⟨k+1,aI,(by simp only[push_cast,↓reduceIte,Nat.reduceEqDiff,true_and,and_true,and_self,eq_self,fr]),kP.grown g12.aJ (by simp;omega),k1.grown g12.aJ (by simp;omega),k2.grown g12.aJ (by simp;omega),by rw[pD];exact y6,g12.below bb bb.size (by intro a ha;injection ha with ha;subst ha;show w.heap.size≤w3.heap.size;omega)⟩ (by simp only[push_cast,↓reduceIte,Nat.reduceEqDiff,intOf,fr];omega)
 obtain rfl:k=p.m.ag.length:=by omega
 rw[List.take_length]at k3
 simp(disch:=omega)only[push_cast,aa,↓reduceIte,Nat.reduceEqDiff,Int.reduceEq,jq,fr,Nat.lt_irrefl,tG]
 refine au (cs:=setCells (ae [])) cB ?_
 intro w8 k8 b8 z8
 have lM:=kP.lt
 have l1:=k1.lt
 have l2:=k2.lt
 have lz:=k3.lt
 replace kP:=kP.below b8 kP.lt
 replace k1:=k1.below b8 k1.lt
 replace k2:=k2.below b8 k2.lt
 replace k3:=k3.below b8 k3.lt
 replace bb:=bb.trans (b8.mono bb.size)
 simp(disch:=omega)only[push_cast,aa,↓reduceIte,Nat.reduceEqDiff,Int.reduceEq]
 refine aC k8 (cs:=setCells (ae [])) (bn []) (by rw[ao]) (aH _) ?_
 intro w9 k9 g9 z9
 replace kP:=kP.grown g9.aJ (by simp;omega)
 replace k1:=k1.grown g9.aJ (by simp;omega)
 replace k2:=k2.grown g9.aJ (by simp;omega)
 replace k3:=k3.grown g9.aJ (by simp;omega)
 replace bb:=g9.below bb bb.size (by intro a ha;injection ha with ha;subst ha;show w.heap.size≤w7.heap.size;omega)
 simp(disch:=omega)only[push_cast,aa,↓reduceIte,Nat.reduceEqDiff,Int.reduceEq,fr]
 refine wE (fun n f' w'=>∃(g:Nat) (was l':List Int),n=left was l'∧(f' 3= .pointer (some ⟨w.heap.size,0,none⟩)∧f' 6= .pointer (some ⟨w2.heap.size,0,none⟩)∧f' 7= .pointer (some ⟨w3.heap.size,0,none⟩)∧f' 10= .pointer (some ⟨g,0,none⟩))∧
   mq (Vq p.m p.seen) (yh p.m.ag s e) was l'∧w3.heap.size<g∧aE w' w.heap.size 67 (a.cells p)∧aE w' w2.heap.size 107 (setCells (ae []))∧aE w' w3.heap.size 107 (setCells (ae l'))∧aE w' g 107 (setCells (ae was))∧Below w.heap.size w w')
  (n0:=left [] (yh p.m.ag s e)) ⟨w7.heap.size,[],_,rfl,(by simp only[push_cast,↓reduceIte,Nat.reduceEqDiff,true_and,and_true,and_self,eq_self,fr]),mq.start _ jN,by omega,kP,k2,k3,k9,bb⟩ ?_
 clear kP k1 k2 k3 k9 k8 bb g9
 rintro _ f w5 ⟨g,was,l',rfl,fr,hS,hg,kP,k2,k1,k3,bb⟩ J hJ
 have zb:=bb.size
 by_cases hw:ae was=ae l'
 ·simp(disch:=omega)only[push_cast,aa,↓reduceIte,Nat.reduceEqDiff,Int.reduceEq,jo,fr,tC,decide_eq_true hw,k1.cM (af _) al aw,k3.cM (af _) al aw]
  refine aC k2 (cs:=setCells (ae l')) (bn l') (by rw[ao,ao]) (aH _) ?_
  intro w6 k6 g6 z6
  simp(disch:=omega)only[push_cast,aa,↓reduceIte,Nat.reduceEqDiff,Int.reduceEq]
  exact zk k6 al (bn l') (by simp only[push_cast,↓reduceIte,Nat.reduceEqDiff,true_and,and_true,and_self,eq_self,fr]) (hQ _ _ ⟨hS.done hw,g6.below bb bb.size (by intro a ha;injection ha with ha;subst ha;show w.heap.size≤w2.heap.size;omega)⟩)
 have aI:=Jw hS.small hE hw
 have Oq:=hS.next hE
 simp(disch:=omega)only[push_cast,aa,↓reduceIte,Nat.reduceEqDiff,Int.reduceEq,jo,fr,tC,decide_eq_false hw,k1.cM (af _) al aw,k3.cM (af _) al aw]
 refine aC k3 (cs:=setCells (ae l')) (bn l') (by rw[ao,ao]) (aH _) ?_
 intro w6 k6 g6 z6
 replace kP:=kP.grown g6.aJ (by simp;omega)
 replace k1:=k1.grown g6.aJ (by simp;omega)
 replace k2:=k2.grown g6.aJ (by simp;omega)
 replace bb:=g6.below bb bb.size (by intro a ha;injection ha with ha;subst ha;show w.heap.size≤g;omega)
 simp(disch:=omega)only[push_cast,aa,↓reduceIte,Nat.reduceEqDiff,Int.reduceEq,fr,kP.p3]
 refine ax (fun f' w'=>∃k:Nat,k≤p.m.ag.length∧(f' 3= .pointer (some ⟨w.heap.size,0,none⟩)∧f' 6= .pointer (some ⟨w2.heap.size,0,none⟩)∧f' 7= .pointer (some ⟨w3.heap.size,0,none⟩)∧f' 10= .pointer (some ⟨g,0,none⟩)∧f' 42= .slice a.m.Aa p.m.ag.length a.m.ca∧f' 43= .int .i64 p.m.ag.length∧f' 44= .int .i64 k)∧
   aE w' w.heap.size 67 (a.cells p)∧aE w' w3.heap.size 107 (setCells (ae (sF (FK p.seen) true p.m.ag l' k)))∧aE w' w2.heap.size 107 (setCells (ae []))∧aE w' g 107 (setCells (ae l'))∧Below w.heap.size w w')
  (fun f' _=>p.m.ag.length-(intOf (f' 44)).toNat) ⟨0,Nat.zero_le _,(by simp only[push_cast,↓reduceIte,Nat.reduceEqDiff,true_and,and_true,and_self,eq_self,fr]),kP,k1,k2,k6,bb⟩ ?_
 clear kP k1 k2 k6 bb fr
 rintro f w7 ⟨k,hk,fr,kP,k1,k2,k3,bb⟩ J2 jH
 have zb:=bb.size
 by_cases kI:k<p.m.ag.length
 case neg=>
  obtain rfl:k=p.m.ag.length:=by omega
  rw[Dh,hEE]at k1
  simp(disch:=omega)only[push_cast,aa,↓reduceIte,Nat.reduceEqDiff,Int.reduceEq,jn,fr,Nat.lt_irrefl,k3.cM (af _) al aw]
  refine au (cs:=setCells (ae [])) cB ?_
  intro w8 k8 b8 z8
  have lM:=kP.lt
  have l1:=k1.lt
  have l2:=k2.lt
  replace kP:=kP.below b8 kP.lt
  replace k1:=k1.below b8 k1.lt
  replace k2:=k2.below b8 k2.lt
  replace bb:=bb.trans (b8.mono bb.size)
  simp(disch:=omega)only[push_cast,aa,↓reduceIte,Nat.reduceEqDiff,Int.reduceEq,fr]
  refine aC k8 (cs:=setCells (ae l')) (bn l') (by rw[ao,ao]) (aH _) ?_
  intro w9 k9 g9 z9
  replace kP:=kP.grown g9.aJ (by simp;omega)
  replace k1:=k1.grown g9.aJ (by simp;omega)
  replace k2:=k2.grown g9.aJ (by simp;omega)
  replace bb:=g9.below bb bb.size (by intro a ha;injection ha with ha;subst ha;exact zb)
  simp(disch:=omega)only[push_cast,aa,↓reduceIte,Nat.reduceEqDiff,Int.reduceEq,fr]
  exact hJ _ _ _ ⟨w7.heap.size,l',fv (Vq p.m p.seen) l',rfl,(by simp only[push_cast,↓reduceIte,Nat.reduceEqDiff,true_and,and_true,and_self,eq_self,fr]),Oq,by omega,kP,k2,k1,k9,bb⟩ aI
 have hI:=(ha.up bb).m.ag
 have hA:=hI.isSome (by omega)
 have pD:=Bs (FK p.seen) true p.m.ag l' k kI
 have HP:=bY p.m.ag default k kI
 simp(disch:=omega)only[push_cast,aa,↓reduceIte,Nat.reduceEqDiff,Int.reduceEq,jn,fr,kI,hI.CH vI bz]
 refine au sr ?_
 intro w8 k8 b8 z8
 simp(disch:=omega)only[push_cast,aa,↓reduceIte,Nat.reduceEqDiff,Int.reduceEq]
 refine aC k8 (cs:=ay (p.m.ag.getD k default)) bz rfl (by simp[ay,Value.oneCell']) ?_
 intro w9 k9 g9 z9
 generalize hy:p.m.ag.getD k default=y at*
 obtain⟨QS,QT⟩:=hr y HP
 have b9:Below w7.heap.size w7 w9:=g9.below b8 (by omega) (by intro a ha;injection ha with ha;subst ha;exact Nat.le_refl _)
 replace kP:=kP.below b9 kP.lt
 replace k1:=k1.below b9 k1.lt
 replace k2:=k2.below b9 k2.lt
 replace k3:=k3.below b9 k3.lt
 replace bb:=bb.trans (b9.mono bb.size)
 simp(disch:=omega)only[push_cast,aa,↓reduceIte,Nat.reduceEqDiff,Int.reduceEq,fr,k9.a2 ak,k1.cM (af _) al aw]
 refine ah (pb _ y.dt QT.1 QT.2 _) ?_
 rintro v uv ⟨rfl,fM⟩
 replace kP:=kP.below fM kP.lt
 replace k1:=k1.below fM k1.lt
 replace k2:=k2.below fM k2.lt
 replace k3:=k3.below fM k3.lt
 replace k9:=k9.below fM k9.lt
 replace bb:=bb.trans (fM.mono bb.size)
 by_cases q2:y.dt∈sF (FK p.seen) true p.m.ag l' k
 case neg=>
  rw[if_neg (fun hh=>q2 hh.2)]at pD
  simp(disch:=omega)only[push_cast,aa,↓reduceIte,Nat.reduceEqDiff,Int.reduceEq,fr,decide_eq_false q2]
  exact jH _ _ ⟨k+1,kI,(by simp only[push_cast,↓reduceIte,Nat.reduceEqDiff,true_and,and_true,and_self,eq_self,fr]),kP,by rw[pD];exact k1,k2,k3,bb⟩ (by simp only[push_cast,↓reduceIte,Nat.reduceEqDiff,intOf,fr];omega)
 simp(disch:=omega)only[push_cast,aa,↓reduceIte,Nat.reduceEqDiff,Int.reduceEq,fr,decide_eq_true q2,kP.p5,k9.a1 ak]
 refine ah (nt (ha.up bb).seen a.cp y.dI (by omega)) ?_
 rintro v zY ⟨rfl,LI⟩
 replace kP:=kP.same LI
 replace k1:=k1.same LI
 replace k2:=k2.same LI
 replace k3:=k3.same LI
 replace k9:=k9.same LI
 replace bb:=bb.trans (LI.below _)
 by_cases q3:y.dI∈p.seen
 ·rw[if_neg (fun hh=>by have:=hh.1;simp[FK,q3]at this)]at pD
  simp(disch:=omega)only[push_cast,aa,↓reduceIte,Nat.reduceEqDiff,Int.reduceEq,fr,decide_eq_true q3]
  exact jH _ _ ⟨k+1,kI,(by simp only[push_cast,↓reduceIte,Nat.reduceEqDiff,true_and,and_true,and_self,eq_self,fr]),kP,by rw[pD];exact k1,k2,k3,bb⟩ (by simp only[push_cast,↓reduceIte,Nat.reduceEqDiff,intOf,fr];omega)
 rw[if_pos ⟨by simp[FK,q3],q2⟩]at pD
 simp(disch:=omega)only[push_cast,aa,↓reduceIte,Nat.reduceEqDiff,Int.reduceEq,fr,decide_eq_false q3,k9.a0 ak]
 refine ah (pc y.bK QS.1 QS.2 k1) ?_
 rintro v vq ⟨rfl,y6,g12,z12⟩
 simp(disch:=omega)only[push_cast,aa,↓reduceIte,Nat.reduceEqDiff,Int.reduceEq,fr]
 exact jH _ _ ⟨k+1,kI,(by simp only[push_cast,↓reduceIte,Nat.reduceEqDiff,true_and,and_true,and_self,eq_self,fr]),kP.grown g12.aJ (by simp;omega),by rw[pD];exact y6,k2.grown g12.aJ (by simp;omega),k3.grown g12.aJ (by simp;omega),g12.below bb bb.size (by intro a ha;injection ha with ha;subst ha;show w.heap.size≤w3.heap.size;omega)⟩ (by simp only[push_cast,↓reduceIte,Nat.reduceEqDiff,intOf,fr];omega)
theorem mH{ok vJ:Nat→Prop}{w:World}{A A':Option Addr}{l m:List Int}(h:Ints ok w A l)(h':Ints vJ w A' m)(c c':Nat)(hl:l.length≤9223372036854775807):
  dw Tryz.prog 100 [.slice A l.length c,.slice A' m.length c'] w fun v w'=>∃z:Int,v= .int .i64 z∧(-1≤z∧z≤1)∧(l.length=m.length→(z<0↔hZ l m)∧(z=0↔l=m))∧Same w w':=by
 refine vc (by simp) 100000 fun Q hQ=>?_
 simp(disch:=omega)only[push_cast,aa,↓reduceIte,Nat.reduceEqDiff,Int.reduceEq,oQ]
 refine ax (fun f w'=>∃k:Nat,k≤l.length∧(f 0= .slice A l.length c∧f 1= .slice A' m.length c'∧f 9= .slice A l.length c∧f 10= .int .i64 l.length∧f 11= .int .i64 k)∧(∀i,i<k→i<m.length∧l.getD i 0=m.getD i 0)∧Same w w')
  (fun f _=>l.length-(intOf (f 11)).toNat) ⟨0,Nat.zero_le _,⟨rfl,rfl,rfl,rfl,rfl⟩,fun i hi=>absurd hi (by omega),Same.refl w⟩ ?_
 rintro f w1 ⟨k,hk,fr,hp,s1⟩ J hJ
 by_cases aI:k<l.length
 case neg=>
  by_cases c1:(l.length:Int)<(m.length:Int)
  ·simp(disch:=omega)only[push_cast,aa,↓reduceIte,Nat.reduceEqDiff,Int.reduceEq,dF,fr,aI,c1]
   exact aF (hQ _ _ ⟨-1,(by simp only[push_cast,↓reduceIte,Nat.reduceEqDiff,Int.reduceEq]),by omega,fun e=>by omega,s1⟩)
  ·simp(disch:=omega)only[push_cast,aa,↓reduceIte,Nat.reduceEqDiff,Int.reduceEq,dF,fr,aI,c1]
   refine aF (hQ _ _ ⟨0,(by simp only[push_cast,↓reduceIte,Nat.reduceEqDiff,Int.reduceEq]),by omega,fun e=>?_,s1⟩)
   have:l=m:=wu 0 e fun i hi=>(hp i (by omega)).2
   subst this
   exact⟨⟨fun h=>absurd h (by omega),fun h=>absurd h (hZ.irrefl _)⟩,by simp⟩
 have hI:=h.same s1
 have hI':=h'.same s1
 have hA:=hI.isSome (by omega)
 by_cases c1:k<m.length
 case neg=>
  have c1':(m.length:Int)≤(k:Int):=by omega
  simp(disch:=omega)only[push_cast,aa,↓reduceIte,Nat.reduceEqDiff,Int.reduceEq,dF,fr,aI,hI.ld ak,c1']
  exact aF (hQ _ _ ⟨1,(by simp only[push_cast,↓reduceIte,Nat.reduceEqDiff,Int.reduceEq]),by omega,fun e=>by omega,s1⟩)
 have c1':¬(m.length:Int)≤(k:Int):=by omega
 have hA':=hI'.isSome (by omega)
 simp(disch:=omega)only[push_cast,aa,↓reduceIte,Nat.reduceEqDiff,Int.reduceEq,dF,fr,aI,hI.ld ak,hI'.ld ak,c1,c1']
 refine ah (gL _ _ _) ?_
 rintro v w2 ⟨rfl,s2⟩
 have s12:=s1.trans s2
 by_cases c2:l.getD k 0=m.getD k 0
 ·have e0:fT (l.getD k 0) (m.getD k 0)=0:=by unfold fT;rw[if_neg (by omega),if_neg (by omega)]
  simp(disch:=omega)only[push_cast,aa,↓reduceIte,Nat.reduceEqDiff,Int.reduceEq,e0,fr,eq_self]
  exact hJ _ _ ⟨k+1,aI,(by simp only[push_cast,↓reduceIte,Nat.reduceEqDiff,true_and,and_true,and_self,eq_self,fr]),fun i hi=>if e:i=k then e▸⟨c1,c2⟩else hp i (by omega),s12⟩ (by simp only[push_cast,↓reduceIte,Nat.reduceEqDiff,intOf,fr];omega)
 ·have cY:¬fT (l.getD k 0) (m.getD k 0)=0:=by unfold fT;split;omega;split;omega;omega
  simp(disch:=omega)only[push_cast,aa,↓reduceIte,Nat.reduceEqDiff,Int.reduceEq,cY]
  refine aF (hQ _ _ ⟨fT (l.getD k 0) (m.getD k 0),(by simp only[push_cast,↓reduceIte,Nat.reduceEqDiff,Int.reduceEq]),by unfold fT;split;omega;split<;>omega,fun e=>⟨⟨fun hz=>?_,fun hs=>?_⟩,fun hz=>absurd hz cY,fun he=>by rw[he]at c2;exact absurd rfl c2⟩,s12⟩)
  ·refine .inr ⟨e,k,aI,fun j hj=>(hp j hj).2,?_⟩
   unfold fT at hz
   split at hz
   ·assumption
   ·split at hz<;>omega
  ·rcases hs with hs|⟨_,i,hi,he,hs⟩
   ·omega
   ·rcases Nat.lt_trichotomy i k with d|rfl|d
    ·rw[(hp i d).2]at hs;omega
    ·unfold fT;rw[if_pos hs];omega
    ·exact absurd (he k d) c2
theorem sU{ok vJ:Nat→Prop}{w:World}{A A':Option Addr}{l m:List Int}(h:Ints ok w A l)(h':Ints vJ w A' m)(c c':Nat)(hl:l.length≤9223372036854775807):
  dw Tryz.prog 59 [.slice A l.length c,.slice A' m.length c'] w fun v w'=>v= .bool (decide (hZ l m))∧Same w w':=by
 refine uZ (by simp) 100000 fun Q hQ=>?_
 by_cases hlen:(l.length:Int)=(m.length:Int)
 case neg=>
  have r:decide (hZ l m)=decide ((l.length:Int)<(m.length:Int)):=decide_eq_decide.2 ⟨fun h=>by rcases h with h|⟨h,_⟩<;>omega,fun h=>.inl (by omega)⟩
  simp(disch:=omega)only[push_cast,aa,↓reduceIte,Nat.reduceEqDiff,Int.reduceEq,jj,hlen]
  exact aF (hQ _ _ ⟨(by simp only[push_cast,↓reduceIte,Nat.reduceEqDiff,Int.reduceEq,r]),Same.refl _⟩)
 simp(disch:=omega)only[push_cast,aa,↓reduceIte,Nat.reduceEqDiff,Int.reduceEq,jj,hlen,eq_self]
 refine ah (mH h h' c c' hl) ?_
 rintro v w2 ⟨z,rfl,_,hz,s2⟩
 have r:decide (hZ l m)=decide (z<0):=decide_eq_decide.2 (hz (by omega)).1.symm
 simp(disch:=omega)only[push_cast,aa,↓reduceIte,Nat.reduceEqDiff,Int.reduceEq]
 exact aF (hQ _ _ ⟨(by simp only[push_cast,↓reduceIte,Nat.reduceEqDiff,Int.reduceEq,r]),s2⟩)
open Go.RowKit
section
variable {α:Type} {enc:α→List Value} {sz:Nat} {P:Program} {K:Fr→World→Prop} {w:World} {f:Fr} {d:Option Nat} {A:Option Addr} {l:List α} {B e bytes t ty c:Nat}
theorem EA(w:World)(cs:List Value)(e:TypeId):∀j v,cs[j]? =some v→(w.alloc (.cells cs.toArray e)).cell? ((⟨w.heap.size,0,none⟩:Addr).add j)=some v:=fun j v hj=>by
 rw[addr_add,(aE.new w e cs).cell,Nat.zero_add,hj]
theorem Pt(E:C8 enc sz)(hT:uJ P t e sz bytes)(mR:bH enc B e sz w A c l)(x:α)(hl:(l.length+1)*bytes≤140737488355328)(ZF:l.length+1≤9223372036854775807)(hB:B≤w.heap.size)
  (hk:∀A' c' w',bH enc B e sz w' A' c' (l++[x])→bJ w w' A→(A'=A∨((∃g,A'=some ⟨g,0,none⟩∧w.heap.size≤g)∧∀k,k<w.heap.size→w'.heap[k]? =w.heap[k]?))→A'.isSome=true→w.heap.size≤w'.heap.size→K (ai f d (.slice A' (l.length+1) c')) w'):
  cG P K (Builtin.append_ #[t,t] ty #[.slice A l.length c,.slice (some ⟨w.heap.size,0,none⟩) 1 1]) f d (w.alloc (.cells (enc x).toArray e)):=by
 have h0:=dA (K:=fun f' w'=>∃A' c',f' 0= .slice A' (l.length+1) c'∧bH enc B e sz w' A' c' (l++[x])∧bJ w w' A∧(A'.map (·.block)=A.map (·.block)∨∃g,A'.map (·.block)=some g∧w.heap.size≤g)∧A'.isSome=true∧w.heap.size≤w'.heap.size)
  (f:=fun _=>undef) (d:=some 0) (ty:=ty) E hT mR x hl ZF hB fun A' c' w' h1 h2 h3 h4 h5=>⟨A',c',rfl,h1,h2,h3,h4,h5⟩
 obtain⟨v,w',hr,A',c',hv,h1,h2,h3,h4,h5⟩:=h0
 have hv:v= .slice A' (l.length+1) c':=hv
 subst hv
 refine⟨_,w',hr,hk A' c' w' h1 h2 ?_ h4 h5⟩
 obtain⟨g',hg'⟩:∃g',A'=some ⟨g',0,none⟩:=by
  rcases h1.form with⟨rfl,_⟩|⟨g,rfl,_⟩
  ·cases h4
  ·exact⟨g,rfl⟩
 rcases mR.own.2 with⟨h6,h7⟩|⟨g,cap,cur,hv,hBg,hh,Ws,hcm,E0,akr⟩
 ·injection h6 with h6
  subst h6
  refine .inr ⟨⟨g',hg',?_⟩,fun k hk=>h2.aJ.block k hk (by simp)⟩
  rcases h3 with h3|⟨g2,h3,h8⟩
  ·rw[hg']at h3;cases h3
  ·rw[hg']at h3
   injection h3 with h3
   simp at h3;omega
 ·injection hv with hv hv2 hv3
  subst hv hv3
  obtain⟨i,z,hi,hz,kq,hby,hzc⟩:=hT.get
  have acB:g<w.heap.size:=by
   rcases Nat.lt_or_ge g w.heap.size with c1|c1
   ·exact c1
   ·rw[Array.getElem?_eq_none c1]at hh;cases hh
  have Gj:=EA w (enc x) e
  have hhW:(w.alloc (.cells (enc x).toArray e)).heap[g]? =some (.cells cur e (0,0)):=(Below.heap_alloc w _ g acB).trans hh
  by_cases Vr:l.length+1≤c
  ·left
   have xp:=run_append_room (P:=P) (w.alloc (.cells (enc x).toArray e)) t ty e i hT.under hi g l.length c cur hhW ⟨w.heap.size,0,none⟩ 1 1 (enc x) (by rw[E.len,kq];omega) Gj (E.one x) Vr (by
    rw[E.len,E0,kq]
    have:=Nat.mul_le_mul_right sz Vr
    rw[Nat.succ_mul]at this
    exact this)
   rw[hr]at xp
   injection xp with XD
   injection XD
  ·right
   have X3:∀j v,(l.flatMap enc)[j]? =some v→(w.alloc (.cells (enc x).toArray e)).cell? ((⟨g,0,none⟩:Addr).add j)=some v:=fun j v hj=>by
    have:=mR.own.cells (g:=g) rfl j v hj
    exact(World.cell?_of_block (by rw[show((⟨g,0,none⟩:Addr).add j).block=g by rw[addr_add]];exact(Below.heap_alloc w _ g acB))).trans this
   have xp:=run_append_grow (P:=P) (w.alloc (.cells (enc x).toArray e)) t ty e i z hT.under hi hz ⟨g,0,none⟩ l.length c (l.flatMap enc) (by rw[kq];exact mR.own.1) X3 ⟨w.heap.size,0,none⟩ 1 1 (enc x) (by rw[E.len,kq];omega) Gj (by omega) (by omega) (growslice_fits (by omega) (by rw[hby];exact hl))
   rw[hr]at xp
   injection xp with XD hr4
   injection XD with XD
   refine⟨⟨w.heap.size+1,by rw[XD];simp,by omega⟩,fun k hk=>?_⟩
   rw[hr4]
   rw[show(World.alloc (w.alloc (.cells (enc x).toArray e)).drew _).heap[k]? =(w.alloc (.cells (enc x).toArray e)).drew.heap[k]? from Below.heap_alloc _ _ k (by simp;omega)]
   exact Below.heap_alloc w _ k hk
end
open Go.RowKit
section
variable {P:Program} {K:Fr→World→Prop} {u w:World} {f:Fr} {d:Option Nat} {A:Option Addr} {B e bytes t ty c sz n:Nat} {xs:List Value}
theorem IB(kq:0<sz)(mR:Own B e sz w A c n xs)(q:Nat)(hq:q<xs.length)(vd:aL P ty=some 1)(S:Option Addr)(N C:Nat)
  (hk:∀w',Own B e sz w' A c n (xs.set q (.slice S N C))→bJ w w' A→w'.heap.size=w.heap.size→K (ai f d undef) w'):
  cG P K (do Instr.storeAt ty (.pointer (some (eA A q))) (.slice S N C);pure undef) f d w:=by
 rcases mR.form with⟨_,_,_,h0⟩|⟨g,rfl,_,hg⟩
 ·rw[h0]at hq;simp at hq
 ·have hs:=mR.own.stored q (.slice S N C)
  have hc:=(mR.rd kq).cell q _ (List.getElem?_eq_getElem hq)
  rw[jz]at hc ⊢
  have hf:=mR.own.frozenAt (g:=g) q
  refine⟨undef,w.setCell ⟨g,q,none⟩ (.slice S N C),?_,hk _ ⟨hs.1⟩ ⟨hs.2⟩ (by simp)⟩
  unfold aL at vd
  cases hi:P.info? ty with
  |none=>simp[hi]at vd
  |some ie=>
   simp only[hi,Option.map_some,Option.some.injEq]at vd
   simp[Instr.storeAt,Instr.sureAddr,storeVar,sizeOf,typeInfo,hi,vd,Value.cells,storeCells,addr_add,run_store_slice,stored,hc,hf]
theorem LS{e':TypeId}(hT:uJ P t e' sz bytes)(i j n:Nat)(hi:i≤j)(hj:j≤c):aq P K (Instr.sliceAt t (.slice A n c) (some (.int .i64 i)) (some (.int .i64 j)) none) u f d w=
  K (ai f d (.slice (if c=i then A else A.map (·.add (i*sz))) (j-i) (c-i))) w:=
 aM u f d w fun w' _=>by
  obtain⟨ii,z,hii,hz,hs,hb,WL⟩:=hT.get
  have h1:(0:Int)≤(j:Int)∧(j:Int)≤(c:Int):=by omega
  have h2:(0:Int)≤(i:Int)∧(i:Int)≤(j:Int):=by omega
  simp[Instr.sliceAt,run_underlying hT.under,Instr.slice,Instr.sliceBounds,Instr.sliceBound,asIntOf,h1,h2,sizeOf,typeInfo,hii,hs]
  rw[if_pos hj,if_pos hi]
end
theorem Pc.ahl(p:Pc)(W:Option Addr)(cw:Nat)(v:List Int):(Pc.cells p).set 4 (.slice W v.length cw)=Pc.cells ⟨p.s,W,cw,v⟩:=by
 unfold Pc.cells
 rw[List.set_append_right _ _ (by rw[ao];omega),ao]
 rfl
theorem Pu:∀(l:List Pc) (k:Nat) (p:Pc),l[k]? =some p→∀(W:Option Addr) (cw:Nat) (v:List Int),(l.flatMap Pc.cells).set (k*5+4) (.slice W v.length cw)=(l.set k ⟨p.s,W,cw,v⟩).flatMap Pc.cells
 |[],k,p,h,_,_,_=>by simp at h
 |q :: l,0,p,h,W,cw,v=>by
  simp only[List.getElem?_cons_zero,Option.some.injEq]at h
  subst h
  rw[List.flatMap_cons,List.set_cons_zero,List.flatMap_cons,Nat.zero_mul,Nat.zero_add,List.set_append_left _ _ (by rw[bc.len];omega),Pc.ahl]
 |q :: l,k+1,p,h,W,cw,v=>by
  simp only[List.getElem?_cons_succ]at h
  rw[List.flatMap_cons,List.set_cons_succ,List.flatMap_cons,List.set_append_right _ _ (by rw[bc.len];omega),bc.len,show(k+1)*5+4-5=k*5+4 by omega,Pu l k p h]
theorem Gu{S:Type}[DecidableEq S]{step:S→Int→S}{es:List Int}{first:S}:∀n,∃pre,(lays step es first n).1=pre++(lays step es first n).2
 |0=>⟨[],rfl⟩
 |_+1=>⟨_,rfl⟩
theorem eE.TH{S:Type}[DecidableEq S]{step:S→Int→S}{es:List Int}{first:S}{U:S→Prop}{n:Nat}{A:List (S×List Int)×List (S×List Int)}(h:y7 step es first U n A){next:List (S×List Int)}(hn:eE step es first U A.1 (n+1) next)(code:S→Nat)(N:Nat)(hc:∀s,U s→code s<N)(hi:∀s t,U s→U t→code s=code t→s=t):(A.1++next).length≤N:=
 mr.len (step:=step) (es:=es) (U:=U) ⟨by
  rw[List.map_append,List.nodup_append]
  refine⟨h.nodup,hn.nodup,fun a ha b hb tB=>?_⟩
  obtain⟨p,hp,rfl⟩:=List.mem_map.1 hb
  exact hn.apart p hp (by rw[←tB];exact ha),fun p hp=>by
  rcases List.mem_append.1 hp with hp|hp
  ·exact h.univ p hp
  ·exact hn.univ p hp⟩ code N hc hi
structure mS(b0 bK:Nat)(j9:List Pc)(w:World)(A:Option Addr):Prop where
 fS:bq Pc.cells 5 (fun b=>b=b0∧b<w.heap.size) w (some ⟨b0,bK*5,none⟩) j9
 lt:b0<w.heap.size
 or:A=some ⟨b0,0,none⟩∨A.map (·.block)≠some b0
theorem mS.keep{b0 bK:Nat}{j9:List Pc}{w w':World}{A:Option Addr}(h:mS b0 bK j9 w A)(hz:w.heap.size≤w'.heap.size)(hk:w'.heap[b0]? =w.heap[b0]?):mS b0 bK j9 w' A:=
 ⟨(h.fS.keep fun b hb=>by rw[hb.1];exact hk).mono fun b hb=>⟨hb.1,by omega⟩,by have:=h.lt;omega,h.or⟩
theorem mS.below{b0 bK:Nat}{j9:List Pc}{w w':World}{A:Option Addr}(h:mS b0 bK j9 w A)(hb:Below w.heap.size w w'):mS b0 bK j9 w' A:=h.keep hb.size (hb.block b0 h.lt)
theorem mS.BQ{B b0 bK c e:Nat}{j9 ps:List Pc}{w:World}(ho:bH Pc.cells B e 5 w (some ⟨b0,0,none⟩) c ps)(hl:∀(i:Nat) (x:Pc),j9[i]? =some x→ps[bK+i]? =some x):mS b0 bK j9 w (some ⟨b0,0,none⟩):=by
 have hR:=bH.fS ho bc (by decide)
 have aI:=(ho.block rfl).2
 refine⟨⟨fun _=>rfl,fun _=>⟨rfl,aI⟩,fun i a hi j v hv=>?_⟩,aI,.inl rfl⟩
 have:=hR.cell (bK+i) a (hl i a hi) j v hv
 rw[jz]at this
 rw[tm,addr_add]
 rw[show bK*5+(i*5+j)=(bK+i)*5+j by rw[Nat.add_mul,Nat.add_assoc]]
 exact this
theorem mS.app{B b0 bK c' e:Nat}{j9 ps:List Pc}{w w':World}{A A':Option Addr}(h:mS b0 bK j9 w A)(hg:bJ w w' A)(ho:bH Pc.cells B e 5 w' A' c' ps)(hl:∀(i:Nat) (x:Pc),j9[i]? =some x→ps[bK+i]? =some x)
  (hA:A'=A∨((∃g,A'=some ⟨g,0,none⟩∧w.heap.size≤g)∧∀k,k<w.heap.size→w'.heap[k]? =w.heap[k]?)):mS b0 bK j9 w' A':=by
 have aI:=h.lt
 rcases hA with rfl|⟨⟨g,rfl,hgz⟩,hk⟩
 ·rcases h.or with rfl|cY
  ·exact mS.BQ ho hl
  ·have:=h.keep hg.aJ.size (hg.aJ.block b0 aI (fun e=>cY e.symm))
   exact this
 ·have:=h.keep hg.aJ.size (hk b0 aI)
  exact⟨this.fS,this.lt,.inr (by simp;omega)⟩
theorem mS.sto{B b0 bK c e:Nat}{j9 ps:List Pc}{w w':World}{A:Option Addr}(h:mS b0 bK j9 w A)(hg:bJ w w' A)(ho:bH Pc.cells B e 5 w' A c ps)(hl:∀(i:Nat) (x:Pc),j9[i]? =some x→ps[bK+i]? =some x):mS b0 bK j9 w' A:=
 h.app hg ho hl (.inl rfl)
theorem mS.iJ{b0 bK g:Nat}{j9:List Pc}{w w':World}{A:Option Addr}(h:mS b0 bK j9 w A){i:Nat}(hg:bJ w w' (some ⟨g,i,none⟩))(cY:b0≠g):mS b0 bK j9 w' A:=
 h.keep hg.aJ.size (hg.aJ.block b0 h.lt (by simpa using cY))
noncomputable abbrev dQ(p:cO)(n:Nat):List (List Int×List Int)×List (List Int×List Int):=lays (dv p) p.seen (oe p) n
theorem prefix_at{α:Type}{l m:List α}(h:l<+:m){i:Nat}{x:α}(hi:l[i]? =some x):m[i]? =some x:=by
 rw[cJ h (fx hi)];exact hi
theorem IC{α:Type}{l m:List α}(h:l<+:m){k:Nat}(hk:l.length≤k)(x:α):l<+:m.set k x:=by
 obtain⟨t,rfl⟩:=h
 rw[List.set_append_right _ _ hk]
 exact List.prefix_append _ _
def acC(p:cO)(w:World)(v:Value)(w':World):Prop:=
 ∃(A:Option Addr) (c:Nat) (ps:List Pc) (n:Nat),v= .slice A ps.length c∧bq Pc.cells 5 (fun b=>w.heap.size≤b∧b<w'.heap.size) w' A ps∧(∀x∈ps,Ints (fun b=>w.heap.size≤b∧b<w'.heap.size) w' x.W x.w)∧Below w.heap.size w w'∧
  ps.map Pc.abs=(lays (dv p) p.seen (oe p) n).1∧(lays (dv p) p.seen (oe p) n).2=[]∧ps.length≤64∧n≤64
theorem sV{w:World}{a:PV}{p:cO}(ha:tv (·<w.heap.size) w a p)(hf:p.Fits)(hp:p.bZ):dw Tryz.prog 58 [a.val p] w (acC p w):=by
 have LM:Tryz.prog.underlying 137=some (.map 107 3):=Tryz.underlying137
 have XU:(Tryz.prog.info? 3).map (·.zero)=some (some (.int .i64 0)):=by kernel_rfl
 have hm:=hp.1
 have nP:=hp.Gr
 have hU:∀s,UB p s→∀e∈p.seen,UB p (dv p s e):=fun s _ e _=>UB.back hm s e
 have hU0:UB p (oe p):=UB.all hm
 have SO:∀s,UB p s→az s 6:=fun s hs=>hs.1.more hp.2.1
 have hU1:∀s,UB p s→U1 s:=fun s hs=>⟨hs.1.strict,hs.1.small hm.2.1⟩
 have eP:=ll (step:=dv p) (es:=p.seen) (first:=oe p) hU hU0
 have TH:∀n (next:List (List Int×List Int)),eE (dv p) p.seen (oe p) (UB p) (lays (dv p) p.seen (oe p) n).1 (n+1) next→((lays (dv p) p.seen (oe p) n).1++next).length≤64:=fun n next hn=>
  eE.TH (eP n) hn qN 64 (fun s hs=>sC (SO s hs)) (fun s t hs ht e=>pd (SO s hs) (SO t ht) e)
 refine uY (by simp) 100000 fun Q hQ=>?_
 simp(disch:=omega)only[push_cast,aa,↓reduceIte,Nat.reduceEqDiff,Int.reduceEq,oO]
 refine au (aO _ (a.cells p)) ?_
 intro w1 k1 b1 z1
 simp(disch:=omega)only[push_cast,aa,↓reduceIte,Nat.reduceEqDiff,Int.reduceEq,k1.pM]
 refine ah (Gt (ha.up b1).m (by have:=hm.1;omega) hm.2.1) ?_
 rintro v w2 ⟨rfl,b2⟩
 have k2:=k1.below b2 k1.lt
 have bb:=b1.trans (b2.mono b1.size)
 simp(disch:=omega)only[push_cast,aa,↓reduceIte,Nat.reduceEqDiff,Int.reduceEq,Pn,ea bc kz _ (by decide)]
 have o3:=zT bc w2 ⟨oe p,none,0,[]⟩ 112
 have b3:Below w2.heap.size w2 (w2.alloc (.cells (Pc.cells ⟨oe p,none,0,[]⟩).toArray 112)):=(Below.refl _ _).alloc (Nat.le_refl _) _
 have kB:=aE.new w2 112 (Pc.cells ⟨oe p,none,0,[]⟩)
 generalize w2.alloc (.cells (Pc.cells ⟨oe p,none,0,[]⟩).toArray 112)=w3 at*
 have k3:=k2.below b3 k2.lt
 replace o3:=o3.base (B':=w.heap.size) bb.size
 have hw3:w.heap.size<w3.heap.size:=k3.lt
 replace bb:=bb.trans (b3.mono bb.size)
 simp(disch:=omega)only[push_cast,aa,↓reduceIte,Nat.reduceEqDiff,Int.reduceEq,lf]
 refine pg (k:=107) _ ?_
 intro w4 m4 b4 z4
 have k4:=k3.below b4 k3.lt
 have o4:=o3.below b4 (Nat.le_refl _)
 have zb3:=bb.size
 replace bb:=bb.trans (b4.mono bb.size)
 replace kB:=kB.below b4 kB.lt
 have yi:=fun{K:Fr→World→Prop} {f:Fr} {d:Option Nat} {w':World}=>kB.oZ (P:=Tryz.prog) (K:=K) (f:=f) (d:=d) (w:=w') al 0 (vs:=setCells (ae (oe p))) (bn _) (Pc.cell0 ⟨oe p,none,0,[]⟩)
 have Hj:(some (⟨w2.heap.size,0,none⟩:Addr)).isSome=true:=rfl
 simp(disch:=omega)only[push_cast,aa,↓reduceIte,Nat.reduceEqDiff,Int.reduceEq,wR,yi,Int.toNat_zero,Nat.zero_mul,jz]
 refine tF eT LM m4 (jD _) (by simp) _ ?_
 intro w5 m5 g5 z5
 have o5:=o4.bQ g5 (.inr fun e=>m4.gG o4 e.symm)
 have k5:=k4.grown g5.aJ (by have:=k3.lt;simp;omega)
 replace bb:=g5.below bb bb.size (by intro a ha;injection ha with ha;subst ha;exact zb3)
 simp(disch:=omega)only[push_cast,aa,↓reduceIte,Nat.reduceEqDiff,Int.reduceEq]
 refine ax (fun f w'=>∃(n bK:Nat) (ps:List Pc) (A:Option Addr) (c:Nat),n≤bK∧(dQ p n).2.length+bK=ps.length∧
   (f 1= .pointer (some ⟨w.heap.size,0,none⟩)∧f 3= .slice A ps.length c∧f 4= .map (some w3.heap.size)∧f 5= .int .i64 bK)∧ps.map Pc.abs=(dQ p n).1∧
   bH Pc.cells w.heap.size 112 5 w' A c ps∧(∀x∈ps,dq w.heap.size 3 w' x.W x.w)∧df Tryz.prog 107 w' w3.heap.size (x8 (ps.map (·.s)))∧aE w' w.heap.size 67 (a.cells p)∧Below w.heap.size w w')
  (fun f _=>65-(intOf (f 5)).toNat) ⟨0,0,[⟨oe p,none,0,[]⟩],_,1,Nat.le_refl _,rfl,⟨rfl,rfl,rfl,rfl⟩,rfl,o5,fun x hx=>by rw[List.mem_singleton.1 hx];exact dq.nil _ _ _ _,m5,k5,bb⟩ ?_
 clear o5 m5 k5 bb g5 m4 o4 k4 b4 o3 k3 b3 k2 b2 k1 kB yi Hj z5 z4 zb3 b1 z1
 rintro f w6 ⟨n,bK,Cs,A0,c0,iO,hlen,fr,hL,ho,qY,xe,k1,bb⟩ J hJ
 have ahm:Cs.length≤64:=by
  have:=(eP n).TH qN 64 (fun s hs=>sC (SO s hs)) (fun s t hs ht e=>pd (SO s hs) (SO t ht) e)
  rw[←hL,List.length_map]at this
  exact this
 have gZ:(intOf (f 5)).toNat=bK:=by rw[fr.2.2.2];simp[intOf]
 by_cases aI:bK<Cs.length
 case neg=>
  have LU:(dQ p n).2=[]:=List.eq_nil_of_length_eq_zero (by omega)
  simp(disch:=omega)only[push_cast,aa,↓reduceIte,Nat.reduceEqDiff,Int.reduceEq,gD,fr,aI]
  exact aF (hQ _ _ ⟨A0,c0,Cs,n,(by simp only[push_cast,↓reduceIte,Nat.reduceEqDiff,Int.reduceEq,fr]),((bH.fS ho bc (by decide)).both (bq.lt bc (by decide) (bH.fS ho bc (by decide)))).mono fun b hb=>⟨hb.1.1,hb.2⟩,fun x hx=>(qY x hx).mid,bb,hL,LU,ahm,by omega⟩)
 obtain⟨b0,rfl⟩:∃b0,A0=some ⟨b0,0,none⟩:=by
  rcases ho.form with⟨_,h0,_⟩|⟨g,h,_⟩
  ·omega
  ·exact⟨g,h⟩
 have X4:=ho.cap
 have h0m:b0≠w3.heap.size:=fun e=>xe.gG ho (by rw[e];rfl)
 have Xt:=(ho.block rfl).2
 obtain⟨j9,TO⟩:∃j9,Cs.drop bK=j9:=⟨_,rfl⟩
 have Hi:j9.length=Cs.length-bK:=by rw[←TO];simp
 have ME:∀(i:Nat) (x:Pc),j9[i]? =some x→Cs[bK+i]? =some x:=fun i x hi=>by rw[←TO,List.getElem?_drop]at hi;exact hi
 have TG:j9.map Pc.abs=(dQ p n).2:=by
  obtain⟨pre,jN⟩:=Gu (step:=dv p) (es:=p.seen) (first:=oe p) n
  have TF:pre.length=bK:=by
   have akt:(lays (dv p) p.seen (oe p) n).2.length+bK=Cs.length:=hlen
   have:=congrArg List.length jN
   rw[←hL,List.length_map,List.length_append]at this
   omega
  rw[←TO,List.map_drop,hL,jN,←TF,List.drop_left]
 have Oo:=fun{K u w f d}=>LS (P:=Tryz.prog) (K:=K) (u:=u) (w:=w) (f:=f) (d:=d) (A:=some ⟨b0,0,none⟩) kz bK Cs.length Cs.length (by omega) X4
 rw[if_neg (by omega),Option.map_some,addr_add,Nat.zero_add,←Hi]at Oo
 simp(disch:=omega)only[push_cast,aa,↓reduceIte,Nat.reduceEqDiff,Int.reduceEq,gD,fr,aI,Oo]
 have sn0:mS b0 bK j9 w6 (some ⟨b0,0,none⟩):=mS.BQ ho ME
 have acD:∀x∈j9,dq w.heap.size 3 w6 x.W x.w:=fun x hx=>qY x (by rw[←TO]at hx;exact List.mem_of_mem_drop hx)
 refine ax (fun f' w'=>∃(i:Nat) (ps:List Pc) (A:Option Addr) (c:Nat),i≤j9.length∧
   (f' 1= .pointer (some ⟨w.heap.size,0,none⟩)∧f' 3= .slice A ps.length c∧f' 4= .map (some w3.heap.size)∧f' 5= .int .i64 bK∧f' 6= .int .i64 Cs.length∧f' 35= .slice (some ⟨b0,bK*5,none⟩) j9.length (c0-bK)∧f' 36= .int .i64 j9.length∧f' 37= .int .i64 i)∧
   ps.map Pc.abs=(dQ p n).1++nD (dv p) p.seen (dQ p n).1 (dQ p n).2 i∧Cs<+:ps∧
   bH Pc.cells w.heap.size 112 5 w' A c ps∧(∀x∈ps,dq w.heap.size 3 w' x.W x.w)∧df Tryz.prog 107 w' w3.heap.size (x8 (ps.map (·.s)))∧mS b0 bK j9 w' A∧(∀x∈j9,dq w.heap.size 3 w' x.W x.w)∧aE w' w.heap.size 67 (a.cells p)∧Below w.heap.size w w'∧w6.heap.size≤w'.heap.size)
  (fun f' _=>j9.length-(intOf (f' 37)).toNat) ⟨0,Cs,_,c0,Nat.zero_le _,(by simp only[push_cast,↓reduceIte,Nat.reduceEqDiff,true_and,and_true,and_self,eq_self,fr]),by rw[hL];unfold nD;simp,List.prefix_refl _,ho,qY,xe,sn0,acD,k1,bb,Nat.le_refl _⟩ ?_
 clear ho qY xe sn0 acD k1 bb fr Oo
 rintro f w7 ⟨i,ps,A,c,hi,fr,hM,Vs,ho,qY,xe,sn,Gv,k1,bb,h67⟩ J2 jH
 have ahn:j9.length=(dQ p n).2.length:=by rw[←TG,List.length_map]
 by_cases nG:i<j9.length
 case neg=>
  obtain rfl:i=j9.length:=by omega
  have MM:ps.map Pc.abs=(dQ p (n+1)).1:=by
   rw[hM,ahn];rfl
  have acE:(dQ p (n+1)).2.length+Cs.length=ps.length:=by
   have:=congrArg List.length MM
   rw[List.length_map]at this
   rw[this]
   show _=((dQ p n).1++(dQ p (n+1)).2).length
   rw[List.length_append,←hL,List.length_map];omega
  simp(disch:=omega)only[push_cast,aa,↓reduceIte,Nat.reduceEqDiff,Int.reduceEq,gC,fr,Nat.lt_irrefl]
  exact hJ _ _ ⟨n+1,Cs.length,ps,A,c,by omega,acE,(by simp only[push_cast,↓reduceIte,Nat.reduceEqDiff,true_and,and_true,and_self,eq_self,fr]),MM,ho,qY,xe,k1,bb⟩ (by rw[gZ];simp only[push_cast,↓reduceIte,Nat.reduceEqDiff,intOf,fr];omega)
 have MP:j9[i]? =some (j9[i]'nG):=List.getElem?_eq_getElem nG
 have Cp:j9[i]'nG∈j9:=List.getElem_mem nG
 generalize j9[i]'nG=x at*
 have hxl:(dQ p n).2[i]? =some x.abs:=by rw[←TG,List.getElem?_map,MP];rfl
 have hxg:=(eP n).fH x.abs (List.mem_of_getElem? hxl)
 have hxw:x.w.length=n:=hxg.2.2.2
 have ud:=fun{K:Fr→World→Prop} {f:Fr} {d:Option Nat} {w':World}=>sn.fS.dC (P:=Tryz.prog) (K:=K) (f:=f) (d:=d) (w:=w') bc kU MP dS
 have Hj:(some (⟨b0,bK*5,none⟩:Addr)).isSome=true:=rfl
 simp(disch:=omega)only[push_cast,aa,↓reduceIte,Nat.reduceEqDiff,Int.reduceEq,gC,fr,nG,ud]
 refine au (cs:=Pc.cells ⟨[],none,0,[]⟩) xU ?_
 intro w8 k8 b8 z8
 simp(disch:=omega)only[push_cast,aa,↓reduceIte,Nat.reduceEqDiff,Int.reduceEq]
 refine aC k8 (cs:=Pc.cells x) (by rw[bc.len];exact dS) (by rw[bc.len,bc.len]) (List.all_eq_true.2 (bc.one x)) ?_
 intro w9 k9 g9 z9
 have J8:=g9.below b8 b8.size (by intro a ha;injection ha with ha;subst ha;exact Nat.le_refl _)
 have TP:A.map (·.block)≠some w7.heap.size:=fun e=>by have:=ho.QY e.symm;omega
 have h0g:b0≠w7.heap.size:=by have:=sn.lt;omega
 have hwg:w3.heap.size<w7.heap.size:=xe.lt
 have hkg:=k1.lt
 replace ho:=ho.below J8 (Nat.le_refl _)
 replace qY:∀x∈ps,dq w.heap.size 3 w9 x.W x.w:=fun x hx=>(qY x hx).below J8
 replace Gv:∀x∈j9,dq w.heap.size 3 w9 x.W x.w:=fun x hx=>(Gv x hx).below J8
 replace xe:=xe.below J8 xe.lt
 replace sn:=sn.below J8
 replace k1:=k1.below J8 k1.lt
 replace bb:=bb.trans (J8.mono bb.size)
 have z79:=J8.size
 simp(disch:=omega)only[push_cast,aa,↓reduceIte,Nat.reduceEqDiff,Int.reduceEq,fr,k1.p5]
 refine ax (fun f' w'=>∃(j:Nat) (ps:List Pc) (A:Option Addr) (c:Nat),j≤p.seen.length∧
   (f' 1= .pointer (some ⟨w.heap.size,0,none⟩)∧f' 3= .slice A ps.length c∧f' 4= .map (some w3.heap.size)∧f' 5= .int .i64 bK∧f' 6= .int .i64 Cs.length∧f' 8= .pointer (some ⟨w7.heap.size,0,none⟩)∧f' 35= .slice (some ⟨b0,bK*5,none⟩) j9.length (c0-bK)∧f' 36= .int .i64 j9.length∧f' 37= .int .i64 i∧f' 42= .slice a.Ap p.seen.length a.cp∧f' 43= .int .i64 p.seen.length∧f' 44= .int .i64 j)∧
   ps.map Pc.abs=(dQ p n).1++nF (dv p) p.seen (dQ p n).1 (dQ p n).2 i j∧Cs<+:ps∧A.map (·.block)≠some w7.heap.size∧
   bH Pc.cells w.heap.size 112 5 w' A c ps∧(∀x∈ps,dq w.heap.size 3 w' x.W x.w)∧df Tryz.prog 107 w' w3.heap.size (x8 (ps.map (·.s)))∧mS b0 bK j9 w' A∧(∀x∈j9,dq w.heap.size 3 w' x.W x.w)∧aE w' w7.heap.size 112 (Pc.cells x)∧aE w' w.heap.size 67 (a.cells p)∧Below w.heap.size w w'∧w9.heap.size≤w'.heap.size)
  (fun f' _=>p.seen.length-(intOf (f' 44)).toNat) ⟨0,ps,A,c,Nat.zero_le _,(by simp only[push_cast,↓reduceIte,Nat.reduceEqDiff,true_and,and_true,and_self,eq_self,fr]),by rw[Ir];exact hM,Vs,TP,ho,qY,xe,sn,Gv,k9,k1,bb,Nat.le_refl _⟩ ?_
 have ob:(intOf (f 37)).toNat=i:=by rw[fr.2.2.2.2.2.2.2];simp[intOf]
 clear ho qY xe sn Gv k9 k8 k1 bb fr hM Vs TP ud b8 J8 g9
 rintro f uv ⟨j,ps,A,c,hj,fr,hM,Vs,TP,ho,qY,xe,sn,Gv,k8,k1,bb,anH⟩ J3 QX
 by_cases tP:j<p.seen.length
 case neg=>
  obtain rfl:j=p.seen.length:=by omega
  rw[LJ (by omega)]at hM
  simp(disch:=omega)only[push_cast,aa,↓reduceIte,Nat.reduceEqDiff,Int.reduceEq,gy,fr,Nat.lt_irrefl]
  exact jH _ _ ⟨i+1,ps,A,c,nG,(by simp only[push_cast,↓reduceIte,Nat.reduceEqDiff,true_and,and_true,and_self,eq_self,fr]),hM,Vs,ho,qY,xe,sn,Gv,k1,bb,by omega⟩ (by rw[ob];simp only[push_cast,↓reduceIte,Nat.reduceEqDiff,intOf,fr];omega)
 have VH:=Dw (step:=dv p) hU (eP n) i j
 have anI:=Dw (step:=dv p) hU (eP n) i (j+1)
 have du:=Iu (step:=dv p) (old:=(dQ p n).1) hxl tP
 have aho:=TH n _ VH
 rw[←hM,List.length_map]at aho
 have Z6:=(ha.up bb).seen
 have hAe:=Z6.isSome (by omega)
 have XW:=bY p.seen 0 j tP
 have TJ:=fun{K f d w}=>Z6.ld (P:=Tryz.prog) (K:=K) (f:=f) (d:=d) (w:=w) ak j tP
 generalize p.seen.getD j 0=e at*
 have LN:=fun{K:Fr→World→Prop} {f:Fr} {d:Option Nat} {w':World}=>k8.oZ (P:=Tryz.prog) (K:=K) (f:=f) (d:=d) (w:=w') al 0 (vs:=setCells (ae x.s)) (bn _) x.cell0
 simp(disch:=omega)only[push_cast,aa,↓reduceIte,Nat.reduceEqDiff,Int.reduceEq,gy,fr,tP,TJ,k1.J4,LN]
 refine ah (Ez (ha.up bb) hf hm x.s e) ?_
 rintro v zY ⟨rfl,vK⟩
 have EZ:dv p x.abs.1 e=dv p x.s e:=rfl
 have hUs:UB p (dv p x.s e):=UB.back hm _ _
 rw[show x.abs.2=x.w from rfl]at*
 generalize hs:dv p x.s e=s at*
 simp(disch:=omega)only[push_cast,aa,↓reduceIte,Nat.reduceEqDiff,Int.reduceEq,fr]
 refine au (cs:=setCells (ae [])) cB ?_
 intro vq y6 eZ z12
 replace eZ:=vK.trans (eZ.mono vK.size)
 simp(disch:=omega)only[push_cast,aa,↓reduceIte,Nat.reduceEqDiff,Int.reduceEq]
 refine aC y6 (cs:=setCells (ae s)) (bn _) (by rw[ao,ao]) (aH _) ?_
 intro xw Ct g13 X5
 have iT:=g13.below eZ eZ.size (by intro a ha;injection ha with ha;subst ha;exact vK.size)
 have EB:=k8.below iT k8.lt
 have Pq:=fun{w':World} (h:aE w' w7.heap.size 112 (Pc.cells x)) {K:Fr→World→Prop} {f:Fr} {d:Option Nat} {w:World}=>h.ld (P:=Tryz.prog) (K:=K) (f:=f) (d:=d) (w:=w) aS 4 (by rw[bc.len];omega)
 have OJ:(Pc.cells x).getD 4 undef= .slice x.W x.w.length x.cw:=by rw[List.getD_eq_getElem?_getD,x.uB];rfl
 rw[OJ]at Pq
 have oE:=Fu xw e 3
 have BG:=iT.alloc iT.size (.cells [.int .i64 e].toArray 3)
 have acG:=Ct.alloc (.cells [.int .i64 e].toArray 3)
 have acH:=EB.alloc (.cells [.int .i64 e].toArray 3)
 simp(disch:=omega)only[push_cast,aa,↓reduceIte,Nat.reduceEqDiff,Int.reduceEq,fr,yS,Pq acH]
 generalize xw.alloc (Obj.cells [.int .i64 e].toArray 3)=BH at*
 have hxr:=((Gv x Cp).below BG).lt
 have acI:=(oE.block rfl)
 have acJ:(some (⟨xw.heap.size,0,none⟩:Addr)).getD default=⟨xw.heap.size,0,none⟩:=rfl
 rw[acJ]at acI
 refine A6 (l:=[e]) fq oE hxr (by simp;omega) (by have:=acI.2;show xw.heap.size≤_;omega) ?_
 intro LV Gw Ga o15 TQ _ z15
 have xy:=TQ.below BG BG.size (by intro a ha;injection ha with ha;subst ha;exact iT.size)
 have anJ:=Ct.lt
 have mD:=acG.grown TQ.aJ (by simp;omega)
 replace ho:=ho.below xy (Nat.le_refl _)
 replace qY:∀x∈ps,dq w.heap.size 3 Ga x.W x.w:=fun x hx=>(qY x hx).below xy
 replace Gv:∀x∈j9,dq w.heap.size 3 Ga x.W x.w:=fun x hx=>(Gv x hx).below xy
 replace xe:=xe.below xy xe.lt
 replace sn:=sn.below xy
 replace k8:=k8.below xy k8.lt
 replace k1:=k1.below xy k1.lt
 have U6:=bb.size
 replace bb:=bb.trans (xy.mono bb.size)
 have akx:=xy.size
 have X5:=iT.size
 have xv:=vK.size
 replace o15:cQ xw.heap.size 3 Ga LV Gw (e :: x.w):=o15
 have X6:dq w.heap.size 3 Ga LV (e :: x.w):=dq.BQ o15 (by omega)
 clear BG oE TQ hxr acG acH EB g13 LN TJ Z6
 rw[show([e]:List Int).length+x.w.length=(e :: x.w).length by simp;omega]
 have acK:=fun{K:Fr→World→Prop} {f:Fr} {d:Option Nat} {w':World}=>mD.cM (K:=K) (f:=f) (d:=d) (w:=w') (af _) al aw
 simp(disch:=omega)only[push_cast,aa,↓reduceIte,Nat.reduceEqDiff,Int.reduceEq,fr,acK,eC]
 have Ls:(e :: x.w).length≤65:=by simp;omega
 have acL:∀y∈ps,UB p y.s:=fun y hy=>by
  have:y.abs∈ps.map Pc.abs:=List.mem_map.2 ⟨y,hy,rfl⟩
  rw[hM]at this
  rcases List.mem_append.1 this with h|h
  ·exact(eP n).univ _ h
  ·exact VH.univ _ h
 have hL0:(dQ p n).1.length=Cs.length:=by rw[←hL,List.length_map]
 refine ph eT LM XU true xe (jD _) (fun v hv=>?_) fun gY=>?_
 ·obtain⟨q,t,hit,XZ⟩:=FO hv
  injection XZ with XZ hvi
  subst hvi
  rw[List.getElem?_map]at hit
  obtain⟨y,hy,rfl⟩:=Option.map_eq_some_iff.1 hit
  have HP:=List.mem_of_getElem? hy
  have U5:=By (hU1 _ (acL y HP)) (hU1 _ hUs) XZ.symm
  have hyq:(ps.map Pc.abs)[q]? =some (s,y.w):=by rw[List.getElem?_map,hy,←U5];rfl
  have hql:=fx hy
  by_cases Rl:q<Cs.length
  ·have hold:dv p x.abs.1 e∈(dQ p n).1.map (·.1):=by
    rw[EZ]
    rw[hM,List.getElem?_append_left (by omega)]at hyq
    exact List.mem_map.2 ⟨_,List.mem_of_getElem? hyq,rfl⟩
   rw[BM hold]at du
   have Hy:¬((Cs.length:Int)≤(q:Int)):=by omega
   simp(disch:=omega)only[push_cast,aa,↓reduceIte,Nat.reduceEqDiff,Int.reduceEq,fr,Hy]
   exact QX _ _ ⟨j+1,ps,A,c,tP,(by simp only[push_cast,↓reduceIte,Nat.reduceEqDiff,true_and,and_true,and_self,eq_self,fr]),by rw[du];exact hM,Vs,TP,ho,qY,xe,sn,Gv,k8,k1,bb,by omega⟩ (by simp only[push_cast,↓reduceIte,Nat.reduceEqDiff,intOf,fr];omega)
  ·have Hy:(Cs.length:Int)≤(q:Int):=by omega
   have hnq:(nF (dv p) p.seen (dQ p n).1 (dQ p n).2 i j)[q-Cs.length]? =some (s,y.w):=by
    rw[hM,List.getElem?_append_right (by omega),hL0]at hyq
    exact hyq
   have J9:dv p x.abs.1 e∉(dQ p n).1.map (·.1):=by
    rw[EZ]
    exact VH.apart _ (List.mem_of_getElem? hnq)
   have hyw:=(VH.run _ (List.mem_of_getElem? hnq)).2.2
   have hyw:y.w.length=n+1:=hyw
   have hR:=bq.lt bc (by decide) (bH.fS ho bc (by decide))
   have hA:=ho.isSome (by omega)
   have Pv:=fun{K:Fr→World→Prop} {f:Fr} {d:Option Nat} {w':World}=>hR.ld (P:=Tryz.prog) (K:=K) (f:=f) (d:=d) (w:=w') aS hy (j:=4) y.uB
   simp(disch:=omega)only[push_cast,aa,↓reduceIte,Nat.reduceEqDiff,Int.reduceEq,fr,Hy,hql,Pv]
   refine ah (sU X6.lt (qY y HP).lt Gw y.cw (by omega)) ?_
   rintro v LG ⟨rfl,Q8⟩
   replace ho:=ho.same Q8
   replace qY:∀x∈ps,dq w.heap.size 3 LG x.W x.w:=fun x hx=>(qY x hx).same Q8
   replace Gv:∀x∈j9,dq w.heap.size 3 LG x.W x.w:=fun x hx=>(Gv x hx).same Q8
   replace xe:=xe.same Q8
   replace sn:=sn.below (Q8.below _)
   replace k8:=k8.same Q8
   replace k1:=k1.same Q8
   replace bb:=bb.trans (Q8.below _)
   replace X6:=X6.same Q8
   have z16:LG.heap.size=Ga.heap.size:=by rw[Q8.heap]
   by_cases Pw:hZ (e :: x.w) y.w
   ·rw[xb J9 VH.nodup (by rw[EZ];exact hnq) Pw,EZ]at du
    have pC:ps.set q ⟨y.s,LV,Gw,e :: x.w⟩=ps.set q ⟨s,LV,Gw,e :: x.w⟩:=by rw[U5]
    simp(disch:=omega)only[push_cast,aa,↓reduceIte,Nat.reduceEqDiff,Int.reduceEq,decide_eq_true Pw,fr,hql]
    refine IB (by decide) ho (q*5+4) (by rw[aaa bc];omega) (by kernel_rfl) _ _ _ ?_
    intro JX o17 g17 z17
    rw[Pu ps q y hy,pC]at o17
    have acM:bH Pc.cells w.heap.size 112 5 JX A c (ps.set q ⟨s,LV,Gw,e :: x.w⟩):=by unfold bH;rw[List.length_set];exact o17
    have Px:=IC Vs (k:=q) (by omega) ⟨s,LV,Gw,e :: x.w⟩
    have hss:(ps.set q ⟨s,LV,Gw,e :: x.w⟩).map (·.s)=ps.map (·.s):=by
     apply List.ext_getElem?
     intro k
     rw[List.getElem?_map,List.getElem?_map,List.getElem?_set]
     by_cases ek:q=k
     ·subst ek;rw[if_pos rfl,if_pos hql,hy];exact congrArg some U5.symm
     ·rw[if_neg ek]
    have hM':(ps.set q ⟨s,LV,Gw,e :: x.w⟩).map Pc.abs=(dQ p n).1++nF (dv p) p.seen (dQ p n).1 (dQ p n).2 i (j+1):=by
     rw[du,List.map_set,hM,List.set_append_right _ _ (by omega),hL0];rfl
    simp(disch:=omega)only[push_cast,aa,↓reduceIte,Nat.reduceEqDiff,Int.reduceEq,fr]
    refine QX _ _ ⟨j+1,ps.set q ⟨s,LV,Gw,e :: x.w⟩,A,c,tP,(by simp only[push_cast,↓reduceIte,Nat.reduceEqDiff,true_and,and_true,and_self,eq_self,fr,List.length_set]),hM',Px,TP,acM,fun r hr=>?_,by rw[hss];exact xe.grown g17.aJ (xe.gG ho),sn.sto g17 acM (fun i x hi=>prefix_at Px (ME i x hi)),fun r hr=>(Gv r hr).bQ ho (by decide) g17,k8.grown g17.aJ (fun e=>TP e.symm),k1.grown g17.aJ (ho.bG k1 (by decide)).symm,g17.below bb bb.size ho.uh,by have:=g17.aJ.size;omega⟩ (by simp only[push_cast,↓reduceIte,Nat.reduceEqDiff,intOf,fr];omega)
    rcases List.mem_or_eq_of_mem_set hr with hr|rfl
    ·exact(qY r hr).bQ ho (by decide) g17
    ·exact X6.bQ ho (by decide) g17
   ·rw[tM J9 VH.nodup (by rw[EZ];exact hnq) Pw]at du
    simp(disch:=omega)only[push_cast,aa,↓reduceIte,Nat.reduceEqDiff,Int.reduceEq,decide_eq_false Pw,fr]
    exact QX _ _ ⟨j+1,ps,A,c,tP,(by simp only[push_cast,↓reduceIte,Nat.reduceEqDiff,true_and,and_true,and_self,eq_self,fr]),by rw[du];exact hM,Vs,TP,ho,qY,xe,sn,Gv,k8,k1,bb,by omega⟩ (by simp only[push_cast,↓reduceIte,Nat.reduceEqDiff,intOf,fr];omega)
 ·have X0:∀z∈ps,z.s≠s:=fun z hz e=>by
   obtain⟨k,hk⟩:=List.mem_iff_getElem?.1 hz
   exact gY _ (FP (L:=ps.map (·.s)) (i:=k) (t:=z.s) (by rw[List.getElem?_map,hk];rfl)) (by rw[e])
  have X7:s∉(ps.map Pc.abs).map (·.1):=fun h=>by
   obtain⟨r,hr,hre⟩:=List.mem_map.1 h
   obtain⟨z,hz,rfl⟩:=List.mem_map.1 hr
   exact X0 z hz hre
  rw[hM,List.map_append]at X7
  have J9:dv p x.abs.1 e∉(dQ p n).1.map (·.1):=by rw[EZ];exact fun h=>X7 (List.mem_append_left _ h)
  have acN:dv p x.abs.1 e∉(nF (dv p) p.seen (dQ p n).1 (dQ p n).2 i j).map (·.1):=by rw[EZ];exact fun h=>X7 (List.mem_append_right _ h)
  rw[xa J9 acN,EZ]at du
  have hM':∀(W:Option Addr) (cw:Nat),(ps++[(⟨s,W,cw,e :: x.w⟩:Pc)]).map Pc.abs=(dQ p n).1++nF (dv p) p.seen (dQ p n).1 (dQ p n).2 i (j+1):=fun W cw=>by
   rw[du,List.map_append,hM,List.append_assoc];rfl
  simp(disch:=omega)only[push_cast,aa,↓reduceIte,Nat.reduceEqDiff,Int.reduceEq,fr,acK,nz]
  refine tF eT LM xe (jD _) gY _ ?_
  intro LG m16 g16 z16
  replace ho:=ho.bQ g16 (.inr fun e=>xe.gG ho e.symm)
  replace mD:=mD.grown g16.aJ (by have:=xe.lt;simp;omega)
  replace qY:∀x∈ps,dq w.heap.size 3 LG x.W x.w:=fun x hx=>(qY x hx).BP xe g16
  replace Gv:∀x∈j9,dq w.heap.size 3 LG x.W x.w:=fun x hx=>(Gv x hx).BP xe g16
  replace X6:=X6.BP xe g16
  replace sn:=sn.iJ g16 h0m
  replace k8:=k8.grown g16.aJ (by simp;omega)
  replace k1:=k1.grown g16.aJ (by simp;omega)
  replace bb:=g16.below bb bb.size (by intro a ha;injection ha with ha;subst ha;show w.heap.size≤w3.heap.size;omega)
  have aht:=fun{K:Fr→World→Prop} {f:Fr} {d:Option Nat} {w':World}=>mD.cM (K:=K) (f:=f) (d:=d) (w:=w') (af _) al aw
  simp(disch:=omega)only[push_cast,aa,↓reduceIte,Nat.reduceEqDiff,Int.reduceEq,fr,aht,Iw ⟨s,LV,Gw,e :: x.w⟩,ea bc kz _ (by decide)]
  refine Pt bc kz ho ⟨s,LV,Gw,e :: x.w⟩ (by omega) (by omega) bb.size ?_
  intro A' c' JX oR g17 acO anL acP
  have Px:Cs<+:ps++[⟨s,LV,Gw,e :: x.w⟩]:=Vs.trans (List.prefix_append _ _)
  have ahu:A'.map (·.block)≠some w7.heap.size:=by
   rcases acO with rfl|⟨⟨g,rfl,hg⟩,_⟩
   ·exact TP
   ·have:=k8.lt;simp;omega
  have sn':=sn.app g17 oR (fun i x hi=>prefix_at Px (ME i x hi)) acO
  simp(disch:=omega)only[push_cast,aa,↓reduceIte,Nat.reduceEqDiff,Int.reduceEq,fr]
  refine QX _ _ ⟨j+1,ps++[⟨s,LV,Gw,e :: x.w⟩],A',c',tP,(by simp only[push_cast,↓reduceIte,Nat.reduceEqDiff,true_and,and_true,and_self,eq_self,fr,List.length_append,List.length_cons,List.length_nil]),hM' _ _,Px,ahu,oR,fun r hr=>?_,?_,sn',fun r hr=>(Gv r hr).bQ ho (by decide) g17,k8.grown g17.aJ (fun e=>TP e.symm),k1.grown g17.aJ (ho.bG k1 (by decide)).symm,g17.below bb bb.size ho.uh,by omega⟩ (by simp only[push_cast,↓reduceIte,Nat.reduceEqDiff,intOf,fr];omega)
  ·rcases List.mem_append.1 hr with hr|hr
   ·exact(qY r hr).bQ ho (by decide) g17
   ·rw[List.mem_singleton.1 hr];exact X6.bQ ho (by decide) g17
  ·rw[Gn]
   exact m16.grown g17.aJ (m16.gG ho)
open Go.RowKit
open Go.RowKit
structure LW(a b:List Nat)(i:Nat)(ws:List Nat):Prop where
 len:ws.length=4
 at_:∀k,ws.getD k 0=if k<i then a.getD k 0&&&b.getD k 0 else a.getD k 0
theorem LW.start{a:List Nat}(ha:a.length=4)(b:List Nat):LW a b 0 a:=⟨ha,fun k=>by rw[if_neg (by omega)]⟩
theorem LW.step{a b ws:List Nat}{i:Nat}(h:LW a b i ws)(hi:i<4):LW a b (i+1) (ws.set i (ws.getD i 0&&&b.getD i 0)):=by
 refine⟨by rw[List.length_set];exact h.len,fun k=>?_⟩
 rw[wv _ _ _ _ _ (by rw[h.len];exact hi)]
 by_cases e:k=i
 ·subst e
  rw[if_pos rfl,if_pos (by omega),h.at_,if_neg (by omega)]
 ·rw[if_neg e,h.at_]
  by_cases c:k<i
  ·rw[if_pos c,if_pos (by omega)]
  ·rw[if_neg c,if_neg (by omega)]
theorem LW.done{s t:List Int}{ws:List Nat}(h:LW (ae s) (ae t) 4 ws):ws=ae (fc s t true):=by
 refine wK ⟨h.len,fun i=>?_⟩ fun n hn=>?_
 ·rw[h.at_]
  split
  ·exact Nat.and_lt_two_pow _ ((af t).2 i)
  ·exact(af s).2 i
 ·unfold aV
  rw[h.at_,if_pos (by omega),Nat.testBit_and]
  have h1:=bh s n hn
  have h2:=bh t n hn
  unfold aV at h1 h2
  rw[h1,h2,←Bool.decide_and]
  exact decide_eq_decide.2 (by rw[tD])
theorem xf(ws:List Nat)(i z:Nat)(tl:List Value)(hi:i<ws.length):(setCells ws++tl).set i (.int .u64 (z:Int))=setCells (ws.set i z)++tl:=by
 rw[List.set_append_left _ _ (by rw[br];exact hi)]
 unfold setCells
 rw[List.map_set]
theorem uD(ws:List Nat)(i:Nat)(tl:List Value)(hi:i<ws.length):(setCells ws++tl).getD i undef= .int .u64 ((ws.getD i 0:Nat):Int):=by
 rw[List.getD_eq_getElem?_getD,List.getElem?_append_left (by rw[br];exact hi)]
 unfold setCells
 simp[List.getD_eq_getElem?_getD,hi]
theorem BS{w:World}(s t:List Int):
  dw Tryz.prog 61 [bC s,bC t] w fun v w'=>v=bC (fc s t true)∧Below w.heap.size w w':=by
 refine AF (by simp) 100000 fun Q hQ=>?_
 simp(disch:=omega)only[push_cast,aa,↓reduceIte,Nat.reduceEqDiff,Int.reduceEq,vW]
 refine au (aO _ (setCells (ae s))) ?_
 intro w1 k1 b1 z1
 simp(disch:=omega)only[push_cast,aa,↓reduceIte,Nat.reduceEqDiff,Int.reduceEq]
 refine au (aO _ (setCells (ae t))) ?_
 intro w2 k2 b2 z2
 replace k1:=k1.below b2 k1.lt
 have bb:=b1.trans (b2.mono b1.size)
 simp(disch:=omega)only[push_cast,aa,↓reduceIte,Nat.reduceEqDiff,Int.reduceEq]
 refine au (cs:=setCells (ae [])) cB ?_
 intro w3 k3 b3 z3
 replace k1:=k1.below b3 k1.lt
 replace k2:=k2.below b3 k2.lt
 replace bb:=bb.trans (b3.mono bb.size)
 simp(disch:=omega)only[push_cast,aa,↓reduceIte,Nat.reduceEqDiff,Int.reduceEq]
 refine ax (fun f w'=>∃(i:Nat) (ws:List Nat),i≤4∧(f 2= .pointer (some ⟨w.heap.size,0,none⟩)∧f 3= .pointer (some ⟨w1.heap.size,0,none⟩)∧f 4= .pointer (some ⟨w2.heap.size,0,none⟩)∧f 6= .int .i64 i)∧LW (ae s) (ae t) i ws∧
   aE w' w.heap.size 107 (setCells ws++[])∧aE w' w1.heap.size 107 (setCells (ae t))∧aE w' w2.heap.size 107 (setCells (ae []))∧Below w.heap.size w w')
  (fun f _=>4-(intOf (f 6)).toNat) ⟨0,ae s,by omega,⟨rfl,rfl,rfl,rfl⟩,LW.start (af s).1 _,by rw[List.append_nil];exact k1,k2,k3,bb⟩ ?_
 clear k1 k2 k3 bb
 rintro f w4 ⟨i,ws,hi,fr,hw,k1,k2,k3,bb⟩ J hJ
 by_cases aI:(i:Int)<4
 case neg=>
  have Vm:i=4:=by omega
  have hd:=(Vm▸hw:LW _ _ 4 ws).done
  subst hd
  rw[List.append_nil]at k1
  simp(disch:=omega)only[push_cast,aa,↓reduceIte,Nat.reduceEqDiff,Int.reduceEq,lQ,fr,aI,k1.cM (af _) al aw]
  refine aC k3 (cs:=setCells (ae (fc s t true))) (bn _) (by rw[ao,ao]) (aH _) ?_
  intro w5 k5 g5 z5
  simp(disch:=omega)only[push_cast,aa,↓reduceIte,Nat.reduceEqDiff,Int.reduceEq]
  exact zk k5 al (bn _) (by simp only[push_cast,↓reduceIte,Nat.reduceEqDiff,Int.reduceEq,fr]) (hQ _ _ ⟨rfl,g5.below bb bb.size (by intro a ha;injection ha with ha;subst ha;show w.heap.size≤w2.heap.size;omega)⟩)
 have Bp:i<4:=by omega
 have k1d:=k1.drew
 have k2d:=k2.drew
 have hx:ws.getD i 0<2^64:=by rw[hw.at_,if_neg (by omega)];exact(af s).2 i
 have hy:=(af t).2 i
 have eU:=hw.step Bp
 have ZZ:=fun{K f d w}=>k1d.ld (P:=Tryz.prog) (K:=K) (f:=f) (d:=d) (w:=w) dR i (by rw[List.length_append,br,hw.len];simp;omega)
 rw[uD ws i [] (by rw[hw.len];exact Bp)]at ZZ
 generalize ws.getD i 0=x at*
 generalize hu:(ae t).getD i 0=y at*
 generalize hz:x&&&y=z at*
 simp(disch:=omega)only[push_cast,aa,↓reduceIte,Nat.reduceEqDiff,Int.reduceEq,lQ,fr,aI,Int.natCast_nonneg,Be hz hx hy,ZZ,k2d.uu (af t) dR i Bp hu]
 refine ft k1d (by kernel_rfl) i (by rw[List.length_append,br,hw.len];simp;omega) .u64 (z:Int) ?_
 intro w5 k5 g5 z5
 rw[xf ws i z [] (by rw[hw.len];exact Bp)]at k5
 simp(disch:=omega)only[push_cast,aa,↓reduceIte,Nat.reduceEqDiff,Int.reduceEq,fr]
 exact hJ _ _ ⟨i+1,_,by omega,(by simp only[push_cast,↓reduceIte,Nat.reduceEqDiff,true_and,and_true,and_self,eq_self,fr]),eU,k5,k2d.grown g5.aJ (by simp;omega),k3.drew.grown g5.aJ (by simp;omega),g5.below (drawn bb) bb.size (by intro a ha;injection ha with ha;subst ha;exact Nat.le_refl _)⟩ (by simp only[push_cast,↓reduceIte,Nat.reduceEqDiff,intOf,fr];omega)
def xg(p:cO)(b:Bool)(o:List Int)(e:Int):Prop:=
 (¬p.bZ∧b=false∧o=[]∧e=2)∨(p.bZ∧e=0∧∃n,(dQ p n).2=[]∧BR (iI (j8 p.aK p.m.aB) (dQ p n).1) b o)
def X8(p:cO)(w:World)(v:Value)(w':World):Prop:=
 ∃(b:Bool) (O:Option Addr) (co:Nat) (o:List Int) (e:Int),v= .tuple #[.bool b,.slice O o.length co,.int .i64 e]∧Ints (fun x=>w.heap.size≤x∧x<w'.heap.size) w' O o∧o.length≤100000∧Below w.heap.size w w'∧xg p b o e
theorem Py(x:Pc):Pc.cells x=setCells (ae x.s)++[.slice x.W x.w.length x.cw]:=rfl
theorem EC{w:World}{a:PV}{p:cO}(ha:tv (·<w.heap.size) w a p)(hf:p.Fits):dw Tryz.prog 23 [a.val p] w (X8 p w):=by
 refine xC (by simp) 100000 fun Q hQ=>?_
 simp(disch:=omega)only[push_cast,aa,↓reduceIte,Nat.reduceEqDiff,Int.reduceEq,rB]
 refine au (aO _ (a.cells p)) ?_
 intro w1 k1 b1 z1
 simp(disch:=omega)only[push_cast,aa,↓reduceIte,Nat.reduceEqDiff,Int.reduceEq,k1.J4]
 refine ah (nC (ha.up b1) hf) ?_
 rintro v w2 ⟨rfl,b2⟩
 replace k1:=k1.below b2 k1.lt
 have bb:=b1.trans (b2.mono b1.size)
 by_cases p1:p.bZ
 case neg=>
  simp(disch:=omega)only[push_cast,aa,↓reduceIte,Nat.reduceEqDiff,Int.reduceEq,decide_eq_false p1]
  exact E9 (hQ _ _ ⟨false,none,0,[],2,(by simp only[push_cast,↓reduceIte,Nat.reduceEqDiff,Int.reduceEq,List.length_nil]),Ints.nil _ _ _,by simp,bb,.inl ⟨p1,rfl,rfl,rfl⟩⟩)
 have hm:=p1.1
 have eU:p.m.aj≤256:=hm.2.1
 have nP:=p1.Gr
 have nQ:=hf.Oh
 simp(disch:=omega)only[push_cast,aa,↓reduceIte,Nat.reduceEqDiff,Int.reduceEq,decide_eq_true p1,k1.p2]
 refine ah (gO (ha.up bb).m.aB _ hf.m.Wm ((fu hm).small eU)) ?_
 rintro v w3 ⟨rfl,b3⟩
 replace k1:=k1.below b3 k1.lt
 have hz1:=b1.size
 have hz2:=b2.size
 replace bb:=bb.trans (b3.mono bb.size)
 simp(disch:=omega)only[push_cast,aa,↓reduceIte,Nat.reduceEqDiff,Int.reduceEq]
 refine au (cs:=setCells (ae [])) cB ?_
 intro w4 k4 b4 z4
 have Sx:=bb.size
 replace k1:=k1.below b4 k1.lt
 replace bb:=bb.trans (b4.mono bb.size)
 simp(disch:=omega)only[push_cast,aa,↓reduceIte,Nat.reduceEqDiff,Int.reduceEq]
 refine aC k4 (cs:=setCells (ae p.m.aB)) (bn _) (by rw[ao,ao]) (aH _) ?_
 intro w5 k5 g5 z5
 replace k1:=k1.grown g5.aJ (by have:=k1.lt;simp;have:=b3.size;omega)
 replace bb:=g5.below bb bb.size (by intro a ha;injection ha with ha;subst ha;exact Sx)
 simp(disch:=omega)only[push_cast,aa,↓reduceIte,Nat.reduceEqDiff,Int.reduceEq,k1.J4]
 refine ah (sV (ha.up bb) hf p1) ?_
 rintro v w6 ⟨A,c,ps,n,rfl,hR,qY,b6,xd,LU,QU,LX⟩
 have JL:=k1.below b6 k1.lt
 have k56:=k5.below b6 k5.lt
 have LY:=bb.size
 have CO:=bb.trans (b6.mono bb.size)
 have eP:=ll (step:=dv p) (es:=p.seen) (first:=oe p) (U:=UB p) (fun s _ e _=>UB.back hm s e) (UB.all hm) n
 have Hk:∀x∈ps,UB p x.s∧x.w.length≤64:=fun x hx=>by
  have kG:x.abs∈(dQ p n).1:=by rw[←xd];exact List.mem_map.2 ⟨x,hx,rfl⟩
  exact⟨eP.univ _ kG,by have:=(eP.run _ kG).2.2;exact Nat.le_trans this LX⟩
 have hg5:w3.heap.size<w6.heap.size:=k56.lt
 simp(disch:=omega)only[push_cast,aa,↓reduceIte,Nat.reduceEqDiff,Int.reduceEq]
 refine ax (fun f w'=>∃(i:Nat) (O:Option Addr) (co:Nat) (o:List Int) (b:Bool),i≤ps.length∧(f 1= .pointer (some ⟨w.heap.size,0,none⟩)∧f 5= .pointer (some ⟨w3.heap.size,0,none⟩)∧f 6= .slice O o.length co∧f 7= .bool b∧f 19= .slice A ps.length c∧f 20= .int .i64 ps.length∧f 21= .int .i64 i)∧
   Ints (fun x=>w5.heap.size≤x∧x<w6.heap.size) w' O o∧o.length≤64∧BR (iI (j8 p.aK p.m.aB) ((ps.take i).map Pc.abs)) b o∧Below w6.heap.size w6 w')
  (fun f _=>ps.length-(intOf (f 21)).toNat) ⟨0,none,0,[],false,Nat.zero_le _,⟨rfl,rfl,rfl,rfl,rfl,rfl,rfl⟩,Ints.nil _ _ _,by simp,⟨rfl,rfl⟩,Below.refl _ _⟩ ?_
 rintro f w7 ⟨i,O,co,o,b,hi,fr,hO,ho,CS,b7⟩ J hJ
 have Cr:=CO.trans (b7.mono CO.size)
 by_cases aI:i<ps.length
 case neg=>
  obtain rfl:i=ps.length:=by omega
  rw[List.take_length,xd]at CS
  simp(disch:=omega)only[push_cast,aa,↓reduceIte,Nat.reduceEqDiff,Int.reduceEq,jg,fr,Nat.lt_irrefl]
  exact E9 (hQ _ _ ⟨b,O,co,o,0,(by simp only[push_cast,↓reduceIte,Nat.reduceEqDiff,Int.reduceEq,fr]),hO.mono fun x hx=>⟨by have:=hx.1;omega,by have:=hx.2;have:=b7.size;omega⟩,by omega,Cr,.inr ⟨p1,rfl,n,LU,CS⟩⟩)
 have Po:ps[i]? =some (ps[i]'aI):=List.getElem?_eq_getElem aI
 have kG:ps[i]'aI∈ps:=List.getElem_mem aI
 have O5:ps.take (i+1)=ps.take i++[ps[i]'aI]:=List.take_succ_eq_append_getElem aI
 generalize ps[i]'aI=x at*
 have du:iI (j8 p.aK p.m.aB) ((ps.take (i+1)).map Pc.abs)=if j8 p.aK p.m.aB x.s=true∧(∀v,iI (j8 p.aK p.m.aB) ((ps.take i).map Pc.abs)=some v→hZ x.w v)then some x.w else iI (j8 p.aK p.m.aB) ((ps.take i).map Pc.abs):=by
  rw[O5,List.map_append,List.map_singleton,BN];rfl
 obtain⟨hxU,hxw⟩:=Hk x kG
 have hR7:=hR.keep fun b hb=>b7.block b hb.2
 have hA:=hR7.isSome (by omega)
 have ud:=fun{K:Fr→World→Prop} {f:Fr} {d:Option Nat} {w':World}=>hR7.dC (P:=Tryz.prog) (K:=K) (f:=f) (d:=d) (w:=w') bc kU Po dS
 simp(disch:=omega)only[push_cast,aa,↓reduceIte,Nat.reduceEqDiff,Int.reduceEq,jg,fr,aI,ud]
 refine au (cs:=Pc.cells ⟨[],none,0,[]⟩) xU ?_
 intro w8 k8 b8 z8
 simp(disch:=omega)only[push_cast,aa,↓reduceIte,Nat.reduceEqDiff,Int.reduceEq]
 refine aC k8 (cs:=Pc.cells x) (by rw[bc.len];exact dS) (by rw[bc.len,bc.len]) (List.all_eq_true.2 (bc.one x)) ?_
 intro w9 k9 g9 z9
 have J8:=g9.below b8 b8.size (by intro a ha;injection ha with ha;subst ha;exact Nat.le_refl _)
 have Q9:=b7.trans (J8.mono b7.size)
 have h67:=b7.size
 simp(disch:=omega)only[push_cast,aa,↓reduceIte,Nat.reduceEqDiff,Int.reduceEq,fr]
 rw[Py]at k9
 have hu9:w9.heap.size=w9.heap.size:=rfl
 refine ax (fun f' w'=>∃(q:Nat) (ws:List Nat),q≤4∧(f' 1= .pointer (some ⟨w.heap.size,0,none⟩)∧f' 5= .pointer (some ⟨w3.heap.size,0,none⟩)∧f' 6= .slice O o.length co∧f' 7= .bool b∧f' 9= .pointer (some ⟨w7.heap.size,0,none⟩)∧f' 19= .slice A ps.length c∧f' 20= .int .i64 ps.length∧f' 21= .int .i64 i∧f' 25= .int .i64 q)∧
   LW (ae x.s) (ae p.m.aB) q ws∧aE w' w7.heap.size 112 (setCells ws++[.slice x.W x.w.length x.cw])∧Below w6.heap.size w6 w')
  (fun f' _=>4-(intOf (f' 25)).toNat) ⟨0,ae x.s,by omega,(by simp only[push_cast,↓reduceIte,Nat.reduceEqDiff,true_and,and_true,and_self,eq_self,fr]),LW.start (af _).1 _,k9,Q9⟩ ?_
 have gZ:(intOf (f 21)).toNat=i:=by rw[fr.2.2.2.2.2.2];simp[intOf]
 clear k9 k8 J8 Q9 b8 g9 ud hR7 fr
 rintro f uv ⟨q,ws,hq,fr,hw,k9,fM⟩ J2 jH
 have ahw:=k56.below fM hg5
 by_cases kI:(q:Int)<4
 case pos=>
  have Bp:q<4:=by omega
  have k1d:=k9.drew
  have k2d:=ahw.drew
  have hx:ws.getD q 0<2^64:=by rw[hw.at_,if_neg (by omega)];exact(af _).2 q
  have hy:=(af p.m.aB).2 q
  have eU:=hw.step Bp
  have ZZ:=fun{K f d w}=>k1d.ld (P:=Tryz.prog) (K:=K) (f:=f) (d:=d) (w:=w) dR q (by rw[List.length_append,br,hw.len];simp;omega)
  rw[uD ws q _ (by rw[hw.len];exact Bp)]at ZZ
  generalize ws.getD q 0=xx at*
  generalize hu:(ae p.m.aB).getD q 0=y at*
  generalize hz:xx&&&y=z at*
  simp(disch:=omega)only[push_cast,aa,↓reduceIte,Nat.reduceEqDiff,Int.reduceEq,jf,fr,kI,Int.natCast_nonneg,Be hz hx hy,ZZ,k2d.uu (af _) dR q Bp hu]
  refine ft k1d (by kernel_rfl) q (by rw[List.length_append,br,hw.len];simp;omega) .u64 (z:Int) ?_
  intro zY Dt g11 xv
  rw[xf ws q z _ (by rw[hw.len];exact Bp)]at Dt
  simp(disch:=omega)only[push_cast,aa,↓reduceIte,Nat.reduceEqDiff,Int.reduceEq,fr]
  exact jH _ _ ⟨q+1,_,by omega,(by simp only[push_cast,↓reduceIte,Nat.reduceEqDiff,true_and,and_true,and_self,eq_self,fr]),eU,Dt,g11.below (drawn fM) fM.size (by intro a ha;injection ha with ha;subst ha;exact h67)⟩ (by simp only[push_cast,↓reduceIte,Nat.reduceEqDiff,intOf,fr];omega)
 have hqe:q=4:=by omega
 have hd:=(hqe▸hw:LW _ _ 4 ws).done
 subst hd
 have E0:setCells (ae (fc x.s p.m.aB true))++[.slice x.W x.w.length x.cw]=Pc.cells ⟨fc x.s p.m.aB true,x.W,x.cw,x.w⟩:=rfl
 rw[E0]at k9
 have TR:=CO.trans (fM.mono CO.size)
 have ahx:=JL.below fM JL.lt
 have LN:=fun{K:Fr→World→Prop} {f:Fr} {d:Option Nat} {w':World}=>k9.oZ (P:=Tryz.prog) (K:=K) (f:=f) (d:=d) (w:=w') al 0 (vs:=setCells (ae (fc x.s p.m.aB true))) (bn _) (Pc.cell0 ⟨fc x.s p.m.aB true,x.W,x.cw,x.w⟩)
 have Hj:Small (fc x.s p.m.aB true):=fun z hz=>hxU.1.small eU z (tD.1 hz).1
 have htb:j8 p.aK p.m.aB x.s=decide (dx (fc x.s p.m.aB true) p.aK):=rfl
 simp(disch:=omega)only[push_cast,aa,↓reduceIte,Nat.reduceEqDiff,Int.reduceEq,jf,fr,kI,LN,ahx.p6]
 refine ah (fX Hj (ha.up TR).aK (by omega) (p1.2.2.2.small eU)) ?_
 rintro v zY ⟨rfl,vK⟩
 have X9:=k9.below vK k9.lt
 have ID:=fM.trans (vK.mono fM.size)
 have hOw:∀{w':World},Below w6.heap.size w6 w'→Ints (fun x=>w5.heap.size≤x∧x<w6.heap.size) w' x.W x.w:=fun{w'} hb=>(qY x kG).keep fun b sH=>hb.block b sH.2
 have hO6:∀{w':World},Below w6.heap.size w6 w'→Ints (fun x=>w5.heap.size≤x∧x<w6.heap.size) w' O o:=fun{w'} hb=>hO.keep fun z hz=>by rw[hb.block z hz.2,b7.block z hz.2]
 have yi:=fun{w':World} (h:aE w' w7.heap.size 112 (Pc.cells ⟨fc x.s p.m.aB true,x.W,x.cw,x.w⟩)) {K:Fr→World→Prop} {f:Fr} {d:Option Nat} {w:World}=>h.ld (P:=Tryz.prog) (K:=K) (f:=f) (d:=d) (w:=w) aS 4 (by rw[bc.len];omega)
 have OJ:(Pc.cells ⟨fc x.s p.m.aB true,x.W,x.cw,x.w⟩).getD 4 undef= .slice x.W x.w.length x.cw:=by rw[List.getD_eq_getElem?_getD,Pc.uB ⟨fc x.s p.m.aB true,x.W,x.cw,x.w⟩];rfl
 rw[OJ]at yi
 by_cases c1:dx (fc x.s p.m.aB true) p.aK
 case neg=>
  rw[if_neg (fun hh=>c1 (of_decide_eq_true (htb▸hh.1)))]at du
  simp(disch:=omega)only[push_cast,aa,↓reduceIte,Nat.reduceEqDiff,Int.reduceEq,decide_eq_false c1,fr]
  exact hJ _ _ ⟨i+1,O,co,o,b,aI,(by simp only[push_cast,↓reduceIte,Nat.reduceEqDiff,true_and,and_true,and_self,eq_self,fr]),hO6 ID,ho,by rw[du];exact CS,ID⟩ (by rw[gZ];simp only[push_cast,↓reduceIte,Nat.reduceEqDiff,intOf,fr];omega)
 have EV:j8 p.aK p.m.aB x.s=true:=by rw[htb];exact decide_eq_true c1
 cases b with
 |false=>
  have gY:iI (j8 p.aK p.m.aB) ((ps.take i).map Pc.abs)=none:=by
   cases hh:iI (j8 p.aK p.m.aB) ((ps.take i).map Pc.abs)with
   |none=>rfl
   |some v=>rw[hh]at CS;exact absurd CS.1 (by decide)
  rw[if_pos ⟨EV,fun v hv=>by rw[gY]at hv;cases hv⟩]at du
  simp(disch:=omega)only[push_cast,aa,↓reduceIte,Nat.reduceEqDiff,Int.reduceEq,decide_eq_true c1,fr,yi X9]
  exact hJ _ _ ⟨i+1,x.W,x.cw,x.w,true,aI,(by simp only[push_cast,↓reduceIte,Nat.reduceEqDiff,true_and,and_true,and_self,eq_self,fr]),hOw ID,hxw,by rw[du];exact⟨rfl,rfl⟩,ID⟩ (by rw[gZ];simp only[push_cast,↓reduceIte,Nat.reduceEqDiff,intOf,fr];omega)
 |true=>
  have hso:iI (j8 p.aK p.m.aB) ((ps.take i).map Pc.abs)=some o:=by
   cases hh:iI (j8 p.aK p.m.aB) ((ps.take i).map Pc.abs)with
   |none=>rw[hh]at CS;exact absurd CS.1 (by decide)
   |some v=>rw[hh]at CS;rw[CS.2]
  simp(disch:=omega)only[push_cast,aa,↓reduceIte,Nat.reduceEqDiff,Int.reduceEq,decide_eq_true c1,fr,yi X9]
  refine ah (sU (hOw ID) (hO6 ID) x.cw co (by omega)) ?_
  rintro v vq ⟨rfl,s12⟩
  have TT:=ID.trans (s12.below _)
  have ahA:=X9.same s12
  by_cases c2:hZ x.w o
  ·rw[if_pos ⟨EV,fun v hv=>by rw[hso]at hv;rw[←Option.some.inj hv];exact c2⟩]at du
   simp(disch:=omega)only[push_cast,aa,↓reduceIte,Nat.reduceEqDiff,Int.reduceEq,decide_eq_true c2,fr,yi ahA]
   exact hJ _ _ ⟨i+1,x.W,x.cw,x.w,true,aI,(by simp only[push_cast,↓reduceIte,Nat.reduceEqDiff,true_and,and_true,and_self,eq_self,fr]),hOw TT,hxw,by rw[du];exact⟨rfl,rfl⟩,TT⟩ (by rw[gZ];simp only[push_cast,↓reduceIte,Nat.reduceEqDiff,intOf,fr];omega)
  ·rw[if_neg (fun hh=>c2 (hh.2 o hso))]at du
   simp(disch:=omega)only[push_cast,aa,↓reduceIte,Nat.reduceEqDiff,Int.reduceEq,decide_eq_false c2,fr]
   exact hJ _ _ ⟨i+1,O,co,o,true,aI,(by simp only[push_cast,↓reduceIte,Nat.reduceEqDiff,true_and,and_true,and_self,eq_self,fr]),hO6 TT,ho,by rw[du];exact CS,TT⟩ (by rw[gZ];simp only[push_cast,↓reduceIte,Nat.reduceEqDiff,intOf,fr];omega)
open Go.RowKit Go.Shelf
attribute [local go_sem] Oper.semAt_some
open Go.RowKit
open Go.RowKit
theorem lay_all{p:cO}(p1:p.bZ){n:Nat}(hn:(dQ p n).2=[]){u:List Int}(hu:km u p.seen):∃q∈(dQ p n).1,q.1=IA p u∧gW q.2 u:=by
 obtain⟨q,hq,h1,h2⟩:=Ph (step:=dv p) (es:=p.seen) (U:=UB p) (fun s _ e _=>UB.back p1.1 s e) (UB.all p1.1) u hu
 refine⟨q,?_,h1,h2⟩
 rcases Nat.le_total u.length n with c|c
 ·exact(Dy c).subset hq
 ·rw[tN hn _ c]at hq;exact hq
theorem Ka{p:cO}(p1:p.bZ){n:Nat}{q:List Int×List Int}(hq:q∈(dQ p n).1):q.1=IA p q.2∧km q.2 p.seen:=by
 have:=(ll (step:=dv p) (es:=p.seen) (U:=UB p) (fun s _ e _=>UB.back p1.1 s e) (UB.all p1.1) n).run q hq
 exact⟨this.1,this.2.1⟩
open Go.RowKit
def DB(a b:List Int×List Int):Prop:=
 a.1.length+a.2.length<b.1.length+b.2.length∨(a.1.length+a.2.length=b.1.length+b.2.length∧
  (a.2.length<b.2.length∨(a.2.length=b.2.length∧(hZ a.1 b.1∨(a.1=b.1∧hZ a.2 b.2)))))
theorem DB.irrefl(a:List Int×List Int):¬DB a a:=by
 rintro(h|⟨_,h|⟨_,h|⟨_,h⟩⟩⟩)
 ·omega
 ·omega
 ·exact hZ.irrefl _ h
 ·exact hZ.irrefl _ h
theorem DB.trans{a b c:List Int×List Int}(h:DB a b)(k:DB b c):DB a c:=by
 rcases h with h|⟨e,h|⟨e1,h|⟨e2,h⟩⟩⟩<;>rcases k with k|⟨d,k|⟨d1,k|⟨d2,k⟩⟩⟩
 all_goals first
  |exact .inl (by omega)
  |exact .inr ⟨by omega,.inl (by omega)⟩
  |exact .inr ⟨by omega,.inr ⟨by omega,.inl (h.trans k)⟩⟩
  |exact .inr ⟨by omega,.inr ⟨by omega,.inl (d2▸h)⟩⟩
  |exact .inr ⟨by omega,.inr ⟨by omega,.inl (e2▸k)⟩⟩
  |exact .inr ⟨by omega,.inr ⟨by omega,.inr ⟨e2.trans d2,h.trans k⟩⟩⟩
theorem DB.total(a b:List Int×List Int):DB a b∨a=b∨DB b a:=by
 rcases Nat.lt_trichotomy (a.1.length+a.2.length) (b.1.length+b.2.length)with h|h|h
 ·exact .inl (.inl h)
 ·rcases Nat.lt_trichotomy a.2.length b.2.length with k|k|k
  ·exact .inl (.inr ⟨h,.inl k⟩)
  ·rcases hZ.total a.1 b.1 with c|c|c
   ·exact .inl (.inr ⟨h,.inr ⟨k,.inl c⟩⟩)
   ·rcases hZ.total a.2 b.2 with d|d|d
    ·exact .inl (.inr ⟨h,.inr ⟨k,.inr ⟨c,d⟩⟩⟩)
    ·exact .inr (.inl (Prod.ext c d))
    ·exact .inr (.inr (.inr ⟨h.symm,.inr ⟨k.symm,.inr ⟨c.symm,d⟩⟩⟩))
   ·exact .inr (.inr (.inr ⟨h.symm,.inr ⟨k.symm,.inl c⟩⟩))
  ·exact .inr (.inr (.inr ⟨h.symm,.inl k⟩))
 ·exact .inr (.inr (.inl h))
def yj(Q:List Int×List Int→Prop)(o:Option (List Int×List Int)):Prop:=
 match o with
 |none=>∀x,¬Q x
 |some x=>Q x∧∀y,Q y→¬DB y x
theorem yj.unique{Q:List Int×List Int→Prop}{o o':Option (List Int×List Int)}(h:yj Q o)(h':yj Q o'):o=o':=by
 cases o with
 |none=>cases o' with
  |none=>rfl
  |some x=>exact absurd h'.1 (h x)
 |some x=>cases o' with
  |none=>exact absurd h.1 (h' x)
  |some y=>
   rcases DB.total x y with c|c|c
   ·exact absurd c (h'.2 x h.1)
   ·rw[c]
   ·exact absurd c (h.2 y h'.1)
end Go.Proofs.YtcefeihlkpmejaaGreatDoor
