/- A part of the proof. -/
import Derived.Test.YtcefeihlkpmejaaGreatDoorYM17
import Derived.Test.YtcefeihlkpmejaaGreatDoorYM9
import Derived.Test.YtcefeihlkpmejaaGreatDoorRows
import Derived.ProofKit
import Derived.LaidMore
import Derived.LaidLaws
import Derived.OpenShut
import Derived.Stop.Joined
import Derived.ChangeMaps5
import Derived.Lib.LaidTab
namespace Go.Proofs.YtcefeihlkpmejaaGreatDoor
set_option linter.unusedSimpArgs false
set_option linter.unusedVariables false
set_option linter.unusedSectionVars false
open Go.ChangeShapes Go.WideShapes Go.ChangeAt Go.RowKit
section
variable {fuel:Nat} {W:World} {cs:Array Value} {p:List MemPlace}
theorem aem(hv:W.var? Tryz.prog "math/bits.deBruijn64tab" =some cs)(hd:DataW.trod (fun _=>()) Tryz.prog W 0 (fun _=>true) false fuel 211 cs.toList=some (Rows.laid_math_bits_deBruijn64tab,p)):xq W:=by
 have Xw:DataW.trod (fun _=>()) Tryz.prog W 0 (fun _=>true) false fuel 211 cs.toList=some (Lib.tabData .u8 (De.map fun n:Nat=>(n:Int)),p):=hd
 have h:=Lib.cells_of_tab Tryz.underlying211 Tryz.underlying5 (by kernel_rfl) (by kernel_rfl) Xw
 refine⟨fun i hi=>?_⟩
 have h3:=World.var?_cell (show Tryz.prog.globalNamed "math/bits.deBruijn64tab" =some 2 by kernel_rfl) hv i
 rw[h3]
 have h4:cs[i]? =cs.toList[i]? :=by simp
 rw[h4,h,List.map_map,List.getElem?_map]
 have h2:De[i]? =some (De.getD i 0):=by rw[List.getD_eq_getElem?_getD,List.getElem?_eq_getElem (show i<De.length from hi)];rfl
 rw[h2]
 rfl
theorem aen(hv:W.var? Tryz.prog "internal/strconv.uint64pow10" =some cs)(hd:DataW.trod (fun _=>()) Tryz.prog W 0 (fun _=>true) false fuel 237 cs.toList=some (Rows.laid_internal_strconv_uint64pow10,p)):Pow W:=by
 have Xw:DataW.trod (fun _=>()) Tryz.prog W 0 (fun _=>true) false fuel 237 cs.toList=some (Lib.tabData .u64 Lib.pow10Tab,p):=hd
 have h:=Lib.cells_of_tab Tryz.underlying237 Tryz.underlying105 (by kernel_rfl) (by kernel_rfl) Xw
 unfold Pow Lib.TabIs
 rw[hv,←h]
theorem ZC:(match(Rows.laid_jalousie_text_parts:DataW Unit)with| .agg l=>l|_=>[])=mB.map fun(s:ByteArray)=>.lit (.string s.data.toList):=by rfl
theorem aeo(hv:W.var? Tryz.prog "jalousie/text.parts" =some cs)(hd:DataW.trod (fun _=>()) Tryz.prog W 0 (fun _=>true) false fuel 57 cs.toList=some (Rows.laid_jalousie_text_parts,p)):mE W:=by
 obtain⟨xs,m1,rfl,QQ,hlen,hn3,hel⟩:=DataW.trod_array Tryz.underlying57 hd
 have c3:Tryz.prog.cellsOf 9=1:=by kernel_rfl
 simp only[Prod.mk.injEq]at QQ
 have hxs:xs.map (·.1)=mB.map fun(s:ByteArray)=>DataW.lit (.string s.data.toList):=by
  have:=ZC
  rw[QQ.1]at this
  exact this
 refine⟨fun i hi=>?_⟩
 have h0:=hel i hi
 rw[c3]at h0
 have Pz:xs[i]? =some (xs[i]'(by omega)):=List.getElem?_eq_getElem (by omega)
 rw[Pz]at h0
 obtain⟨s,e1,e2,_⟩:=DataW.trod_string Tryz.underlying9 h0
 have hk:s=mB.getD i ⟨#[]⟩:=by
  have h1:(xs.map (·.1))[i]? =some (DataW.lit (.string s.data.toList)):=by rw[List.getElem?_map,Pz,e2];rfl
  rw[hxs,List.getElem?_map]at h1
  have h2:mB[i]? =some (mB.getD i ⟨#[]⟩):=by rw[List.getD_eq_getElem?_getD,List.getElem?_eq_getElem (show i<mB.length from hi)];rfl
  rw[h2]at h1
  simp only[Option.map_some,Option.some.injEq,DataW.lit.injEq,Lit.string.injEq]at h1
  generalize mB.getD i ⟨#[]⟩=q at h1
  obtain⟨⟨l⟩⟩:=s
  obtain⟨⟨m⟩⟩:=q
  simp only at h1
  rw[h1]
 have h3:=World.var?_cell (show Tryz.prog.globalNamed "jalousie/text.parts" =some 0 by kernel_rfl) hv i
 rw[h3,←hk]
 have h4:(cs.toList.drop (i*1)).take 1=[.string s]:=e1
 rw[Nat.mul_one]at h4
 have h5:cs.toList[i]? =some (.string s):=by
  have:=congrArg (fun l:List Value=>l[0]?) h4
  simpa[List.getElem?_take,List.getElem?_drop]using this
 simpa using h5
theorem VP{n nm:String}{g:Nat}{ms:Array (String×TypeId)}{t:TypeId}{d:DataW Unit}(hg:Tryz.prog.globalNamed n=some g)(ht:Tryz.prog.underlying t=some (.interface ms))(hv:W.var? Tryz.prog n=some cs)
  (hd:DataW.trod (fun _=>()) Tryz.prog W 0 (fun _=>true) false fuel t cs.toList=some (.iface nm d,p)):tc W g:=by
 have h3:=World.var?_cell hg hv 0
 obtain⟨_,u,v,e,_⟩:=iface_of_trod ht hd
 have h4:cs[0]? =cs.toList[0]? :=by simp
 rw[h4,e]at h3
 exact⟨_,h3,.inr ⟨u,v,rfl⟩⟩
end
theorem rG:jB.g 1=1:=by kernel_rfl
theorem ZD{W:World}(h:laidMetH Tryz.prog Rows.toolOnUptoRow.laid W)(Pw:W.ShapedOpen Tryz.prog):G5 W:=by
 rw[MakeChecks.laidMetH_plain _ _ _ (by kernel_rfl)]at h
 obtain⟨ps,hl,_⟩:=h
 obtain⟨_,_,_,_,_,_,_,_,_,_,hl,_⟩:=hl
 obtain⟨g1,t1,c1,f1,p1,_,T6,ht1,hv1,hd1,hl,_⟩:=hl
 obtain⟨g2,t2,c2,f2,p2,_,MD,Ie,hv2,hd2,hl,_⟩:=hl
 obtain⟨_,_,_,_,_,_,_,_,_,_,hl,_⟩:=hl
 obtain⟨g3,t3,c3,f3,p3,_,hg3,ht3,hv3,hd3,hl,_⟩:=hl
 obtain⟨g4,t4,c4,f4,p4,_,hg4,ht4,hv4,hd4,hl,_⟩:=hl
 obtain⟨g5,t5,c5,f5,p5,_,hg5,ht5,hv5,hd5,hl,_⟩:=hl
 obtain rfl:=Option.some.inj ((show Tryz.prog.globalNamed "math/bits.deBruijn64tab" =some 2 by kernel_rfl).symm.trans T6)
 obtain rfl:=Option.some.inj ((show Tryz.prog.globalNamed "internal/strconv.uint64pow10" =some 7 by kernel_rfl).symm.trans MD)
 obtain rfl:=Option.some.inj ((show Tryz.prog.globalNamed "strconv.ErrRange" =some 6 by kernel_rfl).symm.trans hg3)
 obtain rfl:=Option.some.inj ((show Tryz.prog.globalNamed "strconv.ErrSyntax" =some 5 by kernel_rfl).symm.trans hg4)
 obtain rfl:=Option.some.inj ((show Tryz.prog.globalNamed "jalousie/text.parts" =some 0 by kernel_rfl).symm.trans hg5)
 obtain rfl:=Option.some.inj ((show(Tryz.prog.globals[2]?).map (·.type)=some 211 by kernel_rfl).symm.trans ht1)
 obtain rfl:=Option.some.inj ((show(Tryz.prog.globals[7]?).map (·.type)=some 237 by kernel_rfl).symm.trans Ie)
 obtain rfl:=Option.some.inj ((show(Tryz.prog.globals[6]?).map (·.type)=some 153 by kernel_rfl).symm.trans ht3)
 obtain rfl:=Option.some.inj ((show(Tryz.prog.globals[5]?).map (·.type)=some 153 by kernel_rfl).symm.trans ht4)
 obtain rfl:=Option.some.inj ((show(Tryz.prog.globals[0]?).map (·.type)=some 57 by kernel_rfl).symm.trans ht5)
 obtain⟨m,hm⟩:=xY.s1_3 W Pw
 rw[rG]at hm
 exact⟨⟨aeo hv5 hd5,aem hv1 hd1,aen hv2 hd2,m,hm⟩,VP hg4 Tryz.underlying153 hv4 hd4,VP hg3 Tryz.underlying153 hv3 hd3⟩
theorem arg_str{H:Type}{enc:TypeId×Value→H}{P:Program}{w:World}{base:Nat}{spare:Nat→Bool}{held:Bool}{r:Reach}{b0:Nat}{t:TypeId}{v:Value}{d:DataW H}{pl:List MemPlace}(ht:P.underlying t=some .string)
  (QL:Value.okWide P w r b0 t v)(h:DataW.Trod enc P w base spare held t v d pl):∃s:ByteArray,v= .string s∧d= .lit (.string s.data.toList):=by
 obtain⟨s,rfl,rfl,_,_⟩:=ChangeMaps.open_string ht QL h
 exact⟨s,rfl,rfl⟩
theorem Hc{H:Type}:∀{ds:List (DataW H)} {d:DataW H},d∈ds→Rows.uptoBulk d≤Rows.uptoBulkAll ds
 |[],_,h=>by cases h
 |x :: r,d,h=>by
  rw[Rows.uptoBulkAll]
  rcases List.mem_cons.1 h with rfl|h
  ·exact Nat.le_add_right _ _
  ·exact Nat.le_trans (Hc h) (Nat.le_add_left _ _)
theorem He{H:Type}{ds:List (DataW H)}(h:Rows.uptoSmall H ds=true){s:ByteArray}(hm:DataW.lit (.string s.data.toList)∈ds):s.size≤1048576:=by
 have h1:=of_decide_eq_true h
 have h2:=Hc hm
 rw[Rows.uptoBulk]at h2
 have e:s.size=s.data.toList.length:=by rw[Array.length_toList];rfl
 omega
end Go.Proofs.YtcefeihlkpmejaaGreatDoor
