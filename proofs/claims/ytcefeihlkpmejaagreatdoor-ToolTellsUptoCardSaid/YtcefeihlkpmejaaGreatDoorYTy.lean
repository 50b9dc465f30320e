/- A part of the proof. -/
import Derived.Test.YtcefeihlkpmejaaGreatDoorProg
import Derived.Test.YtcefeihlkpmejaaGreatDoorYLaws
import Derived.KernelRfl
namespace Go.Proofs.YtcefeihlkpmejaaGreatDoor
set_option linter.unusedSimpArgs false
set_option linter.unusedVariables false
set_option linter.unusedSectionVars false
theorem ak:aR Tryz.prog 3=some false:=by kernel_rfl
theorem oU:aL Tryz.prog 3=some 1:=by kernel_rfl
theorem Jj:aR Tryz.prog 4=some false:=by kernel_rfl
theorem RU:aR Tryz.prog 5=some false:=by kernel_rfl
theorem zQ:aR Tryz.prog 9=some false:=by kernel_rfl
theorem we:aR Tryz.prog 22=some false:=by kernel_rfl
theorem AK:qO Tryz.prog 22=some 1:=by kernel_rfl
theorem aS:aR Tryz.prog 24=some false:=by kernel_rfl
theorem sj:qO Tryz.prog 24=some 1:=by kernel_rfl
theorem fQ:aR Tryz.prog 25=some false:=by kernel_rfl
theorem AL:qO Tryz.prog 25=some 3:=by kernel_rfl
theorem iC:aR Tryz.prog 27=some true:=by kernel_rfl
theorem fR:aL Tryz.prog 27=some 5:=by kernel_rfl
theorem pP:bw Tryz.prog 27 0=some 0:=by kernel_rfl
theorem AM:bw Tryz.prog 27 1=some 1:=by kernel_rfl
theorem pQ:bw Tryz.prog 27 2=some 2:=by kernel_rfl
theorem AO:bw Tryz.prog 27 3=some 3:=by kernel_rfl
theorem pS:bw Tryz.prog 27 4=some 4:=by kernel_rfl
theorem Fm:aR Tryz.prog 29=some true:=by kernel_rfl
theorem ml:aL Tryz.prog 29=some 11:=by kernel_rfl
theorem pU:bw Tryz.prog 29 0=some 0:=by kernel_rfl
theorem pV:bw Tryz.prog 29 1=some 1:=by kernel_rfl
theorem pW:bw Tryz.prog 29 2=some 2:=by kernel_rfl
theorem pX:bw Tryz.prog 29 3=some 7:=by kernel_rfl
theorem pY:bw Tryz.prog 29 4=some 8:=by kernel_rfl
theorem AP:bw Tryz.prog 29 5=some 9:=by kernel_rfl
theorem pZ:bw Tryz.prog 29 6=some 10:=by kernel_rfl
theorem Fo:aR Tryz.prog 35=some false:=by kernel_rfl
theorem AQ:aR Tryz.prog 37=some true:=by kernel_rfl
theorem mn:aL Tryz.prog 37=some 2:=by kernel_rfl
theorem AR:bw Tryz.prog 37 0=some 0:=by kernel_rfl
theorem AT:bw Tryz.prog 37 1=some 1:=by kernel_rfl
theorem p7:bw Tryz.prog 46 0=some 0:=by kernel_rfl
theorem AU:bw Tryz.prog 46 1=some 11:=by kernel_rfl
theorem Ni:aL Tryz.prog 48=some 2:=by kernel_rfl
theorem AV:bw Tryz.prog 48 0=some 0:=by kernel_rfl
theorem AW:aR Tryz.prog 52=some false:=by kernel_rfl
theorem sl:qO Tryz.prog 52=some 3:=by kernel_rfl
theorem Nj:aR Tryz.prog 54=some true:=by kernel_rfl
theorem Fp:aL Tryz.prog 54=some 9:=by kernel_rfl
theorem oV:fF Tryz.prog 54=some (9,1):=by kernel_rfl
theorem p8:bw Tryz.prog 56 0=some 0:=by kernel_rfl
theorem p9:bw Tryz.prog 56 1=some 1:=by kernel_rfl
theorem AX:bw Tryz.prog 56 2=some 2:=by kernel_rfl
theorem qa:bw Tryz.prog 56 3=some 3:=by kernel_rfl
theorem AY:fF Tryz.prog 57=some (9,1):=by kernel_rfl
theorem oW:aR Tryz.prog 60=some true:=by kernel_rfl
theorem ez:aL Tryz.prog 60=some 3:=by kernel_rfl
theorem AZ:bw Tryz.prog 60 0=some 0:=by kernel_rfl
theorem qb:bw Tryz.prog 60 1=some 1:=by kernel_rfl
theorem qc:bw Tryz.prog 60 2=some 2:=by kernel_rfl
theorem A3:aR Tryz.prog 67=some true:=by kernel_rfl
theorem wh:aL Tryz.prog 67=some 7:=by kernel_rfl
theorem qd:bw Tryz.prog 67 0=some 0:=by kernel_rfl
theorem qe:bw Tryz.prog 67 1=some 5:=by kernel_rfl
theorem qf:bw Tryz.prog 67 2=some 6:=by kernel_rfl
theorem Fq:aR Tryz.prog 77=some false:=by kernel_rfl
theorem Nk:qO Tryz.prog 77=some 1:=by kernel_rfl
theorem A4:aR Tryz.prog 78=some false:=by kernel_rfl
theorem Nl:qO Tryz.prog 78=some 4:=by kernel_rfl
theorem jL:aR Tryz.prog 80=some true:=by kernel_rfl
theorem Nn:aL Tryz.prog 80=some 2:=by kernel_rfl
theorem qg:bw Tryz.prog 80 0=some 0:=by kernel_rfl
theorem A5:bw Tryz.prog 80 1=some 1:=by kernel_rfl
theorem vI:aR Tryz.prog 97=some true:=by kernel_rfl
theorem bz:aL Tryz.prog 97=some 3:=by kernel_rfl
theorem qh:bw Tryz.prog 97 0=some 0:=by kernel_rfl
theorem qi:bw Tryz.prog 97 1=some 1:=by kernel_rfl
theorem qj:bw Tryz.prog 97 2=some 2:=by kernel_rfl
theorem xN:qO Tryz.prog 103=some 5:=by kernel_rfl
theorem dR:aR Tryz.prog 105=some false:=by kernel_rfl
theorem al:aR Tryz.prog 107=some true:=by kernel_rfl
theorem aw:aL Tryz.prog 107=some 4:=by kernel_rfl
theorem xO:fF Tryz.prog 107=some (4,1):=by kernel_rfl
theorem kU:aR Tryz.prog 112=some true:=by kernel_rfl
theorem dS:aL Tryz.prog 112=some 5:=by kernel_rfl
theorem ni:bw Tryz.prog 112 0=some 0:=by kernel_rfl
theorem yG:bw Tryz.prog 112 1=some 4:=by kernel_rfl
theorem xP:qO Tryz.prog 117=some 2:=by kernel_rfl
theorem kW:aR Tryz.prog 120=some true:=by kernel_rfl
theorem tq:aL Tryz.prog 120=some 2:=by kernel_rfl
theorem nj:bw Tryz.prog 120 0=some 0:=by kernel_rfl
theorem nk:bw Tryz.prog 120 1=some 1:=by kernel_rfl
theorem kX:fF Tryz.prog 126=some (8,1):=by kernel_rfl
theorem kY:fF Tryz.prog 127=some (6,8):=by kernel_rfl
theorem oX:aR Tryz.prog 128=some false:=by kernel_rfl
theorem xQ:qO Tryz.prog 128=some 3:=by kernel_rfl
theorem yH:bw Tryz.prog 130 0=some 0:=by kernel_rfl
theorem yI:bw Tryz.prog 130 1=some 5:=by kernel_rfl
theorem yJ:bw Tryz.prog 130 2=some 6:=by kernel_rfl
theorem aal:bw Tryz.prog 130 3=some 7:=by kernel_rfl
theorem yK:bw Tryz.prog 130 4=some 55:=by kernel_rfl
theorem np:bw Tryz.prog 130 5=some 56:=by kernel_rfl
theorem xR:aR Tryz.prog 133=some true:=by kernel_rfl
theorem C5:aL Tryz.prog 133=some 3:=by kernel_rfl
theorem yL:bw Tryz.prog 133 0=some 0:=by kernel_rfl
theorem yM:bw Tryz.prog 133 1=some 1:=by kernel_rfl
theorem yN:bw Tryz.prog 133 2=some 2:=by kernel_rfl
theorem KP:aR Tryz.prog 137=some false:=by kernel_rfl
theorem nq:bw Tryz.prog 139 0=some 0:=by kernel_rfl
theorem yO:bw Tryz.prog 139 1=some 7:=by kernel_rfl
theorem yP:bw Tryz.prog 139 2=some 8:=by kernel_rfl
theorem oY:qO Tryz.prog 140=some 4:=by kernel_rfl
theorem C6:aR Tryz.prog 143=some true:=by kernel_rfl
theorem KQ:aL Tryz.prog 143=some 4:=by kernel_rfl
theorem yQ:bw Tryz.prog 143 0=some 0:=by kernel_rfl
theorem ns:bw Tryz.prog 143 2=some 2:=by kernel_rfl
theorem yR:bw Tryz.prog 143 3=some 3:=by kernel_rfl
theorem xS:fF Tryz.prog 211=some (64,1):=by kernel_rfl
theorem aa4{K:Fr→World→Prop}{u:World}{f:Fr}{d:Option Nat}{w:World}(A:Option Addr)(hA:A.isSome=true)(n c:Nat)(k:IntKind)(i:Int)(h0:0≤i)(h1:i<n):aq Tryz.prog K (Instr.indexAt 22 (.slice A n c) (.int k i)) u f d w=K (ai f d (.pointer (some (eA A (i.toNat*1))))) w:=by
 rw[uI u f d w 22 (by rw[AK];rfl) A hA n c k i h0 h1,AK];rfl
theorem aa5{K:Fr→World→Prop}{u:World}{f:Fr}{d:Option Nat}{w:World}(ty:TypeId)(A:Option Addr)(n c:Nat):aq Tryz.prog K (Builtin.len_ #[22] ty #[.slice A n c]) u f d w=K (ai f d (.int .i64 n)) w:=nM u f d w ty 22 (by rw[AK];rfl) A n c
theorem ad9{K:Fr→World→Prop}{f:Fr}{d:Option Nat}{w:World}(A:Option Addr)(hA:A.isSome=true)(n c:Nat)(k:IntKind)(i:Int)(h0:0≤i)(h1:i<n):dD Tryz.prog K (Instr.indexAt 22 (.slice A n c) (.int k i)) f d w=K (ai f d (.pointer (some (eA A (i.toNat*1))))) w:=by
 rw[zO f d w 22 (by rw[AK];rfl) A hA n c k i h0 h1,AK];rfl
theorem aa6{K:Fr→World→Prop}{u:World}{f:Fr}{d:Option Nat}{w:World}(A:Option Addr)(hA:A.isSome=true)(n c:Nat)(k:IntKind)(i:Int)(h0:0≤i)(h1:i<n):aq Tryz.prog K (Instr.indexAt 24 (.slice A n c) (.int k i)) u f d w=K (ai f d (.pointer (some (eA A (i.toNat*1))))) w:=by
 rw[uI u f d w 24 (by rw[sj];rfl) A hA n c k i h0 h1,sj];rfl
theorem aa7{K:Fr→World→Prop}{u:World}{f:Fr}{d:Option Nat}{w:World}(ty:TypeId)(A:Option Addr)(n c:Nat):aq Tryz.prog K (Builtin.len_ #[24] ty #[.slice A n c]) u f d w=K (ai f d (.int .i64 n)) w:=nM u f d w ty 24 (by rw[sj];rfl) A n c
theorem Wt{K:Fr→World→Prop}{f:Fr}{d:Option Nat}{w:World}(A:Option Addr)(hA:A.isSome=true)(n c:Nat)(k:IntKind)(i:Int)(h0:0≤i)(h1:i<n):dD Tryz.prog K (Instr.indexAt 24 (.slice A n c) (.int k i)) f d w=K (ai f d (.pointer (some (eA A (i.toNat*1))))) w:=by
 rw[zO f d w 24 (by rw[sj];rfl) A hA n c k i h0 h1,sj];rfl
theorem aa8{K:Fr→World→Prop}{u:World}{f:Fr}{d:Option Nat}{w:World}(A:Option Addr)(hA:A.isSome=true)(n c:Nat)(k:IntKind)(i:Int)(h0:0≤i)(h1:i<n):aq Tryz.prog K (Instr.indexAt 25 (.slice A n c) (.int k i)) u f d w=K (ai f d (.pointer (some (eA A (i.toNat*3))))) w:=by
 rw[uI u f d w 25 (by rw[AL];rfl) A hA n c k i h0 h1,AL];rfl
theorem aa9{K:Fr→World→Prop}{u:World}{f:Fr}{d:Option Nat}{w:World}(ty:TypeId)(A:Option Addr)(n c:Nat):aq Tryz.prog K (Builtin.len_ #[25] ty #[.slice A n c]) u f d w=K (ai f d (.int .i64 n)) w:=nM u f d w ty 25 (by rw[AL];rfl) A n c
theorem RV{K:Fr→World→Prop}{u:World}{f:Fr}{d:Option Nat}{w:World}(a:Addr):aq Tryz.prog K (Instr.fieldAt 27 (.pointer (some a)) 0) u f d w=K (ai f d (.pointer (some (a.add 0)))) w:=by
 rw[aQ u f d w 27 0 (by rw[pP];rfl) a,pP];rfl
theorem Np{K:Fr→World→Prop}{f:Fr}{d:Option Nat}{w:World}(a:Addr):dD Tryz.prog K (Instr.fieldAt 27 (.pointer (some a)) 0) f d w=K (ai f d (.pointer (some (a.add 0)))) w:=by
 rw[a7 f d w 27 0 (by rw[pP];rfl) a,pP];rfl
theorem RW{K:Fr→World→Prop}{u:World}{f:Fr}{d:Option Nat}{w:World}(a:Addr):aq Tryz.prog K (Instr.fieldAt 27 (.pointer (some a)) 1) u f d w=K (ai f d (.pointer (some (a.add 1)))) w:=by
 rw[aQ u f d w 27 1 (by rw[AM];rfl) a,AM];rfl
theorem acY{K:Fr→World→Prop}{f:Fr}{d:Option Nat}{w:World}(a:Addr):dD Tryz.prog K (Instr.fieldAt 27 (.pointer (some a)) 1) f d w=K (ai f d (.pointer (some (a.add 1)))) w:=by
 rw[a7 f d w 27 1 (by rw[AM];rfl) a,AM];rfl
theorem RX{K:Fr→World→Prop}{u:World}{f:Fr}{d:Option Nat}{w:World}(a:Addr):aq Tryz.prog K (Instr.fieldAt 27 (.pointer (some a)) 2) u f d w=K (ai f d (.pointer (some (a.add 2)))) w:=by
 rw[aQ u f d w 27 2 (by rw[pQ];rfl) a,pQ];rfl
theorem Nq{K:Fr→World→Prop}{f:Fr}{d:Option Nat}{w:World}(a:Addr):dD Tryz.prog K (Instr.fieldAt 27 (.pointer (some a)) 2) f d w=K (ai f d (.pointer (some (a.add 2)))) w:=by
 rw[a7 f d w 27 2 (by rw[pQ];rfl) a,pQ];rfl
theorem RY{K:Fr→World→Prop}{u:World}{f:Fr}{d:Option Nat}{w:World}(a:Addr):aq Tryz.prog K (Instr.fieldAt 27 (.pointer (some a)) 3) u f d w=K (ai f d (.pointer (some (a.add 3)))) w:=by
 rw[aQ u f d w 27 3 (by rw[AO];rfl) a,AO];rfl
theorem ac2{K:Fr→World→Prop}{f:Fr}{d:Option Nat}{w:World}(a:Addr):dD Tryz.prog K (Instr.fieldAt 27 (.pointer (some a)) 3) f d w=K (ai f d (.pointer (some (a.add 3)))) w:=by
 rw[a7 f d w 27 3 (by rw[AO];rfl) a,AO];rfl
theorem RZ{K:Fr→World→Prop}{u:World}{f:Fr}{d:Option Nat}{w:World}(a:Addr):aq Tryz.prog K (Instr.fieldAt 27 (.pointer (some a)) 4) u f d w=K (ai f d (.pointer (some (a.add 4)))) w:=by
 rw[aQ u f d w 27 4 (by rw[pS];rfl) a,pS];rfl
theorem Nr{K:Fr→World→Prop}{f:Fr}{d:Option Nat}{w:World}(a:Addr):dD Tryz.prog K (Instr.fieldAt 27 (.pointer (some a)) 4) f d w=K (ai f d (.pointer (some (a.add 4)))) w:=by
 rw[a7 f d w 27 4 (by rw[pS];rfl) a,pS];rfl
theorem R0{K:Fr→World→Prop}{u:World}{f:Fr}{d:Option Nat}{w:World}(a:Addr):aq Tryz.prog K (Instr.fieldAt 29 (.pointer (some a)) 0) u f d w=K (ai f d (.pointer (some (a.add 0)))) w:=by
 rw[aQ u f d w 29 0 (by rw[pU];rfl) a,pU];rfl
theorem Ns{K:Fr→World→Prop}{f:Fr}{d:Option Nat}{w:World}(a:Addr):dD Tryz.prog K (Instr.fieldAt 29 (.pointer (some a)) 0) f d w=K (ai f d (.pointer (some (a.add 0)))) w:=by
 rw[a7 f d w 29 0 (by rw[pU];rfl) a,pU];rfl
theorem R1{K:Fr→World→Prop}{u:World}{f:Fr}{d:Option Nat}{w:World}(a:Addr):aq Tryz.prog K (Instr.fieldAt 29 (.pointer (some a)) 1) u f d w=K (ai f d (.pointer (some (a.add 1)))) w:=by
 rw[aQ u f d w 29 1 (by rw[pV];rfl) a,pV];rfl
theorem Nt{K:Fr→World→Prop}{f:Fr}{d:Option Nat}{w:World}(a:Addr):dD Tryz.prog K (Instr.fieldAt 29 (.pointer (some a)) 1) f d w=K (ai f d (.pointer (some (a.add 1)))) w:=by
 rw[a7 f d w 29 1 (by rw[pV];rfl) a,pV];rfl
theorem R4{K:Fr→World→Prop}{u:World}{f:Fr}{d:Option Nat}{w:World}(a:Addr):aq Tryz.prog K (Instr.fieldAt 29 (.pointer (some a)) 2) u f d w=K (ai f d (.pointer (some (a.add 2)))) w:=by
 rw[aQ u f d w 29 2 (by rw[pW];rfl) a,pW];rfl
theorem Nu{K:Fr→World→Prop}{f:Fr}{d:Option Nat}{w:World}(a:Addr):dD Tryz.prog K (Instr.fieldAt 29 (.pointer (some a)) 2) f d w=K (ai f d (.pointer (some (a.add 2)))) w:=by
 rw[a7 f d w 29 2 (by rw[pW];rfl) a,pW];rfl
theorem R5{K:Fr→World→Prop}{u:World}{f:Fr}{d:Option Nat}{w:World}(a:Addr):aq Tryz.prog K (Instr.fieldAt 29 (.pointer (some a)) 3) u f d w=K (ai f d (.pointer (some (a.add 7)))) w:=by
 rw[aQ u f d w 29 3 (by rw[pX];rfl) a,pX];rfl
theorem Nv{K:Fr→World→Prop}{f:Fr}{d:Option Nat}{w:World}(a:Addr):dD Tryz.prog K (Instr.fieldAt 29 (.pointer (some a)) 3) f d w=K (ai f d (.pointer (some (a.add 7)))) w:=by
 rw[a7 f d w 29 3 (by rw[pX];rfl) a,pX];rfl
theorem R6{K:Fr→World→Prop}{u:World}{f:Fr}{d:Option Nat}{w:World}(a:Addr):aq Tryz.prog K (Instr.fieldAt 29 (.pointer (some a)) 4) u f d w=K (ai f d (.pointer (some (a.add 8)))) w:=by
 rw[aQ u f d w 29 4 (by rw[pY];rfl) a,pY];rfl
theorem Nw{K:Fr→World→Prop}{f:Fr}{d:Option Nat}{w:World}(a:Addr):dD Tryz.prog K (Instr.fieldAt 29 (.pointer (some a)) 4) f d w=K (ai f d (.pointer (some (a.add 8)))) w:=by
 rw[a7 f d w 29 4 (by rw[pY];rfl) a,pY];rfl
theorem adv{K:Fr→World→Prop}{u:World}{f:Fr}{d:Option Nat}{w:World}(a:Addr):aq Tryz.prog K (Instr.fieldAt 29 (.pointer (some a)) 5) u f d w=K (ai f d (.pointer (some (a.add 9)))) w:=by
 rw[aQ u f d w 29 5 (by rw[AP];rfl) a,AP];rfl
theorem Ny{K:Fr→World→Prop}{f:Fr}{d:Option Nat}{w:World}(a:Addr):dD Tryz.prog K (Instr.fieldAt 29 (.pointer (some a)) 5) f d w=K (ai f d (.pointer (some (a.add 9)))) w:=by
 rw[a7 f d w 29 5 (by rw[AP];rfl) a,AP];rfl
theorem R7{K:Fr→World→Prop}{u:World}{f:Fr}{d:Option Nat}{w:World}(a:Addr):aq Tryz.prog K (Instr.fieldAt 29 (.pointer (some a)) 6) u f d w=K (ai f d (.pointer (some (a.add 10)))) w:=by
 rw[aQ u f d w 29 6 (by rw[pZ];rfl) a,pZ];rfl
theorem Nz{K:Fr→World→Prop}{f:Fr}{d:Option Nat}{w:World}(a:Addr):dD Tryz.prog K (Instr.fieldAt 29 (.pointer (some a)) 6) f d w=K (ai f d (.pointer (some (a.add 10)))) w:=by
 rw[a7 f d w 29 6 (by rw[pZ];rfl) a,pZ];rfl
theorem R8{K:Fr→World→Prop}{u:World}{f:Fr}{d:Option Nat}{w:World}(a:Addr):aq Tryz.prog K (Instr.fieldAt 37 (.pointer (some a)) 0) u f d w=K (ai f d (.pointer (some (a.add 0)))) w:=by
 rw[aQ u f d w 37 0 (by rw[AR];rfl) a,AR];rfl
theorem ac3{K:Fr→World→Prop}{f:Fr}{d:Option Nat}{w:World}(a:Addr):dD Tryz.prog K (Instr.fieldAt 37 (.pointer (some a)) 0) f d w=K (ai f d (.pointer (some (a.add 0)))) w:=by
 rw[a7 f d w 37 0 (by rw[AR];rfl) a,AR];rfl
theorem R9{K:Fr→World→Prop}{u:World}{f:Fr}{d:Option Nat}{w:World}(a:Addr):aq Tryz.prog K (Instr.fieldAt 37 (.pointer (some a)) 1) u f d w=K (ai f d (.pointer (some (a.add 1)))) w:=by
 rw[aQ u f d w 37 1 (by rw[AT];rfl) a,AT];rfl
theorem ac4{K:Fr→World→Prop}{f:Fr}{d:Option Nat}{w:World}(a:Addr):dD Tryz.prog K (Instr.fieldAt 37 (.pointer (some a)) 1) f d w=K (ai f d (.pointer (some (a.add 1)))) w:=by
 rw[a7 f d w 37 1 (by rw[AT];rfl) a,AT];rfl
theorem Sa{K:Fr→World→Prop}{u:World}{f:Fr}{d:Option Nat}{w:World}(a:Addr):aq Tryz.prog K (Instr.fieldAt 46 (.pointer (some a)) 0) u f d w=K (ai f d (.pointer (some (a.add 0)))) w:=by
 rw[aQ u f d w 46 0 (by rw[p7];rfl) a,p7];rfl
theorem NA{K:Fr→World→Prop}{f:Fr}{d:Option Nat}{w:World}(a:Addr):dD Tryz.prog K (Instr.fieldAt 46 (.pointer (some a)) 0) f d w=K (ai f d (.pointer (some (a.add 0)))) w:=by
 rw[a7 f d w 46 0 (by rw[p7];rfl) a,p7];rfl
theorem Sb{K:Fr→World→Prop}{u:World}{f:Fr}{d:Option Nat}{w:World}(a:Addr):aq Tryz.prog K (Instr.fieldAt 46 (.pointer (some a)) 1) u f d w=K (ai f d (.pointer (some (a.add 11)))) w:=by
 rw[aQ u f d w 46 1 (by rw[AU];rfl) a,AU];rfl
theorem NB{K:Fr→World→Prop}{f:Fr}{d:Option Nat}{w:World}(a:Addr):dD Tryz.prog K (Instr.fieldAt 48 (.pointer (some a)) 0) f d w=K (ai f d (.pointer (some (a.add 0)))) w:=by
 rw[a7 f d w 48 0 (by rw[AV];rfl) a,AV];rfl
theorem aba{K:Fr→World→Prop}{u:World}{f:Fr}{d:Option Nat}{w:World}(A:Option Addr)(hA:A.isSome=true)(n c:Nat)(k:IntKind)(i:Int)(h0:0≤i)(h1:i<n):aq Tryz.prog K (Instr.indexAt 52 (.slice A n c) (.int k i)) u f d w=K (ai f d (.pointer (some (eA A (i.toNat*3))))) w:=by
 rw[uI u f d w 52 (by rw[sl];rfl) A hA n c k i h0 h1,sl];rfl
theorem abb{K:Fr→World→Prop}{u:World}{f:Fr}{d:Option Nat}{w:World}(ty:TypeId)(A:Option Addr)(n c:Nat):aq Tryz.prog K (Builtin.len_ #[52] ty #[.slice A n c]) u f d w=K (ai f d (.int .i64 n)) w:=nM u f d w ty 52 (by rw[sl];rfl) A n c
theorem Wu{K:Fr→World→Prop}{f:Fr}{d:Option Nat}{w:World}(A:Option Addr)(hA:A.isSome=true)(n c:Nat)(k:IntKind)(i:Int)(h0:0≤i)(h1:i<n):dD Tryz.prog K (Instr.indexAt 52 (.slice A n c) (.int k i)) f d w=K (ai f d (.pointer (some (eA A (i.toNat*3))))) w:=by
 rw[zO f d w 52 (by rw[sl];rfl) A hA n c k i h0 h1,sl];rfl
theorem abc{K:Fr→World→Prop}{u:World}{f:Fr}{d:Option Nat}{w:World}(a:Addr)(k:IntKind)(i:Int)(h0:0≤i)(h1:i<9):aq Tryz.prog K (Instr.indexAt 54 (.pointer (some a)) (.int k i)) u f d w=K (ai f d (.pointer (some (a.add (i.toNat*1))))) w:=by
 rw[tp u f d w 54 (by rw[oV];rfl) a k i h0 (by rw[oV];exact h1),oV];rfl
theorem Wv{K:Fr→World→Prop}{f:Fr}{d:Option Nat}{w:World}(a:Addr)(k:IntKind)(i:Int)(h0:0≤i)(h1:i<9):dD Tryz.prog K (Instr.indexAt 54 (.pointer (some a)) (.int k i)) f d w=K (ai f d (.pointer (some (a.add (i.toNat*1))))) w:=by
 rw[Ao f d w 54 (by rw[oV];rfl) a k i h0 (by rw[oV];exact h1),oV];rfl
theorem Sc{K:Fr→World→Prop}{u:World}{f:Fr}{d:Option Nat}{w:World}(a:Addr):aq Tryz.prog K (Instr.fieldAt 56 (.pointer (some a)) 0) u f d w=K (ai f d (.pointer (some (a.add 0)))) w:=by
 rw[aQ u f d w 56 0 (by rw[p8];rfl) a,p8];rfl
theorem NC{K:Fr→World→Prop}{f:Fr}{d:Option Nat}{w:World}(a:Addr):dD Tryz.prog K (Instr.fieldAt 56 (.pointer (some a)) 0) f d w=K (ai f d (.pointer (some (a.add 0)))) w:=by
 rw[a7 f d w 56 0 (by rw[p8];rfl) a,p8];rfl
theorem Sd{K:Fr→World→Prop}{u:World}{f:Fr}{d:Option Nat}{w:World}(a:Addr):aq Tryz.prog K (Instr.fieldAt 56 (.pointer (some a)) 1) u f d w=K (ai f d (.pointer (some (a.add 1)))) w:=by
 rw[aQ u f d w 56 1 (by rw[p9];rfl) a,p9];rfl
theorem ND{K:Fr→World→Prop}{f:Fr}{d:Option Nat}{w:World}(a:Addr):dD Tryz.prog K (Instr.fieldAt 56 (.pointer (some a)) 1) f d w=K (ai f d (.pointer (some (a.add 1)))) w:=by
 rw[a7 f d w 56 1 (by rw[p9];rfl) a,p9];rfl
theorem Se{K:Fr→World→Prop}{u:World}{f:Fr}{d:Option Nat}{w:World}(a:Addr):aq Tryz.prog K (Instr.fieldAt 56 (.pointer (some a)) 2) u f d w=K (ai f d (.pointer (some (a.add 2)))) w:=by
 rw[aQ u f d w 56 2 (by rw[AX];rfl) a,AX];rfl
theorem Sf{K:Fr→World→Prop}{u:World}{f:Fr}{d:Option Nat}{w:World}(a:Addr):aq Tryz.prog K (Instr.fieldAt 56 (.pointer (some a)) 3) u f d w=K (ai f d (.pointer (some (a.add 3)))) w:=by
 rw[aQ u f d w 56 3 (by rw[qa];rfl) a,qa];rfl
theorem NF{K:Fr→World→Prop}{f:Fr}{d:Option Nat}{w:World}(a:Addr):dD Tryz.prog K (Instr.fieldAt 56 (.pointer (some a)) 3) f d w=K (ai f d (.pointer (some (a.add 3)))) w:=by
 rw[a7 f d w 56 3 (by rw[qa];rfl) a,qa];rfl
theorem abd{K:Fr→World→Prop}{u:World}{f:Fr}{d:Option Nat}{w:World}(a:Addr)(k:IntKind)(i:Int)(h0:0≤i)(h1:i<9):aq Tryz.prog K (Instr.indexAt 57 (.pointer (some a)) (.int k i)) u f d w=K (ai f d (.pointer (some (a.add (i.toNat*1))))) w:=by
 rw[tp u f d w 57 (by rw[AY];rfl) a k i h0 (by rw[AY];exact h1),AY];rfl
theorem Sg{K:Fr→World→Prop}{u:World}{f:Fr}{d:Option Nat}{w:World}(a:Addr):aq Tryz.prog K (Instr.fieldAt 60 (.pointer (some a)) 0) u f d w=K (ai f d (.pointer (some (a.add 0)))) w:=by
 rw[aQ u f d w 60 0 (by rw[AZ];rfl) a,AZ];rfl
theorem Sh{K:Fr→World→Prop}{u:World}{f:Fr}{d:Option Nat}{w:World}(a:Addr):aq Tryz.prog K (Instr.fieldAt 60 (.pointer (some a)) 1) u f d w=K (ai f d (.pointer (some (a.add 1)))) w:=by
 rw[aQ u f d w 60 1 (by rw[qb];rfl) a,qb];rfl
theorem NG{K:Fr→World→Prop}{f:Fr}{d:Option Nat}{w:World}(a:Addr):dD Tryz.prog K (Instr.fieldAt 60 (.pointer (some a)) 1) f d w=K (ai f d (.pointer (some (a.add 1)))) w:=by
 rw[a7 f d w 60 1 (by rw[qb];rfl) a,qb];rfl
theorem Si{K:Fr→World→Prop}{u:World}{f:Fr}{d:Option Nat}{w:World}(a:Addr):aq Tryz.prog K (Instr.fieldAt 60 (.pointer (some a)) 2) u f d w=K (ai f d (.pointer (some (a.add 2)))) w:=by
 rw[aQ u f d w 60 2 (by rw[qc];rfl) a,qc];rfl
theorem NH{K:Fr→World→Prop}{f:Fr}{d:Option Nat}{w:World}(a:Addr):dD Tryz.prog K (Instr.fieldAt 60 (.pointer (some a)) 2) f d w=K (ai f d (.pointer (some (a.add 2)))) w:=by
 rw[a7 f d w 60 2 (by rw[qc];rfl) a,qc];rfl
theorem Sj{K:Fr→World→Prop}{u:World}{f:Fr}{d:Option Nat}{w:World}(a:Addr):aq Tryz.prog K (Instr.fieldAt 67 (.pointer (some a)) 0) u f d w=K (ai f d (.pointer (some (a.add 0)))) w:=by
 rw[aQ u f d w 67 0 (by rw[qd];rfl) a,qd];rfl
theorem NI{K:Fr→World→Prop}{f:Fr}{d:Option Nat}{w:World}(a:Addr):dD Tryz.prog K (Instr.fieldAt 67 (.pointer (some a)) 0) f d w=K (ai f d (.pointer (some (a.add 0)))) w:=by
 rw[a7 f d w 67 0 (by rw[qd];rfl) a,qd];rfl
theorem Sk{K:Fr→World→Prop}{u:World}{f:Fr}{d:Option Nat}{w:World}(a:Addr):aq Tryz.prog K (Instr.fieldAt 67 (.pointer (some a)) 1) u f d w=K (ai f d (.pointer (some (a.add 5)))) w:=by
 rw[aQ u f d w 67 1 (by rw[qe];rfl) a,qe];rfl
theorem NJ{K:Fr→World→Prop}{f:Fr}{d:Option Nat}{w:World}(a:Addr):dD Tryz.prog K (Instr.fieldAt 67 (.pointer (some a)) 1) f d w=K (ai f d (.pointer (some (a.add 5)))) w:=by
 rw[a7 f d w 67 1 (by rw[qe];rfl) a,qe];rfl
theorem Sl{K:Fr→World→Prop}{u:World}{f:Fr}{d:Option Nat}{w:World}(a:Addr):aq Tryz.prog K (Instr.fieldAt 67 (.pointer (some a)) 2) u f d w=K (ai f d (.pointer (some (a.add 6)))) w:=by
 rw[aQ u f d w 67 2 (by rw[qf];rfl) a,qf];rfl
theorem NK{K:Fr→World→Prop}{f:Fr}{d:Option Nat}{w:World}(a:Addr):dD Tryz.prog K (Instr.fieldAt 67 (.pointer (some a)) 2) f d w=K (ai f d (.pointer (some (a.add 6)))) w:=by
 rw[a7 f d w 67 2 (by rw[qf];rfl) a,qf];rfl
theorem abe{K:Fr→World→Prop}{u:World}{f:Fr}{d:Option Nat}{w:World}(ty:TypeId)(A:Option Addr)(n c:Nat):aq Tryz.prog K (Builtin.len_ #[77] ty #[.slice A n c]) u f d w=K (ai f d (.int .i64 n)) w:=nM u f d w ty 77 (by rw[Nk];rfl) A n c
theorem abf{K:Fr→World→Prop}{u:World}{f:Fr}{d:Option Nat}{w:World}(ty:TypeId)(A:Option Addr)(n c:Nat):aq Tryz.prog K (Builtin.len_ #[78] ty #[.slice A n c]) u f d w=K (ai f d (.int .i64 n)) w:=nM u f d w ty 78 (by rw[Nl];rfl) A n c
theorem Sm{K:Fr→World→Prop}{u:World}{f:Fr}{d:Option Nat}{w:World}(a:Addr):aq Tryz.prog K (Instr.fieldAt 80 (.pointer (some a)) 0) u f d w=K (ai f d (.pointer (some (a.add 0)))) w:=by
 rw[aQ u f d w 80 0 (by rw[qg];rfl) a,qg];rfl
theorem NL{K:Fr→World→Prop}{f:Fr}{d:Option Nat}{w:World}(a:Addr):dD Tryz.prog K (Instr.fieldAt 80 (.pointer (some a)) 0) f d w=K (ai f d (.pointer (some (a.add 0)))) w:=by
 rw[a7 f d w 80 0 (by rw[qg];rfl) a,qg];rfl
theorem Sn{K:Fr→World→Prop}{u:World}{f:Fr}{d:Option Nat}{w:World}(a:Addr):aq Tryz.prog K (Instr.fieldAt 80 (.pointer (some a)) 1) u f d w=K (ai f d (.pointer (some (a.add 1)))) w:=by
 rw[aQ u f d w 80 1 (by rw[A5];rfl) a,A5];rfl
theorem ac8{K:Fr→World→Prop}{f:Fr}{d:Option Nat}{w:World}(a:Addr):dD Tryz.prog K (Instr.fieldAt 80 (.pointer (some a)) 1) f d w=K (ai f d (.pointer (some (a.add 1)))) w:=by
 rw[a7 f d w 80 1 (by rw[A5];rfl) a,A5];rfl
theorem Sp{K:Fr→World→Prop}{u:World}{f:Fr}{d:Option Nat}{w:World}(a:Addr):aq Tryz.prog K (Instr.fieldAt 97 (.pointer (some a)) 0) u f d w=K (ai f d (.pointer (some (a.add 0)))) w:=by
 rw[aQ u f d w 97 0 (by rw[qh];rfl) a,qh];rfl
theorem NM{K:Fr→World→Prop}{f:Fr}{d:Option Nat}{w:World}(a:Addr):dD Tryz.prog K (Instr.fieldAt 97 (.pointer (some a)) 0) f d w=K (ai f d (.pointer (some (a.add 0)))) w:=by
 rw[a7 f d w 97 0 (by rw[qh];rfl) a,qh];rfl
theorem Sq{K:Fr→World→Prop}{u:World}{f:Fr}{d:Option Nat}{w:World}(a:Addr):aq Tryz.prog K (Instr.fieldAt 97 (.pointer (some a)) 1) u f d w=K (ai f d (.pointer (some (a.add 1)))) w:=by
 rw[aQ u f d w 97 1 (by rw[qi];rfl) a,qi];rfl
theorem NN{K:Fr→World→Prop}{f:Fr}{d:Option Nat}{w:World}(a:Addr):dD Tryz.prog K (Instr.fieldAt 97 (.pointer (some a)) 1) f d w=K (ai f d (.pointer (some (a.add 1)))) w:=by
 rw[a7 f d w 97 1 (by rw[qi];rfl) a,qi];rfl
theorem Sr{K:Fr→World→Prop}{u:World}{f:Fr}{d:Option Nat}{w:World}(a:Addr):aq Tryz.prog K (Instr.fieldAt 97 (.pointer (some a)) 2) u f d w=K (ai f d (.pointer (some (a.add 2)))) w:=by
 rw[aQ u f d w 97 2 (by rw[qj];rfl) a,qj];rfl
theorem NO{K:Fr→World→Prop}{f:Fr}{d:Option Nat}{w:World}(a:Addr):dD Tryz.prog K (Instr.fieldAt 97 (.pointer (some a)) 2) f d w=K (ai f d (.pointer (some (a.add 2)))) w:=by
 rw[a7 f d w 97 2 (by rw[qj];rfl) a,qj];rfl
theorem Ww{K:Fr→World→Prop}{u:World}{f:Fr}{d:Option Nat}{w:World}(A:Option Addr)(hA:A.isSome=true)(n c:Nat)(k:IntKind)(i:Int)(h0:0≤i)(h1:i<n):aq Tryz.prog K (Instr.indexAt 103 (.slice A n c) (.int k i)) u f d w=K (ai f d (.pointer (some (eA A (i.toNat*5))))) w:=by
 rw[uI u f d w 103 (by rw[xN];rfl) A hA n c k i h0 h1,xN];rfl
theorem Wx{K:Fr→World→Prop}{u:World}{f:Fr}{d:Option Nat}{w:World}(ty:TypeId)(A:Option Addr)(n c:Nat):aq Tryz.prog K (Builtin.len_ #[103] ty #[.slice A n c]) u f d w=K (ai f d (.int .i64 n)) w:=nM u f d w ty 103 (by rw[xN];rfl) A n c
theorem Wy{K:Fr→World→Prop}{u:World}{f:Fr}{d:Option Nat}{w:World}(a:Addr)(k:IntKind)(i:Int)(h0:0≤i)(h1:i<4):aq Tryz.prog K (Instr.indexAt 107 (.pointer (some a)) (.int k i)) u f d w=K (ai f d (.pointer (some (a.add (i.toNat*1))))) w:=by
 rw[tp u f d w 107 (by rw[xO];rfl) a k i h0 (by rw[xO];exact h1),xO];rfl
theorem NP{K:Fr→World→Prop}{u:World}{f:Fr}{d:Option Nat}{w:World}(a:Addr):aq Tryz.prog K (Instr.fieldAt 112 (.pointer (some a)) 0) u f d w=K (ai f d (.pointer (some (a.add 0)))) w:=by
 rw[aQ u f d w 112 0 (by rw[ni];rfl) a,ni];rfl
theorem KR{K:Fr→World→Prop}{f:Fr}{d:Option Nat}{w:World}(a:Addr):dD Tryz.prog K (Instr.fieldAt 112 (.pointer (some a)) 0) f d w=K (ai f d (.pointer (some (a.add 0)))) w:=by
 rw[a7 f d w 112 0 (by rw[ni];rfl) a,ni];rfl
theorem NQ{K:Fr→World→Prop}{u:World}{f:Fr}{d:Option Nat}{w:World}(a:Addr):aq Tryz.prog K (Instr.fieldAt 112 (.pointer (some a)) 1) u f d w=K (ai f d (.pointer (some (a.add 4)))) w:=by
 rw[aQ u f d w 112 1 (by rw[yG];rfl) a,yG];rfl
theorem Wz{K:Fr→World→Prop}{u:World}{f:Fr}{d:Option Nat}{w:World}(A:Option Addr)(hA:A.isSome=true)(n c:Nat)(k:IntKind)(i:Int)(h0:0≤i)(h1:i<n):aq Tryz.prog K (Instr.indexAt 117 (.slice A n c) (.int k i)) u f d w=K (ai f d (.pointer (some (eA A (i.toNat*2))))) w:=by
 rw[uI u f d w 117 (by rw[xP];rfl) A hA n c k i h0 h1,xP];rfl
theorem WA{K:Fr→World→Prop}{u:World}{f:Fr}{d:Option Nat}{w:World}(ty:TypeId)(A:Option Addr)(n c:Nat):aq Tryz.prog K (Builtin.len_ #[117] ty #[.slice A n c]) u f d w=K (ai f d (.int .i64 n)) w:=nM u f d w ty 117 (by rw[xP];rfl) A n c
theorem NR{K:Fr→World→Prop}{u:World}{f:Fr}{d:Option Nat}{w:World}(a:Addr):aq Tryz.prog K (Instr.fieldAt 120 (.pointer (some a)) 0) u f d w=K (ai f d (.pointer (some (a.add 0)))) w:=by
 rw[aQ u f d w 120 0 (by rw[nj];rfl) a,nj];rfl
theorem KS{K:Fr→World→Prop}{f:Fr}{d:Option Nat}{w:World}(a:Addr):dD Tryz.prog K (Instr.fieldAt 120 (.pointer (some a)) 0) f d w=K (ai f d (.pointer (some (a.add 0)))) w:=by
 rw[a7 f d w 120 0 (by rw[nj];rfl) a,nj];rfl
theorem NS{K:Fr→World→Prop}{u:World}{f:Fr}{d:Option Nat}{w:World}(a:Addr):aq Tryz.prog K (Instr.fieldAt 120 (.pointer (some a)) 1) u f d w=K (ai f d (.pointer (some (a.add 1)))) w:=by
 rw[aQ u f d w 120 1 (by rw[nk];rfl) a,nk];rfl
theorem KT{K:Fr→World→Prop}{f:Fr}{d:Option Nat}{w:World}(a:Addr):dD Tryz.prog K (Instr.fieldAt 120 (.pointer (some a)) 1) f d w=K (ai f d (.pointer (some (a.add 1)))) w:=by
 rw[a7 f d w 120 1 (by rw[nk];rfl) a,nk];rfl
theorem WB{K:Fr→World→Prop}{u:World}{f:Fr}{d:Option Nat}{w:World}(a:Addr)(k:IntKind)(i:Int)(h0:0≤i)(h1:i<8):aq Tryz.prog K (Instr.indexAt 126 (.pointer (some a)) (.int k i)) u f d w=K (ai f d (.pointer (some (a.add (i.toNat*1))))) w:=by
 rw[tp u f d w 126 (by rw[kX];rfl) a k i h0 (by rw[kX];exact h1),kX];rfl
theorem Ss{K:Fr→World→Prop}{f:Fr}{d:Option Nat}{w:World}(a:Addr)(k:IntKind)(i:Int)(h0:0≤i)(h1:i<8):dD Tryz.prog K (Instr.indexAt 126 (.pointer (some a)) (.int k i)) f d w=K (ai f d (.pointer (some (a.add (i.toNat*1))))) w:=by
 rw[Ao f d w 126 (by rw[kX];rfl) a k i h0 (by rw[kX];exact h1),kX];rfl
theorem WC{K:Fr→World→Prop}{u:World}{f:Fr}{d:Option Nat}{w:World}(a:Addr)(k:IntKind)(i:Int)(h0:0≤i)(h1:i<6):aq Tryz.prog K (Instr.indexAt 127 (.pointer (some a)) (.int k i)) u f d w=K (ai f d (.pointer (some (a.add (i.toNat*8))))) w:=by
 rw[tp u f d w 127 (by rw[kY];rfl) a k i h0 (by rw[kY];exact h1),kY];rfl
theorem Su{K:Fr→World→Prop}{f:Fr}{d:Option Nat}{w:World}(a:Addr)(k:IntKind)(i:Int)(h0:0≤i)(h1:i<6):dD Tryz.prog K (Instr.indexAt 127 (.pointer (some a)) (.int k i)) f d w=K (ai f d (.pointer (some (a.add (i.toNat*8))))) w:=by
 rw[Ao f d w 127 (by rw[kY];rfl) a k i h0 (by rw[kY];exact h1),kY];rfl
theorem WD{K:Fr→World→Prop}{u:World}{f:Fr}{d:Option Nat}{w:World}(ty:TypeId)(A:Option Addr)(n c:Nat):aq Tryz.prog K (Builtin.len_ #[128] ty #[.slice A n c]) u f d w=K (ai f d (.int .i64 n)) w:=nM u f d w ty 128 (by rw[xQ];rfl) A n c
theorem Sv{K:Fr→World→Prop}{f:Fr}{d:Option Nat}{w:World}(A:Option Addr)(hA:A.isSome=true)(n c:Nat)(k:IntKind)(i:Int)(h0:0≤i)(h1:i<n):dD Tryz.prog K (Instr.indexAt 128 (.slice A n c) (.int k i)) f d w=K (ai f d (.pointer (some (eA A (i.toNat*3))))) w:=by
 rw[zO f d w 128 (by rw[xQ];rfl) A hA n c k i h0 h1,xQ];rfl
theorem NU{K:Fr→World→Prop}{u:World}{f:Fr}{d:Option Nat}{w:World}(a:Addr):aq Tryz.prog K (Instr.fieldAt 130 (.pointer (some a)) 0) u f d w=K (ai f d (.pointer (some (a.add 0)))) w:=by
 rw[aQ u f d w 130 0 (by rw[yH];rfl) a,yH];rfl
theorem KU{K:Fr→World→Prop}{f:Fr}{d:Option Nat}{w:World}(a:Addr):dD Tryz.prog K (Instr.fieldAt 130 (.pointer (some a)) 1) f d w=K (ai f d (.pointer (some (a.add 5)))) w:=by
 rw[a7 f d w 130 1 (by rw[yI];rfl) a,yI];rfl
theorem KV{K:Fr→World→Prop}{f:Fr}{d:Option Nat}{w:World}(a:Addr):dD Tryz.prog K (Instr.fieldAt 130 (.pointer (some a)) 2) f d w=K (ai f d (.pointer (some (a.add 6)))) w:=by
 rw[a7 f d w 130 2 (by rw[yJ];rfl) a,yJ];rfl
theorem NV{K:Fr→World→Prop}{u:World}{f:Fr}{d:Option Nat}{w:World}(a:Addr):aq Tryz.prog K (Instr.fieldAt 130 (.pointer (some a)) 3) u f d w=K (ai f d (.pointer (some (a.add 7)))) w:=by
 rw[aQ u f d w 130 3 (by rw[aal];rfl) a,aal];rfl
theorem KW{K:Fr→World→Prop}{f:Fr}{d:Option Nat}{w:World}(a:Addr):dD Tryz.prog K (Instr.fieldAt 130 (.pointer (some a)) 3) f d w=K (ai f d (.pointer (some (a.add 7)))) w:=by
 rw[a7 f d w 130 3 (by rw[aal];rfl) a,aal];rfl
theorem NW{K:Fr→World→Prop}{u:World}{f:Fr}{d:Option Nat}{w:World}(a:Addr):aq Tryz.prog K (Instr.fieldAt 130 (.pointer (some a)) 4) u f d w=K (ai f d (.pointer (some (a.add 55)))) w:=by
 rw[aQ u f d w 130 4 (by rw[yK];rfl) a,yK];rfl
theorem NX{K:Fr→World→Prop}{u:World}{f:Fr}{d:Option Nat}{w:World}(a:Addr):aq Tryz.prog K (Instr.fieldAt 130 (.pointer (some a)) 5) u f d w=K (ai f d (.pointer (some (a.add 56)))) w:=by
 rw[aQ u f d w 130 5 (by rw[np];rfl) a,np];rfl
theorem KX{K:Fr→World→Prop}{f:Fr}{d:Option Nat}{w:World}(a:Addr):dD Tryz.prog K (Instr.fieldAt 130 (.pointer (some a)) 5) f d w=K (ai f d (.pointer (some (a.add 56)))) w:=by
 rw[a7 f d w 130 5 (by rw[np];rfl) a,np];rfl
theorem NY{K:Fr→World→Prop}{u:World}{f:Fr}{d:Option Nat}{w:World}(a:Addr):aq Tryz.prog K (Instr.fieldAt 133 (.pointer (some a)) 0) u f d w=K (ai f d (.pointer (some (a.add 0)))) w:=by
 rw[aQ u f d w 133 0 (by rw[yL];rfl) a,yL];rfl
theorem NZ{K:Fr→World→Prop}{u:World}{f:Fr}{d:Option Nat}{w:World}(a:Addr):aq Tryz.prog K (Instr.fieldAt 133 (.pointer (some a)) 1) u f d w=K (ai f d (.pointer (some (a.add 1)))) w:=by
 rw[aQ u f d w 133 1 (by rw[yM];rfl) a,yM];rfl
theorem N0{K:Fr→World→Prop}{u:World}{f:Fr}{d:Option Nat}{w:World}(a:Addr):aq Tryz.prog K (Instr.fieldAt 133 (.pointer (some a)) 2) u f d w=K (ai f d (.pointer (some (a.add 2)))) w:=by
 rw[aQ u f d w 133 2 (by rw[yN];rfl) a,yN];rfl
theorem N1{K:Fr→World→Prop}{u:World}{f:Fr}{d:Option Nat}{w:World}(a:Addr):aq Tryz.prog K (Instr.fieldAt 139 (.pointer (some a)) 0) u f d w=K (ai f d (.pointer (some (a.add 0)))) w:=by
 rw[aQ u f d w 139 0 (by rw[nq];rfl) a,nq];rfl
theorem KY{K:Fr→World→Prop}{f:Fr}{d:Option Nat}{w:World}(a:Addr):dD Tryz.prog K (Instr.fieldAt 139 (.pointer (some a)) 0) f d w=K (ai f d (.pointer (some (a.add 0)))) w:=by
 rw[a7 f d w 139 0 (by rw[nq];rfl) a,nq];rfl
theorem N2{K:Fr→World→Prop}{u:World}{f:Fr}{d:Option Nat}{w:World}(a:Addr):aq Tryz.prog K (Instr.fieldAt 139 (.pointer (some a)) 1) u f d w=K (ai f d (.pointer (some (a.add 7)))) w:=by
 rw[aQ u f d w 139 1 (by rw[yO];rfl) a,yO];rfl
theorem N3{K:Fr→World→Prop}{u:World}{f:Fr}{d:Option Nat}{w:World}(a:Addr):aq Tryz.prog K (Instr.fieldAt 139 (.pointer (some a)) 2) u f d w=K (ai f d (.pointer (some (a.add 8)))) w:=by
 rw[aQ u f d w 139 2 (by rw[yP];rfl) a,yP];rfl
theorem WE{K:Fr→World→Prop}{u:World}{f:Fr}{d:Option Nat}{w:World}(A:Option Addr)(hA:A.isSome=true)(n c:Nat)(k:IntKind)(i:Int)(h0:0≤i)(h1:i<n):aq Tryz.prog K (Instr.indexAt 140 (.slice A n c) (.int k i)) u f d w=K (ai f d (.pointer (some (eA A (i.toNat*4))))) w:=by
 rw[uI u f d w 140 (by rw[oY];rfl) A hA n c k i h0 h1,oY];rfl
theorem WG{K:Fr→World→Prop}{u:World}{f:Fr}{d:Option Nat}{w:World}(ty:TypeId)(A:Option Addr)(n c:Nat):aq Tryz.prog K (Builtin.len_ #[140] ty #[.slice A n c]) u f d w=K (ai f d (.int .i64 n)) w:=nM u f d w ty 140 (by rw[oY];rfl) A n c
theorem Sw{K:Fr→World→Prop}{f:Fr}{d:Option Nat}{w:World}(A:Option Addr)(hA:A.isSome=true)(n c:Nat)(k:IntKind)(i:Int)(h0:0≤i)(h1:i<n):dD Tryz.prog K (Instr.indexAt 140 (.slice A n c) (.int k i)) f d w=K (ai f d (.pointer (some (eA A (i.toNat*4))))) w:=by
 rw[zO f d w 140 (by rw[oY];rfl) A hA n c k i h0 h1,oY];rfl
theorem N4{K:Fr→World→Prop}{u:World}{f:Fr}{d:Option Nat}{w:World}(a:Addr):aq Tryz.prog K (Instr.fieldAt 143 (.pointer (some a)) 0) u f d w=K (ai f d (.pointer (some (a.add 0)))) w:=by
 rw[aQ u f d w 143 0 (by rw[yQ];rfl) a,yQ];rfl
theorem N5{K:Fr→World→Prop}{u:World}{f:Fr}{d:Option Nat}{w:World}(a:Addr):aq Tryz.prog K (Instr.fieldAt 143 (.pointer (some a)) 2) u f d w=K (ai f d (.pointer (some (a.add 2)))) w:=by
 rw[aQ u f d w 143 2 (by rw[ns];rfl) a,ns];rfl
theorem KZ{K:Fr→World→Prop}{f:Fr}{d:Option Nat}{w:World}(a:Addr):dD Tryz.prog K (Instr.fieldAt 143 (.pointer (some a)) 2) f d w=K (ai f d (.pointer (some (a.add 2)))) w:=by
 rw[a7 f d w 143 2 (by rw[ns];rfl) a,ns];rfl
theorem N6{K:Fr→World→Prop}{u:World}{f:Fr}{d:Option Nat}{w:World}(a:Addr):aq Tryz.prog K (Instr.fieldAt 143 (.pointer (some a)) 3) u f d w=K (ai f d (.pointer (some (a.add 3)))) w:=by
 rw[aQ u f d w 143 3 (by rw[yR];rfl) a,yR];rfl
theorem WH{K:Fr→World→Prop}{u:World}{f:Fr}{d:Option Nat}{w:World}(a:Addr)(k:IntKind)(i:Int)(h0:0≤i)(h1:i<64):aq Tryz.prog K (Instr.indexAt 211 (.pointer (some a)) (.int k i)) u f d w=K (ai f d (.pointer (some (a.add (i.toNat*1))))) w:=by
 rw[tp u f d w 211 (by rw[xS];rfl) a k i h0 (by rw[xS];exact h1),xS];rfl
theorem xT:uJ Tryz.prog 22 9 1 16:=⟨by kernel_rfl,by kernel_rfl,by decide⟩
theorem UW{K:Fr→World→Prop}{f:Fr}{d:Option Nat}{w:World}(s:ByteArray):cG Tryz.prog K (Instr.buildSlice 22 1 #[(0,.string s)]) f d w=K (ai f d (.slice (some ⟨w.heap.size,0,none⟩) 1 1)) (w.alloc (.cells [.string s].toArray 9)):=zP xT _ rfl (by decide)
theorem fq:uJ Tryz.prog 24 3 1 8:=⟨by kernel_rfl,by kernel_rfl,by decide⟩
theorem yS{K:Fr→World→Prop}{f:Fr}{d:Option Nat}{w:World}(n:Int):cG Tryz.prog K (Instr.buildSlice 24 1 #[(0,.int .i64 n)]) f d w=K (ai f d (.slice (some ⟨w.heap.size,0,none⟩) 1 1)) (w.alloc (.cells [.int .i64 n].toArray 3)):=zP fq _ rfl (by decide)
theorem WI{K:Fr→World→Prop}{f:Fr}{d:Option Nat}{w:World}:cG Tryz.prog K (Instr.buildSlice 24 0 #[]) f d w=K (ai f d (.slice (some ⟨w.heap.size,0,none⟩) 0 0)) (w.alloc (.cells [].toArray 3)):=RT fq
theorem N7:uJ Tryz.prog 25 97 3 24:=⟨by kernel_rfl,by kernel_rfl,by decide⟩
theorem N8{K:Fr→World→Prop}{f:Fr}{d:Option Nat}{w:World}:cG Tryz.prog K (Instr.alloc 29 true (.tuple #[])) f d w=K (ai f d (.pointer (some ⟨w.heap.size,0,none⟩))) (w.alloc (.cells [.slice none 0 0,.slice none 0 0,.int .i64 0,.int .i64 0,.slice none 0 0,.slice none 0 0,.slice none 0 0,.slice none 0 0,.slice none 0 0,.slice none 0 0,.slice none 0 0].toArray 29)):=alloc_eq 29 (.agg #[.slice none 0 0,.slice none 0 0,.int .i64 0,.int .i64 0,.slice none 0 0,.slice none 0 0,.slice none 0 0,.slice none 0 0,.slice none 0 0,.slice none 0 0,.slice none 0 0]) (by kernel_rfl)
theorem N9{K:Fr→World→Prop}{f:Fr}{d:Option Nat}{w:World}:cG Tryz.prog K (Instr.alloc 37 true (.tuple #[])) f d w=K (ai f d (.pointer (some ⟨w.heap.size,0,none⟩))) (w.alloc (.cells [.int .i64 0,.int .i64 0].toArray 37)):=alloc_eq 37 (.agg #[.int .i64 0,.int .i64 0]) (by kernel_rfl)
theorem abg{K:Fr→World→Prop}{f:Fr}{d:Option Nat}{w:World}:cG Tryz.prog K (Instr.alloc 48 true (.tuple #[])) f d w=K (ai f d (.pointer (some ⟨w.heap.size,0,none⟩))) (w.alloc (.cells [.int .i64 0,.int .i64 0].toArray 48)):=alloc_eq 48 (.agg #[.int .i64 0,.int .i64 0]) (by kernel_rfl)
theorem j6:uJ Tryz.prog 52 60 3 32:=⟨by kernel_rfl,by kernel_rfl,by decide⟩
theorem abh{K:Fr→World→Prop}{f:Fr}{d:Option Nat}{w:World}:cG Tryz.prog K (Instr.alloc 54 true (.tuple #[])) f d w=K (ai f d (.pointer (some ⟨w.heap.size,0,none⟩))) (w.alloc (.cells [.slice none 0 0,.slice none 0 0,.slice none 0 0,.slice none 0 0,.slice none 0 0,.slice none 0 0,.slice none 0 0,.slice none 0 0,.slice none 0 0].toArray 54)):=alloc_eq 54 (.agg #[.slice none 0 0,.slice none 0 0,.slice none 0 0,.slice none 0 0,.slice none 0 0,.slice none 0 0,.slice none 0 0,.slice none 0 0,.slice none 0 0]) (by kernel_rfl)
theorem C7{K:Fr→World→Prop}{f:Fr}{d:Option Nat}{w:World}:cG Tryz.prog K (Instr.alloc 60 true (.tuple #[])) f d w=K (ai f d (.pointer (some ⟨w.heap.size,0,none⟩))) (w.alloc (.cells [.int .i64 0,.string ByteArray.empty,.int .i64 0].toArray 60)):=alloc_eq 60 (.agg #[.int .i64 0,.string ByteArray.empty,.int .i64 0]) (by kernel_rfl)
theorem aea:uJ Tryz.prog 65 5 1 1:=⟨by kernel_rfl,by kernel_rfl,by decide⟩
theorem adM{K:Fr→World→Prop}{f:Fr}{d:Option Nat}{w:World}(n:Int):cG Tryz.prog K (Instr.buildSlice 65 1 #[(0,.int .u8 n)]) f d w=K (ai f d (.slice (some ⟨w.heap.size,0,none⟩) 1 1)) (w.alloc (.cells [.int .u8 n].toArray 5)):=zP aea _ rfl (by decide)
theorem abi{K:Fr→World→Prop}{f:Fr}{d:Option Nat}{w:World}:cG Tryz.prog K (Instr.alloc 67 true (.tuple #[])) f d w=K (ai f d (.pointer (some ⟨w.heap.size,0,none⟩))) (w.alloc (.cells [.int .i64 0,.int .i64 0,.slice none 0 0,.slice none 0 0,.slice none 0 0,.slice none 0 0,.slice none 0 0].toArray 67)):=alloc_eq 67 (.agg #[.int .i64 0,.int .i64 0,.slice none 0 0,.slice none 0 0,.slice none 0 0,.slice none 0 0,.slice none 0 0]) (by kernel_rfl)
theorem Oa:uJ Tryz.prog 77 24 1 24:=⟨by kernel_rfl,by kernel_rfl,by decide⟩
theorem UX{K:Fr→World→Prop}{f:Fr}{d:Option Nat}{w:World}(A:Option Addr)(n c:Nat):cG Tryz.prog K (Instr.buildSlice 77 1 #[(0,.slice A n c)]) f d w=K (ai f d (.slice (some ⟨w.heap.size,0,none⟩) 1 1)) (w.alloc (.cells [.slice A n c].toArray 24)):=zP Oa _ rfl (by decide)
theorem D2:uJ Tryz.prog 78 143 4 48:=⟨by kernel_rfl,by kernel_rfl,by decide⟩
theorem Fs{K:Fr→World→Prop}{f:Fr}{d:Option Nat}{w:World}:cG Tryz.prog K (Instr.alloc 80 true (.tuple #[])) f d w=K (ai f d (.pointer (some ⟨w.heap.size,0,none⟩))) (w.alloc (.cells [.slice none 0 0,.slice none 0 0].toArray 80)):=alloc_eq 80 (.agg #[.slice none 0 0,.slice none 0 0]) (by kernel_rfl)
theorem sr{K:Fr→World→Prop}{f:Fr}{d:Option Nat}{w:World}:cG Tryz.prog K (Instr.alloc 97 true (.tuple #[])) f d w=K (ai f d (.pointer (some ⟨w.heap.size,0,none⟩))) (w.alloc (.cells [.int .i64 0,.int .i64 0,.int .i64 0].toArray 97)):=alloc_eq 97 (.agg #[.int .i64 0,.int .i64 0,.int .i64 0]) (by kernel_rfl)
theorem kz:uJ Tryz.prog 103 112 5 56:=⟨by kernel_rfl,by kernel_rfl,by decide⟩
theorem cB{K:Fr→World→Prop}{f:Fr}{d:Option Nat}{w:World}:cG Tryz.prog K (Instr.alloc 107 true (.tuple #[])) f d w=K (ai f d (.pointer (some ⟨w.heap.size,0,none⟩))) (w.alloc (.cells [.int .u64 0,.int .u64 0,.int .u64 0,.int .u64 0].toArray 107)):=alloc_eq 107 (.agg #[.int .u64 0,.int .u64 0,.int .u64 0,.int .u64 0]) (by kernel_rfl)
theorem xU{K:Fr→World→Prop}{f:Fr}{d:Option Nat}{w:World}:cG Tryz.prog K (Instr.alloc 112 true (.tuple #[])) f d w=K (ai f d (.pointer (some ⟨w.heap.size,0,none⟩))) (w.alloc (.cells [.int .u64 0,.int .u64 0,.int .u64 0,.int .u64 0,.slice none 0 0].toArray 112)):=alloc_eq 112 (.agg #[.int .u64 0,.int .u64 0,.int .u64 0,.int .u64 0,.slice none 0 0]) (by kernel_rfl)
theorem zR:uJ Tryz.prog 117 120 2 48:=⟨by kernel_rfl,by kernel_rfl,by decide⟩
theorem HC{K:Fr→World→Prop}{f:Fr}{d:Option Nat}{w:World}:cG Tryz.prog K (Instr.alloc 120 true (.tuple #[])) f d w=K (ai f d (.pointer (some ⟨w.heap.size,0,none⟩))) (w.alloc (.cells [.slice none 0 0,.slice none 0 0].toArray 120)):=alloc_eq 120 (.agg #[.slice none 0 0,.slice none 0 0]) (by kernel_rfl)
theorem wo:uJ Tryz.prog 128 133 3 24:=⟨by kernel_rfl,by kernel_rfl,by decide⟩
theorem WJ{K:Fr→World→Prop}{f:Fr}{d:Option Nat}{w:World}:cG Tryz.prog K (Instr.alloc 133 true (.tuple #[])) f d w=K (ai f d (.pointer (some ⟨w.heap.size,0,none⟩))) (w.alloc (.cells [.int .i64 0,.int .i64 0,.bool false].toArray 133)):=alloc_eq 133 (.agg #[.int .i64 0,.int .i64 0,.bool false]) (by kernel_rfl)
theorem tt:uJ Tryz.prog 140 107 4 32:=⟨by kernel_rfl,by kernel_rfl,by decide⟩
theorem HD{K:Fr→World→Prop}{f:Fr}{d:Option Nat}{w:World}:cG Tryz.prog K (Instr.alloc 143 true (.tuple #[])) f d w=K (ai f d (.pointer (some ⟨w.heap.size,0,none⟩))) (w.alloc (.cells [.int .i64 0,.int .i64 0,.slice none 0 0,.int .i64 0].toArray 143)):=alloc_eq 143 (.agg #[.int .i64 0,.int .i64 0,.slice none 0 0,.int .i64 0]) (by kernel_rfl)
attribute [push_cast] aa4 aa5 ad9 aa6 aa7 Wt aa8 aa9 RV Np RW acY RX Nq RY ac2 RZ Nr R0 Ns R1 Nt R4 Nu R5 Nv R6 Nw adv Ny R7 Nz R8 ac3 R9 ac4 Sa NA Sb NB aba abb Wu abc Wv Sc NC Sd ND Se Sf NF abd Sg Sh NG Si NH Sj NI Sk NJ Sl NK abe abf Sm NL Sn ac8 Sp NM Sq NN Sr NO Ww Wx Wy NP KR NQ Wz WA NR KS NS KT WB Ss WC Su WD Sv NU KU KV NV KW NW NX KX NY NZ N0 N1 KY N2 N3 WE WG Sw N4 N5 KZ N6 WH UW yS WI adM UX
end Go.Proofs.YtcefeihlkpmejaaGreatDoor
