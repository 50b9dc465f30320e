/- A part of the proof. -/
import Derived.Test.YtcefeihlkpmejaaGreatDoorProg
import Derived.Test.YtcefeihlkpmejaaGreatDoorYLaws
import Derived.KernelRfl
namespace Go.Proofs.YtcefeihlkpmejaaGreatDoor
set_option linter.unusedSimpArgs false
set_option linter.unusedVariables false
set_option linter.unusedSectionVars false
open Go.RowKit
theorem Nh:Tryz.prog.follows .mixedOrders=true:=by kernel_rfl
def fb:C:= .sq (.op [.mv (some 2) (.const (.int .i64 0))]) (.sq (.sq (.op [.mv (some 3) (.tmp 0),.val (some 4) (.binOp .eql 105 (.tmp 3) (.const (.int .u64 0)) 105) 4]) (.cd (.tmp 4) (.sq (.op [.mv (some 2) (.const (.int .i64 64))]) .rt) .sk)) (.sq (.op [.mv (some 5) (.tmp 0),.mv (some 6) (.tmp 0),.val (some 7) (.unOp .neg 105 (.tmp 6)) 105,.val (some 8) (.binOp .and 105 (.tmp 5) (.tmp 7) 105) 105,.val (some 9) (.binOp .mul 105 (.tmp 8) (.const (.int .u64 285870213051353865)) 105) 105,.val (some 10) (.binOp .shr 105 (.tmp 9) (.const (.int .u64 58)) 161) 105,.val (some 11) (.indexAddr 211 (.global 2) (.tmp 10)) 0,.val (some 12) (.load 5 (.tmp 11)) 5,.aG (some 13) (.convert 5 3 (.tmp 12)) 3,.mv (some 2) (.tmp 13)]) .rt))
theorem jK:bI Tryz.prog 14 #[.tmp 2] fb 136:=bL Nh Tryz.func136 rfl rfl (by kernel_rfl) (by kernel_rfl)
def fp:C:= .sq (.op [.val (some 6) (.binOp .lss 3 (.tmp 5) (.const (.int .i64 4)) 3) 0]) (.sq (.cd (.tmp 6) .sk (.ex 0)) (.sq (.bl 1 (.sq (.op [.mv (some 7) (.tmp 5),.mv (some 4) (.tmp 7)]) (.dr [.q (.mv (some 8) (.tmp 0)),.q (.mv (some 9) (.tmp 4)),.q (.aZ (some 10) (.tmp 8)),.q (.val (some 11) (.indexAddr 107 (.tmp 10) (.tmp 9)) 0),.q (.val (some 12) (.load 105 (.tmp 11)) 105),.q (.mv (some 13) (.tmp 4)),.q (.val (some 14) (.indexAddr 107 (.tmp 3) (.tmp 13)) 0),.q (.val (some 15) (.load 105 (.tmp 14)) 105),.q (.val (some 16) (.binOp .or 105 (.tmp 12) (.tmp 15) 105) 105),.q (.aZ (some 17) (.tmp 8)),.q (.val (some 18) (.indexAddr 107 (.tmp 17) (.tmp 9)) 0),.aG none (.store 105 (.tmp 18) (.tmp 16)) 0]))) (.op [.val (some 19) (.binOp .add 3 (.tmp 5) (.const (.int .i64 1)) 3) 3,.mv (some 5) (.tmp 19)])))
def mj:C:= .sq (.op [.aG (some 3) (.box 107 (.tmp 1)) 0]) (.sq (.op [.mv (some 5) (.const (.int .i64 0))]) (.bl 0 (.lo fp)))
theorem si:bI Tryz.prog 20 #[] mj 137:=bL Nh Tryz.func137 rfl rfl (by kernel_rfl) (by kernel_rfl)
end Go.Proofs.YtcefeihlkpmejaaGreatDoor
