/-
  Closed facts on the seat's types (by program: tygen.py).
-/
import Derived.Test.YtcjinmgieiebbaaDoorProg
import Derived.Test.YtcjinmgieiebbaaDoorZLaws
import Derived.KernelRfl
namespace Go.Proofs.YtcjinmgieiebbaaDoor
theorem ty_ag_3 : tyAgg Tryd.prog 3 = some false := by kernel_rfl
theorem ty_sz_int : tySize Tryd.prog 3 = some 1 := by kernel_rfl
theorem ty_ag_4 : tyAgg Tryd.prog 4 = some false := by kernel_rfl
theorem ty_ag_5 : tyAgg Tryd.prog 5 = some false := by kernel_rfl
theorem ty_fl_7_0 : tyFld Tryd.prog 7 0 = some 0 := by kernel_rfl
theorem ty_fl_7_1 : tyFld Tryd.prog 7 1 = some 1 := by kernel_rfl
theorem ty_fl_7_2 : tyFld Tryd.prog 7 2 = some 2 := by kernel_rfl
theorem ty_fl_7_3 : tyFld Tryd.prog 7 3 = some 3 := by kernel_rfl
theorem ty_fl_8_0 : tyFld Tryd.prog 8 0 = some 0 := by kernel_rfl
theorem ty_fl_8_1 : tyFld Tryd.prog 8 1 = some 1 := by kernel_rfl
theorem ty_fl_8_2 : tyFld Tryd.prog 8 2 = some 2 := by kernel_rfl
theorem ty_fl_8_3 : tyFld Tryd.prog 8 3 = some 3 := by kernel_rfl
theorem ty_fl_13_0 : tyFld Tryd.prog 13 0 = some 0 := by kernel_rfl
theorem ty_fl_13_1 : tyFld Tryd.prog 13 1 = some 1 := by kernel_rfl
theorem ty_fl_14_0 : tyFld Tryd.prog 14 0 = some 0 := by kernel_rfl
theorem ty_fl_14_1 : tyFld Tryd.prog 14 1 = some 1 := by kernel_rfl
theorem ty_fl_18_0 : tyFld Tryd.prog 18 0 = some 0 := by kernel_rfl
theorem ty_fl_19_0 : tyFld Tryd.prog 19 0 = some 0 := by kernel_rfl
theorem ty_ag_22 : tyAgg Tryd.prog 22 = some false := by kernel_rfl
theorem ty_sl_22 : tySl Tryd.prog 22 = some 1 := by kernel_rfl
theorem ty_ag_23 : tyAgg Tryd.prog 23 = some false := by kernel_rfl
theorem ty_sl_23 : tySl Tryd.prog 23 = some 3 := by kernel_rfl
theorem ty_fl_24_0 : tyFld Tryd.prog 24 0 = some 0 := by kernel_rfl
theorem ty_fl_24_1 : tyFld Tryd.prog 24 1 = some 1 := by kernel_rfl
theorem ty_fl_24_2 : tyFld Tryd.prog 24 2 = some 2 := by kernel_rfl
theorem ty_fl_24_3 : tyFld Tryd.prog 24 3 = some 3 := by kernel_rfl
theorem ty_fl_24_4 : tyFld Tryd.prog 24 4 = some 4 := by kernel_rfl
theorem ty_ag_25 : tyAgg Tryd.prog 25 = some true := by kernel_rfl
theorem ty_sz_25 : tySize Tryd.prog 25 = some 5 := by kernel_rfl
theorem ty_fl_25_0 : tyFld Tryd.prog 25 0 = some 0 := by kernel_rfl
theorem ty_fl_25_1 : tyFld Tryd.prog 25 1 = some 1 := by kernel_rfl
theorem ty_fl_25_2 : tyFld Tryd.prog 25 2 = some 2 := by kernel_rfl
theorem ty_fl_25_3 : tyFld Tryd.prog 25 3 = some 3 := by kernel_rfl
theorem ty_fl_25_4 : tyFld Tryd.prog 25 4 = some 4 := by kernel_rfl
theorem ty_fl_26_0 : tyFld Tryd.prog 26 0 = some 0 := by kernel_rfl
theorem ty_fl_26_1 : tyFld Tryd.prog 26 1 = some 5 := by kernel_rfl
theorem ty_fl_26_2 : tyFld Tryd.prog 26 2 = some 6 := by kernel_rfl
theorem ty_fl_27_0 : tyFld Tryd.prog 27 0 = some 0 := by kernel_rfl
theorem ty_fl_27_1 : tyFld Tryd.prog 27 1 = some 5 := by kernel_rfl
theorem ty_fl_27_2 : tyFld Tryd.prog 27 2 = some 6 := by kernel_rfl
theorem ty_sl_37 : tySl Tryd.prog 37 = some 2 := by kernel_rfl
theorem ty_sl_48 : tySl Tryd.prog 48 = some 2 := by kernel_rfl
theorem ty_ag_62 : tyAgg Tryd.prog 62 = some false := by kernel_rfl
theorem ty_ar_63 : tyArr Tryd.prog 63 = some (4, 1) := by kernel_rfl
theorem ty_ag_64 : tyAgg Tryd.prog 64 = some true := by kernel_rfl
theorem ty_sz_64 : tySize Tryd.prog 64 = some 4 := by kernel_rfl
theorem ty_ar_64 : tyArr Tryd.prog 64 = some (4, 1) := by kernel_rfl
theorem ty_sl_68 : tySl Tryd.prog 68 = some 5 := by kernel_rfl
theorem ty_fl_71_0 : tyFld Tryd.prog 71 0 = some 0 := by kernel_rfl
theorem ty_fl_71_1 : tyFld Tryd.prog 71 1 = some 4 := by kernel_rfl
theorem ty_ag_72 : tyAgg Tryd.prog 72 = some true := by kernel_rfl
theorem ty_sz_72 : tySize Tryd.prog 72 = some 5 := by kernel_rfl
theorem ty_fl_72_0 : tyFld Tryd.prog 72 0 = some 0 := by kernel_rfl
theorem ty_fl_72_1 : tyFld Tryd.prog 72 1 = some 4 := by kernel_rfl
theorem ty_fl_75_0 : tyFld Tryd.prog 75 0 = some 0 := by kernel_rfl
theorem ty_fl_75_1 : tyFld Tryd.prog 75 1 = some 1 := by kernel_rfl
theorem ty_fl_76_0 : tyFld Tryd.prog 76 0 = some 0 := by kernel_rfl
theorem ty_fl_76_1 : tyFld Tryd.prog 76 1 = some 1 := by kernel_rfl
theorem ty_sl_81 : tySl Tryd.prog 81 = some 1 := by kernel_rfl
theorem ty_fl_84_0 : tyFld Tryd.prog 84 0 = some 0 := by kernel_rfl
theorem ty_fl_84_1 : tyFld Tryd.prog 84 1 = some 5 := by kernel_rfl
theorem ty_fl_84_2 : tyFld Tryd.prog 84 2 = some 10 := by kernel_rfl
theorem ty_ag_85 : tyAgg Tryd.prog 85 = some true := by kernel_rfl
theorem ty_sz_85 : tySize Tryd.prog 85 = some 11 := by kernel_rfl
theorem ty_fl_85_0 : tyFld Tryd.prog 85 0 = some 0 := by kernel_rfl
theorem ty_fl_85_1 : tyFld Tryd.prog 85 1 = some 5 := by kernel_rfl
theorem ty_fl_85_2 : tyFld Tryd.prog 85 2 = some 10 := by kernel_rfl
theorem ty_fl_90_0 : tyFld Tryd.prog 90 0 = some 0 := by kernel_rfl
theorem ty_fl_90_1 : tyFld Tryd.prog 90 1 = some 1 := by kernel_rfl
theorem ty_fl_90_2 : tyFld Tryd.prog 90 2 = some 2 := by kernel_rfl
theorem ty_ag_91 : tyAgg Tryd.prog 91 = some true := by kernel_rfl
theorem ty_sz_91 : tySize Tryd.prog 91 = some 3 := by kernel_rfl
theorem ty_fl_91_0 : tyFld Tryd.prog 91 0 = some 0 := by kernel_rfl
theorem ty_fl_91_1 : tyFld Tryd.prog 91 1 = some 1 := by kernel_rfl
theorem ty_fl_91_2 : tyFld Tryd.prog 91 2 = some 2 := by kernel_rfl
theorem ty_sl_94 : tySl Tryd.prog 94 = some 1 := by kernel_rfl
theorem ty_fl_98_0 : tyFld Tryd.prog 98 0 = some 0 := by kernel_rfl
theorem ty_fl_98_1 : tyFld Tryd.prog 98 1 = some 1 := by kernel_rfl
theorem ty_ag_99 : tyAgg Tryd.prog 99 = some true := by kernel_rfl
theorem ty_sz_99 : tySize Tryd.prog 99 = some 2 := by kernel_rfl
theorem ty_fl_99_0 : tyFld Tryd.prog 99 0 = some 0 := by kernel_rfl
theorem ty_fl_99_1 : tyFld Tryd.prog 99 1 = some 1 := by kernel_rfl
theorem ty_sl_109 : tySl Tryd.prog 109 = some 2 := by kernel_rfl
theorem ty_fl_110_0 : tyFld Tryd.prog 110 0 = some 0 := by kernel_rfl
theorem ty_fl_110_1 : tyFld Tryd.prog 110 1 = some 1 := by kernel_rfl
theorem ty_fl_111_0 : tyFld Tryd.prog 111 0 = some 0 := by kernel_rfl
theorem ty_fl_111_1 : tyFld Tryd.prog 111 1 = some 1 := by kernel_rfl
theorem ty_sl_125 : tySl Tryd.prog 125 = some 4 := by kernel_rfl
theorem ty_ar_140 : tyArr Tryd.prog 140 = some (64, 1) := by kernel_rfl
theorem ty_fl_143_0 : tyFld Tryd.prog 143 0 = some 0 := by kernel_rfl
theorem ty_fl_143_1 : tyFld Tryd.prog 143 1 = some 1 := by kernel_rfl
theorem ty_fl_143_2 : tyFld Tryd.prog 143 2 = some 2 := by kernel_rfl
theorem ty_fl_143_3 : tyFld Tryd.prog 143 3 = some 3 := by kernel_rfl
theorem ty_fl_144_0 : tyFld Tryd.prog 144 0 = some 0 := by kernel_rfl
theorem ty_fl_144_1 : tyFld Tryd.prog 144 1 = some 1 := by kernel_rfl
theorem ty_fl_144_2 : tyFld Tryd.prog 144 2 = some 2 := by kernel_rfl
theorem ty_fl_144_3 : tyFld Tryd.prog 144 3 = some 3 := by kernel_rfl
theorem ty_ar_145 : tyArr Tryd.prog 145 = some (0, 1) := by kernel_rfl
theorem ty_fl_156_0 : tyFld Tryd.prog 156 0 = some 0 := by kernel_rfl
theorem ty_fl_156_1 : tyFld Tryd.prog 156 1 = some 1 := by kernel_rfl
theorem ty_fl_156_2 : tyFld Tryd.prog 156 2 = some 2 := by kernel_rfl
theorem ty_fl_156_3 : tyFld Tryd.prog 156 3 = some 3 := by kernel_rfl
theorem ty_fl_156_4 : tyFld Tryd.prog 156 4 = some 4 := by kernel_rfl
theorem ty_fl_156_5 : tyFld Tryd.prog 156 5 = some 5 := by kernel_rfl
theorem ty_fl_156_6 : tyFld Tryd.prog 156 6 = some 6 := by kernel_rfl
theorem ty_fl_156_7 : tyFld Tryd.prog 156 7 = some 7 := by kernel_rfl
theorem ty_fl_156_8 : tyFld Tryd.prog 156 8 = some 8 := by kernel_rfl
theorem ty_fl_156_9 : tyFld Tryd.prog 156 9 = some 9 := by kernel_rfl
theorem ty_fl_156_10 : tyFld Tryd.prog 156 10 = some 10 := by kernel_rfl
theorem ty_fl_157_0 : tyFld Tryd.prog 157 0 = some 0 := by kernel_rfl
theorem ty_fl_157_1 : tyFld Tryd.prog 157 1 = some 1 := by kernel_rfl
theorem ty_fl_157_2 : tyFld Tryd.prog 157 2 = some 2 := by kernel_rfl
theorem ty_fl_157_3 : tyFld Tryd.prog 157 3 = some 3 := by kernel_rfl
theorem ty_fl_157_4 : tyFld Tryd.prog 157 4 = some 4 := by kernel_rfl
theorem ty_fl_157_5 : tyFld Tryd.prog 157 5 = some 5 := by kernel_rfl
theorem ty_fl_157_6 : tyFld Tryd.prog 157 6 = some 6 := by kernel_rfl
theorem ty_fl_157_7 : tyFld Tryd.prog 157 7 = some 7 := by kernel_rfl
theorem ty_fl_157_8 : tyFld Tryd.prog 157 8 = some 8 := by kernel_rfl
theorem ty_fl_157_9 : tyFld Tryd.prog 157 9 = some 9 := by kernel_rfl
theorem ty_fl_157_10 : tyFld Tryd.prog 157 10 = some 10 := by kernel_rfl
theorem fd_7_0 {K : Fr → World → Prop} {u : World} {f : Fr} {d : Option Nat} {w : World} (a : Addr) : Val1 Tryd.prog K (Instr.fieldAt 7 (.pointer (some a)) 0) u f d w = K (updO f d (.pointer (some (a.add 0)))) w := by
  rw [fld_ptr u f d w 7 0 (by rw [ty_fl_7_0]; rfl) a, ty_fl_7_0]; rfl
theorem fdA_7_0 {K : Fr → World → Prop} {f : Fr} {d : Option Nat} {w : World} (a : Addr) : ValA Tryd.prog K (Instr.fieldAt 7 (.pointer (some a)) 0) f d w = K (updO f d (.pointer (some (a.add 0)))) w := by
  rw [fld_ptrA f d w 7 0 (by rw [ty_fl_7_0]; rfl) a, ty_fl_7_0]; rfl
theorem fd_7_1 {K : Fr → World → Prop} {u : World} {f : Fr} {d : Option Nat} {w : World} (a : Addr) : Val1 Tryd.prog K (Instr.fieldAt 7 (.pointer (some a)) 1) u f d w = K (updO f d (.pointer (some (a.add 1)))) w := by
  rw [fld_ptr u f d w 7 1 (by rw [ty_fl_7_1]; rfl) a, ty_fl_7_1]; rfl
theorem fdA_7_1 {K : Fr → World → Prop} {f : Fr} {d : Option Nat} {w : World} (a : Addr) : ValA Tryd.prog K (Instr.fieldAt 7 (.pointer (some a)) 1) f d w = K (updO f d (.pointer (some (a.add 1)))) w := by
  rw [fld_ptrA f d w 7 1 (by rw [ty_fl_7_1]; rfl) a, ty_fl_7_1]; rfl
theorem fd_7_2 {K : Fr → World → Prop} {u : World} {f : Fr} {d : Option Nat} {w : World} (a : Addr) : Val1 Tryd.prog K (Instr.fieldAt 7 (.pointer (some a)) 2) u f d w = K (updO f d (.pointer (some (a.add 2)))) w := by
  rw [fld_ptr u f d w 7 2 (by rw [ty_fl_7_2]; rfl) a, ty_fl_7_2]; rfl
theorem fdA_7_2 {K : Fr → World → Prop} {f : Fr} {d : Option Nat} {w : World} (a : Addr) : ValA Tryd.prog K (Instr.fieldAt 7 (.pointer (some a)) 2) f d w = K (updO f d (.pointer (some (a.add 2)))) w := by
  rw [fld_ptrA f d w 7 2 (by rw [ty_fl_7_2]; rfl) a, ty_fl_7_2]; rfl
theorem fd_7_3 {K : Fr → World → Prop} {u : World} {f : Fr} {d : Option Nat} {w : World} (a : Addr) : Val1 Tryd.prog K (Instr.fieldAt 7 (.pointer (some a)) 3) u f d w = K (updO f d (.pointer (some (a.add 3)))) w := by
  rw [fld_ptr u f d w 7 3 (by rw [ty_fl_7_3]; rfl) a, ty_fl_7_3]; rfl
theorem fdA_7_3 {K : Fr → World → Prop} {f : Fr} {d : Option Nat} {w : World} (a : Addr) : ValA Tryd.prog K (Instr.fieldAt 7 (.pointer (some a)) 3) f d w = K (updO f d (.pointer (some (a.add 3)))) w := by
  rw [fld_ptrA f d w 7 3 (by rw [ty_fl_7_3]; rfl) a, ty_fl_7_3]; rfl
theorem fd_8_0 {K : Fr → World → Prop} {u : World} {f : Fr} {d : Option Nat} {w : World} (a : Addr) : Val1 Tryd.prog K (Instr.fieldAt 8 (.pointer (some a)) 0) u f d w = K (updO f d (.pointer (some (a.add 0)))) w := by
  rw [fld_ptr u f d w 8 0 (by rw [ty_fl_8_0]; rfl) a, ty_fl_8_0]; rfl
theorem fdA_8_0 {K : Fr → World → Prop} {f : Fr} {d : Option Nat} {w : World} (a : Addr) : ValA Tryd.prog K (Instr.fieldAt 8 (.pointer (some a)) 0) f d w = K (updO f d (.pointer (some (a.add 0)))) w := by
  rw [fld_ptrA f d w 8 0 (by rw [ty_fl_8_0]; rfl) a, ty_fl_8_0]; rfl
theorem fd_8_1 {K : Fr → World → Prop} {u : World} {f : Fr} {d : Option Nat} {w : World} (a : Addr) : Val1 Tryd.prog K (Instr.fieldAt 8 (.pointer (some a)) 1) u f d w = K (updO f d (.pointer (some (a.add 1)))) w := by
  rw [fld_ptr u f d w 8 1 (by rw [ty_fl_8_1]; rfl) a, ty_fl_8_1]; rfl
theorem fdA_8_1 {K : Fr → World → Prop} {f : Fr} {d : Option Nat} {w : World} (a : Addr) : ValA Tryd.prog K (Instr.fieldAt 8 (.pointer (some a)) 1) f d w = K (updO f d (.pointer (some (a.add 1)))) w := by
  rw [fld_ptrA f d w 8 1 (by rw [ty_fl_8_1]; rfl) a, ty_fl_8_1]; rfl
theorem fd_8_2 {K : Fr → World → Prop} {u : World} {f : Fr} {d : Option Nat} {w : World} (a : Addr) : Val1 Tryd.prog K (Instr.fieldAt 8 (.pointer (some a)) 2) u f d w = K (updO f d (.pointer (some (a.add 2)))) w := by
  rw [fld_ptr u f d w 8 2 (by rw [ty_fl_8_2]; rfl) a, ty_fl_8_2]; rfl
theorem fdA_8_2 {K : Fr → World → Prop} {f : Fr} {d : Option Nat} {w : World} (a : Addr) : ValA Tryd.prog K (Instr.fieldAt 8 (.pointer (some a)) 2) f d w = K (updO f d (.pointer (some (a.add 2)))) w := by
  rw [fld_ptrA f d w 8 2 (by rw [ty_fl_8_2]; rfl) a, ty_fl_8_2]; rfl
theorem fd_8_3 {K : Fr → World → Prop} {u : World} {f : Fr} {d : Option Nat} {w : World} (a : Addr) : Val1 Tryd.prog K (Instr.fieldAt 8 (.pointer (some a)) 3) u f d w = K (updO f d (.pointer (some (a.add 3)))) w := by
  rw [fld_ptr u f d w 8 3 (by rw [ty_fl_8_3]; rfl) a, ty_fl_8_3]; rfl
theorem fdA_8_3 {K : Fr → World → Prop} {f : Fr} {d : Option Nat} {w : World} (a : Addr) : ValA Tryd.prog K (Instr.fieldAt 8 (.pointer (some a)) 3) f d w = K (updO f d (.pointer (some (a.add 3)))) w := by
  rw [fld_ptrA f d w 8 3 (by rw [ty_fl_8_3]; rfl) a, ty_fl_8_3]; rfl
theorem fd_13_0 {K : Fr → World → Prop} {u : World} {f : Fr} {d : Option Nat} {w : World} (a : Addr) : Val1 Tryd.prog K (Instr.fieldAt 13 (.pointer (some a)) 0) u f d w = K (updO f d (.pointer (some (a.add 0)))) w := by
  rw [fld_ptr u f d w 13 0 (by rw [ty_fl_13_0]; rfl) a, ty_fl_13_0]; rfl
theorem fdA_13_0 {K : Fr → World → Prop} {f : Fr} {d : Option Nat} {w : World} (a : Addr) : ValA Tryd.prog K (Instr.fieldAt 13 (.pointer (some a)) 0) f d w = K (updO f d (.pointer (some (a.add 0)))) w := by
  rw [fld_ptrA f d w 13 0 (by rw [ty_fl_13_0]; rfl) a, ty_fl_13_0]; rfl
theorem fd_13_1 {K : Fr → World → Prop} {u : World} {f : Fr} {d : Option Nat} {w : World} (a : Addr) : Val1 Tryd.prog K (Instr.fieldAt 13 (.pointer (some a)) 1) u f d w = K (updO f d (.pointer (some (a.add 1)))) w := by
  rw [fld_ptr u f d w 13 1 (by rw [ty_fl_13_1]; rfl) a, ty_fl_13_1]; rfl
theorem fdA_13_1 {K : Fr → World → Prop} {f : Fr} {d : Option Nat} {w : World} (a : Addr) : ValA Tryd.prog K (Instr.fieldAt 13 (.pointer (some a)) 1) f d w = K (updO f d (.pointer (some (a.add 1)))) w := by
  rw [fld_ptrA f d w 13 1 (by rw [ty_fl_13_1]; rfl) a, ty_fl_13_1]; rfl
theorem fd_14_0 {K : Fr → World → Prop} {u : World} {f : Fr} {d : Option Nat} {w : World} (a : Addr) : Val1 Tryd.prog K (Instr.fieldAt 14 (.pointer (some a)) 0) u f d w = K (updO f d (.pointer (some (a.add 0)))) w := by
  rw [fld_ptr u f d w 14 0 (by rw [ty_fl_14_0]; rfl) a, ty_fl_14_0]; rfl
theorem fdA_14_0 {K : Fr → World → Prop} {f : Fr} {d : Option Nat} {w : World} (a : Addr) : ValA Tryd.prog K (Instr.fieldAt 14 (.pointer (some a)) 0) f d w = K (updO f d (.pointer (some (a.add 0)))) w := by
  rw [fld_ptrA f d w 14 0 (by rw [ty_fl_14_0]; rfl) a, ty_fl_14_0]; rfl
theorem fd_14_1 {K : Fr → World → Prop} {u : World} {f : Fr} {d : Option Nat} {w : World} (a : Addr) : Val1 Tryd.prog K (Instr.fieldAt 14 (.pointer (some a)) 1) u f d w = K (updO f d (.pointer (some (a.add 1)))) w := by
  rw [fld_ptr u f d w 14 1 (by rw [ty_fl_14_1]; rfl) a, ty_fl_14_1]; rfl
theorem fdA_14_1 {K : Fr → World → Prop} {f : Fr} {d : Option Nat} {w : World} (a : Addr) : ValA Tryd.prog K (Instr.fieldAt 14 (.pointer (some a)) 1) f d w = K (updO f d (.pointer (some (a.add 1)))) w := by
  rw [fld_ptrA f d w 14 1 (by rw [ty_fl_14_1]; rfl) a, ty_fl_14_1]; rfl
theorem fd_18_0 {K : Fr → World → Prop} {u : World} {f : Fr} {d : Option Nat} {w : World} (a : Addr) : Val1 Tryd.prog K (Instr.fieldAt 18 (.pointer (some a)) 0) u f d w = K (updO f d (.pointer (some (a.add 0)))) w := by
  rw [fld_ptr u f d w 18 0 (by rw [ty_fl_18_0]; rfl) a, ty_fl_18_0]; rfl
theorem fdA_18_0 {K : Fr → World → Prop} {f : Fr} {d : Option Nat} {w : World} (a : Addr) : ValA Tryd.prog K (Instr.fieldAt 18 (.pointer (some a)) 0) f d w = K (updO f d (.pointer (some (a.add 0)))) w := by
  rw [fld_ptrA f d w 18 0 (by rw [ty_fl_18_0]; rfl) a, ty_fl_18_0]; rfl
theorem fd_19_0 {K : Fr → World → Prop} {u : World} {f : Fr} {d : Option Nat} {w : World} (a : Addr) : Val1 Tryd.prog K (Instr.fieldAt 19 (.pointer (some a)) 0) u f d w = K (updO f d (.pointer (some (a.add 0)))) w := by
  rw [fld_ptr u f d w 19 0 (by rw [ty_fl_19_0]; rfl) a, ty_fl_19_0]; rfl
theorem fdA_19_0 {K : Fr → World → Prop} {f : Fr} {d : Option Nat} {w : World} (a : Addr) : ValA Tryd.prog K (Instr.fieldAt 19 (.pointer (some a)) 0) f d w = K (updO f d (.pointer (some (a.add 0)))) w := by
  rw [fld_ptrA f d w 19 0 (by rw [ty_fl_19_0]; rfl) a, ty_fl_19_0]; rfl
theorem ix_22 {K : Fr → World → Prop} {u : World} {f : Fr} {d : Option Nat} {w : World} (A : Option Addr) (hA : A.isSome = true) (n c : Nat) (k : IntKind) (i : Int) (h0 : 0 ≤ i) (h1 : i < n) : Val1 Tryd.prog K (Instr.indexAt 22 (.slice A n c) (.int k i)) u f d w = K (updO f d (.pointer (some (eA A (i.toNat * 1))))) w := by
  rw [idx_sl u f d w 22 (by rw [ty_sl_22]; rfl) A hA n c k i h0 h1, ty_sl_22]; rfl
theorem ln_22 {K : Fr → World → Prop} {u : World} {f : Fr} {d : Option Nat} {w : World} (ty : TypeId) (A : Option Addr) (n c : Nat) : Val1 Tryd.prog K (Builtin.len_ #[22] ty #[.slice A n c]) u f d w = K (updO f d (.int .i64 n)) w := len_sl u f d w ty 22 (by rw [ty_sl_22]; rfl) A n c
theorem ixA_22 {K : Fr → World → Prop} {f : Fr} {d : Option Nat} {w : World} (A : Option Addr) (hA : A.isSome = true) (n c : Nat) (k : IntKind) (i : Int) (h0 : 0 ≤ i) (h1 : i < n) : ValA Tryd.prog K (Instr.indexAt 22 (.slice A n c) (.int k i)) f d w = K (updO f d (.pointer (some (eA A (i.toNat * 1))))) w := by
  rw [idx_slA f d w 22 (by rw [ty_sl_22]; rfl) A hA n c k i h0 h1, ty_sl_22]; rfl
theorem ix_23 {K : Fr → World → Prop} {u : World} {f : Fr} {d : Option Nat} {w : World} (A : Option Addr) (hA : A.isSome = true) (n c : Nat) (k : IntKind) (i : Int) (h0 : 0 ≤ i) (h1 : i < n) : Val1 Tryd.prog K (Instr.indexAt 23 (.slice A n c) (.int k i)) u f d w = K (updO f d (.pointer (some (eA A (i.toNat * 3))))) w := by
  rw [idx_sl u f d w 23 (by rw [ty_sl_23]; rfl) A hA n c k i h0 h1, ty_sl_23]; rfl
theorem ln_23 {K : Fr → World → Prop} {u : World} {f : Fr} {d : Option Nat} {w : World} (ty : TypeId) (A : Option Addr) (n c : Nat) : Val1 Tryd.prog K (Builtin.len_ #[23] ty #[.slice A n c]) u f d w = K (updO f d (.int .i64 n)) w := len_sl u f d w ty 23 (by rw [ty_sl_23]; rfl) A n c
theorem ixA_23 {K : Fr → World → Prop} {f : Fr} {d : Option Nat} {w : World} (A : Option Addr) (hA : A.isSome = true) (n c : Nat) (k : IntKind) (i : Int) (h0 : 0 ≤ i) (h1 : i < n) : ValA Tryd.prog K (Instr.indexAt 23 (.slice A n c) (.int k i)) f d w = K (updO f d (.pointer (some (eA A (i.toNat * 3))))) w := by
  rw [idx_slA f d w 23 (by rw [ty_sl_23]; rfl) A hA n c k i h0 h1, ty_sl_23]; rfl
theorem fd_24_0 {K : Fr → World → Prop} {u : World} {f : Fr} {d : Option Nat} {w : World} (a : Addr) : Val1 Tryd.prog K (Instr.fieldAt 24 (.pointer (some a)) 0) u f d w = K (updO f d (.pointer (some (a.add 0)))) w := by
  rw [fld_ptr u f d w 24 0 (by rw [ty_fl_24_0]; rfl) a, ty_fl_24_0]; rfl
theorem fdA_24_0 {K : Fr → World → Prop} {f : Fr} {d : Option Nat} {w : World} (a : Addr) : ValA Tryd.prog K (Instr.fieldAt 24 (.pointer (some a)) 0) f d w = K (updO f d (.pointer (some (a.add 0)))) w := by
  rw [fld_ptrA f d w 24 0 (by rw [ty_fl_24_0]; rfl) a, ty_fl_24_0]; rfl
theorem fd_24_1 {K : Fr → World → Prop} {u : World} {f : Fr} {d : Option Nat} {w : World} (a : Addr) : Val1 Tryd.prog K (Instr.fieldAt 24 (.pointer (some a)) 1) u f d w = K (updO f d (.pointer (some (a.add 1)))) w := by
  rw [fld_ptr u f d w 24 1 (by rw [ty_fl_24_1]; rfl) a, ty_fl_24_1]; rfl
theorem fdA_24_1 {K : Fr → World → Prop} {f : Fr} {d : Option Nat} {w : World} (a : Addr) : ValA Tryd.prog K (Instr.fieldAt 24 (.pointer (some a)) 1) f d w = K (updO f d (.pointer (some (a.add 1)))) w := by
  rw [fld_ptrA f d w 24 1 (by rw [ty_fl_24_1]; rfl) a, ty_fl_24_1]; rfl
theorem fd_24_2 {K : Fr → World → Prop} {u : World} {f : Fr} {d : Option Nat} {w : World} (a : Addr) : Val1 Tryd.prog K (Instr.fieldAt 24 (.pointer (some a)) 2) u f d w = K (updO f d (.pointer (some (a.add 2)))) w := by
  rw [fld_ptr u f d w 24 2 (by rw [ty_fl_24_2]; rfl) a, ty_fl_24_2]; rfl
theorem fdA_24_2 {K : Fr → World → Prop} {f : Fr} {d : Option Nat} {w : World} (a : Addr) : ValA Tryd.prog K (Instr.fieldAt 24 (.pointer (some a)) 2) f d w = K (updO f d (.pointer (some (a.add 2)))) w := by
  rw [fld_ptrA f d w 24 2 (by rw [ty_fl_24_2]; rfl) a, ty_fl_24_2]; rfl
theorem fd_24_3 {K : Fr → World → Prop} {u : World} {f : Fr} {d : Option Nat} {w : World} (a : Addr) : Val1 Tryd.prog K (Instr.fieldAt 24 (.pointer (some a)) 3) u f d w = K (updO f d (.pointer (some (a.add 3)))) w := by
  rw [fld_ptr u f d w 24 3 (by rw [ty_fl_24_3]; rfl) a, ty_fl_24_3]; rfl
theorem fdA_24_3 {K : Fr → World → Prop} {f : Fr} {d : Option Nat} {w : World} (a : Addr) : ValA Tryd.prog K (Instr.fieldAt 24 (.pointer (some a)) 3) f d w = K (updO f d (.pointer (some (a.add 3)))) w := by
  rw [fld_ptrA f d w 24 3 (by rw [ty_fl_24_3]; rfl) a, ty_fl_24_3]; rfl
theorem fd_24_4 {K : Fr → World → Prop} {u : World} {f : Fr} {d : Option Nat} {w : World} (a : Addr) : Val1 Tryd.prog K (Instr.fieldAt 24 (.pointer (some a)) 4) u f d w = K (updO f d (.pointer (some (a.add 4)))) w := by
  rw [fld_ptr u f d w 24 4 (by rw [ty_fl_24_4]; rfl) a, ty_fl_24_4]; rfl
theorem fdA_24_4 {K : Fr → World → Prop} {f : Fr} {d : Option Nat} {w : World} (a : Addr) : ValA Tryd.prog K (Instr.fieldAt 24 (.pointer (some a)) 4) f d w = K (updO f d (.pointer (some (a.add 4)))) w := by
  rw [fld_ptrA f d w 24 4 (by rw [ty_fl_24_4]; rfl) a, ty_fl_24_4]; rfl
theorem fd_25_0 {K : Fr → World → Prop} {u : World} {f : Fr} {d : Option Nat} {w : World} (a : Addr) : Val1 Tryd.prog K (Instr.fieldAt 25 (.pointer (some a)) 0) u f d w = K (updO f d (.pointer (some (a.add 0)))) w := by
  rw [fld_ptr u f d w 25 0 (by rw [ty_fl_25_0]; rfl) a, ty_fl_25_0]; rfl
theorem fdA_25_0 {K : Fr → World → Prop} {f : Fr} {d : Option Nat} {w : World} (a : Addr) : ValA Tryd.prog K (Instr.fieldAt 25 (.pointer (some a)) 0) f d w = K (updO f d (.pointer (some (a.add 0)))) w := by
  rw [fld_ptrA f d w 25 0 (by rw [ty_fl_25_0]; rfl) a, ty_fl_25_0]; rfl
theorem fd_25_1 {K : Fr → World → Prop} {u : World} {f : Fr} {d : Option Nat} {w : World} (a : Addr) : Val1 Tryd.prog K (Instr.fieldAt 25 (.pointer (some a)) 1) u f d w = K (updO f d (.pointer (some (a.add 1)))) w := by
  rw [fld_ptr u f d w 25 1 (by rw [ty_fl_25_1]; rfl) a, ty_fl_25_1]; rfl
theorem fdA_25_1 {K : Fr → World → Prop} {f : Fr} {d : Option Nat} {w : World} (a : Addr) : ValA Tryd.prog K (Instr.fieldAt 25 (.pointer (some a)) 1) f d w = K (updO f d (.pointer (some (a.add 1)))) w := by
  rw [fld_ptrA f d w 25 1 (by rw [ty_fl_25_1]; rfl) a, ty_fl_25_1]; rfl
theorem fd_25_2 {K : Fr → World → Prop} {u : World} {f : Fr} {d : Option Nat} {w : World} (a : Addr) : Val1 Tryd.prog K (Instr.fieldAt 25 (.pointer (some a)) 2) u f d w = K (updO f d (.pointer (some (a.add 2)))) w := by
  rw [fld_ptr u f d w 25 2 (by rw [ty_fl_25_2]; rfl) a, ty_fl_25_2]; rfl
theorem fdA_25_2 {K : Fr → World → Prop} {f : Fr} {d : Option Nat} {w : World} (a : Addr) : ValA Tryd.prog K (Instr.fieldAt 25 (.pointer (some a)) 2) f d w = K (updO f d (.pointer (some (a.add 2)))) w := by
  rw [fld_ptrA f d w 25 2 (by rw [ty_fl_25_2]; rfl) a, ty_fl_25_2]; rfl
theorem fd_25_3 {K : Fr → World → Prop} {u : World} {f : Fr} {d : Option Nat} {w : World} (a : Addr) : Val1 Tryd.prog K (Instr.fieldAt 25 (.pointer (some a)) 3) u f d w = K (updO f d (.pointer (some (a.add 3)))) w := by
  rw [fld_ptr u f d w 25 3 (by rw [ty_fl_25_3]; rfl) a, ty_fl_25_3]; rfl
theorem fdA_25_3 {K : Fr → World → Prop} {f : Fr} {d : Option Nat} {w : World} (a : Addr) : ValA Tryd.prog K (Instr.fieldAt 25 (.pointer (some a)) 3) f d w = K (updO f d (.pointer (some (a.add 3)))) w := by
  rw [fld_ptrA f d w 25 3 (by rw [ty_fl_25_3]; rfl) a, ty_fl_25_3]; rfl
theorem fd_25_4 {K : Fr → World → Prop} {u : World} {f : Fr} {d : Option Nat} {w : World} (a : Addr) : Val1 Tryd.prog K (Instr.fieldAt 25 (.pointer (some a)) 4) u f d w = K (updO f d (.pointer (some (a.add 4)))) w := by
  rw [fld_ptr u f d w 25 4 (by rw [ty_fl_25_4]; rfl) a, ty_fl_25_4]; rfl
theorem fdA_25_4 {K : Fr → World → Prop} {f : Fr} {d : Option Nat} {w : World} (a : Addr) : ValA Tryd.prog K (Instr.fieldAt 25 (.pointer (some a)) 4) f d w = K (updO f d (.pointer (some (a.add 4)))) w := by
  rw [fld_ptrA f d w 25 4 (by rw [ty_fl_25_4]; rfl) a, ty_fl_25_4]; rfl
theorem fd_26_0 {K : Fr → World → Prop} {u : World} {f : Fr} {d : Option Nat} {w : World} (a : Addr) : Val1 Tryd.prog K (Instr.fieldAt 26 (.pointer (some a)) 0) u f d w = K (updO f d (.pointer (some (a.add 0)))) w := by
  rw [fld_ptr u f d w 26 0 (by rw [ty_fl_26_0]; rfl) a, ty_fl_26_0]; rfl
theorem fdA_26_0 {K : Fr → World → Prop} {f : Fr} {d : Option Nat} {w : World} (a : Addr) : ValA Tryd.prog K (Instr.fieldAt 26 (.pointer (some a)) 0) f d w = K (updO f d (.pointer (some (a.add 0)))) w := by
  rw [fld_ptrA f d w 26 0 (by rw [ty_fl_26_0]; rfl) a, ty_fl_26_0]; rfl
theorem fd_26_1 {K : Fr → World → Prop} {u : World} {f : Fr} {d : Option Nat} {w : World} (a : Addr) : Val1 Tryd.prog K (Instr.fieldAt 26 (.pointer (some a)) 1) u f d w = K (updO f d (.pointer (some (a.add 5)))) w := by
  rw [fld_ptr u f d w 26 1 (by rw [ty_fl_26_1]; rfl) a, ty_fl_26_1]; rfl
theorem fdA_26_1 {K : Fr → World → Prop} {f : Fr} {d : Option Nat} {w : World} (a : Addr) : ValA Tryd.prog K (Instr.fieldAt 26 (.pointer (some a)) 1) f d w = K (updO f d (.pointer (some (a.add 5)))) w := by
  rw [fld_ptrA f d w 26 1 (by rw [ty_fl_26_1]; rfl) a, ty_fl_26_1]; rfl
theorem fd_26_2 {K : Fr → World → Prop} {u : World} {f : Fr} {d : Option Nat} {w : World} (a : Addr) : Val1 Tryd.prog K (Instr.fieldAt 26 (.pointer (some a)) 2) u f d w = K (updO f d (.pointer (some (a.add 6)))) w := by
  rw [fld_ptr u f d w 26 2 (by rw [ty_fl_26_2]; rfl) a, ty_fl_26_2]; rfl
theorem fdA_26_2 {K : Fr → World → Prop} {f : Fr} {d : Option Nat} {w : World} (a : Addr) : ValA Tryd.prog K (Instr.fieldAt 26 (.pointer (some a)) 2) f d w = K (updO f d (.pointer (some (a.add 6)))) w := by
  rw [fld_ptrA f d w 26 2 (by rw [ty_fl_26_2]; rfl) a, ty_fl_26_2]; rfl
theorem fd_27_0 {K : Fr → World → Prop} {u : World} {f : Fr} {d : Option Nat} {w : World} (a : Addr) : Val1 Tryd.prog K (Instr.fieldAt 27 (.pointer (some a)) 0) u f d w = K (updO f d (.pointer (some (a.add 0)))) w := by
  rw [fld_ptr u f d w 27 0 (by rw [ty_fl_27_0]; rfl) a, ty_fl_27_0]; rfl
theorem fdA_27_0 {K : Fr → World → Prop} {f : Fr} {d : Option Nat} {w : World} (a : Addr) : ValA Tryd.prog K (Instr.fieldAt 27 (.pointer (some a)) 0) f d w = K (updO f d (.pointer (some (a.add 0)))) w := by
  rw [fld_ptrA f d w 27 0 (by rw [ty_fl_27_0]; rfl) a, ty_fl_27_0]; rfl
theorem fd_27_1 {K : Fr → World → Prop} {u : World} {f : Fr} {d : Option Nat} {w : World} (a : Addr) : Val1 Tryd.prog K (Instr.fieldAt 27 (.pointer (some a)) 1) u f d w = K (updO f d (.pointer (some (a.add 5)))) w := by
  rw [fld_ptr u f d w 27 1 (by rw [ty_fl_27_1]; rfl) a, ty_fl_27_1]; rfl
theorem fdA_27_1 {K : Fr → World → Prop} {f : Fr} {d : Option Nat} {w : World} (a : Addr) : ValA Tryd.prog K (Instr.fieldAt 27 (.pointer (some a)) 1) f d w = K (updO f d (.pointer (some (a.add 5)))) w := by
  rw [fld_ptrA f d w 27 1 (by rw [ty_fl_27_1]; rfl) a, ty_fl_27_1]; rfl
theorem fd_27_2 {K : Fr → World → Prop} {u : World} {f : Fr} {d : Option Nat} {w : World} (a : Addr) : Val1 Tryd.prog K (Instr.fieldAt 27 (.pointer (some a)) 2) u f d w = K (updO f d (.pointer (some (a.add 6)))) w := by
  rw [fld_ptr u f d w 27 2 (by rw [ty_fl_27_2]; rfl) a, ty_fl_27_2]; rfl
theorem fdA_27_2 {K : Fr → World → Prop} {f : Fr} {d : Option Nat} {w : World} (a : Addr) : ValA Tryd.prog K (Instr.fieldAt 27 (.pointer (some a)) 2) f d w = K (updO f d (.pointer (some (a.add 6)))) w := by
  rw [fld_ptrA f d w 27 2 (by rw [ty_fl_27_2]; rfl) a, ty_fl_27_2]; rfl
theorem ix_37 {K : Fr → World → Prop} {u : World} {f : Fr} {d : Option Nat} {w : World} (A : Option Addr) (hA : A.isSome = true) (n c : Nat) (k : IntKind) (i : Int) (h0 : 0 ≤ i) (h1 : i < n) : Val1 Tryd.prog K (Instr.indexAt 37 (.slice A n c) (.int k i)) u f d w = K (updO f d (.pointer (some (eA A (i.toNat * 2))))) w := by
  rw [idx_sl u f d w 37 (by rw [ty_sl_37]; rfl) A hA n c k i h0 h1, ty_sl_37]; rfl
theorem ln_37 {K : Fr → World → Prop} {u : World} {f : Fr} {d : Option Nat} {w : World} (ty : TypeId) (A : Option Addr) (n c : Nat) : Val1 Tryd.prog K (Builtin.len_ #[37] ty #[.slice A n c]) u f d w = K (updO f d (.int .i64 n)) w := len_sl u f d w ty 37 (by rw [ty_sl_37]; rfl) A n c
theorem ixA_37 {K : Fr → World → Prop} {f : Fr} {d : Option Nat} {w : World} (A : Option Addr) (hA : A.isSome = true) (n c : Nat) (k : IntKind) (i : Int) (h0 : 0 ≤ i) (h1 : i < n) : ValA Tryd.prog K (Instr.indexAt 37 (.slice A n c) (.int k i)) f d w = K (updO f d (.pointer (some (eA A (i.toNat * 2))))) w := by
  rw [idx_slA f d w 37 (by rw [ty_sl_37]; rfl) A hA n c k i h0 h1, ty_sl_37]; rfl
theorem ix_48 {K : Fr → World → Prop} {u : World} {f : Fr} {d : Option Nat} {w : World} (A : Option Addr) (hA : A.isSome = true) (n c : Nat) (k : IntKind) (i : Int) (h0 : 0 ≤ i) (h1 : i < n) : Val1 Tryd.prog K (Instr.indexAt 48 (.slice A n c) (.int k i)) u f d w = K (updO f d (.pointer (some (eA A (i.toNat * 2))))) w := by
  rw [idx_sl u f d w 48 (by rw [ty_sl_48]; rfl) A hA n c k i h0 h1, ty_sl_48]; rfl
theorem ln_48 {K : Fr → World → Prop} {u : World} {f : Fr} {d : Option Nat} {w : World} (ty : TypeId) (A : Option Addr) (n c : Nat) : Val1 Tryd.prog K (Builtin.len_ #[48] ty #[.slice A n c]) u f d w = K (updO f d (.int .i64 n)) w := len_sl u f d w ty 48 (by rw [ty_sl_48]; rfl) A n c
theorem ixA_48 {K : Fr → World → Prop} {f : Fr} {d : Option Nat} {w : World} (A : Option Addr) (hA : A.isSome = true) (n c : Nat) (k : IntKind) (i : Int) (h0 : 0 ≤ i) (h1 : i < n) : ValA Tryd.prog K (Instr.indexAt 48 (.slice A n c) (.int k i)) f d w = K (updO f d (.pointer (some (eA A (i.toNat * 2))))) w := by
  rw [idx_slA f d w 48 (by rw [ty_sl_48]; rfl) A hA n c k i h0 h1, ty_sl_48]; rfl
theorem ix_63 {K : Fr → World → Prop} {u : World} {f : Fr} {d : Option Nat} {w : World} (a : Addr) (k : IntKind) (i : Int) (h0 : 0 ≤ i) (h1 : i < 4) : Val1 Tryd.prog K (Instr.indexAt 63 (.pointer (some a)) (.int k i)) u f d w = K (updO f d (.pointer (some (a.add (i.toNat * 1))))) w := by
  rw [idx_arr u f d w 63 (by rw [ty_ar_63]; rfl) a k i h0 (by rw [ty_ar_63]; exact h1), ty_ar_63]; rfl
theorem ixA_63 {K : Fr → World → Prop} {f : Fr} {d : Option Nat} {w : World} (a : Addr) (k : IntKind) (i : Int) (h0 : 0 ≤ i) (h1 : i < 4) : ValA Tryd.prog K (Instr.indexAt 63 (.pointer (some a)) (.int k i)) f d w = K (updO f d (.pointer (some (a.add (i.toNat * 1))))) w := by
  rw [idx_arrA f d w 63 (by rw [ty_ar_63]; rfl) a k i h0 (by rw [ty_ar_63]; exact h1), ty_ar_63]; rfl
theorem ix_64 {K : Fr → World → Prop} {u : World} {f : Fr} {d : Option Nat} {w : World} (a : Addr) (k : IntKind) (i : Int) (h0 : 0 ≤ i) (h1 : i < 4) : Val1 Tryd.prog K (Instr.indexAt 64 (.pointer (some a)) (.int k i)) u f d w = K (updO f d (.pointer (some (a.add (i.toNat * 1))))) w := by
  rw [idx_arr u f d w 64 (by rw [ty_ar_64]; rfl) a k i h0 (by rw [ty_ar_64]; exact h1), ty_ar_64]; rfl
theorem ixA_64 {K : Fr → World → Prop} {f : Fr} {d : Option Nat} {w : World} (a : Addr) (k : IntKind) (i : Int) (h0 : 0 ≤ i) (h1 : i < 4) : ValA Tryd.prog K (Instr.indexAt 64 (.pointer (some a)) (.int k i)) f d w = K (updO f d (.pointer (some (a.add (i.toNat * 1))))) w := by
  rw [idx_arrA f d w 64 (by rw [ty_ar_64]; rfl) a k i h0 (by rw [ty_ar_64]; exact h1), ty_ar_64]; rfl
theorem ix_68 {K : Fr → World → Prop} {u : World} {f : Fr} {d : Option Nat} {w : World} (A : Option Addr) (hA : A.isSome = true) (n c : Nat) (k : IntKind) (i : Int) (h0 : 0 ≤ i) (h1 : i < n) : Val1 Tryd.prog K (Instr.indexAt 68 (.slice A n c) (.int k i)) u f d w = K (updO f d (.pointer (some (eA A (i.toNat * 5))))) w := by
  rw [idx_sl u f d w 68 (by rw [ty_sl_68]; rfl) A hA n c k i h0 h1, ty_sl_68]; rfl
theorem ln_68 {K : Fr → World → Prop} {u : World} {f : Fr} {d : Option Nat} {w : World} (ty : TypeId) (A : Option Addr) (n c : Nat) : Val1 Tryd.prog K (Builtin.len_ #[68] ty #[.slice A n c]) u f d w = K (updO f d (.int .i64 n)) w := len_sl u f d w ty 68 (by rw [ty_sl_68]; rfl) A n c
theorem ixA_68 {K : Fr → World → Prop} {f : Fr} {d : Option Nat} {w : World} (A : Option Addr) (hA : A.isSome = true) (n c : Nat) (k : IntKind) (i : Int) (h0 : 0 ≤ i) (h1 : i < n) : ValA Tryd.prog K (Instr.indexAt 68 (.slice A n c) (.int k i)) f d w = K (updO f d (.pointer (some (eA A (i.toNat * 5))))) w := by
  rw [idx_slA f d w 68 (by rw [ty_sl_68]; rfl) A hA n c k i h0 h1, ty_sl_68]; rfl
theorem fd_71_0 {K : Fr → World → Prop} {u : World} {f : Fr} {d : Option Nat} {w : World} (a : Addr) : Val1 Tryd.prog K (Instr.fieldAt 71 (.pointer (some a)) 0) u f d w = K (updO f d (.pointer (some (a.add 0)))) w := by
  rw [fld_ptr u f d w 71 0 (by rw [ty_fl_71_0]; rfl) a, ty_fl_71_0]; rfl
theorem fdA_71_0 {K : Fr → World → Prop} {f : Fr} {d : Option Nat} {w : World} (a : Addr) : ValA Tryd.prog K (Instr.fieldAt 71 (.pointer (some a)) 0) f d w = K (updO f d (.pointer (some (a.add 0)))) w := by
  rw [fld_ptrA f d w 71 0 (by rw [ty_fl_71_0]; rfl) a, ty_fl_71_0]; rfl
theorem fd_71_1 {K : Fr → World → Prop} {u : World} {f : Fr} {d : Option Nat} {w : World} (a : Addr) : Val1 Tryd.prog K (Instr.fieldAt 71 (.pointer (some a)) 1) u f d w = K (updO f d (.pointer (some (a.add 4)))) w := by
  rw [fld_ptr u f d w 71 1 (by rw [ty_fl_71_1]; rfl) a, ty_fl_71_1]; rfl
theorem fdA_71_1 {K : Fr → World → Prop} {f : Fr} {d : Option Nat} {w : World} (a : Addr) : ValA Tryd.prog K (Instr.fieldAt 71 (.pointer (some a)) 1) f d w = K (updO f d (.pointer (some (a.add 4)))) w := by
  rw [fld_ptrA f d w 71 1 (by rw [ty_fl_71_1]; rfl) a, ty_fl_71_1]; rfl
theorem fd_72_0 {K : Fr → World → Prop} {u : World} {f : Fr} {d : Option Nat} {w : World} (a : Addr) : Val1 Tryd.prog K (Instr.fieldAt 72 (.pointer (some a)) 0) u f d w = K (updO f d (.pointer (some (a.add 0)))) w := by
  rw [fld_ptr u f d w 72 0 (by rw [ty_fl_72_0]; rfl) a, ty_fl_72_0]; rfl
theorem fdA_72_0 {K : Fr → World → Prop} {f : Fr} {d : Option Nat} {w : World} (a : Addr) : ValA Tryd.prog K (Instr.fieldAt 72 (.pointer (some a)) 0) f d w = K (updO f d (.pointer (some (a.add 0)))) w := by
  rw [fld_ptrA f d w 72 0 (by rw [ty_fl_72_0]; rfl) a, ty_fl_72_0]; rfl
theorem fd_72_1 {K : Fr → World → Prop} {u : World} {f : Fr} {d : Option Nat} {w : World} (a : Addr) : Val1 Tryd.prog K (Instr.fieldAt 72 (.pointer (some a)) 1) u f d w = K (updO f d (.pointer (some (a.add 4)))) w := by
  rw [fld_ptr u f d w 72 1 (by rw [ty_fl_72_1]; rfl) a, ty_fl_72_1]; rfl
theorem fdA_72_1 {K : Fr → World → Prop} {f : Fr} {d : Option Nat} {w : World} (a : Addr) : ValA Tryd.prog K (Instr.fieldAt 72 (.pointer (some a)) 1) f d w = K (updO f d (.pointer (some (a.add 4)))) w := by
  rw [fld_ptrA f d w 72 1 (by rw [ty_fl_72_1]; rfl) a, ty_fl_72_1]; rfl
theorem fd_75_0 {K : Fr → World → Prop} {u : World} {f : Fr} {d : Option Nat} {w : World} (a : Addr) : Val1 Tryd.prog K (Instr.fieldAt 75 (.pointer (some a)) 0) u f d w = K (updO f d (.pointer (some (a.add 0)))) w := by
  rw [fld_ptr u f d w 75 0 (by rw [ty_fl_75_0]; rfl) a, ty_fl_75_0]; rfl
theorem fdA_75_0 {K : Fr → World → Prop} {f : Fr} {d : Option Nat} {w : World} (a : Addr) : ValA Tryd.prog K (Instr.fieldAt 75 (.pointer (some a)) 0) f d w = K (updO f d (.pointer (some (a.add 0)))) w := by
  rw [fld_ptrA f d w 75 0 (by rw [ty_fl_75_0]; rfl) a, ty_fl_75_0]; rfl
theorem fd_75_1 {K : Fr → World → Prop} {u : World} {f : Fr} {d : Option Nat} {w : World} (a : Addr) : Val1 Tryd.prog K (Instr.fieldAt 75 (.pointer (some a)) 1) u f d w = K (updO f d (.pointer (some (a.add 1)))) w := by
  rw [fld_ptr u f d w 75 1 (by rw [ty_fl_75_1]; rfl) a, ty_fl_75_1]; rfl
theorem fdA_75_1 {K : Fr → World → Prop} {f : Fr} {d : Option Nat} {w : World} (a : Addr) : ValA Tryd.prog K (Instr.fieldAt 75 (.pointer (some a)) 1) f d w = K (updO f d (.pointer (some (a.add 1)))) w := by
  rw [fld_ptrA f d w 75 1 (by rw [ty_fl_75_1]; rfl) a, ty_fl_75_1]; rfl
theorem fd_76_0 {K : Fr → World → Prop} {u : World} {f : Fr} {d : Option Nat} {w : World} (a : Addr) : Val1 Tryd.prog K (Instr.fieldAt 76 (.pointer (some a)) 0) u f d w = K (updO f d (.pointer (some (a.add 0)))) w := by
  rw [fld_ptr u f d w 76 0 (by rw [ty_fl_76_0]; rfl) a, ty_fl_76_0]; rfl
theorem fdA_76_0 {K : Fr → World → Prop} {f : Fr} {d : Option Nat} {w : World} (a : Addr) : ValA Tryd.prog K (Instr.fieldAt 76 (.pointer (some a)) 0) f d w = K (updO f d (.pointer (some (a.add 0)))) w := by
  rw [fld_ptrA f d w 76 0 (by rw [ty_fl_76_0]; rfl) a, ty_fl_76_0]; rfl
theorem fd_76_1 {K : Fr → World → Prop} {u : World} {f : Fr} {d : Option Nat} {w : World} (a : Addr) : Val1 Tryd.prog K (Instr.fieldAt 76 (.pointer (some a)) 1) u f d w = K (updO f d (.pointer (some (a.add 1)))) w := by
  rw [fld_ptr u f d w 76 1 (by rw [ty_fl_76_1]; rfl) a, ty_fl_76_1]; rfl
theorem fdA_76_1 {K : Fr → World → Prop} {f : Fr} {d : Option Nat} {w : World} (a : Addr) : ValA Tryd.prog K (Instr.fieldAt 76 (.pointer (some a)) 1) f d w = K (updO f d (.pointer (some (a.add 1)))) w := by
  rw [fld_ptrA f d w 76 1 (by rw [ty_fl_76_1]; rfl) a, ty_fl_76_1]; rfl
theorem ix_81 {K : Fr → World → Prop} {u : World} {f : Fr} {d : Option Nat} {w : World} (A : Option Addr) (hA : A.isSome = true) (n c : Nat) (k : IntKind) (i : Int) (h0 : 0 ≤ i) (h1 : i < n) : Val1 Tryd.prog K (Instr.indexAt 81 (.slice A n c) (.int k i)) u f d w = K (updO f d (.pointer (some (eA A (i.toNat * 1))))) w := by
  rw [idx_sl u f d w 81 (by rw [ty_sl_81]; rfl) A hA n c k i h0 h1, ty_sl_81]; rfl
theorem ln_81 {K : Fr → World → Prop} {u : World} {f : Fr} {d : Option Nat} {w : World} (ty : TypeId) (A : Option Addr) (n c : Nat) : Val1 Tryd.prog K (Builtin.len_ #[81] ty #[.slice A n c]) u f d w = K (updO f d (.int .i64 n)) w := len_sl u f d w ty 81 (by rw [ty_sl_81]; rfl) A n c
theorem ixA_81 {K : Fr → World → Prop} {f : Fr} {d : Option Nat} {w : World} (A : Option Addr) (hA : A.isSome = true) (n c : Nat) (k : IntKind) (i : Int) (h0 : 0 ≤ i) (h1 : i < n) : ValA Tryd.prog K (Instr.indexAt 81 (.slice A n c) (.int k i)) f d w = K (updO f d (.pointer (some (eA A (i.toNat * 1))))) w := by
  rw [idx_slA f d w 81 (by rw [ty_sl_81]; rfl) A hA n c k i h0 h1, ty_sl_81]; rfl
theorem fd_84_0 {K : Fr → World → Prop} {u : World} {f : Fr} {d : Option Nat} {w : World} (a : Addr) : Val1 Tryd.prog K (Instr.fieldAt 84 (.pointer (some a)) 0) u f d w = K (updO f d (.pointer (some (a.add 0)))) w := by
  rw [fld_ptr u f d w 84 0 (by rw [ty_fl_84_0]; rfl) a, ty_fl_84_0]; rfl
theorem fdA_84_0 {K : Fr → World → Prop} {f : Fr} {d : Option Nat} {w : World} (a : Addr) : ValA Tryd.prog K (Instr.fieldAt 84 (.pointer (some a)) 0) f d w = K (updO f d (.pointer (some (a.add 0)))) w := by
  rw [fld_ptrA f d w 84 0 (by rw [ty_fl_84_0]; rfl) a, ty_fl_84_0]; rfl
theorem fd_84_1 {K : Fr → World → Prop} {u : World} {f : Fr} {d : Option Nat} {w : World} (a : Addr) : Val1 Tryd.prog K (Instr.fieldAt 84 (.pointer (some a)) 1) u f d w = K (updO f d (.pointer (some (a.add 5)))) w := by
  rw [fld_ptr u f d w 84 1 (by rw [ty_fl_84_1]; rfl) a, ty_fl_84_1]; rfl
theorem fdA_84_1 {K : Fr → World → Prop} {f : Fr} {d : Option Nat} {w : World} (a : Addr) : ValA Tryd.prog K (Instr.fieldAt 84 (.pointer (some a)) 1) f d w = K (updO f d (.pointer (some (a.add 5)))) w := by
  rw [fld_ptrA f d w 84 1 (by rw [ty_fl_84_1]; rfl) a, ty_fl_84_1]; rfl
theorem fd_84_2 {K : Fr → World → Prop} {u : World} {f : Fr} {d : Option Nat} {w : World} (a : Addr) : Val1 Tryd.prog K (Instr.fieldAt 84 (.pointer (some a)) 2) u f d w = K (updO f d (.pointer (some (a.add 10)))) w := by
  rw [fld_ptr u f d w 84 2 (by rw [ty_fl_84_2]; rfl) a, ty_fl_84_2]; rfl
theorem fdA_84_2 {K : Fr → World → Prop} {f : Fr} {d : Option Nat} {w : World} (a : Addr) : ValA Tryd.prog K (Instr.fieldAt 84 (.pointer (some a)) 2) f d w = K (updO f d (.pointer (some (a.add 10)))) w := by
  rw [fld_ptrA f d w 84 2 (by rw [ty_fl_84_2]; rfl) a, ty_fl_84_2]; rfl
theorem fd_85_0 {K : Fr → World → Prop} {u : World} {f : Fr} {d : Option Nat} {w : World} (a : Addr) : Val1 Tryd.prog K (Instr.fieldAt 85 (.pointer (some a)) 0) u f d w = K (updO f d (.pointer (some (a.add 0)))) w := by
  rw [fld_ptr u f d w 85 0 (by rw [ty_fl_85_0]; rfl) a, ty_fl_85_0]; rfl
theorem fdA_85_0 {K : Fr → World → Prop} {f : Fr} {d : Option Nat} {w : World} (a : Addr) : ValA Tryd.prog K (Instr.fieldAt 85 (.pointer (some a)) 0) f d w = K (updO f d (.pointer (some (a.add 0)))) w := by
  rw [fld_ptrA f d w 85 0 (by rw [ty_fl_85_0]; rfl) a, ty_fl_85_0]; rfl
theorem fd_85_1 {K : Fr → World → Prop} {u : World} {f : Fr} {d : Option Nat} {w : World} (a : Addr) : Val1 Tryd.prog K (Instr.fieldAt 85 (.pointer (some a)) 1) u f d w = K (updO f d (.pointer (some (a.add 5)))) w := by
  rw [fld_ptr u f d w 85 1 (by rw [ty_fl_85_1]; rfl) a, ty_fl_85_1]; rfl
theorem fdA_85_1 {K : Fr → World → Prop} {f : Fr} {d : Option Nat} {w : World} (a : Addr) : ValA Tryd.prog K (Instr.fieldAt 85 (.pointer (some a)) 1) f d w = K (updO f d (.pointer (some (a.add 5)))) w := by
  rw [fld_ptrA f d w 85 1 (by rw [ty_fl_85_1]; rfl) a, ty_fl_85_1]; rfl
theorem fd_85_2 {K : Fr → World → Prop} {u : World} {f : Fr} {d : Option Nat} {w : World} (a : Addr) : Val1 Tryd.prog K (Instr.fieldAt 85 (.pointer (some a)) 2) u f d w = K (updO f d (.pointer (some (a.add 10)))) w := by
  rw [fld_ptr u f d w 85 2 (by rw [ty_fl_85_2]; rfl) a, ty_fl_85_2]; rfl
theorem fdA_85_2 {K : Fr → World → Prop} {f : Fr} {d : Option Nat} {w : World} (a : Addr) : ValA Tryd.prog K (Instr.fieldAt 85 (.pointer (some a)) 2) f d w = K (updO f d (.pointer (some (a.add 10)))) w := by
  rw [fld_ptrA f d w 85 2 (by rw [ty_fl_85_2]; rfl) a, ty_fl_85_2]; rfl
theorem fd_90_0 {K : Fr → World → Prop} {u : World} {f : Fr} {d : Option Nat} {w : World} (a : Addr) : Val1 Tryd.prog K (Instr.fieldAt 90 (.pointer (some a)) 0) u f d w = K (updO f d (.pointer (some (a.add 0)))) w := by
  rw [fld_ptr u f d w 90 0 (by rw [ty_fl_90_0]; rfl) a, ty_fl_90_0]; rfl
theorem fdA_90_0 {K : Fr → World → Prop} {f : Fr} {d : Option Nat} {w : World} (a : Addr) : ValA Tryd.prog K (Instr.fieldAt 90 (.pointer (some a)) 0) f d w = K (updO f d (.pointer (some (a.add 0)))) w := by
  rw [fld_ptrA f d w 90 0 (by rw [ty_fl_90_0]; rfl) a, ty_fl_90_0]; rfl
theorem fd_90_1 {K : Fr → World → Prop} {u : World} {f : Fr} {d : Option Nat} {w : World} (a : Addr) : Val1 Tryd.prog K (Instr.fieldAt 90 (.pointer (some a)) 1) u f d w = K (updO f d (.pointer (some (a.add 1)))) w := by
  rw [fld_ptr u f d w 90 1 (by rw [ty_fl_90_1]; rfl) a, ty_fl_90_1]; rfl
theorem fdA_90_1 {K : Fr → World → Prop} {f : Fr} {d : Option Nat} {w : World} (a : Addr) : ValA Tryd.prog K (Instr.fieldAt 90 (.pointer (some a)) 1) f d w = K (updO f d (.pointer (some (a.add 1)))) w := by
  rw [fld_ptrA f d w 90 1 (by rw [ty_fl_90_1]; rfl) a, ty_fl_90_1]; rfl
theorem fd_90_2 {K : Fr → World → Prop} {u : World} {f : Fr} {d : Option Nat} {w : World} (a : Addr) : Val1 Tryd.prog K (Instr.fieldAt 90 (.pointer (some a)) 2) u f d w = K (updO f d (.pointer (some (a.add 2)))) w := by
  rw [fld_ptr u f d w 90 2 (by rw [ty_fl_90_2]; rfl) a, ty_fl_90_2]; rfl
theorem fdA_90_2 {K : Fr → World → Prop} {f : Fr} {d : Option Nat} {w : World} (a : Addr) : ValA Tryd.prog K (Instr.fieldAt 90 (.pointer (some a)) 2) f d w = K (updO f d (.pointer (some (a.add 2)))) w := by
  rw [fld_ptrA f d w 90 2 (by rw [ty_fl_90_2]; rfl) a, ty_fl_90_2]; rfl
theorem fd_91_0 {K : Fr → World → Prop} {u : World} {f : Fr} {d : Option Nat} {w : World} (a : Addr) : Val1 Tryd.prog K (Instr.fieldAt 91 (.pointer (some a)) 0) u f d w = K (updO f d (.pointer (some (a.add 0)))) w := by
  rw [fld_ptr u f d w 91 0 (by rw [ty_fl_91_0]; rfl) a, ty_fl_91_0]; rfl
theorem fdA_91_0 {K : Fr → World → Prop} {f : Fr} {d : Option Nat} {w : World} (a : Addr) : ValA Tryd.prog K (Instr.fieldAt 91 (.pointer (some a)) 0) f d w = K (updO f d (.pointer (some (a.add 0)))) w := by
  rw [fld_ptrA f d w 91 0 (by rw [ty_fl_91_0]; rfl) a, ty_fl_91_0]; rfl
theorem fd_91_1 {K : Fr → World → Prop} {u : World} {f : Fr} {d : Option Nat} {w : World} (a : Addr) : Val1 Tryd.prog K (Instr.fieldAt 91 (.pointer (some a)) 1) u f d w = K (updO f d (.pointer (some (a.add 1)))) w := by
  rw [fld_ptr u f d w 91 1 (by rw [ty_fl_91_1]; rfl) a, ty_fl_91_1]; rfl
theorem fdA_91_1 {K : Fr → World → Prop} {f : Fr} {d : Option Nat} {w : World} (a : Addr) : ValA Tryd.prog K (Instr.fieldAt 91 (.pointer (some a)) 1) f d w = K (updO f d (.pointer (some (a.add 1)))) w := by
  rw [fld_ptrA f d w 91 1 (by rw [ty_fl_91_1]; rfl) a, ty_fl_91_1]; rfl
theorem fd_91_2 {K : Fr → World → Prop} {u : World} {f : Fr} {d : Option Nat} {w : World} (a : Addr) : Val1 Tryd.prog K (Instr.fieldAt 91 (.pointer (some a)) 2) u f d w = K (updO f d (.pointer (some (a.add 2)))) w := by
  rw [fld_ptr u f d w 91 2 (by rw [ty_fl_91_2]; rfl) a, ty_fl_91_2]; rfl
theorem fdA_91_2 {K : Fr → World → Prop} {f : Fr} {d : Option Nat} {w : World} (a : Addr) : ValA Tryd.prog K (Instr.fieldAt 91 (.pointer (some a)) 2) f d w = K (updO f d (.pointer (some (a.add 2)))) w := by
  rw [fld_ptrA f d w 91 2 (by rw [ty_fl_91_2]; rfl) a, ty_fl_91_2]; rfl
theorem ix_94 {K : Fr → World → Prop} {u : World} {f : Fr} {d : Option Nat} {w : World} (A : Option Addr) (hA : A.isSome = true) (n c : Nat) (k : IntKind) (i : Int) (h0 : 0 ≤ i) (h1 : i < n) : Val1 Tryd.prog K (Instr.indexAt 94 (.slice A n c) (.int k i)) u f d w = K (updO f d (.pointer (some (eA A (i.toNat * 1))))) w := by
  rw [idx_sl u f d w 94 (by rw [ty_sl_94]; rfl) A hA n c k i h0 h1, ty_sl_94]; rfl
theorem ln_94 {K : Fr → World → Prop} {u : World} {f : Fr} {d : Option Nat} {w : World} (ty : TypeId) (A : Option Addr) (n c : Nat) : Val1 Tryd.prog K (Builtin.len_ #[94] ty #[.slice A n c]) u f d w = K (updO f d (.int .i64 n)) w := len_sl u f d w ty 94 (by rw [ty_sl_94]; rfl) A n c
theorem ixA_94 {K : Fr → World → Prop} {f : Fr} {d : Option Nat} {w : World} (A : Option Addr) (hA : A.isSome = true) (n c : Nat) (k : IntKind) (i : Int) (h0 : 0 ≤ i) (h1 : i < n) : ValA Tryd.prog K (Instr.indexAt 94 (.slice A n c) (.int k i)) f d w = K (updO f d (.pointer (some (eA A (i.toNat * 1))))) w := by
  rw [idx_slA f d w 94 (by rw [ty_sl_94]; rfl) A hA n c k i h0 h1, ty_sl_94]; rfl
theorem fd_98_0 {K : Fr → World → Prop} {u : World} {f : Fr} {d : Option Nat} {w : World} (a : Addr) : Val1 Tryd.prog K (Instr.fieldAt 98 (.pointer (some a)) 0) u f d w = K (updO f d (.pointer (some (a.add 0)))) w := by
  rw [fld_ptr u f d w 98 0 (by rw [ty_fl_98_0]; rfl) a, ty_fl_98_0]; rfl
theorem fdA_98_0 {K : Fr → World → Prop} {f : Fr} {d : Option Nat} {w : World} (a : Addr) : ValA Tryd.prog K (Instr.fieldAt 98 (.pointer (some a)) 0) f d w = K (updO f d (.pointer (some (a.add 0)))) w := by
  rw [fld_ptrA f d w 98 0 (by rw [ty_fl_98_0]; rfl) a, ty_fl_98_0]; rfl
theorem fd_98_1 {K : Fr → World → Prop} {u : World} {f : Fr} {d : Option Nat} {w : World} (a : Addr) : Val1 Tryd.prog K (Instr.fieldAt 98 (.pointer (some a)) 1) u f d w = K (updO f d (.pointer (some (a.add 1)))) w := by
  rw [fld_ptr u f d w 98 1 (by rw [ty_fl_98_1]; rfl) a, ty_fl_98_1]; rfl
theorem fdA_98_1 {K : Fr → World → Prop} {f : Fr} {d : Option Nat} {w : World} (a : Addr) : ValA Tryd.prog K (Instr.fieldAt 98 (.pointer (some a)) 1) f d w = K (updO f d (.pointer (some (a.add 1)))) w := by
  rw [fld_ptrA f d w 98 1 (by rw [ty_fl_98_1]; rfl) a, ty_fl_98_1]; rfl
theorem fd_99_0 {K : Fr → World → Prop} {u : World} {f : Fr} {d : Option Nat} {w : World} (a : Addr) : Val1 Tryd.prog K (Instr.fieldAt 99 (.pointer (some a)) 0) u f d w = K (updO f d (.pointer (some (a.add 0)))) w := by
  rw [fld_ptr u f d w 99 0 (by rw [ty_fl_99_0]; rfl) a, ty_fl_99_0]; rfl
theorem fdA_99_0 {K : Fr → World → Prop} {f : Fr} {d : Option Nat} {w : World} (a : Addr) : ValA Tryd.prog K (Instr.fieldAt 99 (.pointer (some a)) 0) f d w = K (updO f d (.pointer (some (a.add 0)))) w := by
  rw [fld_ptrA f d w 99 0 (by rw [ty_fl_99_0]; rfl) a, ty_fl_99_0]; rfl
theorem fd_99_1 {K : Fr → World → Prop} {u : World} {f : Fr} {d : Option Nat} {w : World} (a : Addr) : Val1 Tryd.prog K (Instr.fieldAt 99 (.pointer (some a)) 1) u f d w = K (updO f d (.pointer (some (a.add 1)))) w := by
  rw [fld_ptr u f d w 99 1 (by rw [ty_fl_99_1]; rfl) a, ty_fl_99_1]; rfl
theorem fdA_99_1 {K : Fr → World → Prop} {f : Fr} {d : Option Nat} {w : World} (a : Addr) : ValA Tryd.prog K (Instr.fieldAt 99 (.pointer (some a)) 1) f d w = K (updO f d (.pointer (some (a.add 1)))) w := by
  rw [fld_ptrA f d w 99 1 (by rw [ty_fl_99_1]; rfl) a, ty_fl_99_1]; rfl
theorem ix_109 {K : Fr → World → Prop} {u : World} {f : Fr} {d : Option Nat} {w : World} (A : Option Addr) (hA : A.isSome = true) (n c : Nat) (k : IntKind) (i : Int) (h0 : 0 ≤ i) (h1 : i < n) : Val1 Tryd.prog K (Instr.indexAt 109 (.slice A n c) (.int k i)) u f d w = K (updO f d (.pointer (some (eA A (i.toNat * 2))))) w := by
  rw [idx_sl u f d w 109 (by rw [ty_sl_109]; rfl) A hA n c k i h0 h1, ty_sl_109]; rfl
theorem ln_109 {K : Fr → World → Prop} {u : World} {f : Fr} {d : Option Nat} {w : World} (ty : TypeId) (A : Option Addr) (n c : Nat) : Val1 Tryd.prog K (Builtin.len_ #[109] ty #[.slice A n c]) u f d w = K (updO f d (.int .i64 n)) w := len_sl u f d w ty 109 (by rw [ty_sl_109]; rfl) A n c
theorem ixA_109 {K : Fr → World → Prop} {f : Fr} {d : Option Nat} {w : World} (A : Option Addr) (hA : A.isSome = true) (n c : Nat) (k : IntKind) (i : Int) (h0 : 0 ≤ i) (h1 : i < n) : ValA Tryd.prog K (Instr.indexAt 109 (.slice A n c) (.int k i)) f d w = K (updO f d (.pointer (some (eA A (i.toNat * 2))))) w := by
  rw [idx_slA f d w 109 (by rw [ty_sl_109]; rfl) A hA n c k i h0 h1, ty_sl_109]; rfl
theorem fd_110_0 {K : Fr → World → Prop} {u : World} {f : Fr} {d : Option Nat} {w : World} (a : Addr) : Val1 Tryd.prog K (Instr.fieldAt 110 (.pointer (some a)) 0) u f d w = K (updO f d (.pointer (some (a.add 0)))) w := by
  rw [fld_ptr u f d w 110 0 (by rw [ty_fl_110_0]; rfl) a, ty_fl_110_0]; rfl
theorem fdA_110_0 {K : Fr → World → Prop} {f : Fr} {d : Option Nat} {w : World} (a : Addr) : ValA Tryd.prog K (Instr.fieldAt 110 (.pointer (some a)) 0) f d w = K (updO f d (.pointer (some (a.add 0)))) w := by
  rw [fld_ptrA f d w 110 0 (by rw [ty_fl_110_0]; rfl) a, ty_fl_110_0]; rfl
theorem fd_110_1 {K : Fr → World → Prop} {u : World} {f : Fr} {d : Option Nat} {w : World} (a : Addr) : Val1 Tryd.prog K (Instr.fieldAt 110 (.pointer (some a)) 1) u f d w = K (updO f d (.pointer (some (a.add 1)))) w := by
  rw [fld_ptr u f d w 110 1 (by rw [ty_fl_110_1]; rfl) a, ty_fl_110_1]; rfl
theorem fdA_110_1 {K : Fr → World → Prop} {f : Fr} {d : Option Nat} {w : World} (a : Addr) : ValA Tryd.prog K (Instr.fieldAt 110 (.pointer (some a)) 1) f d w = K (updO f d (.pointer (some (a.add 1)))) w := by
  rw [fld_ptrA f d w 110 1 (by rw [ty_fl_110_1]; rfl) a, ty_fl_110_1]; rfl
theorem fd_111_0 {K : Fr → World → Prop} {u : World} {f : Fr} {d : Option Nat} {w : World} (a : Addr) : Val1 Tryd.prog K (Instr.fieldAt 111 (.pointer (some a)) 0) u f d w = K (updO f d (.pointer (some (a.add 0)))) w := by
  rw [fld_ptr u f d w 111 0 (by rw [ty_fl_111_0]; rfl) a, ty_fl_111_0]; rfl
theorem fdA_111_0 {K : Fr → World → Prop} {f : Fr} {d : Option Nat} {w : World} (a : Addr) : ValA Tryd.prog K (Instr.fieldAt 111 (.pointer (some a)) 0) f d w = K (updO f d (.pointer (some (a.add 0)))) w := by
  rw [fld_ptrA f d w 111 0 (by rw [ty_fl_111_0]; rfl) a, ty_fl_111_0]; rfl
theorem fd_111_1 {K : Fr → World → Prop} {u : World} {f : Fr} {d : Option Nat} {w : World} (a : Addr) : Val1 Tryd.prog K (Instr.fieldAt 111 (.pointer (some a)) 1) u f d w = K (updO f d (.pointer (some (a.add 1)))) w := by
  rw [fld_ptr u f d w 111 1 (by rw [ty_fl_111_1]; rfl) a, ty_fl_111_1]; rfl
theorem fdA_111_1 {K : Fr → World → Prop} {f : Fr} {d : Option Nat} {w : World} (a : Addr) : ValA Tryd.prog K (Instr.fieldAt 111 (.pointer (some a)) 1) f d w = K (updO f d (.pointer (some (a.add 1)))) w := by
  rw [fld_ptrA f d w 111 1 (by rw [ty_fl_111_1]; rfl) a, ty_fl_111_1]; rfl
theorem ix_125 {K : Fr → World → Prop} {u : World} {f : Fr} {d : Option Nat} {w : World} (A : Option Addr) (hA : A.isSome = true) (n c : Nat) (k : IntKind) (i : Int) (h0 : 0 ≤ i) (h1 : i < n) : Val1 Tryd.prog K (Instr.indexAt 125 (.slice A n c) (.int k i)) u f d w = K (updO f d (.pointer (some (eA A (i.toNat * 4))))) w := by
  rw [idx_sl u f d w 125 (by rw [ty_sl_125]; rfl) A hA n c k i h0 h1, ty_sl_125]; rfl
theorem ln_125 {K : Fr → World → Prop} {u : World} {f : Fr} {d : Option Nat} {w : World} (ty : TypeId) (A : Option Addr) (n c : Nat) : Val1 Tryd.prog K (Builtin.len_ #[125] ty #[.slice A n c]) u f d w = K (updO f d (.int .i64 n)) w := len_sl u f d w ty 125 (by rw [ty_sl_125]; rfl) A n c
theorem ixA_125 {K : Fr → World → Prop} {f : Fr} {d : Option Nat} {w : World} (A : Option Addr) (hA : A.isSome = true) (n c : Nat) (k : IntKind) (i : Int) (h0 : 0 ≤ i) (h1 : i < n) : ValA Tryd.prog K (Instr.indexAt 125 (.slice A n c) (.int k i)) f d w = K (updO f d (.pointer (some (eA A (i.toNat * 4))))) w := by
  rw [idx_slA f d w 125 (by rw [ty_sl_125]; rfl) A hA n c k i h0 h1, ty_sl_125]; rfl
theorem ix_140 {K : Fr → World → Prop} {u : World} {f : Fr} {d : Option Nat} {w : World} (a : Addr) (k : IntKind) (i : Int) (h0 : 0 ≤ i) (h1 : i < 64) : Val1 Tryd.prog K (Instr.indexAt 140 (.pointer (some a)) (.int k i)) u f d w = K (updO f d (.pointer (some (a.add (i.toNat * 1))))) w := by
  rw [idx_arr u f d w 140 (by rw [ty_ar_140]; rfl) a k i h0 (by rw [ty_ar_140]; exact h1), ty_ar_140]; rfl
theorem ixA_140 {K : Fr → World → Prop} {f : Fr} {d : Option Nat} {w : World} (a : Addr) (k : IntKind) (i : Int) (h0 : 0 ≤ i) (h1 : i < 64) : ValA Tryd.prog K (Instr.indexAt 140 (.pointer (some a)) (.int k i)) f d w = K (updO f d (.pointer (some (a.add (i.toNat * 1))))) w := by
  rw [idx_arrA f d w 140 (by rw [ty_ar_140]; rfl) a k i h0 (by rw [ty_ar_140]; exact h1), ty_ar_140]; rfl
theorem fd_143_0 {K : Fr → World → Prop} {u : World} {f : Fr} {d : Option Nat} {w : World} (a : Addr) : Val1 Tryd.prog K (Instr.fieldAt 143 (.pointer (some a)) 0) u f d w = K (updO f d (.pointer (some (a.add 0)))) w := by
  rw [fld_ptr u f d w 143 0 (by rw [ty_fl_143_0]; rfl) a, ty_fl_143_0]; rfl
theorem fdA_143_0 {K : Fr → World → Prop} {f : Fr} {d : Option Nat} {w : World} (a : Addr) : ValA Tryd.prog K (Instr.fieldAt 143 (.pointer (some a)) 0) f d w = K (updO f d (.pointer (some (a.add 0)))) w := by
  rw [fld_ptrA f d w 143 0 (by rw [ty_fl_143_0]; rfl) a, ty_fl_143_0]; rfl
theorem fd_143_1 {K : Fr → World → Prop} {u : World} {f : Fr} {d : Option Nat} {w : World} (a : Addr) : Val1 Tryd.prog K (Instr.fieldAt 143 (.pointer (some a)) 1) u f d w = K (updO f d (.pointer (some (a.add 1)))) w := by
  rw [fld_ptr u f d w 143 1 (by rw [ty_fl_143_1]; rfl) a, ty_fl_143_1]; rfl
theorem fdA_143_1 {K : Fr → World → Prop} {f : Fr} {d : Option Nat} {w : World} (a : Addr) : ValA Tryd.prog K (Instr.fieldAt 143 (.pointer (some a)) 1) f d w = K (updO f d (.pointer (some (a.add 1)))) w := by
  rw [fld_ptrA f d w 143 1 (by rw [ty_fl_143_1]; rfl) a, ty_fl_143_1]; rfl
theorem fd_143_2 {K : Fr → World → Prop} {u : World} {f : Fr} {d : Option Nat} {w : World} (a : Addr) : Val1 Tryd.prog K (Instr.fieldAt 143 (.pointer (some a)) 2) u f d w = K (updO f d (.pointer (some (a.add 2)))) w := by
  rw [fld_ptr u f d w 143 2 (by rw [ty_fl_143_2]; rfl) a, ty_fl_143_2]; rfl
theorem fdA_143_2 {K : Fr → World → Prop} {f : Fr} {d : Option Nat} {w : World} (a : Addr) : ValA Tryd.prog K (Instr.fieldAt 143 (.pointer (some a)) 2) f d w = K (updO f d (.pointer (some (a.add 2)))) w := by
  rw [fld_ptrA f d w 143 2 (by rw [ty_fl_143_2]; rfl) a, ty_fl_143_2]; rfl
theorem fd_143_3 {K : Fr → World → Prop} {u : World} {f : Fr} {d : Option Nat} {w : World} (a : Addr) : Val1 Tryd.prog K (Instr.fieldAt 143 (.pointer (some a)) 3) u f d w = K (updO f d (.pointer (some (a.add 3)))) w := by
  rw [fld_ptr u f d w 143 3 (by rw [ty_fl_143_3]; rfl) a, ty_fl_143_3]; rfl
theorem fdA_143_3 {K : Fr → World → Prop} {f : Fr} {d : Option Nat} {w : World} (a : Addr) : ValA Tryd.prog K (Instr.fieldAt 143 (.pointer (some a)) 3) f d w = K (updO f d (.pointer (some (a.add 3)))) w := by
  rw [fld_ptrA f d w 143 3 (by rw [ty_fl_143_3]; rfl) a, ty_fl_143_3]; rfl
theorem fd_144_0 {K : Fr → World → Prop} {u : World} {f : Fr} {d : Option Nat} {w : World} (a : Addr) : Val1 Tryd.prog K (Instr.fieldAt 144 (.pointer (some a)) 0) u f d w = K (updO f d (.pointer (some (a.add 0)))) w := by
  rw [fld_ptr u f d w 144 0 (by rw [ty_fl_144_0]; rfl) a, ty_fl_144_0]; rfl
theorem fdA_144_0 {K : Fr → World → Prop} {f : Fr} {d : Option Nat} {w : World} (a : Addr) : ValA Tryd.prog K (Instr.fieldAt 144 (.pointer (some a)) 0) f d w = K (updO f d (.pointer (some (a.add 0)))) w := by
  rw [fld_ptrA f d w 144 0 (by rw [ty_fl_144_0]; rfl) a, ty_fl_144_0]; rfl
theorem fd_144_1 {K : Fr → World → Prop} {u : World} {f : Fr} {d : Option Nat} {w : World} (a : Addr) : Val1 Tryd.prog K (Instr.fieldAt 144 (.pointer (some a)) 1) u f d w = K (updO f d (.pointer (some (a.add 1)))) w := by
  rw [fld_ptr u f d w 144 1 (by rw [ty_fl_144_1]; rfl) a, ty_fl_144_1]; rfl
theorem fdA_144_1 {K : Fr → World → Prop} {f : Fr} {d : Option Nat} {w : World} (a : Addr) : ValA Tryd.prog K (Instr.fieldAt 144 (.pointer (some a)) 1) f d w = K (updO f d (.pointer (some (a.add 1)))) w := by
  rw [fld_ptrA f d w 144 1 (by rw [ty_fl_144_1]; rfl) a, ty_fl_144_1]; rfl
theorem fd_144_2 {K : Fr → World → Prop} {u : World} {f : Fr} {d : Option Nat} {w : World} (a : Addr) : Val1 Tryd.prog K (Instr.fieldAt 144 (.pointer (some a)) 2) u f d w = K (updO f d (.pointer (some (a.add 2)))) w := by
  rw [fld_ptr u f d w 144 2 (by rw [ty_fl_144_2]; rfl) a, ty_fl_144_2]; rfl
theorem fdA_144_2 {K : Fr → World → Prop} {f : Fr} {d : Option Nat} {w : World} (a : Addr) : ValA Tryd.prog K (Instr.fieldAt 144 (.pointer (some a)) 2) f d w = K (updO f d (.pointer (some (a.add 2)))) w := by
  rw [fld_ptrA f d w 144 2 (by rw [ty_fl_144_2]; rfl) a, ty_fl_144_2]; rfl
theorem fd_144_3 {K : Fr → World → Prop} {u : World} {f : Fr} {d : Option Nat} {w : World} (a : Addr) : Val1 Tryd.prog K (Instr.fieldAt 144 (.pointer (some a)) 3) u f d w = K (updO f d (.pointer (some (a.add 3)))) w := by
  rw [fld_ptr u f d w 144 3 (by rw [ty_fl_144_3]; rfl) a, ty_fl_144_3]; rfl
theorem fdA_144_3 {K : Fr → World → Prop} {f : Fr} {d : Option Nat} {w : World} (a : Addr) : ValA Tryd.prog K (Instr.fieldAt 144 (.pointer (some a)) 3) f d w = K (updO f d (.pointer (some (a.add 3)))) w := by
  rw [fld_ptrA f d w 144 3 (by rw [ty_fl_144_3]; rfl) a, ty_fl_144_3]; rfl
theorem ix_145 {K : Fr → World → Prop} {u : World} {f : Fr} {d : Option Nat} {w : World} (a : Addr) (k : IntKind) (i : Int) (h0 : 0 ≤ i) (h1 : i < 0) : Val1 Tryd.prog K (Instr.indexAt 145 (.pointer (some a)) (.int k i)) u f d w = K (updO f d (.pointer (some (a.add (i.toNat * 1))))) w := by
  rw [idx_arr u f d w 145 (by rw [ty_ar_145]; rfl) a k i h0 (by rw [ty_ar_145]; exact h1), ty_ar_145]; rfl
theorem ixA_145 {K : Fr → World → Prop} {f : Fr} {d : Option Nat} {w : World} (a : Addr) (k : IntKind) (i : Int) (h0 : 0 ≤ i) (h1 : i < 0) : ValA Tryd.prog K (Instr.indexAt 145 (.pointer (some a)) (.int k i)) f d w = K (updO f d (.pointer (some (a.add (i.toNat * 1))))) w := by
  rw [idx_arrA f d w 145 (by rw [ty_ar_145]; rfl) a k i h0 (by rw [ty_ar_145]; exact h1), ty_ar_145]; rfl
theorem fd_156_0 {K : Fr → World → Prop} {u : World} {f : Fr} {d : Option Nat} {w : World} (a : Addr) : Val1 Tryd.prog K (Instr.fieldAt 156 (.pointer (some a)) 0) u f d w = K (updO f d (.pointer (some (a.add 0)))) w := by
  rw [fld_ptr u f d w 156 0 (by rw [ty_fl_156_0]; rfl) a, ty_fl_156_0]; rfl
theorem fdA_156_0 {K : Fr → World → Prop} {f : Fr} {d : Option Nat} {w : World} (a : Addr) : ValA Tryd.prog K (Instr.fieldAt 156 (.pointer (some a)) 0) f d w = K (updO f d (.pointer (some (a.add 0)))) w := by
  rw [fld_ptrA f d w 156 0 (by rw [ty_fl_156_0]; rfl) a, ty_fl_156_0]; rfl
theorem fd_156_1 {K : Fr → World → Prop} {u : World} {f : Fr} {d : Option Nat} {w : World} (a : Addr) : Val1 Tryd.prog K (Instr.fieldAt 156 (.pointer (some a)) 1) u f d w = K (updO f d (.pointer (some (a.add 1)))) w := by
  rw [fld_ptr u f d w 156 1 (by rw [ty_fl_156_1]; rfl) a, ty_fl_156_1]; rfl
theorem fdA_156_1 {K : Fr → World → Prop} {f : Fr} {d : Option Nat} {w : World} (a : Addr) : ValA Tryd.prog K (Instr.fieldAt 156 (.pointer (some a)) 1) f d w = K (updO f d (.pointer (some (a.add 1)))) w := by
  rw [fld_ptrA f d w 156 1 (by rw [ty_fl_156_1]; rfl) a, ty_fl_156_1]; rfl
theorem fd_156_2 {K : Fr → World → Prop} {u : World} {f : Fr} {d : Option Nat} {w : World} (a : Addr) : Val1 Tryd.prog K (Instr.fieldAt 156 (.pointer (some a)) 2) u f d w = K (updO f d (.pointer (some (a.add 2)))) w := by
  rw [fld_ptr u f d w 156 2 (by rw [ty_fl_156_2]; rfl) a, ty_fl_156_2]; rfl
theorem fdA_156_2 {K : Fr → World → Prop} {f : Fr} {d : Option Nat} {w : World} (a : Addr) : ValA Tryd.prog K (Instr.fieldAt 156 (.pointer (some a)) 2) f d w = K (updO f d (.pointer (some (a.add 2)))) w := by
  rw [fld_ptrA f d w 156 2 (by rw [ty_fl_156_2]; rfl) a, ty_fl_156_2]; rfl
theorem fd_156_3 {K : Fr → World → Prop} {u : World} {f : Fr} {d : Option Nat} {w : World} (a : Addr) : Val1 Tryd.prog K (Instr.fieldAt 156 (.pointer (some a)) 3) u f d w = K (updO f d (.pointer (some (a.add 3)))) w := by
  rw [fld_ptr u f d w 156 3 (by rw [ty_fl_156_3]; rfl) a, ty_fl_156_3]; rfl
theorem fdA_156_3 {K : Fr → World → Prop} {f : Fr} {d : Option Nat} {w : World} (a : Addr) : ValA Tryd.prog K (Instr.fieldAt 156 (.pointer (some a)) 3) f d w = K (updO f d (.pointer (some (a.add 3)))) w := by
  rw [fld_ptrA f d w 156 3 (by rw [ty_fl_156_3]; rfl) a, ty_fl_156_3]; rfl
theorem fd_156_4 {K : Fr → World → Prop} {u : World} {f : Fr} {d : Option Nat} {w : World} (a : Addr) : Val1 Tryd.prog K (Instr.fieldAt 156 (.pointer (some a)) 4) u f d w = K (updO f d (.pointer (some (a.add 4)))) w := by
  rw [fld_ptr u f d w 156 4 (by rw [ty_fl_156_4]; rfl) a, ty_fl_156_4]; rfl
theorem fdA_156_4 {K : Fr → World → Prop} {f : Fr} {d : Option Nat} {w : World} (a : Addr) : ValA Tryd.prog K (Instr.fieldAt 156 (.pointer (some a)) 4) f d w = K (updO f d (.pointer (some (a.add 4)))) w := by
  rw [fld_ptrA f d w 156 4 (by rw [ty_fl_156_4]; rfl) a, ty_fl_156_4]; rfl
theorem fd_156_5 {K : Fr → World → Prop} {u : World} {f : Fr} {d : Option Nat} {w : World} (a : Addr) : Val1 Tryd.prog K (Instr.fieldAt 156 (.pointer (some a)) 5) u f d w = K (updO f d (.pointer (some (a.add 5)))) w := by
  rw [fld_ptr u f d w 156 5 (by rw [ty_fl_156_5]; rfl) a, ty_fl_156_5]; rfl
theorem fdA_156_5 {K : Fr → World → Prop} {f : Fr} {d : Option Nat} {w : World} (a : Addr) : ValA Tryd.prog K (Instr.fieldAt 156 (.pointer (some a)) 5) f d w = K (updO f d (.pointer (some (a.add 5)))) w := by
  rw [fld_ptrA f d w 156 5 (by rw [ty_fl_156_5]; rfl) a, ty_fl_156_5]; rfl
theorem fd_156_6 {K : Fr → World → Prop} {u : World} {f : Fr} {d : Option Nat} {w : World} (a : Addr) : Val1 Tryd.prog K (Instr.fieldAt 156 (.pointer (some a)) 6) u f d w = K (updO f d (.pointer (some (a.add 6)))) w := by
  rw [fld_ptr u f d w 156 6 (by rw [ty_fl_156_6]; rfl) a, ty_fl_156_6]; rfl
theorem fdA_156_6 {K : Fr → World → Prop} {f : Fr} {d : Option Nat} {w : World} (a : Addr) : ValA Tryd.prog K (Instr.fieldAt 156 (.pointer (some a)) 6) f d w = K (updO f d (.pointer (some (a.add 6)))) w := by
  rw [fld_ptrA f d w 156 6 (by rw [ty_fl_156_6]; rfl) a, ty_fl_156_6]; rfl
theorem fd_156_7 {K : Fr → World → Prop} {u : World} {f : Fr} {d : Option Nat} {w : World} (a : Addr) : Val1 Tryd.prog K (Instr.fieldAt 156 (.pointer (some a)) 7) u f d w = K (updO f d (.pointer (some (a.add 7)))) w := by
  rw [fld_ptr u f d w 156 7 (by rw [ty_fl_156_7]; rfl) a, ty_fl_156_7]; rfl
theorem fdA_156_7 {K : Fr → World → Prop} {f : Fr} {d : Option Nat} {w : World} (a : Addr) : ValA Tryd.prog K (Instr.fieldAt 156 (.pointer (some a)) 7) f d w = K (updO f d (.pointer (some (a.add 7)))) w := by
  rw [fld_ptrA f d w 156 7 (by rw [ty_fl_156_7]; rfl) a, ty_fl_156_7]; rfl
theorem fd_156_8 {K : Fr → World → Prop} {u : World} {f : Fr} {d : Option Nat} {w : World} (a : Addr) : Val1 Tryd.prog K (Instr.fieldAt 156 (.pointer (some a)) 8) u f d w = K (updO f d (.pointer (some (a.add 8)))) w := by
  rw [fld_ptr u f d w 156 8 (by rw [ty_fl_156_8]; rfl) a, ty_fl_156_8]; rfl
theorem fdA_156_8 {K : Fr → World → Prop} {f : Fr} {d : Option Nat} {w : World} (a : Addr) : ValA Tryd.prog K (Instr.fieldAt 156 (.pointer (some a)) 8) f d w = K (updO f d (.pointer (some (a.add 8)))) w := by
  rw [fld_ptrA f d w 156 8 (by rw [ty_fl_156_8]; rfl) a, ty_fl_156_8]; rfl
theorem fd_156_9 {K : Fr → World → Prop} {u : World} {f : Fr} {d : Option Nat} {w : World} (a : Addr) : Val1 Tryd.prog K (Instr.fieldAt 156 (.pointer (some a)) 9) u f d w = K (updO f d (.pointer (some (a.add 9)))) w := by
  rw [fld_ptr u f d w 156 9 (by rw [ty_fl_156_9]; rfl) a, ty_fl_156_9]; rfl
theorem fdA_156_9 {K : Fr → World → Prop} {f : Fr} {d : Option Nat} {w : World} (a : Addr) : ValA Tryd.prog K (Instr.fieldAt 156 (.pointer (some a)) 9) f d w = K (updO f d (.pointer (some (a.add 9)))) w := by
  rw [fld_ptrA f d w 156 9 (by rw [ty_fl_156_9]; rfl) a, ty_fl_156_9]; rfl
theorem fd_156_10 {K : Fr → World → Prop} {u : World} {f : Fr} {d : Option Nat} {w : World} (a : Addr) : Val1 Tryd.prog K (Instr.fieldAt 156 (.pointer (some a)) 10) u f d w = K (updO f d (.pointer (some (a.add 10)))) w := by
  rw [fld_ptr u f d w 156 10 (by rw [ty_fl_156_10]; rfl) a, ty_fl_156_10]; rfl
theorem fdA_156_10 {K : Fr → World → Prop} {f : Fr} {d : Option Nat} {w : World} (a : Addr) : ValA Tryd.prog K (Instr.fieldAt 156 (.pointer (some a)) 10) f d w = K (updO f d (.pointer (some (a.add 10)))) w := by
  rw [fld_ptrA f d w 156 10 (by rw [ty_fl_156_10]; rfl) a, ty_fl_156_10]; rfl
theorem fd_157_0 {K : Fr → World → Prop} {u : World} {f : Fr} {d : Option Nat} {w : World} (a : Addr) : Val1 Tryd.prog K (Instr.fieldAt 157 (.pointer (some a)) 0) u f d w = K (updO f d (.pointer (some (a.add 0)))) w := by
  rw [fld_ptr u f d w 157 0 (by rw [ty_fl_157_0]; rfl) a, ty_fl_157_0]; rfl
theorem fdA_157_0 {K : Fr → World → Prop} {f : Fr} {d : Option Nat} {w : World} (a : Addr) : ValA Tryd.prog K (Instr.fieldAt 157 (.pointer (some a)) 0) f d w = K (updO f d (.pointer (some (a.add 0)))) w := by
  rw [fld_ptrA f d w 157 0 (by rw [ty_fl_157_0]; rfl) a, ty_fl_157_0]; rfl
theorem fd_157_1 {K : Fr → World → Prop} {u : World} {f : Fr} {d : Option Nat} {w : World} (a : Addr) : Val1 Tryd.prog K (Instr.fieldAt 157 (.pointer (some a)) 1) u f d w = K (updO f d (.pointer (some (a.add 1)))) w := by
  rw [fld_ptr u f d w 157 1 (by rw [ty_fl_157_1]; rfl) a, ty_fl_157_1]; rfl
theorem fdA_157_1 {K : Fr → World → Prop} {f : Fr} {d : Option Nat} {w : World} (a : Addr) : ValA Tryd.prog K (Instr.fieldAt 157 (.pointer (some a)) 1) f d w = K (updO f d (.pointer (some (a.add 1)))) w := by
  rw [fld_ptrA f d w 157 1 (by rw [ty_fl_157_1]; rfl) a, ty_fl_157_1]; rfl
theorem fd_157_2 {K : Fr → World → Prop} {u : World} {f : Fr} {d : Option Nat} {w : World} (a : Addr) : Val1 Tryd.prog K (Instr.fieldAt 157 (.pointer (some a)) 2) u f d w = K (updO f d (.pointer (some (a.add 2)))) w := by
  rw [fld_ptr u f d w 157 2 (by rw [ty_fl_157_2]; rfl) a, ty_fl_157_2]; rfl
theorem fdA_157_2 {K : Fr → World → Prop} {f : Fr} {d : Option Nat} {w : World} (a : Addr) : ValA Tryd.prog K (Instr.fieldAt 157 (.pointer (some a)) 2) f d w = K (updO f d (.pointer (some (a.add 2)))) w := by
  rw [fld_ptrA f d w 157 2 (by rw [ty_fl_157_2]; rfl) a, ty_fl_157_2]; rfl
theorem fd_157_3 {K : Fr → World → Prop} {u : World} {f : Fr} {d : Option Nat} {w : World} (a : Addr) : Val1 Tryd.prog K (Instr.fieldAt 157 (.pointer (some a)) 3) u f d w = K (updO f d (.pointer (some (a.add 3)))) w := by
  rw [fld_ptr u f d w 157 3 (by rw [ty_fl_157_3]; rfl) a, ty_fl_157_3]; rfl
theorem fdA_157_3 {K : Fr → World → Prop} {f : Fr} {d : Option Nat} {w : World} (a : Addr) : ValA Tryd.prog K (Instr.fieldAt 157 (.pointer (some a)) 3) f d w = K (updO f d (.pointer (some (a.add 3)))) w := by
  rw [fld_ptrA f d w 157 3 (by rw [ty_fl_157_3]; rfl) a, ty_fl_157_3]; rfl
theorem fd_157_4 {K : Fr → World → Prop} {u : World} {f : Fr} {d : Option Nat} {w : World} (a : Addr) : Val1 Tryd.prog K (Instr.fieldAt 157 (.pointer (some a)) 4) u f d w = K (updO f d (.pointer (some (a.add 4)))) w := by
  rw [fld_ptr u f d w 157 4 (by rw [ty_fl_157_4]; rfl) a, ty_fl_157_4]; rfl
theorem fdA_157_4 {K : Fr → World → Prop} {f : Fr} {d : Option Nat} {w : World} (a : Addr) : ValA Tryd.prog K (Instr.fieldAt 157 (.pointer (some a)) 4) f d w = K (updO f d (.pointer (some (a.add 4)))) w := by
  rw [fld_ptrA f d w 157 4 (by rw [ty_fl_157_4]; rfl) a, ty_fl_157_4]; rfl
theorem fd_157_5 {K : Fr → World → Prop} {u : World} {f : Fr} {d : Option Nat} {w : World} (a : Addr) : Val1 Tryd.prog K (Instr.fieldAt 157 (.pointer (some a)) 5) u f d w = K (updO f d (.pointer (some (a.add 5)))) w := by
  rw [fld_ptr u f d w 157 5 (by rw [ty_fl_157_5]; rfl) a, ty_fl_157_5]; rfl
theorem fdA_157_5 {K : Fr → World → Prop} {f : Fr} {d : Option Nat} {w : World} (a : Addr) : ValA Tryd.prog K (Instr.fieldAt 157 (.pointer (some a)) 5) f d w = K (updO f d (.pointer (some (a.add 5)))) w := by
  rw [fld_ptrA f d w 157 5 (by rw [ty_fl_157_5]; rfl) a, ty_fl_157_5]; rfl
theorem fd_157_6 {K : Fr → World → Prop} {u : World} {f : Fr} {d : Option Nat} {w : World} (a : Addr) : Val1 Tryd.prog K (Instr.fieldAt 157 (.pointer (some a)) 6) u f d w = K (updO f d (.pointer (some (a.add 6)))) w := by
  rw [fld_ptr u f d w 157 6 (by rw [ty_fl_157_6]; rfl) a, ty_fl_157_6]; rfl
theorem fdA_157_6 {K : Fr → World → Prop} {f : Fr} {d : Option Nat} {w : World} (a : Addr) : ValA Tryd.prog K (Instr.fieldAt 157 (.pointer (some a)) 6) f d w = K (updO f d (.pointer (some (a.add 6)))) w := by
  rw [fld_ptrA f d w 157 6 (by rw [ty_fl_157_6]; rfl) a, ty_fl_157_6]; rfl
theorem fd_157_7 {K : Fr → World → Prop} {u : World} {f : Fr} {d : Option Nat} {w : World} (a : Addr) : Val1 Tryd.prog K (Instr.fieldAt 157 (.pointer (some a)) 7) u f d w = K (updO f d (.pointer (some (a.add 7)))) w := by
  rw [fld_ptr u f d w 157 7 (by rw [ty_fl_157_7]; rfl) a, ty_fl_157_7]; rfl
theorem fdA_157_7 {K : Fr → World → Prop} {f : Fr} {d : Option Nat} {w : World} (a : Addr) : ValA Tryd.prog K (Instr.fieldAt 157 (.pointer (some a)) 7) f d w = K (updO f d (.pointer (some (a.add 7)))) w := by
  rw [fld_ptrA f d w 157 7 (by rw [ty_fl_157_7]; rfl) a, ty_fl_157_7]; rfl
theorem fd_157_8 {K : Fr → World → Prop} {u : World} {f : Fr} {d : Option Nat} {w : World} (a : Addr) : Val1 Tryd.prog K (Instr.fieldAt 157 (.pointer (some a)) 8) u f d w = K (updO f d (.pointer (some (a.add 8)))) w := by
  rw [fld_ptr u f d w 157 8 (by rw [ty_fl_157_8]; rfl) a, ty_fl_157_8]; rfl
theorem fdA_157_8 {K : Fr → World → Prop} {f : Fr} {d : Option Nat} {w : World} (a : Addr) : ValA Tryd.prog K (Instr.fieldAt 157 (.pointer (some a)) 8) f d w = K (updO f d (.pointer (some (a.add 8)))) w := by
  rw [fld_ptrA f d w 157 8 (by rw [ty_fl_157_8]; rfl) a, ty_fl_157_8]; rfl
theorem fd_157_9 {K : Fr → World → Prop} {u : World} {f : Fr} {d : Option Nat} {w : World} (a : Addr) : Val1 Tryd.prog K (Instr.fieldAt 157 (.pointer (some a)) 9) u f d w = K (updO f d (.pointer (some (a.add 9)))) w := by
  rw [fld_ptr u f d w 157 9 (by rw [ty_fl_157_9]; rfl) a, ty_fl_157_9]; rfl
theorem fdA_157_9 {K : Fr → World → Prop} {f : Fr} {d : Option Nat} {w : World} (a : Addr) : ValA Tryd.prog K (Instr.fieldAt 157 (.pointer (some a)) 9) f d w = K (updO f d (.pointer (some (a.add 9)))) w := by
  rw [fld_ptrA f d w 157 9 (by rw [ty_fl_157_9]; rfl) a, ty_fl_157_9]; rfl
theorem fd_157_10 {K : Fr → World → Prop} {u : World} {f : Fr} {d : Option Nat} {w : World} (a : Addr) : Val1 Tryd.prog K (Instr.fieldAt 157 (.pointer (some a)) 10) u f d w = K (updO f d (.pointer (some (a.add 10)))) w := by
  rw [fld_ptr u f d w 157 10 (by rw [ty_fl_157_10]; rfl) a, ty_fl_157_10]; rfl
theorem fdA_157_10 {K : Fr → World → Prop} {f : Fr} {d : Option Nat} {w : World} (a : Addr) : ValA Tryd.prog K (Instr.fieldAt 157 (.pointer (some a)) 10) f d w = K (updO f d (.pointer (some (a.add 10)))) w := by
  rw [fld_ptrA f d w 157 10 (by rw [ty_fl_157_10]; rfl) a, ty_fl_157_10]; rfl
theorem eqb_4 {K : Fr → World → Prop} {u : World} {f : Fr} {d : Option Nat} {w : World} (xo yo : Operand) (a b : Bool) : Val1 Tryd.prog K (binS .eql 4 xo yo (.bool a) (.bool b)) u f d w = K (updO f d (.bool (a == b))) w := bin_eqb u f d w 4 xo yo (by kernel_rfl) a b
theorem neb_4 {K : Fr → World → Prop} {u : World} {f : Fr} {d : Option Nat} {w : World} (xo yo : Operand) (a b : Bool) : Val1 Tryd.prog K (binS .neq 4 xo yo (.bool a) (.bool b)) u f d w = K (updO f d (.bool (a != b))) w := bin_neb u f d w 4 xo yo (by kernel_rfl) a b
theorem al_4 {K : Fr → World → Prop} {f : Fr} {d : Option Nat} {w : World} : Eff1 Tryd.prog K (Instr.alloc 4 true (.tuple #[])) f d w = K (updO f d (.pointer (some ⟨w.heap.size, 0, none⟩))) (w.alloc (.cells [.bool false].toArray 4)) := alloc_eq 4 (.bool false) (by kernel_rfl)
theorem slT_22 : SlT Tryd.prog 22 3 1 8 := ⟨by kernel_rfl, by kernel_rfl, by decide⟩
theorem bs_22 {K : Fr → World → Prop} {f : Fr} {d : Option Nat} {w : World} (n : Int) : Eff1 Tryd.prog K (Instr.buildSlice 22 1 #[(0, .int .i64 n)]) f d w = K (updO f d (.slice (some ⟨w.heap.size, 0, none⟩) 1 1)) (w.alloc (.cells [.int .i64 n].toArray 3)) := bsl1_eq slT_22 _ rfl (by decide)
theorem bs0_22 {K : Fr → World → Prop} {f : Fr} {d : Option Nat} {w : World} : Eff1 Tryd.prog K (Instr.buildSlice 22 0 #[]) f d w = K (updO f d (.slice (some ⟨w.heap.size, 0, none⟩) 0 0)) (w.alloc (.cells [].toArray 3)) := bsl0_eq slT_22
theorem slT_23 : SlT Tryd.prog 23 91 3 24 := ⟨by kernel_rfl, by kernel_rfl, by decide⟩
theorem bs_23 {K : Fr → World → Prop} {f : Fr} {d : Option Nat} {w : World} (x0 x1 x2 : Value) : Eff1 Tryd.prog K (Instr.buildSlice 23 1 #[(0, .agg #[x0, x1, x2])]) f d w = K (updO f d (.slice (some ⟨w.heap.size, 0, none⟩) 1 1)) (w.alloc (.cells [x0, x1, x2].toArray 91)) := bsl1_eq slT_23 _ rfl (by decide)
theorem bs0_23 {K : Fr → World → Prop} {f : Fr} {d : Option Nat} {w : World} : Eff1 Tryd.prog K (Instr.buildSlice 23 0 #[]) f d w = K (updO f d (.slice (some ⟨w.heap.size, 0, none⟩) 0 0)) (w.alloc (.cells [].toArray 91)) := bsl0_eq slT_23
theorem al_25 {K : Fr → World → Prop} {f : Fr} {d : Option Nat} {w : World} : Eff1 Tryd.prog K (Instr.alloc 25 true (.tuple #[])) f d w = K (updO f d (.pointer (some ⟨w.heap.size, 0, none⟩))) (w.alloc (.cells [.int .i64 0, .int .i64 0, .slice none 0 0, .slice none 0 0, .slice none 0 0].toArray 25)) := alloc_eq 25 (.agg #[.int .i64 0, .int .i64 0, .slice none 0 0, .slice none 0 0, .slice none 0 0]) (by kernel_rfl)
theorem slT_37 : SlT Tryd.prog 37 76 2 48 := ⟨by kernel_rfl, by kernel_rfl, by decide⟩
theorem bs_37 {K : Fr → World → Prop} {f : Fr} {d : Option Nat} {w : World} (x0 x1 : Value) : Eff1 Tryd.prog K (Instr.buildSlice 37 1 #[(0, .agg #[x0, x1])]) f d w = K (updO f d (.slice (some ⟨w.heap.size, 0, none⟩) 1 1)) (w.alloc (.cells [x0, x1].toArray 76)) := bsl1_eq slT_37 _ rfl (by decide)
theorem bs0_37 {K : Fr → World → Prop} {f : Fr} {d : Option Nat} {w : World} : Eff1 Tryd.prog K (Instr.buildSlice 37 0 #[]) f d w = K (updO f d (.slice (some ⟨w.heap.size, 0, none⟩) 0 0)) (w.alloc (.cells [].toArray 76)) := bsl0_eq slT_37
theorem slT_48 : SlT Tryd.prog 48 99 2 32 := ⟨by kernel_rfl, by kernel_rfl, by decide⟩
theorem bs_48 {K : Fr → World → Prop} {f : Fr} {d : Option Nat} {w : World} (x0 x1 : Value) : Eff1 Tryd.prog K (Instr.buildSlice 48 1 #[(0, .agg #[x0, x1])]) f d w = K (updO f d (.slice (some ⟨w.heap.size, 0, none⟩) 1 1)) (w.alloc (.cells [x0, x1].toArray 99)) := bsl1_eq slT_48 _ rfl (by decide)
theorem bs0_48 {K : Fr → World → Prop} {f : Fr} {d : Option Nat} {w : World} : Eff1 Tryd.prog K (Instr.buildSlice 48 0 #[]) f d w = K (updO f d (.slice (some ⟨w.heap.size, 0, none⟩) 0 0)) (w.alloc (.cells [].toArray 99)) := bsl0_eq slT_48
theorem al_64 {K : Fr → World → Prop} {f : Fr} {d : Option Nat} {w : World} : Eff1 Tryd.prog K (Instr.alloc 64 true (.tuple #[])) f d w = K (updO f d (.pointer (some ⟨w.heap.size, 0, none⟩))) (w.alloc (.cells [.int .u64 0, .int .u64 0, .int .u64 0, .int .u64 0].toArray 64)) := alloc_eq 64 (.agg #[.int .u64 0, .int .u64 0, .int .u64 0, .int .u64 0]) (by kernel_rfl)
theorem slT_68 : SlT Tryd.prog 68 72 5 56 := ⟨by kernel_rfl, by kernel_rfl, by decide⟩
theorem bs_68 {K : Fr → World → Prop} {f : Fr} {d : Option Nat} {w : World} (x0 x1 x2 x3 x4 : Value) : Eff1 Tryd.prog K (Instr.buildSlice 68 1 #[(0, .agg #[x0, x1, x2, x3, x4])]) f d w = K (updO f d (.slice (some ⟨w.heap.size, 0, none⟩) 1 1)) (w.alloc (.cells [x0, x1, x2, x3, x4].toArray 72)) := bsl1_eq slT_68 _ rfl (by decide)
theorem bs0_68 {K : Fr → World → Prop} {f : Fr} {d : Option Nat} {w : World} : Eff1 Tryd.prog K (Instr.buildSlice 68 0 #[]) f d w = K (updO f d (.slice (some ⟨w.heap.size, 0, none⟩) 0 0)) (w.alloc (.cells [].toArray 72)) := bsl0_eq slT_68
theorem al_72 {K : Fr → World → Prop} {f : Fr} {d : Option Nat} {w : World} : Eff1 Tryd.prog K (Instr.alloc 72 true (.tuple #[])) f d w = K (updO f d (.pointer (some ⟨w.heap.size, 0, none⟩))) (w.alloc (.cells [.int .u64 0, .int .u64 0, .int .u64 0, .int .u64 0, .slice none 0 0].toArray 72)) := alloc_eq 72 (.agg #[.int .u64 0, .int .u64 0, .int .u64 0, .int .u64 0, .slice none 0 0]) (by kernel_rfl)
theorem slT_81 : SlT Tryd.prog 81 22 1 24 := ⟨by kernel_rfl, by kernel_rfl, by decide⟩
theorem bs_81 {K : Fr → World → Prop} {f : Fr} {d : Option Nat} {w : World} (A : Option Addr) (n c : Nat) : Eff1 Tryd.prog K (Instr.buildSlice 81 1 #[(0, .slice A n c)]) f d w = K (updO f d (.slice (some ⟨w.heap.size, 0, none⟩) 1 1)) (w.alloc (.cells [.slice A n c].toArray 22)) := bsl1_eq slT_81 _ rfl (by decide)
theorem bs0_81 {K : Fr → World → Prop} {f : Fr} {d : Option Nat} {w : World} : Eff1 Tryd.prog K (Instr.buildSlice 81 0 #[]) f d w = K (updO f d (.slice (some ⟨w.heap.size, 0, none⟩) 0 0)) (w.alloc (.cells [].toArray 22)) := bsl0_eq slT_81
theorem al_85 {K : Fr → World → Prop} {f : Fr} {d : Option Nat} {w : World} : Eff1 Tryd.prog K (Instr.alloc 85 true (.tuple #[])) f d w = K (updO f d (.pointer (some ⟨w.heap.size, 0, none⟩))) (w.alloc (.cells [.int .i64 0, .int .i64 0, .slice none 0 0, .slice none 0 0, .slice none 0 0, .int .i64 0, .int .i64 0, .slice none 0 0, .slice none 0 0, .slice none 0 0, .slice none 0 0].toArray 85)) := alloc_eq 85 (.agg #[.int .i64 0, .int .i64 0, .slice none 0 0, .slice none 0 0, .slice none 0 0, .int .i64 0, .int .i64 0, .slice none 0 0, .slice none 0 0, .slice none 0 0, .slice none 0 0]) (by kernel_rfl)
theorem al_91 {K : Fr → World → Prop} {f : Fr} {d : Option Nat} {w : World} : Eff1 Tryd.prog K (Instr.alloc 91 true (.tuple #[])) f d w = K (updO f d (.pointer (some ⟨w.heap.size, 0, none⟩))) (w.alloc (.cells [.int .i64 0, .int .i64 0, .int .i64 0].toArray 91)) := alloc_eq 91 (.agg #[.int .i64 0, .int .i64 0, .int .i64 0]) (by kernel_rfl)
theorem slT_94 : SlT Tryd.prog 94 48 1 24 := ⟨by kernel_rfl, by kernel_rfl, by decide⟩
theorem bs_94 {K : Fr → World → Prop} {f : Fr} {d : Option Nat} {w : World} (A : Option Addr) (n c : Nat) : Eff1 Tryd.prog K (Instr.buildSlice 94 1 #[(0, .slice A n c)]) f d w = K (updO f d (.slice (some ⟨w.heap.size, 0, none⟩) 1 1)) (w.alloc (.cells [.slice A n c].toArray 48)) := bsl1_eq slT_94 _ rfl (by decide)
theorem bs0_94 {K : Fr → World → Prop} {f : Fr} {d : Option Nat} {w : World} : Eff1 Tryd.prog K (Instr.buildSlice 94 0 #[]) f d w = K (updO f d (.slice (some ⟨w.heap.size, 0, none⟩) 0 0)) (w.alloc (.cells [].toArray 48)) := bsl0_eq slT_94
theorem al_99 {K : Fr → World → Prop} {f : Fr} {d : Option Nat} {w : World} : Eff1 Tryd.prog K (Instr.alloc 99 true (.tuple #[])) f d w = K (updO f d (.pointer (some ⟨w.heap.size, 0, none⟩))) (w.alloc (.cells [.int .i64 0, .slice none 0 0].toArray 99)) := alloc_eq 99 (.agg #[.int .i64 0, .slice none 0 0]) (by kernel_rfl)
theorem slT_109 : SlT Tryd.prog 109 111 2 48 := ⟨by kernel_rfl, by kernel_rfl, by decide⟩
theorem bs_109 {K : Fr → World → Prop} {f : Fr} {d : Option Nat} {w : World} (x0 x1 : Value) : Eff1 Tryd.prog K (Instr.buildSlice 109 1 #[(0, .agg #[x0, x1])]) f d w = K (updO f d (.slice (some ⟨w.heap.size, 0, none⟩) 1 1)) (w.alloc (.cells [x0, x1].toArray 111)) := bsl1_eq slT_109 _ rfl (by decide)
theorem bs0_109 {K : Fr → World → Prop} {f : Fr} {d : Option Nat} {w : World} : Eff1 Tryd.prog K (Instr.buildSlice 109 0 #[]) f d w = K (updO f d (.slice (some ⟨w.heap.size, 0, none⟩) 0 0)) (w.alloc (.cells [].toArray 111)) := bsl0_eq slT_109
theorem slT_125 : SlT Tryd.prog 125 64 4 32 := ⟨by kernel_rfl, by kernel_rfl, by decide⟩
theorem bs_125 {K : Fr → World → Prop} {f : Fr} {d : Option Nat} {w : World} (x0 x1 x2 x3 : Value) : Eff1 Tryd.prog K (Instr.buildSlice 125 1 #[(0, .agg #[x0, x1, x2, x3])]) f d w = K (updO f d (.slice (some ⟨w.heap.size, 0, none⟩) 1 1)) (w.alloc (.cells [x0, x1, x2, x3].toArray 64)) := bsl1_eq slT_125 _ rfl (by decide)
theorem bs0_125 {K : Fr → World → Prop} {f : Fr} {d : Option Nat} {w : World} : Eff1 Tryd.prog K (Instr.buildSlice 125 0 #[]) f d w = K (updO f d (.slice (some ⟨w.heap.size, 0, none⟩) 0 0)) (w.alloc (.cells [].toArray 64)) := bsl0_eq slT_125
attribute [push_cast] fd_7_0 fdA_7_0 fd_7_1 fdA_7_1 fd_7_2 fdA_7_2 fd_7_3 fdA_7_3 fd_8_0 fdA_8_0 fd_8_1 fdA_8_1 fd_8_2 fdA_8_2 fd_8_3 fdA_8_3 fd_13_0 fdA_13_0 fd_13_1 fdA_13_1 fd_14_0 fdA_14_0 fd_14_1 fdA_14_1 fd_18_0 fdA_18_0 fd_19_0 fdA_19_0 ix_22 ln_22 ixA_22 ix_23 ln_23 ixA_23 fd_24_0 fdA_24_0 fd_24_1 fdA_24_1 fd_24_2 fdA_24_2 fd_24_3 fdA_24_3 fd_24_4 fdA_24_4 fd_25_0 fdA_25_0 fd_25_1 fdA_25_1 fd_25_2 fdA_25_2 fd_25_3 fdA_25_3 fd_25_4 fdA_25_4 fd_26_0 fdA_26_0 fd_26_1 fdA_26_1 fd_26_2 fdA_26_2 fd_27_0 fdA_27_0 fd_27_1 fdA_27_1 fd_27_2 fdA_27_2 ix_37 ln_37 ixA_37 ix_48 ln_48 ixA_48 ix_63 ixA_63 ix_64 ixA_64 ix_68 ln_68 ixA_68 fd_71_0 fdA_71_0 fd_71_1 fdA_71_1 fd_72_0 fdA_72_0 fd_72_1 fdA_72_1 fd_75_0 fdA_75_0 fd_75_1 fdA_75_1 fd_76_0 fdA_76_0 fd_76_1 fdA_76_1 ix_81 ln_81 ixA_81 fd_84_0 fdA_84_0 fd_84_1 fdA_84_1 fd_84_2 fdA_84_2 fd_85_0 fdA_85_0 fd_85_1 fdA_85_1 fd_85_2 fdA_85_2 fd_90_0 fdA_90_0 fd_90_1 fdA_90_1 fd_90_2 fdA_90_2 fd_91_0 fdA_91_0 fd_91_1 fdA_91_1 fd_91_2 fdA_91_2 ix_94 ln_94 ixA_94 fd_98_0 fdA_98_0 fd_98_1 fdA_98_1 fd_99_0 fdA_99_0 fd_99_1 fdA_99_1 ix_109 ln_109 ixA_109 fd_110_0 fdA_110_0 fd_110_1 fdA_110_1 fd_111_0 fdA_111_0 fd_111_1 fdA_111_1 ix_125 ln_125 ixA_125 ix_140 ixA_140 fd_143_0 fdA_143_0 fd_143_1 fdA_143_1 fd_143_2 fdA_143_2 fd_143_3 fdA_143_3 fd_144_0 fdA_144_0 fd_144_1 fdA_144_1 fd_144_2 fdA_144_2 fd_144_3 fdA_144_3 ix_145 ixA_145 fd_156_0 fdA_156_0 fd_156_1 fdA_156_1 fd_156_2 fdA_156_2 fd_156_3 fdA_156_3 fd_156_4 fdA_156_4 fd_156_5 fdA_156_5 fd_156_6 fdA_156_6 fd_156_7 fdA_156_7 fd_156_8 fdA_156_8 fd_156_9 fdA_156_9 fd_156_10 fdA_156_10 fd_157_0 fdA_157_0 fd_157_1 fdA_157_1 fd_157_2 fdA_157_2 fd_157_3 fdA_157_3 fd_157_4 fdA_157_4 fd_157_5 fdA_157_5 fd_157_6 fdA_157_6 fd_157_7 fdA_157_7 fd_157_8 fdA_157_8 fd_157_9 fdA_157_9 fd_157_10 fdA_157_10 eqb_4 neb_4 bs_22 bs0_22 bs_23 bs0_23 bs_37 bs0_37 bs_48 bs0_48 bs_68 bs0_68 bs_81 bs0_81 bs_94 bs0_94 bs_109 bs0_109 bs_125 bs0_125
end Go.Proofs.YtcjinmgieiebbaaDoor
