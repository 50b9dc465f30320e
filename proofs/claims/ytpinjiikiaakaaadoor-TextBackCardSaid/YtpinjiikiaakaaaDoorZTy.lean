/-
  Closed facts on the seat's types (by program: tygen.py).
-/
import Derived.Test.YtpinjiikiaakaaaDoorProg
import Derived.Test.YtpinjiikiaakaaaDoorZLaws
import Derived.KernelRfl
namespace Go.Proofs.YtpinjiikiaakaaaDoor
theorem ty_ag_3 : tyAgg Tryd.prog 3 = some false := by kernel_rfl
theorem ty_sz_int : tySize Tryd.prog 3 = some 1 := by kernel_rfl
theorem ty_fl_7_0 : tyFld Tryd.prog 7 0 = some 0 := by kernel_rfl
theorem ty_fl_7_1 : tyFld Tryd.prog 7 1 = some 1 := by kernel_rfl
theorem ty_fl_7_2 : tyFld Tryd.prog 7 2 = some 2 := by kernel_rfl
theorem ty_fl_7_3 : tyFld Tryd.prog 7 3 = some 3 := by kernel_rfl
theorem ty_fl_8_0 : tyFld Tryd.prog 8 0 = some 0 := by kernel_rfl
theorem ty_fl_8_1 : tyFld Tryd.prog 8 1 = some 1 := by kernel_rfl
theorem ty_fl_8_2 : tyFld Tryd.prog 8 2 = some 2 := by kernel_rfl
theorem ty_fl_8_3 : tyFld Tryd.prog 8 3 = some 3 := by kernel_rfl
theorem ty_ag_9 : tyAgg Tryd.prog 9 = some false := by kernel_rfl
theorem ty_fl_13_0 : tyFld Tryd.prog 13 0 = some 0 := by kernel_rfl
theorem ty_fl_13_1 : tyFld Tryd.prog 13 1 = some 1 := by kernel_rfl
theorem ty_fl_14_0 : tyFld Tryd.prog 14 0 = some 0 := by kernel_rfl
theorem ty_fl_14_1 : tyFld Tryd.prog 14 1 = some 1 := by kernel_rfl
theorem ty_fl_18_0 : tyFld Tryd.prog 18 0 = some 0 := by kernel_rfl
theorem ty_fl_19_0 : tyFld Tryd.prog 19 0 = some 0 := by kernel_rfl
theorem ty_ag_22 : tyAgg Tryd.prog 22 = some false := by kernel_rfl
theorem ty_sl_22 : tySl Tryd.prog 22 = some 1 := by kernel_rfl
theorem ty_ag_23 : tyAgg Tryd.prog 23 = some false := by kernel_rfl
theorem ty_sl_23 : tySl Tryd.prog 23 = some 1 := by kernel_rfl
theorem ty_ag_24 : tyAgg Tryd.prog 24 = some false := by kernel_rfl
theorem ty_sl_24 : tySl Tryd.prog 24 = some 3 := by kernel_rfl
theorem ty_fl_25_0 : tyFld Tryd.prog 25 0 = some 0 := by kernel_rfl
theorem ty_fl_25_1 : tyFld Tryd.prog 25 1 = some 1 := by kernel_rfl
theorem ty_fl_25_2 : tyFld Tryd.prog 25 2 = some 2 := by kernel_rfl
theorem ty_fl_25_3 : tyFld Tryd.prog 25 3 = some 3 := by kernel_rfl
theorem ty_fl_25_4 : tyFld Tryd.prog 25 4 = some 4 := by kernel_rfl
theorem ty_ag_26 : tyAgg Tryd.prog 26 = some true := by kernel_rfl
theorem ty_sz_26 : tySize Tryd.prog 26 = some 5 := by kernel_rfl
theorem ty_fl_26_0 : tyFld Tryd.prog 26 0 = some 0 := by kernel_rfl
theorem ty_fl_26_1 : tyFld Tryd.prog 26 1 = some 1 := by kernel_rfl
theorem ty_fl_26_2 : tyFld Tryd.prog 26 2 = some 2 := by kernel_rfl
theorem ty_fl_26_3 : tyFld Tryd.prog 26 3 = some 3 := by kernel_rfl
theorem ty_fl_26_4 : tyFld Tryd.prog 26 4 = some 4 := by kernel_rfl
theorem ty_fl_27_0 : tyFld Tryd.prog 27 0 = some 0 := by kernel_rfl
theorem ty_fl_27_1 : tyFld Tryd.prog 27 1 = some 1 := by kernel_rfl
theorem ty_fl_27_2 : tyFld Tryd.prog 27 2 = some 2 := by kernel_rfl
theorem ty_fl_27_3 : tyFld Tryd.prog 27 3 = some 7 := by kernel_rfl
theorem ty_fl_27_4 : tyFld Tryd.prog 27 4 = some 8 := by kernel_rfl
theorem ty_fl_27_5 : tyFld Tryd.prog 27 5 = some 9 := by kernel_rfl
theorem ty_fl_27_6 : tyFld Tryd.prog 27 6 = some 10 := by kernel_rfl
theorem ty_ag_28 : tyAgg Tryd.prog 28 = some true := by kernel_rfl
theorem ty_sz_28 : tySize Tryd.prog 28 = some 11 := by kernel_rfl
theorem ty_fl_28_0 : tyFld Tryd.prog 28 0 = some 0 := by kernel_rfl
theorem ty_fl_28_1 : tyFld Tryd.prog 28 1 = some 1 := by kernel_rfl
theorem ty_fl_28_2 : tyFld Tryd.prog 28 2 = some 2 := by kernel_rfl
theorem ty_fl_28_3 : tyFld Tryd.prog 28 3 = some 7 := by kernel_rfl
theorem ty_fl_28_4 : tyFld Tryd.prog 28 4 = some 8 := by kernel_rfl
theorem ty_fl_28_5 : tyFld Tryd.prog 28 5 = some 9 := by kernel_rfl
theorem ty_fl_28_6 : tyFld Tryd.prog 28 6 = some 10 := by kernel_rfl
theorem ty_ag_29 : tyAgg Tryd.prog 29 = some false := by kernel_rfl
theorem ty_fl_30_0 : tyFld Tryd.prog 30 0 = some 0 := by kernel_rfl
theorem ty_fl_30_1 : tyFld Tryd.prog 30 1 = some 1 := by kernel_rfl
theorem ty_ag_31 : tyAgg Tryd.prog 31 = some true := by kernel_rfl
theorem ty_sz_31 : tySize Tryd.prog 31 = some 2 := by kernel_rfl
theorem ty_fl_31_0 : tyFld Tryd.prog 31 0 = some 0 := by kernel_rfl
theorem ty_fl_31_1 : tyFld Tryd.prog 31 1 = some 1 := by kernel_rfl
theorem ty_fl_40_0 : tyFld Tryd.prog 40 0 = some 0 := by kernel_rfl
theorem ty_sz_41 : tySize Tryd.prog 41 = some 2 := by kernel_rfl
theorem ty_fl_41_0 : tyFld Tryd.prog 41 0 = some 0 := by kernel_rfl
theorem ty_ag_45 : tyAgg Tryd.prog 45 = some false := by kernel_rfl
theorem ty_sl_45 : tySl Tryd.prog 45 = some 3 := by kernel_rfl
theorem ty_ag_47 : tyAgg Tryd.prog 47 = some true := by kernel_rfl
theorem ty_sz_47 : tySize Tryd.prog 47 = some 9 := by kernel_rfl
theorem ty_ar_47 : tyArr Tryd.prog 47 = some (9, 1) := by kernel_rfl
theorem ty_fl_48_0 : tyFld Tryd.prog 48 0 = some 0 := by kernel_rfl
theorem ty_fl_48_1 : tyFld Tryd.prog 48 1 = some 1 := by kernel_rfl
theorem ty_fl_48_2 : tyFld Tryd.prog 48 2 = some 2 := by kernel_rfl
theorem ty_fl_48_3 : tyFld Tryd.prog 48 3 = some 3 := by kernel_rfl
theorem ty_fl_48_4 : tyFld Tryd.prog 48 4 = some 12 := by kernel_rfl
theorem ty_fl_49_0 : tyFld Tryd.prog 49 0 = some 0 := by kernel_rfl
theorem ty_fl_49_1 : tyFld Tryd.prog 49 1 = some 1 := by kernel_rfl
theorem ty_fl_49_2 : tyFld Tryd.prog 49 2 = some 2 := by kernel_rfl
theorem ty_fl_49_3 : tyFld Tryd.prog 49 3 = some 3 := by kernel_rfl
theorem ty_fl_49_4 : tyFld Tryd.prog 49 4 = some 12 := by kernel_rfl
theorem ty_ar_50 : tyArr Tryd.prog 50 = some (9, 1) := by kernel_rfl
theorem ty_fl_52_0 : tyFld Tryd.prog 52 0 = some 0 := by kernel_rfl
theorem ty_fl_52_1 : tyFld Tryd.prog 52 1 = some 1 := by kernel_rfl
theorem ty_fl_52_2 : tyFld Tryd.prog 52 2 = some 2 := by kernel_rfl
theorem ty_ag_53 : tyAgg Tryd.prog 53 = some true := by kernel_rfl
theorem ty_sz_53 : tySize Tryd.prog 53 = some 3 := by kernel_rfl
theorem ty_fl_53_0 : tyFld Tryd.prog 53 0 = some 0 := by kernel_rfl
theorem ty_fl_53_1 : tyFld Tryd.prog 53 1 = some 1 := by kernel_rfl
theorem ty_fl_53_2 : tyFld Tryd.prog 53 2 = some 2 := by kernel_rfl
theorem ty_sl_62 : tySl Tryd.prog 62 = some 1 := by kernel_rfl
theorem ty_fl_65_0 : tyFld Tryd.prog 65 0 = some 0 := by kernel_rfl
theorem ty_fl_65_1 : tyFld Tryd.prog 65 1 = some 1 := by kernel_rfl
theorem ty_fl_65_2 : tyFld Tryd.prog 65 2 = some 2 := by kernel_rfl
theorem ty_ag_66 : tyAgg Tryd.prog 66 = some true := by kernel_rfl
theorem ty_sz_66 : tySize Tryd.prog 66 = some 3 := by kernel_rfl
theorem ty_fl_66_0 : tyFld Tryd.prog 66 0 = some 0 := by kernel_rfl
theorem ty_fl_66_1 : tyFld Tryd.prog 66 1 = some 1 := by kernel_rfl
theorem ty_fl_66_2 : tyFld Tryd.prog 66 2 = some 2 := by kernel_rfl
theorem ty_sl_90 : tySl Tryd.prog 90 = some 1 := by kernel_rfl
theorem ty_fl_91_0 : tyFld Tryd.prog 91 0 = some 0 := by kernel_rfl
theorem ty_fl_91_1 : tyFld Tryd.prog 91 1 = some 1 := by kernel_rfl
theorem ty_fl_92_0 : tyFld Tryd.prog 92 0 = some 0 := by kernel_rfl
theorem ty_fl_92_1 : tyFld Tryd.prog 92 1 = some 1 := by kernel_rfl
theorem ty_fl_140_0 : tyFld Tryd.prog 140 0 = some 0 := by kernel_rfl
theorem ty_fl_140_1 : tyFld Tryd.prog 140 1 = some 1 := by kernel_rfl
theorem ty_fl_140_2 : tyFld Tryd.prog 140 2 = some 2 := by kernel_rfl
theorem ty_fl_140_3 : tyFld Tryd.prog 140 3 = some 3 := by kernel_rfl
theorem ty_fl_141_0 : tyFld Tryd.prog 141 0 = some 0 := by kernel_rfl
theorem ty_fl_141_1 : tyFld Tryd.prog 141 1 = some 1 := by kernel_rfl
theorem ty_fl_141_2 : tyFld Tryd.prog 141 2 = some 2 := by kernel_rfl
theorem ty_fl_141_3 : tyFld Tryd.prog 141 3 = some 3 := by kernel_rfl
theorem ty_ar_142 : tyArr Tryd.prog 142 = some (0, 1) := by kernel_rfl
theorem ty_fl_151_0 : tyFld Tryd.prog 151 0 = some 0 := by kernel_rfl
theorem ty_fl_151_1 : tyFld Tryd.prog 151 1 = some 1 := by kernel_rfl
theorem ty_fl_151_2 : tyFld Tryd.prog 151 2 = some 2 := by kernel_rfl
theorem ty_fl_151_3 : tyFld Tryd.prog 151 3 = some 3 := by kernel_rfl
theorem ty_fl_151_4 : tyFld Tryd.prog 151 4 = some 4 := by kernel_rfl
theorem ty_fl_151_5 : tyFld Tryd.prog 151 5 = some 5 := by kernel_rfl
theorem ty_fl_151_6 : tyFld Tryd.prog 151 6 = some 6 := by kernel_rfl
theorem ty_fl_151_7 : tyFld Tryd.prog 151 7 = some 7 := by kernel_rfl
theorem ty_fl_151_8 : tyFld Tryd.prog 151 8 = some 8 := by kernel_rfl
theorem ty_fl_151_9 : tyFld Tryd.prog 151 9 = some 9 := by kernel_rfl
theorem ty_fl_151_10 : tyFld Tryd.prog 151 10 = some 10 := by kernel_rfl
theorem ty_fl_152_0 : tyFld Tryd.prog 152 0 = some 0 := by kernel_rfl
theorem ty_fl_152_1 : tyFld Tryd.prog 152 1 = some 1 := by kernel_rfl
theorem ty_fl_152_2 : tyFld Tryd.prog 152 2 = some 2 := by kernel_rfl
theorem ty_fl_152_3 : tyFld Tryd.prog 152 3 = some 3 := by kernel_rfl
theorem ty_fl_152_4 : tyFld Tryd.prog 152 4 = some 4 := by kernel_rfl
theorem ty_fl_152_5 : tyFld Tryd.prog 152 5 = some 5 := by kernel_rfl
theorem ty_fl_152_6 : tyFld Tryd.prog 152 6 = some 6 := by kernel_rfl
theorem ty_fl_152_7 : tyFld Tryd.prog 152 7 = some 7 := by kernel_rfl
theorem ty_fl_152_8 : tyFld Tryd.prog 152 8 = some 8 := by kernel_rfl
theorem ty_fl_152_9 : tyFld Tryd.prog 152 9 = some 9 := by kernel_rfl
theorem ty_fl_152_10 : tyFld Tryd.prog 152 10 = some 10 := by kernel_rfl
theorem fd_7_0 {K : Fr → World → Prop} {u : World} {f : Fr} {d : Option Nat} {w : World} (a : Addr) : Val1 Tryd.prog K (Instr.fieldAt 7 (.pointer (some a)) 0) u f d w = K (updO f d (.pointer (some (a.add 0)))) w := by
  rw [fld_ptr u f d w 7 0 (by rw [ty_fl_7_0]; rfl) a, ty_fl_7_0]; rfl
theorem fdA_7_0 {K : Fr → World → Prop} {f : Fr} {d : Option Nat} {w : World} (a : Addr) : ValA Tryd.prog K (Instr.fieldAt 7 (.pointer (some a)) 0) f d w = K (updO f d (.pointer (some (a.add 0)))) w := by
  rw [fld_ptrA f d w 7 0 (by rw [ty_fl_7_0]; rfl) a, ty_fl_7_0]; rfl
theorem fd_7_1 {K : Fr → World → Prop} {u : World} {f : Fr} {d : Option Nat} {w : World} (a : Addr) : Val1 Tryd.prog K (Instr.fieldAt 7 (.pointer (some a)) 1) u f d w = K (updO f d (.pointer (some (a.add 1)))) w := by
  rw [fld_ptr u f d w 7 1 (by rw [ty_fl_7_1]; rfl) a, ty_fl_7_1]; rfl
theorem fdA_7_1 {K : Fr → World → Prop} {f : Fr} {d : Option Nat} {w : World} (a : Addr) : ValA Tryd.prog K (Instr.fieldAt 7 (.pointer (some a)) 1) f d w = K (updO f d (.pointer (some (a.add 1)))) w := by
  rw [fld_ptrA f d w 7 1 (by rw [ty_fl_7_1]; rfl) a, ty_fl_7_1]; rfl
theorem fd_7_2 {K : Fr → World → Prop} {u : World} {f : Fr} {d : Option Nat} {w : World} (a : Addr) : Val1 Tryd.prog K (Instr.fieldAt 7 (.pointer (some a)) 2) u f d w = K (updO f d (.pointer (some (a.add 2)))) w := by
  rw [fld_ptr u f d w 7 2 (by rw [ty_fl_7_2]; rfl) a, ty_fl_7_2]; rfl
theorem fdA_7_2 {K : Fr → World → Prop} {f : Fr} {d : Option Nat} {w : World} (a : Addr) : ValA Tryd.prog K (Instr.fieldAt 7 (.pointer (some a)) 2) f d w = K (updO f d (.pointer (some (a.add 2)))) w := by
  rw [fld_ptrA f d w 7 2 (by rw [ty_fl_7_2]; rfl) a, ty_fl_7_2]; rfl
theorem fd_7_3 {K : Fr → World → Prop} {u : World} {f : Fr} {d : Option Nat} {w : World} (a : Addr) : Val1 Tryd.prog K (Instr.fieldAt 7 (.pointer (some a)) 3) u f d w = K (updO f d (.pointer (some (a.add 3)))) w := by
  rw [fld_ptr u f d w 7 3 (by rw [ty_fl_7_3]; rfl) a, ty_fl_7_3]; rfl
theorem fdA_7_3 {K : Fr → World → Prop} {f : Fr} {d : Option Nat} {w : World} (a : Addr) : ValA Tryd.prog K (Instr.fieldAt 7 (.pointer (some a)) 3) f d w = K (updO f d (.pointer (some (a.add 3)))) w := by
  rw [fld_ptrA f d w 7 3 (by rw [ty_fl_7_3]; rfl) a, ty_fl_7_3]; rfl
theorem fd_8_0 {K : Fr → World → Prop} {u : World} {f : Fr} {d : Option Nat} {w : World} (a : Addr) : Val1 Tryd.prog K (Instr.fieldAt 8 (.pointer (some a)) 0) u f d w = K (updO f d (.pointer (some (a.add 0)))) w := by
  rw [fld_ptr u f d w 8 0 (by rw [ty_fl_8_0]; rfl) a, ty_fl_8_0]; rfl
theorem fdA_8_0 {K : Fr → World → Prop} {f : Fr} {d : Option Nat} {w : World} (a : Addr) : ValA Tryd.prog K (Instr.fieldAt 8 (.pointer (some a)) 0) f d w = K (updO f d (.pointer (some (a.add 0)))) w := by
  rw [fld_ptrA f d w 8 0 (by rw [ty_fl_8_0]; rfl) a, ty_fl_8_0]; rfl
theorem fd_8_1 {K : Fr → World → Prop} {u : World} {f : Fr} {d : Option Nat} {w : World} (a : Addr) : Val1 Tryd.prog K (Instr.fieldAt 8 (.pointer (some a)) 1) u f d w = K (updO f d (.pointer (some (a.add 1)))) w := by
  rw [fld_ptr u f d w 8 1 (by rw [ty_fl_8_1]; rfl) a, ty_fl_8_1]; rfl
theorem fdA_8_1 {K : Fr → World → Prop} {f : Fr} {d : Option Nat} {w : World} (a : Addr) : ValA Tryd.prog K (Instr.fieldAt 8 (.pointer (some a)) 1) f d w = K (updO f d (.pointer (some (a.add 1)))) w := by
  rw [fld_ptrA f d w 8 1 (by rw [ty_fl_8_1]; rfl) a, ty_fl_8_1]; rfl
theorem fd_8_2 {K : Fr → World → Prop} {u : World} {f : Fr} {d : Option Nat} {w : World} (a : Addr) : Val1 Tryd.prog K (Instr.fieldAt 8 (.pointer (some a)) 2) u f d w = K (updO f d (.pointer (some (a.add 2)))) w := by
  rw [fld_ptr u f d w 8 2 (by rw [ty_fl_8_2]; rfl) a, ty_fl_8_2]; rfl
theorem fdA_8_2 {K : Fr → World → Prop} {f : Fr} {d : Option Nat} {w : World} (a : Addr) : ValA Tryd.prog K (Instr.fieldAt 8 (.pointer (some a)) 2) f d w = K (updO f d (.pointer (some (a.add 2)))) w := by
  rw [fld_ptrA f d w 8 2 (by rw [ty_fl_8_2]; rfl) a, ty_fl_8_2]; rfl
theorem fd_8_3 {K : Fr → World → Prop} {u : World} {f : Fr} {d : Option Nat} {w : World} (a : Addr) : Val1 Tryd.prog K (Instr.fieldAt 8 (.pointer (some a)) 3) u f d w = K (updO f d (.pointer (some (a.add 3)))) w := by
  rw [fld_ptr u f d w 8 3 (by rw [ty_fl_8_3]; rfl) a, ty_fl_8_3]; rfl
theorem fdA_8_3 {K : Fr → World → Prop} {f : Fr} {d : Option Nat} {w : World} (a : Addr) : ValA Tryd.prog K (Instr.fieldAt 8 (.pointer (some a)) 3) f d w = K (updO f d (.pointer (some (a.add 3)))) w := by
  rw [fld_ptrA f d w 8 3 (by rw [ty_fl_8_3]; rfl) a, ty_fl_8_3]; rfl
theorem fd_13_0 {K : Fr → World → Prop} {u : World} {f : Fr} {d : Option Nat} {w : World} (a : Addr) : Val1 Tryd.prog K (Instr.fieldAt 13 (.pointer (some a)) 0) u f d w = K (updO f d (.pointer (some (a.add 0)))) w := by
  rw [fld_ptr u f d w 13 0 (by rw [ty_fl_13_0]; rfl) a, ty_fl_13_0]; rfl
theorem fdA_13_0 {K : Fr → World → Prop} {f : Fr} {d : Option Nat} {w : World} (a : Addr) : ValA Tryd.prog K (Instr.fieldAt 13 (.pointer (some a)) 0) f d w = K (updO f d (.pointer (some (a.add 0)))) w := by
  rw [fld_ptrA f d w 13 0 (by rw [ty_fl_13_0]; rfl) a, ty_fl_13_0]; rfl
theorem fd_13_1 {K : Fr → World → Prop} {u : World} {f : Fr} {d : Option Nat} {w : World} (a : Addr) : Val1 Tryd.prog K (Instr.fieldAt 13 (.pointer (some a)) 1) u f d w = K (updO f d (.pointer (some (a.add 1)))) w := by
  rw [fld_ptr u f d w 13 1 (by rw [ty_fl_13_1]; rfl) a, ty_fl_13_1]; rfl
theorem fdA_13_1 {K : Fr → World → Prop} {f : Fr} {d : Option Nat} {w : World} (a : Addr) : ValA Tryd.prog K (Instr.fieldAt 13 (.pointer (some a)) 1) f d w = K (updO f d (.pointer (some (a.add 1)))) w := by
  rw [fld_ptrA f d w 13 1 (by rw [ty_fl_13_1]; rfl) a, ty_fl_13_1]; rfl
theorem fd_14_0 {K : Fr → World → Prop} {u : World} {f : Fr} {d : Option Nat} {w : World} (a : Addr) : Val1 Tryd.prog K (Instr.fieldAt 14 (.pointer (some a)) 0) u f d w = K (updO f d (.pointer (some (a.add 0)))) w := by
  rw [fld_ptr u f d w 14 0 (by rw [ty_fl_14_0]; rfl) a, ty_fl_14_0]; rfl
theorem fdA_14_0 {K : Fr → World → Prop} {f : Fr} {d : Option Nat} {w : World} (a : Addr) : ValA Tryd.prog K (Instr.fieldAt 14 (.pointer (some a)) 0) f d w = K (updO f d (.pointer (some (a.add 0)))) w := by
  rw [fld_ptrA f d w 14 0 (by rw [ty_fl_14_0]; rfl) a, ty_fl_14_0]; rfl
theorem fd_14_1 {K : Fr → World → Prop} {u : World} {f : Fr} {d : Option Nat} {w : World} (a : Addr) : Val1 Tryd.prog K (Instr.fieldAt 14 (.pointer (some a)) 1) u f d w = K (updO f d (.pointer (some (a.add 1)))) w := by
  rw [fld_ptr u f d w 14 1 (by rw [ty_fl_14_1]; rfl) a, ty_fl_14_1]; rfl
theorem fdA_14_1 {K : Fr → World → Prop} {f : Fr} {d : Option Nat} {w : World} (a : Addr) : ValA Tryd.prog K (Instr.fieldAt 14 (.pointer (some a)) 1) f d w = K (updO f d (.pointer (some (a.add 1)))) w := by
  rw [fld_ptrA f d w 14 1 (by rw [ty_fl_14_1]; rfl) a, ty_fl_14_1]; rfl
theorem fd_18_0 {K : Fr → World → Prop} {u : World} {f : Fr} {d : Option Nat} {w : World} (a : Addr) : Val1 Tryd.prog K (Instr.fieldAt 18 (.pointer (some a)) 0) u f d w = K (updO f d (.pointer (some (a.add 0)))) w := by
  rw [fld_ptr u f d w 18 0 (by rw [ty_fl_18_0]; rfl) a, ty_fl_18_0]; rfl
theorem fdA_18_0 {K : Fr → World → Prop} {f : Fr} {d : Option Nat} {w : World} (a : Addr) : ValA Tryd.prog K (Instr.fieldAt 18 (.pointer (some a)) 0) f d w = K (updO f d (.pointer (some (a.add 0)))) w := by
  rw [fld_ptrA f d w 18 0 (by rw [ty_fl_18_0]; rfl) a, ty_fl_18_0]; rfl
theorem fd_19_0 {K : Fr → World → Prop} {u : World} {f : Fr} {d : Option Nat} {w : World} (a : Addr) : Val1 Tryd.prog K (Instr.fieldAt 19 (.pointer (some a)) 0) u f d w = K (updO f d (.pointer (some (a.add 0)))) w := by
  rw [fld_ptr u f d w 19 0 (by rw [ty_fl_19_0]; rfl) a, ty_fl_19_0]; rfl
theorem fdA_19_0 {K : Fr → World → Prop} {f : Fr} {d : Option Nat} {w : World} (a : Addr) : ValA Tryd.prog K (Instr.fieldAt 19 (.pointer (some a)) 0) f d w = K (updO f d (.pointer (some (a.add 0)))) w := by
  rw [fld_ptrA f d w 19 0 (by rw [ty_fl_19_0]; rfl) a, ty_fl_19_0]; rfl
theorem ix_22 {K : Fr → World → Prop} {u : World} {f : Fr} {d : Option Nat} {w : World} (A : Option Addr) (hA : A.isSome = true) (n c : Nat) (k : IntKind) (i : Int) (h0 : 0 ≤ i) (h1 : i < n) : Val1 Tryd.prog K (Instr.indexAt 22 (.slice A n c) (.int k i)) u f d w = K (updO f d (.pointer (some (eA A (i.toNat * 1))))) w := by
  rw [idx_sl u f d w 22 (by rw [ty_sl_22]; rfl) A hA n c k i h0 h1, ty_sl_22]; rfl
theorem ln_22 {K : Fr → World → Prop} {u : World} {f : Fr} {d : Option Nat} {w : World} (ty : TypeId) (A : Option Addr) (n c : Nat) : Val1 Tryd.prog K (Builtin.len_ #[22] ty #[.slice A n c]) u f d w = K (updO f d (.int .i64 n)) w := len_sl u f d w ty 22 (by rw [ty_sl_22]; rfl) A n c
theorem ixA_22 {K : Fr → World → Prop} {f : Fr} {d : Option Nat} {w : World} (A : Option Addr) (hA : A.isSome = true) (n c : Nat) (k : IntKind) (i : Int) (h0 : 0 ≤ i) (h1 : i < n) : ValA Tryd.prog K (Instr.indexAt 22 (.slice A n c) (.int k i)) f d w = K (updO f d (.pointer (some (eA A (i.toNat * 1))))) w := by
  rw [idx_slA f d w 22 (by rw [ty_sl_22]; rfl) A hA n c k i h0 h1, ty_sl_22]; rfl
theorem ix_23 {K : Fr → World → Prop} {u : World} {f : Fr} {d : Option Nat} {w : World} (A : Option Addr) (hA : A.isSome = true) (n c : Nat) (k : IntKind) (i : Int) (h0 : 0 ≤ i) (h1 : i < n) : Val1 Tryd.prog K (Instr.indexAt 23 (.slice A n c) (.int k i)) u f d w = K (updO f d (.pointer (some (eA A (i.toNat * 1))))) w := by
  rw [idx_sl u f d w 23 (by rw [ty_sl_23]; rfl) A hA n c k i h0 h1, ty_sl_23]; rfl
theorem ln_23 {K : Fr → World → Prop} {u : World} {f : Fr} {d : Option Nat} {w : World} (ty : TypeId) (A : Option Addr) (n c : Nat) : Val1 Tryd.prog K (Builtin.len_ #[23] ty #[.slice A n c]) u f d w = K (updO f d (.int .i64 n)) w := len_sl u f d w ty 23 (by rw [ty_sl_23]; rfl) A n c
theorem ixA_23 {K : Fr → World → Prop} {f : Fr} {d : Option Nat} {w : World} (A : Option Addr) (hA : A.isSome = true) (n c : Nat) (k : IntKind) (i : Int) (h0 : 0 ≤ i) (h1 : i < n) : ValA Tryd.prog K (Instr.indexAt 23 (.slice A n c) (.int k i)) f d w = K (updO f d (.pointer (some (eA A (i.toNat * 1))))) w := by
  rw [idx_slA f d w 23 (by rw [ty_sl_23]; rfl) A hA n c k i h0 h1, ty_sl_23]; rfl
theorem ix_24 {K : Fr → World → Prop} {u : World} {f : Fr} {d : Option Nat} {w : World} (A : Option Addr) (hA : A.isSome = true) (n c : Nat) (k : IntKind) (i : Int) (h0 : 0 ≤ i) (h1 : i < n) : Val1 Tryd.prog K (Instr.indexAt 24 (.slice A n c) (.int k i)) u f d w = K (updO f d (.pointer (some (eA A (i.toNat * 3))))) w := by
  rw [idx_sl u f d w 24 (by rw [ty_sl_24]; rfl) A hA n c k i h0 h1, ty_sl_24]; rfl
theorem ln_24 {K : Fr → World → Prop} {u : World} {f : Fr} {d : Option Nat} {w : World} (ty : TypeId) (A : Option Addr) (n c : Nat) : Val1 Tryd.prog K (Builtin.len_ #[24] ty #[.slice A n c]) u f d w = K (updO f d (.int .i64 n)) w := len_sl u f d w ty 24 (by rw [ty_sl_24]; rfl) A n c
theorem ixA_24 {K : Fr → World → Prop} {f : Fr} {d : Option Nat} {w : World} (A : Option Addr) (hA : A.isSome = true) (n c : Nat) (k : IntKind) (i : Int) (h0 : 0 ≤ i) (h1 : i < n) : ValA Tryd.prog K (Instr.indexAt 24 (.slice A n c) (.int k i)) f d w = K (updO f d (.pointer (some (eA A (i.toNat * 3))))) w := by
  rw [idx_slA f d w 24 (by rw [ty_sl_24]; rfl) A hA n c k i h0 h1, ty_sl_24]; rfl
theorem fd_25_0 {K : Fr → World → Prop} {u : World} {f : Fr} {d : Option Nat} {w : World} (a : Addr) : Val1 Tryd.prog K (Instr.fieldAt 25 (.pointer (some a)) 0) u f d w = K (updO f d (.pointer (some (a.add 0)))) w := by
  rw [fld_ptr u f d w 25 0 (by rw [ty_fl_25_0]; rfl) a, ty_fl_25_0]; rfl
theorem fdA_25_0 {K : Fr → World → Prop} {f : Fr} {d : Option Nat} {w : World} (a : Addr) : ValA Tryd.prog K (Instr.fieldAt 25 (.pointer (some a)) 0) f d w = K (updO f d (.pointer (some (a.add 0)))) w := by
  rw [fld_ptrA f d w 25 0 (by rw [ty_fl_25_0]; rfl) a, ty_fl_25_0]; rfl
theorem fd_25_1 {K : Fr → World → Prop} {u : World} {f : Fr} {d : Option Nat} {w : World} (a : Addr) : Val1 Tryd.prog K (Instr.fieldAt 25 (.pointer (some a)) 1) u f d w = K (updO f d (.pointer (some (a.add 1)))) w := by
  rw [fld_ptr u f d w 25 1 (by rw [ty_fl_25_1]; rfl) a, ty_fl_25_1]; rfl
theorem fdA_25_1 {K : Fr → World → Prop} {f : Fr} {d : Option Nat} {w : World} (a : Addr) : ValA Tryd.prog K (Instr.fieldAt 25 (.pointer (some a)) 1) f d w = K (updO f d (.pointer (some (a.add 1)))) w := by
  rw [fld_ptrA f d w 25 1 (by rw [ty_fl_25_1]; rfl) a, ty_fl_25_1]; rfl
theorem fd_25_2 {K : Fr → World → Prop} {u : World} {f : Fr} {d : Option Nat} {w : World} (a : Addr) : Val1 Tryd.prog K (Instr.fieldAt 25 (.pointer (some a)) 2) u f d w = K (updO f d (.pointer (some (a.add 2)))) w := by
  rw [fld_ptr u f d w 25 2 (by rw [ty_fl_25_2]; rfl) a, ty_fl_25_2]; rfl
theorem fdA_25_2 {K : Fr → World → Prop} {f : Fr} {d : Option Nat} {w : World} (a : Addr) : ValA Tryd.prog K (Instr.fieldAt 25 (.pointer (some a)) 2) f d w = K (updO f d (.pointer (some (a.add 2)))) w := by
  rw [fld_ptrA f d w 25 2 (by rw [ty_fl_25_2]; rfl) a, ty_fl_25_2]; rfl
theorem fd_25_3 {K : Fr → World → Prop} {u : World} {f : Fr} {d : Option Nat} {w : World} (a : Addr) : Val1 Tryd.prog K (Instr.fieldAt 25 (.pointer (some a)) 3) u f d w = K (updO f d (.pointer (some (a.add 3)))) w := by
  rw [fld_ptr u f d w 25 3 (by rw [ty_fl_25_3]; rfl) a, ty_fl_25_3]; rfl
theorem fdA_25_3 {K : Fr → World → Prop} {f : Fr} {d : Option Nat} {w : World} (a : Addr) : ValA Tryd.prog K (Instr.fieldAt 25 (.pointer (some a)) 3) f d w = K (updO f d (.pointer (some (a.add 3)))) w := by
  rw [fld_ptrA f d w 25 3 (by rw [ty_fl_25_3]; rfl) a, ty_fl_25_3]; rfl
theorem fd_25_4 {K : Fr → World → Prop} {u : World} {f : Fr} {d : Option Nat} {w : World} (a : Addr) : Val1 Tryd.prog K (Instr.fieldAt 25 (.pointer (some a)) 4) u f d w = K (updO f d (.pointer (some (a.add 4)))) w := by
  rw [fld_ptr u f d w 25 4 (by rw [ty_fl_25_4]; rfl) a, ty_fl_25_4]; rfl
theorem fdA_25_4 {K : Fr → World → Prop} {f : Fr} {d : Option Nat} {w : World} (a : Addr) : ValA Tryd.prog K (Instr.fieldAt 25 (.pointer (some a)) 4) f d w = K (updO f d (.pointer (some (a.add 4)))) w := by
  rw [fld_ptrA f d w 25 4 (by rw [ty_fl_25_4]; rfl) a, ty_fl_25_4]; rfl
theorem fd_26_0 {K : Fr → World → Prop} {u : World} {f : Fr} {d : Option Nat} {w : World} (a : Addr) : Val1 Tryd.prog K (Instr.fieldAt 26 (.pointer (some a)) 0) u f d w = K (updO f d (.pointer (some (a.add 0)))) w := by
  rw [fld_ptr u f d w 26 0 (by rw [ty_fl_26_0]; rfl) a, ty_fl_26_0]; rfl
theorem fdA_26_0 {K : Fr → World → Prop} {f : Fr} {d : Option Nat} {w : World} (a : Addr) : ValA Tryd.prog K (Instr.fieldAt 26 (.pointer (some a)) 0) f d w = K (updO f d (.pointer (some (a.add 0)))) w := by
  rw [fld_ptrA f d w 26 0 (by rw [ty_fl_26_0]; rfl) a, ty_fl_26_0]; rfl
theorem fd_26_1 {K : Fr → World → Prop} {u : World} {f : Fr} {d : Option Nat} {w : World} (a : Addr) : Val1 Tryd.prog K (Instr.fieldAt 26 (.pointer (some a)) 1) u f d w = K (updO f d (.pointer (some (a.add 1)))) w := by
  rw [fld_ptr u f d w 26 1 (by rw [ty_fl_26_1]; rfl) a, ty_fl_26_1]; rfl
theorem fdA_26_1 {K : Fr → World → Prop} {f : Fr} {d : Option Nat} {w : World} (a : Addr) : ValA Tryd.prog K (Instr.fieldAt 26 (.pointer (some a)) 1) f d w = K (updO f d (.pointer (some (a.add 1)))) w := by
  rw [fld_ptrA f d w 26 1 (by rw [ty_fl_26_1]; rfl) a, ty_fl_26_1]; rfl
theorem fd_26_2 {K : Fr → World → Prop} {u : World} {f : Fr} {d : Option Nat} {w : World} (a : Addr) : Val1 Tryd.prog K (Instr.fieldAt 26 (.pointer (some a)) 2) u f d w = K (updO f d (.pointer (some (a.add 2)))) w := by
  rw [fld_ptr u f d w 26 2 (by rw [ty_fl_26_2]; rfl) a, ty_fl_26_2]; rfl
theorem fdA_26_2 {K : Fr → World → Prop} {f : Fr} {d : Option Nat} {w : World} (a : Addr) : ValA Tryd.prog K (Instr.fieldAt 26 (.pointer (some a)) 2) f d w = K (updO f d (.pointer (some (a.add 2)))) w := by
  rw [fld_ptrA f d w 26 2 (by rw [ty_fl_26_2]; rfl) a, ty_fl_26_2]; rfl
theorem fd_26_3 {K : Fr → World → Prop} {u : World} {f : Fr} {d : Option Nat} {w : World} (a : Addr) : Val1 Tryd.prog K (Instr.fieldAt 26 (.pointer (some a)) 3) u f d w = K (updO f d (.pointer (some (a.add 3)))) w := by
  rw [fld_ptr u f d w 26 3 (by rw [ty_fl_26_3]; rfl) a, ty_fl_26_3]; rfl
theorem fdA_26_3 {K : Fr → World → Prop} {f : Fr} {d : Option Nat} {w : World} (a : Addr) : ValA Tryd.prog K (Instr.fieldAt 26 (.pointer (some a)) 3) f d w = K (updO f d (.pointer (some (a.add 3)))) w := by
  rw [fld_ptrA f d w 26 3 (by rw [ty_fl_26_3]; rfl) a, ty_fl_26_3]; rfl
theorem fd_26_4 {K : Fr → World → Prop} {u : World} {f : Fr} {d : Option Nat} {w : World} (a : Addr) : Val1 Tryd.prog K (Instr.fieldAt 26 (.pointer (some a)) 4) u f d w = K (updO f d (.pointer (some (a.add 4)))) w := by
  rw [fld_ptr u f d w 26 4 (by rw [ty_fl_26_4]; rfl) a, ty_fl_26_4]; rfl
theorem fdA_26_4 {K : Fr → World → Prop} {f : Fr} {d : Option Nat} {w : World} (a : Addr) : ValA Tryd.prog K (Instr.fieldAt 26 (.pointer (some a)) 4) f d w = K (updO f d (.pointer (some (a.add 4)))) w := by
  rw [fld_ptrA f d w 26 4 (by rw [ty_fl_26_4]; rfl) a, ty_fl_26_4]; rfl
theorem fd_27_0 {K : Fr → World → Prop} {u : World} {f : Fr} {d : Option Nat} {w : World} (a : Addr) : Val1 Tryd.prog K (Instr.fieldAt 27 (.pointer (some a)) 0) u f d w = K (updO f d (.pointer (some (a.add 0)))) w := by
  rw [fld_ptr u f d w 27 0 (by rw [ty_fl_27_0]; rfl) a, ty_fl_27_0]; rfl
theorem fdA_27_0 {K : Fr → World → Prop} {f : Fr} {d : Option Nat} {w : World} (a : Addr) : ValA Tryd.prog K (Instr.fieldAt 27 (.pointer (some a)) 0) f d w = K (updO f d (.pointer (some (a.add 0)))) w := by
  rw [fld_ptrA f d w 27 0 (by rw [ty_fl_27_0]; rfl) a, ty_fl_27_0]; rfl
theorem fd_27_1 {K : Fr → World → Prop} {u : World} {f : Fr} {d : Option Nat} {w : World} (a : Addr) : Val1 Tryd.prog K (Instr.fieldAt 27 (.pointer (some a)) 1) u f d w = K (updO f d (.pointer (some (a.add 1)))) w := by
  rw [fld_ptr u f d w 27 1 (by rw [ty_fl_27_1]; rfl) a, ty_fl_27_1]; rfl
theorem fdA_27_1 {K : Fr → World → Prop} {f : Fr} {d : Option Nat} {w : World} (a : Addr) : ValA Tryd.prog K (Instr.fieldAt 27 (.pointer (some a)) 1) f d w = K (updO f d (.pointer (some (a.add 1)))) w := by
  rw [fld_ptrA f d w 27 1 (by rw [ty_fl_27_1]; rfl) a, ty_fl_27_1]; rfl
theorem fd_27_2 {K : Fr → World → Prop} {u : World} {f : Fr} {d : Option Nat} {w : World} (a : Addr) : Val1 Tryd.prog K (Instr.fieldAt 27 (.pointer (some a)) 2) u f d w = K (updO f d (.pointer (some (a.add 2)))) w := by
  rw [fld_ptr u f d w 27 2 (by rw [ty_fl_27_2]; rfl) a, ty_fl_27_2]; rfl
theorem fdA_27_2 {K : Fr → World → Prop} {f : Fr} {d : Option Nat} {w : World} (a : Addr) : ValA Tryd.prog K (Instr.fieldAt 27 (.pointer (some a)) 2) f d w = K (updO f d (.pointer (some (a.add 2)))) w := by
  rw [fld_ptrA f d w 27 2 (by rw [ty_fl_27_2]; rfl) a, ty_fl_27_2]; rfl
theorem fd_27_3 {K : Fr → World → Prop} {u : World} {f : Fr} {d : Option Nat} {w : World} (a : Addr) : Val1 Tryd.prog K (Instr.fieldAt 27 (.pointer (some a)) 3) u f d w = K (updO f d (.pointer (some (a.add 7)))) w := by
  rw [fld_ptr u f d w 27 3 (by rw [ty_fl_27_3]; rfl) a, ty_fl_27_3]; rfl
theorem fdA_27_3 {K : Fr → World → Prop} {f : Fr} {d : Option Nat} {w : World} (a : Addr) : ValA Tryd.prog K (Instr.fieldAt 27 (.pointer (some a)) 3) f d w = K (updO f d (.pointer (some (a.add 7)))) w := by
  rw [fld_ptrA f d w 27 3 (by rw [ty_fl_27_3]; rfl) a, ty_fl_27_3]; rfl
theorem fd_27_4 {K : Fr → World → Prop} {u : World} {f : Fr} {d : Option Nat} {w : World} (a : Addr) : Val1 Tryd.prog K (Instr.fieldAt 27 (.pointer (some a)) 4) u f d w = K (updO f d (.pointer (some (a.add 8)))) w := by
  rw [fld_ptr u f d w 27 4 (by rw [ty_fl_27_4]; rfl) a, ty_fl_27_4]; rfl
theorem fdA_27_4 {K : Fr → World → Prop} {f : Fr} {d : Option Nat} {w : World} (a : Addr) : ValA Tryd.prog K (Instr.fieldAt 27 (.pointer (some a)) 4) f d w = K (updO f d (.pointer (some (a.add 8)))) w := by
  rw [fld_ptrA f d w 27 4 (by rw [ty_fl_27_4]; rfl) a, ty_fl_27_4]; rfl
theorem fd_27_5 {K : Fr → World → Prop} {u : World} {f : Fr} {d : Option Nat} {w : World} (a : Addr) : Val1 Tryd.prog K (Instr.fieldAt 27 (.pointer (some a)) 5) u f d w = K (updO f d (.pointer (some (a.add 9)))) w := by
  rw [fld_ptr u f d w 27 5 (by rw [ty_fl_27_5]; rfl) a, ty_fl_27_5]; rfl
theorem fdA_27_5 {K : Fr → World → Prop} {f : Fr} {d : Option Nat} {w : World} (a : Addr) : ValA Tryd.prog K (Instr.fieldAt 27 (.pointer (some a)) 5) f d w = K (updO f d (.pointer (some (a.add 9)))) w := by
  rw [fld_ptrA f d w 27 5 (by rw [ty_fl_27_5]; rfl) a, ty_fl_27_5]; rfl
theorem fd_27_6 {K : Fr → World → Prop} {u : World} {f : Fr} {d : Option Nat} {w : World} (a : Addr) : Val1 Tryd.prog K (Instr.fieldAt 27 (.pointer (some a)) 6) u f d w = K (updO f d (.pointer (some (a.add 10)))) w := by
  rw [fld_ptr u f d w 27 6 (by rw [ty_fl_27_6]; rfl) a, ty_fl_27_6]; rfl
theorem fdA_27_6 {K : Fr → World → Prop} {f : Fr} {d : Option Nat} {w : World} (a : Addr) : ValA Tryd.prog K (Instr.fieldAt 27 (.pointer (some a)) 6) f d w = K (updO f d (.pointer (some (a.add 10)))) w := by
  rw [fld_ptrA f d w 27 6 (by rw [ty_fl_27_6]; rfl) a, ty_fl_27_6]; rfl
theorem fd_28_0 {K : Fr → World → Prop} {u : World} {f : Fr} {d : Option Nat} {w : World} (a : Addr) : Val1 Tryd.prog K (Instr.fieldAt 28 (.pointer (some a)) 0) u f d w = K (updO f d (.pointer (some (a.add 0)))) w := by
  rw [fld_ptr u f d w 28 0 (by rw [ty_fl_28_0]; rfl) a, ty_fl_28_0]; rfl
theorem fdA_28_0 {K : Fr → World → Prop} {f : Fr} {d : Option Nat} {w : World} (a : Addr) : ValA Tryd.prog K (Instr.fieldAt 28 (.pointer (some a)) 0) f d w = K (updO f d (.pointer (some (a.add 0)))) w := by
  rw [fld_ptrA f d w 28 0 (by rw [ty_fl_28_0]; rfl) a, ty_fl_28_0]; rfl
theorem fd_28_1 {K : Fr → World → Prop} {u : World} {f : Fr} {d : Option Nat} {w : World} (a : Addr) : Val1 Tryd.prog K (Instr.fieldAt 28 (.pointer (some a)) 1) u f d w = K (updO f d (.pointer (some (a.add 1)))) w := by
  rw [fld_ptr u f d w 28 1 (by rw [ty_fl_28_1]; rfl) a, ty_fl_28_1]; rfl
theorem fdA_28_1 {K : Fr → World → Prop} {f : Fr} {d : Option Nat} {w : World} (a : Addr) : ValA Tryd.prog K (Instr.fieldAt 28 (.pointer (some a)) 1) f d w = K (updO f d (.pointer (some (a.add 1)))) w := by
  rw [fld_ptrA f d w 28 1 (by rw [ty_fl_28_1]; rfl) a, ty_fl_28_1]; rfl
theorem fd_28_2 {K : Fr → World → Prop} {u : World} {f : Fr} {d : Option Nat} {w : World} (a : Addr) : Val1 Tryd.prog K (Instr.fieldAt 28 (.pointer (some a)) 2) u f d w = K (updO f d (.pointer (some (a.add 2)))) w := by
  rw [fld_ptr u f d w 28 2 (by rw [ty_fl_28_2]; rfl) a, ty_fl_28_2]; rfl
theorem fdA_28_2 {K : Fr → World → Prop} {f : Fr} {d : Option Nat} {w : World} (a : Addr) : ValA Tryd.prog K (Instr.fieldAt 28 (.pointer (some a)) 2) f d w = K (updO f d (.pointer (some (a.add 2)))) w := by
  rw [fld_ptrA f d w 28 2 (by rw [ty_fl_28_2]; rfl) a, ty_fl_28_2]; rfl
theorem fd_28_3 {K : Fr → World → Prop} {u : World} {f : Fr} {d : Option Nat} {w : World} (a : Addr) : Val1 Tryd.prog K (Instr.fieldAt 28 (.pointer (some a)) 3) u f d w = K (updO f d (.pointer (some (a.add 7)))) w := by
  rw [fld_ptr u f d w 28 3 (by rw [ty_fl_28_3]; rfl) a, ty_fl_28_3]; rfl
theorem fdA_28_3 {K : Fr → World → Prop} {f : Fr} {d : Option Nat} {w : World} (a : Addr) : ValA Tryd.prog K (Instr.fieldAt 28 (.pointer (some a)) 3) f d w = K (updO f d (.pointer (some (a.add 7)))) w := by
  rw [fld_ptrA f d w 28 3 (by rw [ty_fl_28_3]; rfl) a, ty_fl_28_3]; rfl
theorem fd_28_4 {K : Fr → World → Prop} {u : World} {f : Fr} {d : Option Nat} {w : World} (a : Addr) : Val1 Tryd.prog K (Instr.fieldAt 28 (.pointer (some a)) 4) u f d w = K (updO f d (.pointer (some (a.add 8)))) w := by
  rw [fld_ptr u f d w 28 4 (by rw [ty_fl_28_4]; rfl) a, ty_fl_28_4]; rfl
theorem fdA_28_4 {K : Fr → World → Prop} {f : Fr} {d : Option Nat} {w : World} (a : Addr) : ValA Tryd.prog K (Instr.fieldAt 28 (.pointer (some a)) 4) f d w = K (updO f d (.pointer (some (a.add 8)))) w := by
  rw [fld_ptrA f d w 28 4 (by rw [ty_fl_28_4]; rfl) a, ty_fl_28_4]; rfl
theorem fd_28_5 {K : Fr → World → Prop} {u : World} {f : Fr} {d : Option Nat} {w : World} (a : Addr) : Val1 Tryd.prog K (Instr.fieldAt 28 (.pointer (some a)) 5) u f d w = K (updO f d (.pointer (some (a.add 9)))) w := by
  rw [fld_ptr u f d w 28 5 (by rw [ty_fl_28_5]; rfl) a, ty_fl_28_5]; rfl
theorem fdA_28_5 {K : Fr → World → Prop} {f : Fr} {d : Option Nat} {w : World} (a : Addr) : ValA Tryd.prog K (Instr.fieldAt 28 (.pointer (some a)) 5) f d w = K (updO f d (.pointer (some (a.add 9)))) w := by
  rw [fld_ptrA f d w 28 5 (by rw [ty_fl_28_5]; rfl) a, ty_fl_28_5]; rfl
theorem fd_28_6 {K : Fr → World → Prop} {u : World} {f : Fr} {d : Option Nat} {w : World} (a : Addr) : Val1 Tryd.prog K (Instr.fieldAt 28 (.pointer (some a)) 6) u f d w = K (updO f d (.pointer (some (a.add 10)))) w := by
  rw [fld_ptr u f d w 28 6 (by rw [ty_fl_28_6]; rfl) a, ty_fl_28_6]; rfl
theorem fdA_28_6 {K : Fr → World → Prop} {f : Fr} {d : Option Nat} {w : World} (a : Addr) : ValA Tryd.prog K (Instr.fieldAt 28 (.pointer (some a)) 6) f d w = K (updO f d (.pointer (some (a.add 10)))) w := by
  rw [fld_ptrA f d w 28 6 (by rw [ty_fl_28_6]; rfl) a, ty_fl_28_6]; rfl
theorem fd_30_0 {K : Fr → World → Prop} {u : World} {f : Fr} {d : Option Nat} {w : World} (a : Addr) : Val1 Tryd.prog K (Instr.fieldAt 30 (.pointer (some a)) 0) u f d w = K (updO f d (.pointer (some (a.add 0)))) w := by
  rw [fld_ptr u f d w 30 0 (by rw [ty_fl_30_0]; rfl) a, ty_fl_30_0]; rfl
theorem fdA_30_0 {K : Fr → World → Prop} {f : Fr} {d : Option Nat} {w : World} (a : Addr) : ValA Tryd.prog K (Instr.fieldAt 30 (.pointer (some a)) 0) f d w = K (updO f d (.pointer (some (a.add 0)))) w := by
  rw [fld_ptrA f d w 30 0 (by rw [ty_fl_30_0]; rfl) a, ty_fl_30_0]; rfl
theorem fd_30_1 {K : Fr → World → Prop} {u : World} {f : Fr} {d : Option Nat} {w : World} (a : Addr) : Val1 Tryd.prog K (Instr.fieldAt 30 (.pointer (some a)) 1) u f d w = K (updO f d (.pointer (some (a.add 1)))) w := by
  rw [fld_ptr u f d w 30 1 (by rw [ty_fl_30_1]; rfl) a, ty_fl_30_1]; rfl
theorem fdA_30_1 {K : Fr → World → Prop} {f : Fr} {d : Option Nat} {w : World} (a : Addr) : ValA Tryd.prog K (Instr.fieldAt 30 (.pointer (some a)) 1) f d w = K (updO f d (.pointer (some (a.add 1)))) w := by
  rw [fld_ptrA f d w 30 1 (by rw [ty_fl_30_1]; rfl) a, ty_fl_30_1]; rfl
theorem fd_31_0 {K : Fr → World → Prop} {u : World} {f : Fr} {d : Option Nat} {w : World} (a : Addr) : Val1 Tryd.prog K (Instr.fieldAt 31 (.pointer (some a)) 0) u f d w = K (updO f d (.pointer (some (a.add 0)))) w := by
  rw [fld_ptr u f d w 31 0 (by rw [ty_fl_31_0]; rfl) a, ty_fl_31_0]; rfl
theorem fdA_31_0 {K : Fr → World → Prop} {f : Fr} {d : Option Nat} {w : World} (a : Addr) : ValA Tryd.prog K (Instr.fieldAt 31 (.pointer (some a)) 0) f d w = K (updO f d (.pointer (some (a.add 0)))) w := by
  rw [fld_ptrA f d w 31 0 (by rw [ty_fl_31_0]; rfl) a, ty_fl_31_0]; rfl
theorem fd_31_1 {K : Fr → World → Prop} {u : World} {f : Fr} {d : Option Nat} {w : World} (a : Addr) : Val1 Tryd.prog K (Instr.fieldAt 31 (.pointer (some a)) 1) u f d w = K (updO f d (.pointer (some (a.add 1)))) w := by
  rw [fld_ptr u f d w 31 1 (by rw [ty_fl_31_1]; rfl) a, ty_fl_31_1]; rfl
theorem fdA_31_1 {K : Fr → World → Prop} {f : Fr} {d : Option Nat} {w : World} (a : Addr) : ValA Tryd.prog K (Instr.fieldAt 31 (.pointer (some a)) 1) f d w = K (updO f d (.pointer (some (a.add 1)))) w := by
  rw [fld_ptrA f d w 31 1 (by rw [ty_fl_31_1]; rfl) a, ty_fl_31_1]; rfl
theorem fd_40_0 {K : Fr → World → Prop} {u : World} {f : Fr} {d : Option Nat} {w : World} (a : Addr) : Val1 Tryd.prog K (Instr.fieldAt 40 (.pointer (some a)) 0) u f d w = K (updO f d (.pointer (some (a.add 0)))) w := by
  rw [fld_ptr u f d w 40 0 (by rw [ty_fl_40_0]; rfl) a, ty_fl_40_0]; rfl
theorem fdA_40_0 {K : Fr → World → Prop} {f : Fr} {d : Option Nat} {w : World} (a : Addr) : ValA Tryd.prog K (Instr.fieldAt 40 (.pointer (some a)) 0) f d w = K (updO f d (.pointer (some (a.add 0)))) w := by
  rw [fld_ptrA f d w 40 0 (by rw [ty_fl_40_0]; rfl) a, ty_fl_40_0]; rfl
theorem fd_41_0 {K : Fr → World → Prop} {u : World} {f : Fr} {d : Option Nat} {w : World} (a : Addr) : Val1 Tryd.prog K (Instr.fieldAt 41 (.pointer (some a)) 0) u f d w = K (updO f d (.pointer (some (a.add 0)))) w := by
  rw [fld_ptr u f d w 41 0 (by rw [ty_fl_41_0]; rfl) a, ty_fl_41_0]; rfl
theorem fdA_41_0 {K : Fr → World → Prop} {f : Fr} {d : Option Nat} {w : World} (a : Addr) : ValA Tryd.prog K (Instr.fieldAt 41 (.pointer (some a)) 0) f d w = K (updO f d (.pointer (some (a.add 0)))) w := by
  rw [fld_ptrA f d w 41 0 (by rw [ty_fl_41_0]; rfl) a, ty_fl_41_0]; rfl
theorem ix_45 {K : Fr → World → Prop} {u : World} {f : Fr} {d : Option Nat} {w : World} (A : Option Addr) (hA : A.isSome = true) (n c : Nat) (k : IntKind) (i : Int) (h0 : 0 ≤ i) (h1 : i < n) : Val1 Tryd.prog K (Instr.indexAt 45 (.slice A n c) (.int k i)) u f d w = K (updO f d (.pointer (some (eA A (i.toNat * 3))))) w := by
  rw [idx_sl u f d w 45 (by rw [ty_sl_45]; rfl) A hA n c k i h0 h1, ty_sl_45]; rfl
theorem ln_45 {K : Fr → World → Prop} {u : World} {f : Fr} {d : Option Nat} {w : World} (ty : TypeId) (A : Option Addr) (n c : Nat) : Val1 Tryd.prog K (Builtin.len_ #[45] ty #[.slice A n c]) u f d w = K (updO f d (.int .i64 n)) w := len_sl u f d w ty 45 (by rw [ty_sl_45]; rfl) A n c
theorem ixA_45 {K : Fr → World → Prop} {f : Fr} {d : Option Nat} {w : World} (A : Option Addr) (hA : A.isSome = true) (n c : Nat) (k : IntKind) (i : Int) (h0 : 0 ≤ i) (h1 : i < n) : ValA Tryd.prog K (Instr.indexAt 45 (.slice A n c) (.int k i)) f d w = K (updO f d (.pointer (some (eA A (i.toNat * 3))))) w := by
  rw [idx_slA f d w 45 (by rw [ty_sl_45]; rfl) A hA n c k i h0 h1, ty_sl_45]; rfl
theorem ix_47 {K : Fr → World → Prop} {u : World} {f : Fr} {d : Option Nat} {w : World} (a : Addr) (k : IntKind) (i : Int) (h0 : 0 ≤ i) (h1 : i < 9) : Val1 Tryd.prog K (Instr.indexAt 47 (.pointer (some a)) (.int k i)) u f d w = K (updO f d (.pointer (some (a.add (i.toNat * 1))))) w := by
  rw [idx_arr u f d w 47 (by rw [ty_ar_47]; rfl) a k i h0 (by rw [ty_ar_47]; exact h1), ty_ar_47]; rfl
theorem ixA_47 {K : Fr → World → Prop} {f : Fr} {d : Option Nat} {w : World} (a : Addr) (k : IntKind) (i : Int) (h0 : 0 ≤ i) (h1 : i < 9) : ValA Tryd.prog K (Instr.indexAt 47 (.pointer (some a)) (.int k i)) f d w = K (updO f d (.pointer (some (a.add (i.toNat * 1))))) w := by
  rw [idx_arrA f d w 47 (by rw [ty_ar_47]; rfl) a k i h0 (by rw [ty_ar_47]; exact h1), ty_ar_47]; rfl
theorem fd_48_0 {K : Fr → World → Prop} {u : World} {f : Fr} {d : Option Nat} {w : World} (a : Addr) : Val1 Tryd.prog K (Instr.fieldAt 48 (.pointer (some a)) 0) u f d w = K (updO f d (.pointer (some (a.add 0)))) w := by
  rw [fld_ptr u f d w 48 0 (by rw [ty_fl_48_0]; rfl) a, ty_fl_48_0]; rfl
theorem fdA_48_0 {K : Fr → World → Prop} {f : Fr} {d : Option Nat} {w : World} (a : Addr) : ValA Tryd.prog K (Instr.fieldAt 48 (.pointer (some a)) 0) f d w = K (updO f d (.pointer (some (a.add 0)))) w := by
  rw [fld_ptrA f d w 48 0 (by rw [ty_fl_48_0]; rfl) a, ty_fl_48_0]; rfl
theorem fd_48_1 {K : Fr → World → Prop} {u : World} {f : Fr} {d : Option Nat} {w : World} (a : Addr) : Val1 Tryd.prog K (Instr.fieldAt 48 (.pointer (some a)) 1) u f d w = K (updO f d (.pointer (some (a.add 1)))) w := by
  rw [fld_ptr u f d w 48 1 (by rw [ty_fl_48_1]; rfl) a, ty_fl_48_1]; rfl
theorem fdA_48_1 {K : Fr → World → Prop} {f : Fr} {d : Option Nat} {w : World} (a : Addr) : ValA Tryd.prog K (Instr.fieldAt 48 (.pointer (some a)) 1) f d w = K (updO f d (.pointer (some (a.add 1)))) w := by
  rw [fld_ptrA f d w 48 1 (by rw [ty_fl_48_1]; rfl) a, ty_fl_48_1]; rfl
theorem fd_48_2 {K : Fr → World → Prop} {u : World} {f : Fr} {d : Option Nat} {w : World} (a : Addr) : Val1 Tryd.prog K (Instr.fieldAt 48 (.pointer (some a)) 2) u f d w = K (updO f d (.pointer (some (a.add 2)))) w := by
  rw [fld_ptr u f d w 48 2 (by rw [ty_fl_48_2]; rfl) a, ty_fl_48_2]; rfl
theorem fdA_48_2 {K : Fr → World → Prop} {f : Fr} {d : Option Nat} {w : World} (a : Addr) : ValA Tryd.prog K (Instr.fieldAt 48 (.pointer (some a)) 2) f d w = K (updO f d (.pointer (some (a.add 2)))) w := by
  rw [fld_ptrA f d w 48 2 (by rw [ty_fl_48_2]; rfl) a, ty_fl_48_2]; rfl
theorem fd_48_3 {K : Fr → World → Prop} {u : World} {f : Fr} {d : Option Nat} {w : World} (a : Addr) : Val1 Tryd.prog K (Instr.fieldAt 48 (.pointer (some a)) 3) u f d w = K (updO f d (.pointer (some (a.add 3)))) w := by
  rw [fld_ptr u f d w 48 3 (by rw [ty_fl_48_3]; rfl) a, ty_fl_48_3]; rfl
theorem fdA_48_3 {K : Fr → World → Prop} {f : Fr} {d : Option Nat} {w : World} (a : Addr) : ValA Tryd.prog K (Instr.fieldAt 48 (.pointer (some a)) 3) f d w = K (updO f d (.pointer (some (a.add 3)))) w := by
  rw [fld_ptrA f d w 48 3 (by rw [ty_fl_48_3]; rfl) a, ty_fl_48_3]; rfl
theorem fd_48_4 {K : Fr → World → Prop} {u : World} {f : Fr} {d : Option Nat} {w : World} (a : Addr) : Val1 Tryd.prog K (Instr.fieldAt 48 (.pointer (some a)) 4) u f d w = K (updO f d (.pointer (some (a.add 12)))) w := by
  rw [fld_ptr u f d w 48 4 (by rw [ty_fl_48_4]; rfl) a, ty_fl_48_4]; rfl
theorem fdA_48_4 {K : Fr → World → Prop} {f : Fr} {d : Option Nat} {w : World} (a : Addr) : ValA Tryd.prog K (Instr.fieldAt 48 (.pointer (some a)) 4) f d w = K (updO f d (.pointer (some (a.add 12)))) w := by
  rw [fld_ptrA f d w 48 4 (by rw [ty_fl_48_4]; rfl) a, ty_fl_48_4]; rfl
theorem fd_49_0 {K : Fr → World → Prop} {u : World} {f : Fr} {d : Option Nat} {w : World} (a : Addr) : Val1 Tryd.prog K (Instr.fieldAt 49 (.pointer (some a)) 0) u f d w = K (updO f d (.pointer (some (a.add 0)))) w := by
  rw [fld_ptr u f d w 49 0 (by rw [ty_fl_49_0]; rfl) a, ty_fl_49_0]; rfl
theorem fdA_49_0 {K : Fr → World → Prop} {f : Fr} {d : Option Nat} {w : World} (a : Addr) : ValA Tryd.prog K (Instr.fieldAt 49 (.pointer (some a)) 0) f d w = K (updO f d (.pointer (some (a.add 0)))) w := by
  rw [fld_ptrA f d w 49 0 (by rw [ty_fl_49_0]; rfl) a, ty_fl_49_0]; rfl
theorem fd_49_1 {K : Fr → World → Prop} {u : World} {f : Fr} {d : Option Nat} {w : World} (a : Addr) : Val1 Tryd.prog K (Instr.fieldAt 49 (.pointer (some a)) 1) u f d w = K (updO f d (.pointer (some (a.add 1)))) w := by
  rw [fld_ptr u f d w 49 1 (by rw [ty_fl_49_1]; rfl) a, ty_fl_49_1]; rfl
theorem fdA_49_1 {K : Fr → World → Prop} {f : Fr} {d : Option Nat} {w : World} (a : Addr) : ValA Tryd.prog K (Instr.fieldAt 49 (.pointer (some a)) 1) f d w = K (updO f d (.pointer (some (a.add 1)))) w := by
  rw [fld_ptrA f d w 49 1 (by rw [ty_fl_49_1]; rfl) a, ty_fl_49_1]; rfl
theorem fd_49_2 {K : Fr → World → Prop} {u : World} {f : Fr} {d : Option Nat} {w : World} (a : Addr) : Val1 Tryd.prog K (Instr.fieldAt 49 (.pointer (some a)) 2) u f d w = K (updO f d (.pointer (some (a.add 2)))) w := by
  rw [fld_ptr u f d w 49 2 (by rw [ty_fl_49_2]; rfl) a, ty_fl_49_2]; rfl
theorem fdA_49_2 {K : Fr → World → Prop} {f : Fr} {d : Option Nat} {w : World} (a : Addr) : ValA Tryd.prog K (Instr.fieldAt 49 (.pointer (some a)) 2) f d w = K (updO f d (.pointer (some (a.add 2)))) w := by
  rw [fld_ptrA f d w 49 2 (by rw [ty_fl_49_2]; rfl) a, ty_fl_49_2]; rfl
theorem fd_49_3 {K : Fr → World → Prop} {u : World} {f : Fr} {d : Option Nat} {w : World} (a : Addr) : Val1 Tryd.prog K (Instr.fieldAt 49 (.pointer (some a)) 3) u f d w = K (updO f d (.pointer (some (a.add 3)))) w := by
  rw [fld_ptr u f d w 49 3 (by rw [ty_fl_49_3]; rfl) a, ty_fl_49_3]; rfl
theorem fdA_49_3 {K : Fr → World → Prop} {f : Fr} {d : Option Nat} {w : World} (a : Addr) : ValA Tryd.prog K (Instr.fieldAt 49 (.pointer (some a)) 3) f d w = K (updO f d (.pointer (some (a.add 3)))) w := by
  rw [fld_ptrA f d w 49 3 (by rw [ty_fl_49_3]; rfl) a, ty_fl_49_3]; rfl
theorem fd_49_4 {K : Fr → World → Prop} {u : World} {f : Fr} {d : Option Nat} {w : World} (a : Addr) : Val1 Tryd.prog K (Instr.fieldAt 49 (.pointer (some a)) 4) u f d w = K (updO f d (.pointer (some (a.add 12)))) w := by
  rw [fld_ptr u f d w 49 4 (by rw [ty_fl_49_4]; rfl) a, ty_fl_49_4]; rfl
theorem fdA_49_4 {K : Fr → World → Prop} {f : Fr} {d : Option Nat} {w : World} (a : Addr) : ValA Tryd.prog K (Instr.fieldAt 49 (.pointer (some a)) 4) f d w = K (updO f d (.pointer (some (a.add 12)))) w := by
  rw [fld_ptrA f d w 49 4 (by rw [ty_fl_49_4]; rfl) a, ty_fl_49_4]; rfl
theorem ix_50 {K : Fr → World → Prop} {u : World} {f : Fr} {d : Option Nat} {w : World} (a : Addr) (k : IntKind) (i : Int) (h0 : 0 ≤ i) (h1 : i < 9) : Val1 Tryd.prog K (Instr.indexAt 50 (.pointer (some a)) (.int k i)) u f d w = K (updO f d (.pointer (some (a.add (i.toNat * 1))))) w := by
  rw [idx_arr u f d w 50 (by rw [ty_ar_50]; rfl) a k i h0 (by rw [ty_ar_50]; exact h1), ty_ar_50]; rfl
theorem ixA_50 {K : Fr → World → Prop} {f : Fr} {d : Option Nat} {w : World} (a : Addr) (k : IntKind) (i : Int) (h0 : 0 ≤ i) (h1 : i < 9) : ValA Tryd.prog K (Instr.indexAt 50 (.pointer (some a)) (.int k i)) f d w = K (updO f d (.pointer (some (a.add (i.toNat * 1))))) w := by
  rw [idx_arrA f d w 50 (by rw [ty_ar_50]; rfl) a k i h0 (by rw [ty_ar_50]; exact h1), ty_ar_50]; rfl
theorem fd_52_0 {K : Fr → World → Prop} {u : World} {f : Fr} {d : Option Nat} {w : World} (a : Addr) : Val1 Tryd.prog K (Instr.fieldAt 52 (.pointer (some a)) 0) u f d w = K (updO f d (.pointer (some (a.add 0)))) w := by
  rw [fld_ptr u f d w 52 0 (by rw [ty_fl_52_0]; rfl) a, ty_fl_52_0]; rfl
theorem fdA_52_0 {K : Fr → World → Prop} {f : Fr} {d : Option Nat} {w : World} (a : Addr) : ValA Tryd.prog K (Instr.fieldAt 52 (.pointer (some a)) 0) f d w = K (updO f d (.pointer (some (a.add 0)))) w := by
  rw [fld_ptrA f d w 52 0 (by rw [ty_fl_52_0]; rfl) a, ty_fl_52_0]; rfl
theorem fd_52_1 {K : Fr → World → Prop} {u : World} {f : Fr} {d : Option Nat} {w : World} (a : Addr) : Val1 Tryd.prog K (Instr.fieldAt 52 (.pointer (some a)) 1) u f d w = K (updO f d (.pointer (some (a.add 1)))) w := by
  rw [fld_ptr u f d w 52 1 (by rw [ty_fl_52_1]; rfl) a, ty_fl_52_1]; rfl
theorem fdA_52_1 {K : Fr → World → Prop} {f : Fr} {d : Option Nat} {w : World} (a : Addr) : ValA Tryd.prog K (Instr.fieldAt 52 (.pointer (some a)) 1) f d w = K (updO f d (.pointer (some (a.add 1)))) w := by
  rw [fld_ptrA f d w 52 1 (by rw [ty_fl_52_1]; rfl) a, ty_fl_52_1]; rfl
theorem fd_52_2 {K : Fr → World → Prop} {u : World} {f : Fr} {d : Option Nat} {w : World} (a : Addr) : Val1 Tryd.prog K (Instr.fieldAt 52 (.pointer (some a)) 2) u f d w = K (updO f d (.pointer (some (a.add 2)))) w := by
  rw [fld_ptr u f d w 52 2 (by rw [ty_fl_52_2]; rfl) a, ty_fl_52_2]; rfl
theorem fdA_52_2 {K : Fr → World → Prop} {f : Fr} {d : Option Nat} {w : World} (a : Addr) : ValA Tryd.prog K (Instr.fieldAt 52 (.pointer (some a)) 2) f d w = K (updO f d (.pointer (some (a.add 2)))) w := by
  rw [fld_ptrA f d w 52 2 (by rw [ty_fl_52_2]; rfl) a, ty_fl_52_2]; rfl
theorem fd_53_0 {K : Fr → World → Prop} {u : World} {f : Fr} {d : Option Nat} {w : World} (a : Addr) : Val1 Tryd.prog K (Instr.fieldAt 53 (.pointer (some a)) 0) u f d w = K (updO f d (.pointer (some (a.add 0)))) w := by
  rw [fld_ptr u f d w 53 0 (by rw [ty_fl_53_0]; rfl) a, ty_fl_53_0]; rfl
theorem fdA_53_0 {K : Fr → World → Prop} {f : Fr} {d : Option Nat} {w : World} (a : Addr) : ValA Tryd.prog K (Instr.fieldAt 53 (.pointer (some a)) 0) f d w = K (updO f d (.pointer (some (a.add 0)))) w := by
  rw [fld_ptrA f d w 53 0 (by rw [ty_fl_53_0]; rfl) a, ty_fl_53_0]; rfl
theorem fd_53_1 {K : Fr → World → Prop} {u : World} {f : Fr} {d : Option Nat} {w : World} (a : Addr) : Val1 Tryd.prog K (Instr.fieldAt 53 (.pointer (some a)) 1) u f d w = K (updO f d (.pointer (some (a.add 1)))) w := by
  rw [fld_ptr u f d w 53 1 (by rw [ty_fl_53_1]; rfl) a, ty_fl_53_1]; rfl
theorem fdA_53_1 {K : Fr → World → Prop} {f : Fr} {d : Option Nat} {w : World} (a : Addr) : ValA Tryd.prog K (Instr.fieldAt 53 (.pointer (some a)) 1) f d w = K (updO f d (.pointer (some (a.add 1)))) w := by
  rw [fld_ptrA f d w 53 1 (by rw [ty_fl_53_1]; rfl) a, ty_fl_53_1]; rfl
theorem fd_53_2 {K : Fr → World → Prop} {u : World} {f : Fr} {d : Option Nat} {w : World} (a : Addr) : Val1 Tryd.prog K (Instr.fieldAt 53 (.pointer (some a)) 2) u f d w = K (updO f d (.pointer (some (a.add 2)))) w := by
  rw [fld_ptr u f d w 53 2 (by rw [ty_fl_53_2]; rfl) a, ty_fl_53_2]; rfl
theorem fdA_53_2 {K : Fr → World → Prop} {f : Fr} {d : Option Nat} {w : World} (a : Addr) : ValA Tryd.prog K (Instr.fieldAt 53 (.pointer (some a)) 2) f d w = K (updO f d (.pointer (some (a.add 2)))) w := by
  rw [fld_ptrA f d w 53 2 (by rw [ty_fl_53_2]; rfl) a, ty_fl_53_2]; rfl
theorem ix_62 {K : Fr → World → Prop} {u : World} {f : Fr} {d : Option Nat} {w : World} (A : Option Addr) (hA : A.isSome = true) (n c : Nat) (k : IntKind) (i : Int) (h0 : 0 ≤ i) (h1 : i < n) : Val1 Tryd.prog K (Instr.indexAt 62 (.slice A n c) (.int k i)) u f d w = K (updO f d (.pointer (some (eA A (i.toNat * 1))))) w := by
  rw [idx_sl u f d w 62 (by rw [ty_sl_62]; rfl) A hA n c k i h0 h1, ty_sl_62]; rfl
theorem ln_62 {K : Fr → World → Prop} {u : World} {f : Fr} {d : Option Nat} {w : World} (ty : TypeId) (A : Option Addr) (n c : Nat) : Val1 Tryd.prog K (Builtin.len_ #[62] ty #[.slice A n c]) u f d w = K (updO f d (.int .i64 n)) w := len_sl u f d w ty 62 (by rw [ty_sl_62]; rfl) A n c
theorem ixA_62 {K : Fr → World → Prop} {f : Fr} {d : Option Nat} {w : World} (A : Option Addr) (hA : A.isSome = true) (n c : Nat) (k : IntKind) (i : Int) (h0 : 0 ≤ i) (h1 : i < n) : ValA Tryd.prog K (Instr.indexAt 62 (.slice A n c) (.int k i)) f d w = K (updO f d (.pointer (some (eA A (i.toNat * 1))))) w := by
  rw [idx_slA f d w 62 (by rw [ty_sl_62]; rfl) A hA n c k i h0 h1, ty_sl_62]; rfl
theorem fd_65_0 {K : Fr → World → Prop} {u : World} {f : Fr} {d : Option Nat} {w : World} (a : Addr) : Val1 Tryd.prog K (Instr.fieldAt 65 (.pointer (some a)) 0) u f d w = K (updO f d (.pointer (some (a.add 0)))) w := by
  rw [fld_ptr u f d w 65 0 (by rw [ty_fl_65_0]; rfl) a, ty_fl_65_0]; rfl
theorem fdA_65_0 {K : Fr → World → Prop} {f : Fr} {d : Option Nat} {w : World} (a : Addr) : ValA Tryd.prog K (Instr.fieldAt 65 (.pointer (some a)) 0) f d w = K (updO f d (.pointer (some (a.add 0)))) w := by
  rw [fld_ptrA f d w 65 0 (by rw [ty_fl_65_0]; rfl) a, ty_fl_65_0]; rfl
theorem fd_65_1 {K : Fr → World → Prop} {u : World} {f : Fr} {d : Option Nat} {w : World} (a : Addr) : Val1 Tryd.prog K (Instr.fieldAt 65 (.pointer (some a)) 1) u f d w = K (updO f d (.pointer (some (a.add 1)))) w := by
  rw [fld_ptr u f d w 65 1 (by rw [ty_fl_65_1]; rfl) a, ty_fl_65_1]; rfl
theorem fdA_65_1 {K : Fr → World → Prop} {f : Fr} {d : Option Nat} {w : World} (a : Addr) : ValA Tryd.prog K (Instr.fieldAt 65 (.pointer (some a)) 1) f d w = K (updO f d (.pointer (some (a.add 1)))) w := by
  rw [fld_ptrA f d w 65 1 (by rw [ty_fl_65_1]; rfl) a, ty_fl_65_1]; rfl
theorem fd_65_2 {K : Fr → World → Prop} {u : World} {f : Fr} {d : Option Nat} {w : World} (a : Addr) : Val1 Tryd.prog K (Instr.fieldAt 65 (.pointer (some a)) 2) u f d w = K (updO f d (.pointer (some (a.add 2)))) w := by
  rw [fld_ptr u f d w 65 2 (by rw [ty_fl_65_2]; rfl) a, ty_fl_65_2]; rfl
theorem fdA_65_2 {K : Fr → World → Prop} {f : Fr} {d : Option Nat} {w : World} (a : Addr) : ValA Tryd.prog K (Instr.fieldAt 65 (.pointer (some a)) 2) f d w = K (updO f d (.pointer (some (a.add 2)))) w := by
  rw [fld_ptrA f d w 65 2 (by rw [ty_fl_65_2]; rfl) a, ty_fl_65_2]; rfl
theorem fd_66_0 {K : Fr → World → Prop} {u : World} {f : Fr} {d : Option Nat} {w : World} (a : Addr) : Val1 Tryd.prog K (Instr.fieldAt 66 (.pointer (some a)) 0) u f d w = K (updO f d (.pointer (some (a.add 0)))) w := by
  rw [fld_ptr u f d w 66 0 (by rw [ty_fl_66_0]; rfl) a, ty_fl_66_0]; rfl
theorem fdA_66_0 {K : Fr → World → Prop} {f : Fr} {d : Option Nat} {w : World} (a : Addr) : ValA Tryd.prog K (Instr.fieldAt 66 (.pointer (some a)) 0) f d w = K (updO f d (.pointer (some (a.add 0)))) w := by
  rw [fld_ptrA f d w 66 0 (by rw [ty_fl_66_0]; rfl) a, ty_fl_66_0]; rfl
theorem fd_66_1 {K : Fr → World → Prop} {u : World} {f : Fr} {d : Option Nat} {w : World} (a : Addr) : Val1 Tryd.prog K (Instr.fieldAt 66 (.pointer (some a)) 1) u f d w = K (updO f d (.pointer (some (a.add 1)))) w := by
  rw [fld_ptr u f d w 66 1 (by rw [ty_fl_66_1]; rfl) a, ty_fl_66_1]; rfl
theorem fdA_66_1 {K : Fr → World → Prop} {f : Fr} {d : Option Nat} {w : World} (a : Addr) : ValA Tryd.prog K (Instr.fieldAt 66 (.pointer (some a)) 1) f d w = K (updO f d (.pointer (some (a.add 1)))) w := by
  rw [fld_ptrA f d w 66 1 (by rw [ty_fl_66_1]; rfl) a, ty_fl_66_1]; rfl
theorem fd_66_2 {K : Fr → World → Prop} {u : World} {f : Fr} {d : Option Nat} {w : World} (a : Addr) : Val1 Tryd.prog K (Instr.fieldAt 66 (.pointer (some a)) 2) u f d w = K (updO f d (.pointer (some (a.add 2)))) w := by
  rw [fld_ptr u f d w 66 2 (by rw [ty_fl_66_2]; rfl) a, ty_fl_66_2]; rfl
theorem fdA_66_2 {K : Fr → World → Prop} {f : Fr} {d : Option Nat} {w : World} (a : Addr) : ValA Tryd.prog K (Instr.fieldAt 66 (.pointer (some a)) 2) f d w = K (updO f d (.pointer (some (a.add 2)))) w := by
  rw [fld_ptrA f d w 66 2 (by rw [ty_fl_66_2]; rfl) a, ty_fl_66_2]; rfl
theorem ix_90 {K : Fr → World → Prop} {u : World} {f : Fr} {d : Option Nat} {w : World} (A : Option Addr) (hA : A.isSome = true) (n c : Nat) (k : IntKind) (i : Int) (h0 : 0 ≤ i) (h1 : i < n) : Val1 Tryd.prog K (Instr.indexAt 90 (.slice A n c) (.int k i)) u f d w = K (updO f d (.pointer (some (eA A (i.toNat * 1))))) w := by
  rw [idx_sl u f d w 90 (by rw [ty_sl_90]; rfl) A hA n c k i h0 h1, ty_sl_90]; rfl
theorem ln_90 {K : Fr → World → Prop} {u : World} {f : Fr} {d : Option Nat} {w : World} (ty : TypeId) (A : Option Addr) (n c : Nat) : Val1 Tryd.prog K (Builtin.len_ #[90] ty #[.slice A n c]) u f d w = K (updO f d (.int .i64 n)) w := len_sl u f d w ty 90 (by rw [ty_sl_90]; rfl) A n c
theorem ixA_90 {K : Fr → World → Prop} {f : Fr} {d : Option Nat} {w : World} (A : Option Addr) (hA : A.isSome = true) (n c : Nat) (k : IntKind) (i : Int) (h0 : 0 ≤ i) (h1 : i < n) : ValA Tryd.prog K (Instr.indexAt 90 (.slice A n c) (.int k i)) f d w = K (updO f d (.pointer (some (eA A (i.toNat * 1))))) w := by
  rw [idx_slA f d w 90 (by rw [ty_sl_90]; rfl) A hA n c k i h0 h1, ty_sl_90]; rfl
theorem fd_91_0 {K : Fr → World → Prop} {u : World} {f : Fr} {d : Option Nat} {w : World} (a : Addr) : Val1 Tryd.prog K (Instr.fieldAt 91 (.pointer (some a)) 0) u f d w = K (updO f d (.pointer (some (a.add 0)))) w := by
  rw [fld_ptr u f d w 91 0 (by rw [ty_fl_91_0]; rfl) a, ty_fl_91_0]; rfl
theorem fdA_91_0 {K : Fr → World → Prop} {f : Fr} {d : Option Nat} {w : World} (a : Addr) : ValA Tryd.prog K (Instr.fieldAt 91 (.pointer (some a)) 0) f d w = K (updO f d (.pointer (some (a.add 0)))) w := by
  rw [fld_ptrA f d w 91 0 (by rw [ty_fl_91_0]; rfl) a, ty_fl_91_0]; rfl
theorem fd_91_1 {K : Fr → World → Prop} {u : World} {f : Fr} {d : Option Nat} {w : World} (a : Addr) : Val1 Tryd.prog K (Instr.fieldAt 91 (.pointer (some a)) 1) u f d w = K (updO f d (.pointer (some (a.add 1)))) w := by
  rw [fld_ptr u f d w 91 1 (by rw [ty_fl_91_1]; rfl) a, ty_fl_91_1]; rfl
theorem fdA_91_1 {K : Fr → World → Prop} {f : Fr} {d : Option Nat} {w : World} (a : Addr) : ValA Tryd.prog K (Instr.fieldAt 91 (.pointer (some a)) 1) f d w = K (updO f d (.pointer (some (a.add 1)))) w := by
  rw [fld_ptrA f d w 91 1 (by rw [ty_fl_91_1]; rfl) a, ty_fl_91_1]; rfl
theorem fd_92_0 {K : Fr → World → Prop} {u : World} {f : Fr} {d : Option Nat} {w : World} (a : Addr) : Val1 Tryd.prog K (Instr.fieldAt 92 (.pointer (some a)) 0) u f d w = K (updO f d (.pointer (some (a.add 0)))) w := by
  rw [fld_ptr u f d w 92 0 (by rw [ty_fl_92_0]; rfl) a, ty_fl_92_0]; rfl
theorem fdA_92_0 {K : Fr → World → Prop} {f : Fr} {d : Option Nat} {w : World} (a : Addr) : ValA Tryd.prog K (Instr.fieldAt 92 (.pointer (some a)) 0) f d w = K (updO f d (.pointer (some (a.add 0)))) w := by
  rw [fld_ptrA f d w 92 0 (by rw [ty_fl_92_0]; rfl) a, ty_fl_92_0]; rfl
theorem fd_92_1 {K : Fr → World → Prop} {u : World} {f : Fr} {d : Option Nat} {w : World} (a : Addr) : Val1 Tryd.prog K (Instr.fieldAt 92 (.pointer (some a)) 1) u f d w = K (updO f d (.pointer (some (a.add 1)))) w := by
  rw [fld_ptr u f d w 92 1 (by rw [ty_fl_92_1]; rfl) a, ty_fl_92_1]; rfl
theorem fdA_92_1 {K : Fr → World → Prop} {f : Fr} {d : Option Nat} {w : World} (a : Addr) : ValA Tryd.prog K (Instr.fieldAt 92 (.pointer (some a)) 1) f d w = K (updO f d (.pointer (some (a.add 1)))) w := by
  rw [fld_ptrA f d w 92 1 (by rw [ty_fl_92_1]; rfl) a, ty_fl_92_1]; rfl
theorem fd_140_0 {K : Fr → World → Prop} {u : World} {f : Fr} {d : Option Nat} {w : World} (a : Addr) : Val1 Tryd.prog K (Instr.fieldAt 140 (.pointer (some a)) 0) u f d w = K (updO f d (.pointer (some (a.add 0)))) w := by
  rw [fld_ptr u f d w 140 0 (by rw [ty_fl_140_0]; rfl) a, ty_fl_140_0]; rfl
theorem fdA_140_0 {K : Fr → World → Prop} {f : Fr} {d : Option Nat} {w : World} (a : Addr) : ValA Tryd.prog K (Instr.fieldAt 140 (.pointer (some a)) 0) f d w = K (updO f d (.pointer (some (a.add 0)))) w := by
  rw [fld_ptrA f d w 140 0 (by rw [ty_fl_140_0]; rfl) a, ty_fl_140_0]; rfl
theorem fd_140_1 {K : Fr → World → Prop} {u : World} {f : Fr} {d : Option Nat} {w : World} (a : Addr) : Val1 Tryd.prog K (Instr.fieldAt 140 (.pointer (some a)) 1) u f d w = K (updO f d (.pointer (some (a.add 1)))) w := by
  rw [fld_ptr u f d w 140 1 (by rw [ty_fl_140_1]; rfl) a, ty_fl_140_1]; rfl
theorem fdA_140_1 {K : Fr → World → Prop} {f : Fr} {d : Option Nat} {w : World} (a : Addr) : ValA Tryd.prog K (Instr.fieldAt 140 (.pointer (some a)) 1) f d w = K (updO f d (.pointer (some (a.add 1)))) w := by
  rw [fld_ptrA f d w 140 1 (by rw [ty_fl_140_1]; rfl) a, ty_fl_140_1]; rfl
theorem fd_140_2 {K : Fr → World → Prop} {u : World} {f : Fr} {d : Option Nat} {w : World} (a : Addr) : Val1 Tryd.prog K (Instr.fieldAt 140 (.pointer (some a)) 2) u f d w = K (updO f d (.pointer (some (a.add 2)))) w := by
  rw [fld_ptr u f d w 140 2 (by rw [ty_fl_140_2]; rfl) a, ty_fl_140_2]; rfl
theorem fdA_140_2 {K : Fr → World → Prop} {f : Fr} {d : Option Nat} {w : World} (a : Addr) : ValA Tryd.prog K (Instr.fieldAt 140 (.pointer (some a)) 2) f d w = K (updO f d (.pointer (some (a.add 2)))) w := by
  rw [fld_ptrA f d w 140 2 (by rw [ty_fl_140_2]; rfl) a, ty_fl_140_2]; rfl
theorem fd_140_3 {K : Fr → World → Prop} {u : World} {f : Fr} {d : Option Nat} {w : World} (a : Addr) : Val1 Tryd.prog K (Instr.fieldAt 140 (.pointer (some a)) 3) u f d w = K (updO f d (.pointer (some (a.add 3)))) w := by
  rw [fld_ptr u f d w 140 3 (by rw [ty_fl_140_3]; rfl) a, ty_fl_140_3]; rfl
theorem fdA_140_3 {K : Fr → World → Prop} {f : Fr} {d : Option Nat} {w : World} (a : Addr) : ValA Tryd.prog K (Instr.fieldAt 140 (.pointer (some a)) 3) f d w = K (updO f d (.pointer (some (a.add 3)))) w := by
  rw [fld_ptrA f d w 140 3 (by rw [ty_fl_140_3]; rfl) a, ty_fl_140_3]; rfl
theorem fd_141_0 {K : Fr → World → Prop} {u : World} {f : Fr} {d : Option Nat} {w : World} (a : Addr) : Val1 Tryd.prog K (Instr.fieldAt 141 (.pointer (some a)) 0) u f d w = K (updO f d (.pointer (some (a.add 0)))) w := by
  rw [fld_ptr u f d w 141 0 (by rw [ty_fl_141_0]; rfl) a, ty_fl_141_0]; rfl
theorem fdA_141_0 {K : Fr → World → Prop} {f : Fr} {d : Option Nat} {w : World} (a : Addr) : ValA Tryd.prog K (Instr.fieldAt 141 (.pointer (some a)) 0) f d w = K (updO f d (.pointer (some (a.add 0)))) w := by
  rw [fld_ptrA f d w 141 0 (by rw [ty_fl_141_0]; rfl) a, ty_fl_141_0]; rfl
theorem fd_141_1 {K : Fr → World → Prop} {u : World} {f : Fr} {d : Option Nat} {w : World} (a : Addr) : Val1 Tryd.prog K (Instr.fieldAt 141 (.pointer (some a)) 1) u f d w = K (updO f d (.pointer (some (a.add 1)))) w := by
  rw [fld_ptr u f d w 141 1 (by rw [ty_fl_141_1]; rfl) a, ty_fl_141_1]; rfl
theorem fdA_141_1 {K : Fr → World → Prop} {f : Fr} {d : Option Nat} {w : World} (a : Addr) : ValA Tryd.prog K (Instr.fieldAt 141 (.pointer (some a)) 1) f d w = K (updO f d (.pointer (some (a.add 1)))) w := by
  rw [fld_ptrA f d w 141 1 (by rw [ty_fl_141_1]; rfl) a, ty_fl_141_1]; rfl
theorem fd_141_2 {K : Fr → World → Prop} {u : World} {f : Fr} {d : Option Nat} {w : World} (a : Addr) : Val1 Tryd.prog K (Instr.fieldAt 141 (.pointer (some a)) 2) u f d w = K (updO f d (.pointer (some (a.add 2)))) w := by
  rw [fld_ptr u f d w 141 2 (by rw [ty_fl_141_2]; rfl) a, ty_fl_141_2]; rfl
theorem fdA_141_2 {K : Fr → World → Prop} {f : Fr} {d : Option Nat} {w : World} (a : Addr) : ValA Tryd.prog K (Instr.fieldAt 141 (.pointer (some a)) 2) f d w = K (updO f d (.pointer (some (a.add 2)))) w := by
  rw [fld_ptrA f d w 141 2 (by rw [ty_fl_141_2]; rfl) a, ty_fl_141_2]; rfl
theorem fd_141_3 {K : Fr → World → Prop} {u : World} {f : Fr} {d : Option Nat} {w : World} (a : Addr) : Val1 Tryd.prog K (Instr.fieldAt 141 (.pointer (some a)) 3) u f d w = K (updO f d (.pointer (some (a.add 3)))) w := by
  rw [fld_ptr u f d w 141 3 (by rw [ty_fl_141_3]; rfl) a, ty_fl_141_3]; rfl
theorem fdA_141_3 {K : Fr → World → Prop} {f : Fr} {d : Option Nat} {w : World} (a : Addr) : ValA Tryd.prog K (Instr.fieldAt 141 (.pointer (some a)) 3) f d w = K (updO f d (.pointer (some (a.add 3)))) w := by
  rw [fld_ptrA f d w 141 3 (by rw [ty_fl_141_3]; rfl) a, ty_fl_141_3]; rfl
theorem ix_142 {K : Fr → World → Prop} {u : World} {f : Fr} {d : Option Nat} {w : World} (a : Addr) (k : IntKind) (i : Int) (h0 : 0 ≤ i) (h1 : i < 0) : Val1 Tryd.prog K (Instr.indexAt 142 (.pointer (some a)) (.int k i)) u f d w = K (updO f d (.pointer (some (a.add (i.toNat * 1))))) w := by
  rw [idx_arr u f d w 142 (by rw [ty_ar_142]; rfl) a k i h0 (by rw [ty_ar_142]; exact h1), ty_ar_142]; rfl
theorem ixA_142 {K : Fr → World → Prop} {f : Fr} {d : Option Nat} {w : World} (a : Addr) (k : IntKind) (i : Int) (h0 : 0 ≤ i) (h1 : i < 0) : ValA Tryd.prog K (Instr.indexAt 142 (.pointer (some a)) (.int k i)) f d w = K (updO f d (.pointer (some (a.add (i.toNat * 1))))) w := by
  rw [idx_arrA f d w 142 (by rw [ty_ar_142]; rfl) a k i h0 (by rw [ty_ar_142]; exact h1), ty_ar_142]; rfl
theorem fd_151_0 {K : Fr → World → Prop} {u : World} {f : Fr} {d : Option Nat} {w : World} (a : Addr) : Val1 Tryd.prog K (Instr.fieldAt 151 (.pointer (some a)) 0) u f d w = K (updO f d (.pointer (some (a.add 0)))) w := by
  rw [fld_ptr u f d w 151 0 (by rw [ty_fl_151_0]; rfl) a, ty_fl_151_0]; rfl
theorem fdA_151_0 {K : Fr → World → Prop} {f : Fr} {d : Option Nat} {w : World} (a : Addr) : ValA Tryd.prog K (Instr.fieldAt 151 (.pointer (some a)) 0) f d w = K (updO f d (.pointer (some (a.add 0)))) w := by
  rw [fld_ptrA f d w 151 0 (by rw [ty_fl_151_0]; rfl) a, ty_fl_151_0]; rfl
theorem fd_151_1 {K : Fr → World → Prop} {u : World} {f : Fr} {d : Option Nat} {w : World} (a : Addr) : Val1 Tryd.prog K (Instr.fieldAt 151 (.pointer (some a)) 1) u f d w = K (updO f d (.pointer (some (a.add 1)))) w := by
  rw [fld_ptr u f d w 151 1 (by rw [ty_fl_151_1]; rfl) a, ty_fl_151_1]; rfl
theorem fdA_151_1 {K : Fr → World → Prop} {f : Fr} {d : Option Nat} {w : World} (a : Addr) : ValA Tryd.prog K (Instr.fieldAt 151 (.pointer (some a)) 1) f d w = K (updO f d (.pointer (some (a.add 1)))) w := by
  rw [fld_ptrA f d w 151 1 (by rw [ty_fl_151_1]; rfl) a, ty_fl_151_1]; rfl
theorem fd_151_2 {K : Fr → World → Prop} {u : World} {f : Fr} {d : Option Nat} {w : World} (a : Addr) : Val1 Tryd.prog K (Instr.fieldAt 151 (.pointer (some a)) 2) u f d w = K (updO f d (.pointer (some (a.add 2)))) w := by
  rw [fld_ptr u f d w 151 2 (by rw [ty_fl_151_2]; rfl) a, ty_fl_151_2]; rfl
theorem fdA_151_2 {K : Fr → World → Prop} {f : Fr} {d : Option Nat} {w : World} (a : Addr) : ValA Tryd.prog K (Instr.fieldAt 151 (.pointer (some a)) 2) f d w = K (updO f d (.pointer (some (a.add 2)))) w := by
  rw [fld_ptrA f d w 151 2 (by rw [ty_fl_151_2]; rfl) a, ty_fl_151_2]; rfl
theorem fd_151_3 {K : Fr → World → Prop} {u : World} {f : Fr} {d : Option Nat} {w : World} (a : Addr) : Val1 Tryd.prog K (Instr.fieldAt 151 (.pointer (some a)) 3) u f d w = K (updO f d (.pointer (some (a.add 3)))) w := by
  rw [fld_ptr u f d w 151 3 (by rw [ty_fl_151_3]; rfl) a, ty_fl_151_3]; rfl
theorem fdA_151_3 {K : Fr → World → Prop} {f : Fr} {d : Option Nat} {w : World} (a : Addr) : ValA Tryd.prog K (Instr.fieldAt 151 (.pointer (some a)) 3) f d w = K (updO f d (.pointer (some (a.add 3)))) w := by
  rw [fld_ptrA f d w 151 3 (by rw [ty_fl_151_3]; rfl) a, ty_fl_151_3]; rfl
theorem fd_151_4 {K : Fr → World → Prop} {u : World} {f : Fr} {d : Option Nat} {w : World} (a : Addr) : Val1 Tryd.prog K (Instr.fieldAt 151 (.pointer (some a)) 4) u f d w = K (updO f d (.pointer (some (a.add 4)))) w := by
  rw [fld_ptr u f d w 151 4 (by rw [ty_fl_151_4]; rfl) a, ty_fl_151_4]; rfl
theorem fdA_151_4 {K : Fr → World → Prop} {f : Fr} {d : Option Nat} {w : World} (a : Addr) : ValA Tryd.prog K (Instr.fieldAt 151 (.pointer (some a)) 4) f d w = K (updO f d (.pointer (some (a.add 4)))) w := by
  rw [fld_ptrA f d w 151 4 (by rw [ty_fl_151_4]; rfl) a, ty_fl_151_4]; rfl
theorem fd_151_5 {K : Fr → World → Prop} {u : World} {f : Fr} {d : Option Nat} {w : World} (a : Addr) : Val1 Tryd.prog K (Instr.fieldAt 151 (.pointer (some a)) 5) u f d w = K (updO f d (.pointer (some (a.add 5)))) w := by
  rw [fld_ptr u f d w 151 5 (by rw [ty_fl_151_5]; rfl) a, ty_fl_151_5]; rfl
theorem fdA_151_5 {K : Fr → World → Prop} {f : Fr} {d : Option Nat} {w : World} (a : Addr) : ValA Tryd.prog K (Instr.fieldAt 151 (.pointer (some a)) 5) f d w = K (updO f d (.pointer (some (a.add 5)))) w := by
  rw [fld_ptrA f d w 151 5 (by rw [ty_fl_151_5]; rfl) a, ty_fl_151_5]; rfl
theorem fd_151_6 {K : Fr → World → Prop} {u : World} {f : Fr} {d : Option Nat} {w : World} (a : Addr) : Val1 Tryd.prog K (Instr.fieldAt 151 (.pointer (some a)) 6) u f d w = K (updO f d (.pointer (some (a.add 6)))) w := by
  rw [fld_ptr u f d w 151 6 (by rw [ty_fl_151_6]; rfl) a, ty_fl_151_6]; rfl
theorem fdA_151_6 {K : Fr → World → Prop} {f : Fr} {d : Option Nat} {w : World} (a : Addr) : ValA Tryd.prog K (Instr.fieldAt 151 (.pointer (some a)) 6) f d w = K (updO f d (.pointer (some (a.add 6)))) w := by
  rw [fld_ptrA f d w 151 6 (by rw [ty_fl_151_6]; rfl) a, ty_fl_151_6]; rfl
theorem fd_151_7 {K : Fr → World → Prop} {u : World} {f : Fr} {d : Option Nat} {w : World} (a : Addr) : Val1 Tryd.prog K (Instr.fieldAt 151 (.pointer (some a)) 7) u f d w = K (updO f d (.pointer (some (a.add 7)))) w := by
  rw [fld_ptr u f d w 151 7 (by rw [ty_fl_151_7]; rfl) a, ty_fl_151_7]; rfl
theorem fdA_151_7 {K : Fr → World → Prop} {f : Fr} {d : Option Nat} {w : World} (a : Addr) : ValA Tryd.prog K (Instr.fieldAt 151 (.pointer (some a)) 7) f d w = K (updO f d (.pointer (some (a.add 7)))) w := by
  rw [fld_ptrA f d w 151 7 (by rw [ty_fl_151_7]; rfl) a, ty_fl_151_7]; rfl
theorem fd_151_8 {K : Fr → World → Prop} {u : World} {f : Fr} {d : Option Nat} {w : World} (a : Addr) : Val1 Tryd.prog K (Instr.fieldAt 151 (.pointer (some a)) 8) u f d w = K (updO f d (.pointer (some (a.add 8)))) w := by
  rw [fld_ptr u f d w 151 8 (by rw [ty_fl_151_8]; rfl) a, ty_fl_151_8]; rfl
theorem fdA_151_8 {K : Fr → World → Prop} {f : Fr} {d : Option Nat} {w : World} (a : Addr) : ValA Tryd.prog K (Instr.fieldAt 151 (.pointer (some a)) 8) f d w = K (updO f d (.pointer (some (a.add 8)))) w := by
  rw [fld_ptrA f d w 151 8 (by rw [ty_fl_151_8]; rfl) a, ty_fl_151_8]; rfl
theorem fd_151_9 {K : Fr → World → Prop} {u : World} {f : Fr} {d : Option Nat} {w : World} (a : Addr) : Val1 Tryd.prog K (Instr.fieldAt 151 (.pointer (some a)) 9) u f d w = K (updO f d (.pointer (some (a.add 9)))) w := by
  rw [fld_ptr u f d w 151 9 (by rw [ty_fl_151_9]; rfl) a, ty_fl_151_9]; rfl
theorem fdA_151_9 {K : Fr → World → Prop} {f : Fr} {d : Option Nat} {w : World} (a : Addr) : ValA Tryd.prog K (Instr.fieldAt 151 (.pointer (some a)) 9) f d w = K (updO f d (.pointer (some (a.add 9)))) w := by
  rw [fld_ptrA f d w 151 9 (by rw [ty_fl_151_9]; rfl) a, ty_fl_151_9]; rfl
theorem fd_151_10 {K : Fr → World → Prop} {u : World} {f : Fr} {d : Option Nat} {w : World} (a : Addr) : Val1 Tryd.prog K (Instr.fieldAt 151 (.pointer (some a)) 10) u f d w = K (updO f d (.pointer (some (a.add 10)))) w := by
  rw [fld_ptr u f d w 151 10 (by rw [ty_fl_151_10]; rfl) a, ty_fl_151_10]; rfl
theorem fdA_151_10 {K : Fr → World → Prop} {f : Fr} {d : Option Nat} {w : World} (a : Addr) : ValA Tryd.prog K (Instr.fieldAt 151 (.pointer (some a)) 10) f d w = K (updO f d (.pointer (some (a.add 10)))) w := by
  rw [fld_ptrA f d w 151 10 (by rw [ty_fl_151_10]; rfl) a, ty_fl_151_10]; rfl
theorem fd_152_0 {K : Fr → World → Prop} {u : World} {f : Fr} {d : Option Nat} {w : World} (a : Addr) : Val1 Tryd.prog K (Instr.fieldAt 152 (.pointer (some a)) 0) u f d w = K (updO f d (.pointer (some (a.add 0)))) w := by
  rw [fld_ptr u f d w 152 0 (by rw [ty_fl_152_0]; rfl) a, ty_fl_152_0]; rfl
theorem fdA_152_0 {K : Fr → World → Prop} {f : Fr} {d : Option Nat} {w : World} (a : Addr) : ValA Tryd.prog K (Instr.fieldAt 152 (.pointer (some a)) 0) f d w = K (updO f d (.pointer (some (a.add 0)))) w := by
  rw [fld_ptrA f d w 152 0 (by rw [ty_fl_152_0]; rfl) a, ty_fl_152_0]; rfl
theorem fd_152_1 {K : Fr → World → Prop} {u : World} {f : Fr} {d : Option Nat} {w : World} (a : Addr) : Val1 Tryd.prog K (Instr.fieldAt 152 (.pointer (some a)) 1) u f d w = K (updO f d (.pointer (some (a.add 1)))) w := by
  rw [fld_ptr u f d w 152 1 (by rw [ty_fl_152_1]; rfl) a, ty_fl_152_1]; rfl
theorem fdA_152_1 {K : Fr → World → Prop} {f : Fr} {d : Option Nat} {w : World} (a : Addr) : ValA Tryd.prog K (Instr.fieldAt 152 (.pointer (some a)) 1) f d w = K (updO f d (.pointer (some (a.add 1)))) w := by
  rw [fld_ptrA f d w 152 1 (by rw [ty_fl_152_1]; rfl) a, ty_fl_152_1]; rfl
theorem fd_152_2 {K : Fr → World → Prop} {u : World} {f : Fr} {d : Option Nat} {w : World} (a : Addr) : Val1 Tryd.prog K (Instr.fieldAt 152 (.pointer (some a)) 2) u f d w = K (updO f d (.pointer (some (a.add 2)))) w := by
  rw [fld_ptr u f d w 152 2 (by rw [ty_fl_152_2]; rfl) a, ty_fl_152_2]; rfl
theorem fdA_152_2 {K : Fr → World → Prop} {f : Fr} {d : Option Nat} {w : World} (a : Addr) : ValA Tryd.prog K (Instr.fieldAt 152 (.pointer (some a)) 2) f d w = K (updO f d (.pointer (some (a.add 2)))) w := by
  rw [fld_ptrA f d w 152 2 (by rw [ty_fl_152_2]; rfl) a, ty_fl_152_2]; rfl
theorem fd_152_3 {K : Fr → World → Prop} {u : World} {f : Fr} {d : Option Nat} {w : World} (a : Addr) : Val1 Tryd.prog K (Instr.fieldAt 152 (.pointer (some a)) 3) u f d w = K (updO f d (.pointer (some (a.add 3)))) w := by
  rw [fld_ptr u f d w 152 3 (by rw [ty_fl_152_3]; rfl) a, ty_fl_152_3]; rfl
theorem fdA_152_3 {K : Fr → World → Prop} {f : Fr} {d : Option Nat} {w : World} (a : Addr) : ValA Tryd.prog K (Instr.fieldAt 152 (.pointer (some a)) 3) f d w = K (updO f d (.pointer (some (a.add 3)))) w := by
  rw [fld_ptrA f d w 152 3 (by rw [ty_fl_152_3]; rfl) a, ty_fl_152_3]; rfl
theorem fd_152_4 {K : Fr → World → Prop} {u : World} {f : Fr} {d : Option Nat} {w : World} (a : Addr) : Val1 Tryd.prog K (Instr.fieldAt 152 (.pointer (some a)) 4) u f d w = K (updO f d (.pointer (some (a.add 4)))) w := by
  rw [fld_ptr u f d w 152 4 (by rw [ty_fl_152_4]; rfl) a, ty_fl_152_4]; rfl
theorem fdA_152_4 {K : Fr → World → Prop} {f : Fr} {d : Option Nat} {w : World} (a : Addr) : ValA Tryd.prog K (Instr.fieldAt 152 (.pointer (some a)) 4) f d w = K (updO f d (.pointer (some (a.add 4)))) w := by
  rw [fld_ptrA f d w 152 4 (by rw [ty_fl_152_4]; rfl) a, ty_fl_152_4]; rfl
theorem fd_152_5 {K : Fr → World → Prop} {u : World} {f : Fr} {d : Option Nat} {w : World} (a : Addr) : Val1 Tryd.prog K (Instr.fieldAt 152 (.pointer (some a)) 5) u f d w = K (updO f d (.pointer (some (a.add 5)))) w := by
  rw [fld_ptr u f d w 152 5 (by rw [ty_fl_152_5]; rfl) a, ty_fl_152_5]; rfl
theorem fdA_152_5 {K : Fr → World → Prop} {f : Fr} {d : Option Nat} {w : World} (a : Addr) : ValA Tryd.prog K (Instr.fieldAt 152 (.pointer (some a)) 5) f d w = K (updO f d (.pointer (some (a.add 5)))) w := by
  rw [fld_ptrA f d w 152 5 (by rw [ty_fl_152_5]; rfl) a, ty_fl_152_5]; rfl
theorem fd_152_6 {K : Fr → World → Prop} {u : World} {f : Fr} {d : Option Nat} {w : World} (a : Addr) : Val1 Tryd.prog K (Instr.fieldAt 152 (.pointer (some a)) 6) u f d w = K (updO f d (.pointer (some (a.add 6)))) w := by
  rw [fld_ptr u f d w 152 6 (by rw [ty_fl_152_6]; rfl) a, ty_fl_152_6]; rfl
theorem fdA_152_6 {K : Fr → World → Prop} {f : Fr} {d : Option Nat} {w : World} (a : Addr) : ValA Tryd.prog K (Instr.fieldAt 152 (.pointer (some a)) 6) f d w = K (updO f d (.pointer (some (a.add 6)))) w := by
  rw [fld_ptrA f d w 152 6 (by rw [ty_fl_152_6]; rfl) a, ty_fl_152_6]; rfl
theorem fd_152_7 {K : Fr → World → Prop} {u : World} {f : Fr} {d : Option Nat} {w : World} (a : Addr) : Val1 Tryd.prog K (Instr.fieldAt 152 (.pointer (some a)) 7) u f d w = K (updO f d (.pointer (some (a.add 7)))) w := by
  rw [fld_ptr u f d w 152 7 (by rw [ty_fl_152_7]; rfl) a, ty_fl_152_7]; rfl
theorem fdA_152_7 {K : Fr → World → Prop} {f : Fr} {d : Option Nat} {w : World} (a : Addr) : ValA Tryd.prog K (Instr.fieldAt 152 (.pointer (some a)) 7) f d w = K (updO f d (.pointer (some (a.add 7)))) w := by
  rw [fld_ptrA f d w 152 7 (by rw [ty_fl_152_7]; rfl) a, ty_fl_152_7]; rfl
theorem fd_152_8 {K : Fr → World → Prop} {u : World} {f : Fr} {d : Option Nat} {w : World} (a : Addr) : Val1 Tryd.prog K (Instr.fieldAt 152 (.pointer (some a)) 8) u f d w = K (updO f d (.pointer (some (a.add 8)))) w := by
  rw [fld_ptr u f d w 152 8 (by rw [ty_fl_152_8]; rfl) a, ty_fl_152_8]; rfl
theorem fdA_152_8 {K : Fr → World → Prop} {f : Fr} {d : Option Nat} {w : World} (a : Addr) : ValA Tryd.prog K (Instr.fieldAt 152 (.pointer (some a)) 8) f d w = K (updO f d (.pointer (some (a.add 8)))) w := by
  rw [fld_ptrA f d w 152 8 (by rw [ty_fl_152_8]; rfl) a, ty_fl_152_8]; rfl
theorem fd_152_9 {K : Fr → World → Prop} {u : World} {f : Fr} {d : Option Nat} {w : World} (a : Addr) : Val1 Tryd.prog K (Instr.fieldAt 152 (.pointer (some a)) 9) u f d w = K (updO f d (.pointer (some (a.add 9)))) w := by
  rw [fld_ptr u f d w 152 9 (by rw [ty_fl_152_9]; rfl) a, ty_fl_152_9]; rfl
theorem fdA_152_9 {K : Fr → World → Prop} {f : Fr} {d : Option Nat} {w : World} (a : Addr) : ValA Tryd.prog K (Instr.fieldAt 152 (.pointer (some a)) 9) f d w = K (updO f d (.pointer (some (a.add 9)))) w := by
  rw [fld_ptrA f d w 152 9 (by rw [ty_fl_152_9]; rfl) a, ty_fl_152_9]; rfl
theorem fd_152_10 {K : Fr → World → Prop} {u : World} {f : Fr} {d : Option Nat} {w : World} (a : Addr) : Val1 Tryd.prog K (Instr.fieldAt 152 (.pointer (some a)) 10) u f d w = K (updO f d (.pointer (some (a.add 10)))) w := by
  rw [fld_ptr u f d w 152 10 (by rw [ty_fl_152_10]; rfl) a, ty_fl_152_10]; rfl
theorem fdA_152_10 {K : Fr → World → Prop} {f : Fr} {d : Option Nat} {w : World} (a : Addr) : ValA Tryd.prog K (Instr.fieldAt 152 (.pointer (some a)) 10) f d w = K (updO f d (.pointer (some (a.add 10)))) w := by
  rw [fld_ptrA f d w 152 10 (by rw [ty_fl_152_10]; rfl) a, ty_fl_152_10]; rfl
theorem eqb_4 {K : Fr → World → Prop} {u : World} {f : Fr} {d : Option Nat} {w : World} (xo yo : Operand) (a b : Bool) : Val1 Tryd.prog K (binS .eql 4 xo yo (.bool a) (.bool b)) u f d w = K (updO f d (.bool (a == b))) w := bin_eqb u f d w 4 xo yo (by kernel_rfl) a b
theorem neb_4 {K : Fr → World → Prop} {u : World} {f : Fr} {d : Option Nat} {w : World} (xo yo : Operand) (a b : Bool) : Val1 Tryd.prog K (binS .neq 4 xo yo (.bool a) (.bool b)) u f d w = K (updO f d (.bool (a != b))) w := bin_neb u f d w 4 xo yo (by kernel_rfl) a b
theorem slT_22 : SlT Tryd.prog 22 9 1 16 := ⟨by kernel_rfl, by kernel_rfl, by decide⟩
theorem bs_22 {K : Fr → World → Prop} {f : Fr} {d : Option Nat} {w : World} (s : ByteArray) : Eff1 Tryd.prog K (Instr.buildSlice 22 1 #[(0, .string s)]) f d w = K (updO f d (.slice (some ⟨w.heap.size, 0, none⟩) 1 1)) (w.alloc (.cells [.string s].toArray 9)) := bsl1_eq slT_22 _ rfl (by decide)
theorem bs0_22 {K : Fr → World → Prop} {f : Fr} {d : Option Nat} {w : World} : Eff1 Tryd.prog K (Instr.buildSlice 22 0 #[]) f d w = K (updO f d (.slice (some ⟨w.heap.size, 0, none⟩) 0 0)) (w.alloc (.cells [].toArray 9)) := bsl0_eq slT_22
theorem al_22 {K : Fr → World → Prop} {f : Fr} {d : Option Nat} {w : World} : Eff1 Tryd.prog K (Instr.alloc 22 true (.tuple #[])) f d w = K (updO f d (.pointer (some ⟨w.heap.size, 0, none⟩))) (w.alloc (.cells [.slice none 0 0].toArray 22)) := alloc_eq 22 (.slice none 0 0) (by kernel_rfl)
theorem slT_23 : SlT Tryd.prog 23 3 1 8 := ⟨by kernel_rfl, by kernel_rfl, by decide⟩
theorem bs_23 {K : Fr → World → Prop} {f : Fr} {d : Option Nat} {w : World} (n : Int) : Eff1 Tryd.prog K (Instr.buildSlice 23 1 #[(0, .int .i64 n)]) f d w = K (updO f d (.slice (some ⟨w.heap.size, 0, none⟩) 1 1)) (w.alloc (.cells [.int .i64 n].toArray 3)) := bsl1_eq slT_23 _ rfl (by decide)
theorem bs0_23 {K : Fr → World → Prop} {f : Fr} {d : Option Nat} {w : World} : Eff1 Tryd.prog K (Instr.buildSlice 23 0 #[]) f d w = K (updO f d (.slice (some ⟨w.heap.size, 0, none⟩) 0 0)) (w.alloc (.cells [].toArray 3)) := bsl0_eq slT_23
theorem slT_24 : SlT Tryd.prog 24 66 3 24 := ⟨by kernel_rfl, by kernel_rfl, by decide⟩
theorem bs_24 {K : Fr → World → Prop} {f : Fr} {d : Option Nat} {w : World} (x0 x1 x2 : Value) : Eff1 Tryd.prog K (Instr.buildSlice 24 1 #[(0, .agg #[x0, x1, x2])]) f d w = K (updO f d (.slice (some ⟨w.heap.size, 0, none⟩) 1 1)) (w.alloc (.cells [x0, x1, x2].toArray 66)) := bsl1_eq slT_24 _ rfl (by decide)
theorem bs0_24 {K : Fr → World → Prop} {f : Fr} {d : Option Nat} {w : World} : Eff1 Tryd.prog K (Instr.buildSlice 24 0 #[]) f d w = K (updO f d (.slice (some ⟨w.heap.size, 0, none⟩) 0 0)) (w.alloc (.cells [].toArray 66)) := bsl0_eq slT_24
theorem al_26 {K : Fr → World → Prop} {f : Fr} {d : Option Nat} {w : World} : Eff1 Tryd.prog K (Instr.alloc 26 true (.tuple #[])) f d w = K (updO f d (.pointer (some ⟨w.heap.size, 0, none⟩))) (w.alloc (.cells [.int .i64 0, .int .i64 0, .slice none 0 0, .slice none 0 0, .slice none 0 0].toArray 26)) := alloc_eq 26 (.agg #[.int .i64 0, .int .i64 0, .slice none 0 0, .slice none 0 0, .slice none 0 0]) (by kernel_rfl)
theorem al_28 {K : Fr → World → Prop} {f : Fr} {d : Option Nat} {w : World} : Eff1 Tryd.prog K (Instr.alloc 28 true (.tuple #[])) f d w = K (updO f d (.pointer (some ⟨w.heap.size, 0, none⟩))) (w.alloc (.cells [.slice none 0 0, .slice none 0 0, .int .i64 0, .int .i64 0, .slice none 0 0, .slice none 0 0, .slice none 0 0, .slice none 0 0, .slice none 0 0, .slice none 0 0, .slice none 0 0].toArray 28)) := alloc_eq 28 (.agg #[.slice none 0 0, .slice none 0 0, .int .i64 0, .int .i64 0, .slice none 0 0, .slice none 0 0, .slice none 0 0, .slice none 0 0, .slice none 0 0, .slice none 0 0, .slice none 0 0]) (by kernel_rfl)
theorem al_31 {K : Fr → World → Prop} {f : Fr} {d : Option Nat} {w : World} : Eff1 Tryd.prog K (Instr.alloc 31 true (.tuple #[])) f d w = K (updO f d (.pointer (some ⟨w.heap.size, 0, none⟩))) (w.alloc (.cells [.int .i64 0, .int .i64 0].toArray 31)) := alloc_eq 31 (.agg #[.int .i64 0, .int .i64 0]) (by kernel_rfl)
theorem al_41 {K : Fr → World → Prop} {f : Fr} {d : Option Nat} {w : World} : Eff1 Tryd.prog K (Instr.alloc 41 true (.tuple #[])) f d w = K (updO f d (.pointer (some ⟨w.heap.size, 0, none⟩))) (w.alloc (.cells [.int .i64 0, .int .i64 0].toArray 41)) := alloc_eq 41 (.agg #[.int .i64 0, .int .i64 0]) (by kernel_rfl)
theorem slT_45 : SlT Tryd.prog 45 53 3 32 := ⟨by kernel_rfl, by kernel_rfl, by decide⟩
theorem bs_45 {K : Fr → World → Prop} {f : Fr} {d : Option Nat} {w : World} (x0 x1 x2 : Value) : Eff1 Tryd.prog K (Instr.buildSlice 45 1 #[(0, .agg #[x0, x1, x2])]) f d w = K (updO f d (.slice (some ⟨w.heap.size, 0, none⟩) 1 1)) (w.alloc (.cells [x0, x1, x2].toArray 53)) := bsl1_eq slT_45 _ rfl (by decide)
theorem bs0_45 {K : Fr → World → Prop} {f : Fr} {d : Option Nat} {w : World} : Eff1 Tryd.prog K (Instr.buildSlice 45 0 #[]) f d w = K (updO f d (.slice (some ⟨w.heap.size, 0, none⟩) 0 0)) (w.alloc (.cells [].toArray 53)) := bsl0_eq slT_45
theorem al_47 {K : Fr → World → Prop} {f : Fr} {d : Option Nat} {w : World} : Eff1 Tryd.prog K (Instr.alloc 47 true (.tuple #[])) f d w = K (updO f d (.pointer (some ⟨w.heap.size, 0, none⟩))) (w.alloc (.cells [.slice none 0 0, .slice none 0 0, .slice none 0 0, .slice none 0 0, .slice none 0 0, .slice none 0 0, .slice none 0 0, .slice none 0 0, .slice none 0 0].toArray 47)) := alloc_eq 47 (.agg #[.slice none 0 0, .slice none 0 0, .slice none 0 0, .slice none 0 0, .slice none 0 0, .slice none 0 0, .slice none 0 0, .slice none 0 0, .slice none 0 0]) (by kernel_rfl)
theorem al_53 {K : Fr → World → Prop} {f : Fr} {d : Option Nat} {w : World} : Eff1 Tryd.prog K (Instr.alloc 53 true (.tuple #[])) f d w = K (updO f d (.pointer (some ⟨w.heap.size, 0, none⟩))) (w.alloc (.cells [.int .i64 0, .string ByteArray.empty, .int .i64 0].toArray 53)) := alloc_eq 53 (.agg #[.int .i64 0, .string ByteArray.empty, .int .i64 0]) (by kernel_rfl)
theorem slT_62 : SlT Tryd.prog 62 23 1 24 := ⟨by kernel_rfl, by kernel_rfl, by decide⟩
theorem bs_62 {K : Fr → World → Prop} {f : Fr} {d : Option Nat} {w : World} (A : Option Addr) (n c : Nat) : Eff1 Tryd.prog K (Instr.buildSlice 62 1 #[(0, .slice A n c)]) f d w = K (updO f d (.slice (some ⟨w.heap.size, 0, none⟩) 1 1)) (w.alloc (.cells [.slice A n c].toArray 23)) := bsl1_eq slT_62 _ rfl (by decide)
theorem bs0_62 {K : Fr → World → Prop} {f : Fr} {d : Option Nat} {w : World} : Eff1 Tryd.prog K (Instr.buildSlice 62 0 #[]) f d w = K (updO f d (.slice (some ⟨w.heap.size, 0, none⟩) 0 0)) (w.alloc (.cells [].toArray 23)) := bsl0_eq slT_62
theorem al_66 {K : Fr → World → Prop} {f : Fr} {d : Option Nat} {w : World} : Eff1 Tryd.prog K (Instr.alloc 66 true (.tuple #[])) f d w = K (updO f d (.pointer (some ⟨w.heap.size, 0, none⟩))) (w.alloc (.cells [.int .i64 0, .int .i64 0, .int .i64 0].toArray 66)) := alloc_eq 66 (.agg #[.int .i64 0, .int .i64 0, .int .i64 0]) (by kernel_rfl)
theorem slT_90 : SlT Tryd.prog 90 5 1 1 := ⟨by kernel_rfl, by kernel_rfl, by decide⟩
theorem bs_90 {K : Fr → World → Prop} {f : Fr} {d : Option Nat} {w : World} (n : Int) : Eff1 Tryd.prog K (Instr.buildSlice 90 1 #[(0, .int .u8 n)]) f d w = K (updO f d (.slice (some ⟨w.heap.size, 0, none⟩) 1 1)) (w.alloc (.cells [.int .u8 n].toArray 5)) := bsl1_eq slT_90 _ rfl (by decide)
theorem bs0_90 {K : Fr → World → Prop} {f : Fr} {d : Option Nat} {w : World} : Eff1 Tryd.prog K (Instr.buildSlice 90 0 #[]) f d w = K (updO f d (.slice (some ⟨w.heap.size, 0, none⟩) 0 0)) (w.alloc (.cells [].toArray 5)) := bsl0_eq slT_90
attribute [push_cast] fd_7_0 fdA_7_0 fd_7_1 fdA_7_1 fd_7_2 fdA_7_2 fd_7_3 fdA_7_3 fd_8_0 fdA_8_0 fd_8_1 fdA_8_1 fd_8_2 fdA_8_2 fd_8_3 fdA_8_3 fd_13_0 fdA_13_0 fd_13_1 fdA_13_1 fd_14_0 fdA_14_0 fd_14_1 fdA_14_1 fd_18_0 fdA_18_0 fd_19_0 fdA_19_0 ix_22 ln_22 ixA_22 ix_23 ln_23 ixA_23 ix_24 ln_24 ixA_24 fd_25_0 fdA_25_0 fd_25_1 fdA_25_1 fd_25_2 fdA_25_2 fd_25_3 fdA_25_3 fd_25_4 fdA_25_4 fd_26_0 fdA_26_0 fd_26_1 fdA_26_1 fd_26_2 fdA_26_2 fd_26_3 fdA_26_3 fd_26_4 fdA_26_4 fd_27_0 fdA_27_0 fd_27_1 fdA_27_1 fd_27_2 fdA_27_2 fd_27_3 fdA_27_3 fd_27_4 fdA_27_4 fd_27_5 fdA_27_5 fd_27_6 fdA_27_6 fd_28_0 fdA_28_0 fd_28_1 fdA_28_1 fd_28_2 fdA_28_2 fd_28_3 fdA_28_3 fd_28_4 fdA_28_4 fd_28_5 fdA_28_5 fd_28_6 fdA_28_6 fd_30_0 fdA_30_0 fd_30_1 fdA_30_1 fd_31_0 fdA_31_0 fd_31_1 fdA_31_1 fd_40_0 fdA_40_0 fd_41_0 fdA_41_0 ix_45 ln_45 ixA_45 ix_47 ixA_47 fd_48_0 fdA_48_0 fd_48_1 fdA_48_1 fd_48_2 fdA_48_2 fd_48_3 fdA_48_3 fd_48_4 fdA_48_4 fd_49_0 fdA_49_0 fd_49_1 fdA_49_1 fd_49_2 fdA_49_2 fd_49_3 fdA_49_3 fd_49_4 fdA_49_4 ix_50 ixA_50 fd_52_0 fdA_52_0 fd_52_1 fdA_52_1 fd_52_2 fdA_52_2 fd_53_0 fdA_53_0 fd_53_1 fdA_53_1 fd_53_2 fdA_53_2 ix_62 ln_62 ixA_62 fd_65_0 fdA_65_0 fd_65_1 fdA_65_1 fd_65_2 fdA_65_2 fd_66_0 fdA_66_0 fd_66_1 fdA_66_1 fd_66_2 fdA_66_2 ix_90 ln_90 ixA_90 fd_91_0 fdA_91_0 fd_91_1 fdA_91_1 fd_92_0 fdA_92_0 fd_92_1 fdA_92_1 fd_140_0 fdA_140_0 fd_140_1 fdA_140_1 fd_140_2 fdA_140_2 fd_140_3 fdA_140_3 fd_141_0 fdA_141_0 fd_141_1 fdA_141_1 fd_141_2 fdA_141_2 fd_141_3 fdA_141_3 ix_142 ixA_142 fd_151_0 fdA_151_0 fd_151_1 fdA_151_1 fd_151_2 fdA_151_2 fd_151_3 fdA_151_3 fd_151_4 fdA_151_4 fd_151_5 fdA_151_5 fd_151_6 fdA_151_6 fd_151_7 fdA_151_7 fd_151_8 fdA_151_8 fd_151_9 fdA_151_9 fd_151_10 fdA_151_10 fd_152_0 fdA_152_0 fd_152_1 fdA_152_1 fd_152_2 fdA_152_2 fd_152_3 fdA_152_3 fd_152_4 fdA_152_4 fd_152_5 fdA_152_5 fd_152_6 fdA_152_6 fd_152_7 fdA_152_7 fd_152_8 fdA_152_8 fd_152_9 fdA_152_9 fd_152_10 fdA_152_10 eqb_4 neb_4 bs_22 bs0_22 bs_23 bs0_23 bs_24 bs0_24 bs_45 bs0_45 bs_62 bs0_62 bs_90 bs0_90
end Go.Proofs.YtpinjiikiaakaaaDoor
