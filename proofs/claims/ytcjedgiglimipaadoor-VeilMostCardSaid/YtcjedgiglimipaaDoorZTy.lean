/-
  Closed facts on the seat's types (by program: tygen.py).
-/
import Derived.Test.YtcjedgiglimipaaDoorProg
import Derived.Test.YtcjedgiglimipaaDoorZLaws
import Derived.KernelRfl
namespace Go.Proofs.YtcjedgiglimipaaDoor
theorem ty_ag_3 : tyAgg Tryd.prog 3 = some false := by kernel_rfl
theorem ty_sz_int : tySize Tryd.prog 3 = some 1 := by kernel_rfl
theorem ty_ag_5 : tyAgg Tryd.prog 5 = some false := by kernel_rfl
theorem ty_fl_7_0 : tyFld Tryd.prog 7 0 = some 0 := by kernel_rfl
theorem ty_fl_7_1 : tyFld Tryd.prog 7 1 = some 1 := by kernel_rfl
theorem ty_fl_7_2 : tyFld Tryd.prog 7 2 = some 2 := by kernel_rfl
theorem ty_fl_7_3 : tyFld Tryd.prog 7 3 = some 3 := by kernel_rfl
theorem ty_fl_8_0 : tyFld Tryd.prog 8 0 = some 0 := by kernel_rfl
theorem ty_fl_8_1 : tyFld Tryd.prog 8 1 = some 1 := by kernel_rfl
theorem ty_fl_8_2 : tyFld Tryd.prog 8 2 = some 2 := by kernel_rfl
theorem ty_fl_8_3 : tyFld Tryd.prog 8 3 = some 3 := by kernel_rfl
theorem ty_fl_13_0 : tyFld Tryd.prog 13 0 = some 0 := by kernel_rfl
theorem ty_fl_13_1 : tyFld Tryd.prog 13 1 = some 1 := by kernel_rfl
theorem ty_fl_14_0 : tyFld Tryd.prog 14 0 = some 0 := by kernel_rfl
theorem ty_fl_14_1 : tyFld Tryd.prog 14 1 = some 1 := by kernel_rfl
theorem ty_fl_18_0 : tyFld Tryd.prog 18 0 = some 0 := by kernel_rfl
theorem ty_fl_19_0 : tyFld Tryd.prog 19 0 = some 0 := by kernel_rfl
theorem ty_ag_22 : tyAgg Tryd.prog 22 = some false := by kernel_rfl
theorem ty_sl_22 : tySl Tryd.prog 22 = some 1 := by kernel_rfl
theorem ty_ag_23 : tyAgg Tryd.prog 23 = some false := by kernel_rfl
theorem ty_sl_23 : tySl Tryd.prog 23 = some 3 := by kernel_rfl
theorem ty_fl_24_0 : tyFld Tryd.prog 24 0 = some 0 := by kernel_rfl
theorem ty_fl_24_1 : tyFld Tryd.prog 24 1 = some 1 := by kernel_rfl
theorem ty_fl_24_2 : tyFld Tryd.prog 24 2 = some 2 := by kernel_rfl
theorem ty_fl_24_3 : tyFld Tryd.prog 24 3 = some 3 := by kernel_rfl
theorem ty_fl_24_4 : tyFld Tryd.prog 24 4 = some 4 := by kernel_rfl
theorem ty_ag_25 : tyAgg Tryd.prog 25 = some true := by kernel_rfl
theorem ty_sz_25 : tySize Tryd.prog 25 = some 5 := by kernel_rfl
theorem ty_fl_25_0 : tyFld Tryd.prog 25 0 = some 0 := by kernel_rfl
theorem ty_fl_25_1 : tyFld Tryd.prog 25 1 = some 1 := by kernel_rfl
theorem ty_fl_25_2 : tyFld Tryd.prog 25 2 = some 2 := by kernel_rfl
theorem ty_fl_25_3 : tyFld Tryd.prog 25 3 = some 3 := by kernel_rfl
theorem ty_fl_25_4 : tyFld Tryd.prog 25 4 = some 4 := by kernel_rfl
theorem ty_fl_42_0 : tyFld Tryd.prog 42 0 = some 0 := by kernel_rfl
theorem ty_fl_42_1 : tyFld Tryd.prog 42 1 = some 5 := by kernel_rfl
theorem ty_fl_42_2 : tyFld Tryd.prog 42 2 = some 6 := by kernel_rfl
theorem ty_ag_43 : tyAgg Tryd.prog 43 = some true := by kernel_rfl
theorem ty_sz_43 : tySize Tryd.prog 43 = some 7 := by kernel_rfl
theorem ty_fl_43_0 : tyFld Tryd.prog 43 0 = some 0 := by kernel_rfl
theorem ty_fl_43_1 : tyFld Tryd.prog 43 1 = some 5 := by kernel_rfl
theorem ty_fl_43_2 : tyFld Tryd.prog 43 2 = some 6 := by kernel_rfl
theorem ty_ag_44 : tyAgg Tryd.prog 44 = some false := by kernel_rfl
theorem ty_sl_44 : tySl Tryd.prog 44 = some 1 := by kernel_rfl
theorem ty_ag_45 : tyAgg Tryd.prog 45 = some false := by kernel_rfl
theorem ty_sl_45 : tySl Tryd.prog 45 = some 4 := by kernel_rfl
theorem ty_fl_46_0 : tyFld Tryd.prog 46 0 = some 0 := by kernel_rfl
theorem ty_fl_46_1 : tyFld Tryd.prog 46 1 = some 1 := by kernel_rfl
theorem ty_ag_47 : tyAgg Tryd.prog 47 = some true := by kernel_rfl
theorem ty_sz_47 : tySize Tryd.prog 47 = some 2 := by kernel_rfl
theorem ty_fl_47_0 : tyFld Tryd.prog 47 0 = some 0 := by kernel_rfl
theorem ty_fl_47_1 : tyFld Tryd.prog 47 1 = some 1 := by kernel_rfl
theorem ty_fl_55_0 : tyFld Tryd.prog 55 0 = some 0 := by kernel_rfl
theorem ty_fl_55_1 : tyFld Tryd.prog 55 1 = some 1 := by kernel_rfl
theorem ty_fl_55_2 : tyFld Tryd.prog 55 2 = some 2 := by kernel_rfl
theorem ty_fl_55_3 : tyFld Tryd.prog 55 3 = some 3 := by kernel_rfl
theorem ty_ag_56 : tyAgg Tryd.prog 56 = some true := by kernel_rfl
theorem ty_sz_56 : tySize Tryd.prog 56 = some 4 := by kernel_rfl
theorem ty_fl_56_0 : tyFld Tryd.prog 56 0 = some 0 := by kernel_rfl
theorem ty_fl_56_1 : tyFld Tryd.prog 56 1 = some 1 := by kernel_rfl
theorem ty_fl_56_2 : tyFld Tryd.prog 56 2 = some 2 := by kernel_rfl
theorem ty_fl_56_3 : tyFld Tryd.prog 56 3 = some 3 := by kernel_rfl
theorem ty_sl_72 : tySl Tryd.prog 72 = some 4 := by kernel_rfl
theorem ty_ag_74 : tyAgg Tryd.prog 74 = some false := by kernel_rfl
theorem ty_ar_75 : tyArr Tryd.prog 75 = some (4, 1) := by kernel_rfl
theorem ty_ag_76 : tyAgg Tryd.prog 76 = some true := by kernel_rfl
theorem ty_sz_76 : tySize Tryd.prog 76 = some 4 := by kernel_rfl
theorem ty_ar_76 : tyArr Tryd.prog 76 = some (4, 1) := by kernel_rfl
theorem ty_fl_84_0 : tyFld Tryd.prog 84 0 = some 0 := by kernel_rfl
theorem ty_fl_84_1 : tyFld Tryd.prog 84 1 = some 1 := by kernel_rfl
theorem ty_fl_84_2 : tyFld Tryd.prog 84 2 = some 2 := by kernel_rfl
theorem ty_ag_85 : tyAgg Tryd.prog 85 = some true := by kernel_rfl
theorem ty_sz_85 : tySize Tryd.prog 85 = some 3 := by kernel_rfl
theorem ty_fl_85_0 : tyFld Tryd.prog 85 0 = some 0 := by kernel_rfl
theorem ty_fl_85_1 : tyFld Tryd.prog 85 1 = some 1 := by kernel_rfl
theorem ty_fl_85_2 : tyFld Tryd.prog 85 2 = some 2 := by kernel_rfl
theorem ty_sl_97 : tySl Tryd.prog 97 = some 1 := by kernel_rfl
theorem ty_sl_100 : tySl Tryd.prog 100 = some 1 := by kernel_rfl
theorem ty_sl_101 : tySl Tryd.prog 101 = some 3 := by kernel_rfl
theorem ty_fl_103_0 : tyFld Tryd.prog 103 0 = some 0 := by kernel_rfl
theorem ty_fl_103_1 : tyFld Tryd.prog 103 1 = some 1 := by kernel_rfl
theorem ty_fl_103_2 : tyFld Tryd.prog 103 2 = some 2 := by kernel_rfl
theorem ty_fl_104_0 : tyFld Tryd.prog 104 0 = some 0 := by kernel_rfl
theorem ty_fl_104_1 : tyFld Tryd.prog 104 1 = some 1 := by kernel_rfl
theorem ty_fl_104_2 : tyFld Tryd.prog 104 2 = some 2 := by kernel_rfl
theorem ty_ag_106 : tyAgg Tryd.prog 106 = some false := by kernel_rfl
theorem ty_fl_107_0 : tyFld Tryd.prog 107 0 = some 0 := by kernel_rfl
theorem ty_fl_107_1 : tyFld Tryd.prog 107 1 = some 7 := by kernel_rfl
theorem ty_fl_107_2 : tyFld Tryd.prog 107 2 = some 8 := by kernel_rfl
theorem ty_fl_108_0 : tyFld Tryd.prog 108 0 = some 0 := by kernel_rfl
theorem ty_fl_108_1 : tyFld Tryd.prog 108 1 = some 7 := by kernel_rfl
theorem ty_fl_108_2 : tyFld Tryd.prog 108 2 = some 8 := by kernel_rfl
theorem ty_sl_120 : tySl Tryd.prog 120 = some 1 := by kernel_rfl
theorem ty_ag_124 : tyAgg Tryd.prog 124 = some false := by kernel_rfl
theorem ty_sl_124 : tySl Tryd.prog 124 = some 2 := by kernel_rfl
theorem ty_fl_125_0 : tyFld Tryd.prog 125 0 = some 0 := by kernel_rfl
theorem ty_fl_125_1 : tyFld Tryd.prog 125 1 = some 1 := by kernel_rfl
theorem ty_ag_126 : tyAgg Tryd.prog 126 = some true := by kernel_rfl
theorem ty_sz_126 : tySize Tryd.prog 126 = some 2 := by kernel_rfl
theorem ty_fl_126_0 : tyFld Tryd.prog 126 0 = some 0 := by kernel_rfl
theorem ty_fl_126_1 : tyFld Tryd.prog 126 1 = some 1 := by kernel_rfl
theorem ty_fl_127_0 : tyFld Tryd.prog 127 0 = some 0 := by kernel_rfl
theorem ty_fl_127_1 : tyFld Tryd.prog 127 1 = some 2 := by kernel_rfl
theorem ty_fl_128_0 : tyFld Tryd.prog 128 0 = some 0 := by kernel_rfl
theorem ty_fl_128_1 : tyFld Tryd.prog 128 1 = some 2 := by kernel_rfl
theorem ty_sl_129 : tySl Tryd.prog 129 = some 3 := by kernel_rfl
theorem ty_sl_134 : tySl Tryd.prog 134 = some 2 := by kernel_rfl
theorem ty_fl_135_0 : tyFld Tryd.prog 135 0 = some 0 := by kernel_rfl
theorem ty_fl_135_1 : tyFld Tryd.prog 135 1 = some 5 := by kernel_rfl
theorem ty_fl_135_2 : tyFld Tryd.prog 135 2 = some 6 := by kernel_rfl
theorem ty_fl_136_0 : tyFld Tryd.prog 136 0 = some 0 := by kernel_rfl
theorem ty_fl_136_1 : tyFld Tryd.prog 136 1 = some 5 := by kernel_rfl
theorem ty_fl_136_2 : tyFld Tryd.prog 136 2 = some 6 := by kernel_rfl
theorem ty_fl_138_0 : tyFld Tryd.prog 138 0 = some 0 := by kernel_rfl
theorem ty_fl_138_1 : tyFld Tryd.prog 138 1 = some 1 := by kernel_rfl
theorem ty_fl_139_0 : tyFld Tryd.prog 139 0 = some 0 := by kernel_rfl
theorem ty_fl_139_1 : tyFld Tryd.prog 139 1 = some 1 := by kernel_rfl
theorem ty_ar_156 : tyArr Tryd.prog 156 = some (8, 1) := by kernel_rfl
theorem ty_fl_157_0 : tyFld Tryd.prog 157 0 = some 0 := by kernel_rfl
theorem ty_fl_157_1 : tyFld Tryd.prog 157 1 = some 1 := by kernel_rfl
theorem ty_fl_158_0 : tyFld Tryd.prog 158 0 = some 0 := by kernel_rfl
theorem ty_fl_158_1 : tyFld Tryd.prog 158 1 = some 1 := by kernel_rfl
theorem ty_fl_171_0 : tyFld Tryd.prog 171 0 = some 0 := by kernel_rfl
theorem ty_fl_171_1 : tyFld Tryd.prog 171 1 = some 4 := by kernel_rfl
theorem ty_fl_172_0 : tyFld Tryd.prog 172 0 = some 0 := by kernel_rfl
theorem ty_fl_172_1 : tyFld Tryd.prog 172 1 = some 4 := by kernel_rfl
theorem ty_ar_179 : tyArr Tryd.prog 179 = some (64, 1) := by kernel_rfl
theorem ty_fl_184_0 : tyFld Tryd.prog 184 0 = some 0 := by kernel_rfl
theorem ty_fl_184_1 : tyFld Tryd.prog 184 1 = some 8 := by kernel_rfl
theorem ty_fl_184_2 : tyFld Tryd.prog 184 2 = some 9 := by kernel_rfl
theorem ty_fl_185_0 : tyFld Tryd.prog 185 0 = some 0 := by kernel_rfl
theorem ty_fl_185_1 : tyFld Tryd.prog 185 1 = some 8 := by kernel_rfl
theorem ty_fl_185_2 : tyFld Tryd.prog 185 2 = some 9 := by kernel_rfl
theorem ty_sl_186 : tySl Tryd.prog 186 = some 10 := by kernel_rfl
theorem ty_fl_207_0 : tyFld Tryd.prog 207 0 = some 0 := by kernel_rfl
theorem ty_fl_207_1 : tyFld Tryd.prog 207 1 = some 1 := by kernel_rfl
theorem ty_fl_207_2 : tyFld Tryd.prog 207 2 = some 2 := by kernel_rfl
theorem ty_fl_207_3 : tyFld Tryd.prog 207 3 = some 3 := by kernel_rfl
theorem ty_fl_208_0 : tyFld Tryd.prog 208 0 = some 0 := by kernel_rfl
theorem ty_fl_208_1 : tyFld Tryd.prog 208 1 = some 1 := by kernel_rfl
theorem ty_fl_208_2 : tyFld Tryd.prog 208 2 = some 2 := by kernel_rfl
theorem ty_fl_208_3 : tyFld Tryd.prog 208 3 = some 3 := by kernel_rfl
theorem ty_ar_209 : tyArr Tryd.prog 209 = some (0, 1) := by kernel_rfl
theorem ty_fl_219_0 : tyFld Tryd.prog 219 0 = some 0 := by kernel_rfl
theorem ty_fl_219_1 : tyFld Tryd.prog 219 1 = some 1 := by kernel_rfl
theorem ty_fl_219_2 : tyFld Tryd.prog 219 2 = some 2 := by kernel_rfl
theorem ty_fl_219_3 : tyFld Tryd.prog 219 3 = some 3 := by kernel_rfl
theorem ty_fl_219_4 : tyFld Tryd.prog 219 4 = some 4 := by kernel_rfl
theorem ty_fl_219_5 : tyFld Tryd.prog 219 5 = some 5 := by kernel_rfl
theorem ty_fl_219_6 : tyFld Tryd.prog 219 6 = some 6 := by kernel_rfl
theorem ty_fl_219_7 : tyFld Tryd.prog 219 7 = some 7 := by kernel_rfl
theorem ty_fl_219_8 : tyFld Tryd.prog 219 8 = some 8 := by kernel_rfl
theorem ty_fl_219_9 : tyFld Tryd.prog 219 9 = some 9 := by kernel_rfl
theorem ty_fl_219_10 : tyFld Tryd.prog 219 10 = some 10 := by kernel_rfl
theorem ty_fl_220_0 : tyFld Tryd.prog 220 0 = some 0 := by kernel_rfl
theorem ty_fl_220_1 : tyFld Tryd.prog 220 1 = some 1 := by kernel_rfl
theorem ty_fl_220_2 : tyFld Tryd.prog 220 2 = some 2 := by kernel_rfl
theorem ty_fl_220_3 : tyFld Tryd.prog 220 3 = some 3 := by kernel_rfl
theorem ty_fl_220_4 : tyFld Tryd.prog 220 4 = some 4 := by kernel_rfl
theorem ty_fl_220_5 : tyFld Tryd.prog 220 5 = some 5 := by kernel_rfl
theorem ty_fl_220_6 : tyFld Tryd.prog 220 6 = some 6 := by kernel_rfl
theorem ty_fl_220_7 : tyFld Tryd.prog 220 7 = some 7 := by kernel_rfl
theorem ty_fl_220_8 : tyFld Tryd.prog 220 8 = some 8 := by kernel_rfl
theorem ty_fl_220_9 : tyFld Tryd.prog 220 9 = some 9 := by kernel_rfl
theorem ty_fl_220_10 : tyFld Tryd.prog 220 10 = some 10 := by kernel_rfl
theorem fd_7_0 {K : Fr → World → Prop} {u : World} {f : Fr} {d : Option Nat} {w : World} (a : Addr) : Val1 Tryd.prog K (Instr.fieldAt 7 (.pointer (some a)) 0) u f d w = K (updO f d (.pointer (some (a.add 0)))) w := by
  rw [fld_ptr u f d w 7 0 (by rw [ty_fl_7_0]; rfl) a, ty_fl_7_0]; rfl
theorem fdA_7_0 {K : Fr → World → Prop} {f : Fr} {d : Option Nat} {w : World} (a : Addr) : ValA Tryd.prog K (Instr.fieldAt 7 (.pointer (some a)) 0) f d w = K (updO f d (.pointer (some (a.add 0)))) w := by
  rw [fld_ptrA f d w 7 0 (by rw [ty_fl_7_0]; rfl) a, ty_fl_7_0]; rfl
theorem fd_7_1 {K : Fr → World → Prop} {u : World} {f : Fr} {d : Option Nat} {w : World} (a : Addr) : Val1 Tryd.prog K (Instr.fieldAt 7 (.pointer (some a)) 1) u f d w = K (updO f d (.pointer (some (a.add 1)))) w := by
  rw [fld_ptr u f d w 7 1 (by rw [ty_fl_7_1]; rfl) a, ty_fl_7_1]; rfl
theorem fdA_7_1 {K : Fr → World → Prop} {f : Fr} {d : Option Nat} {w : World} (a : Addr) : ValA Tryd.prog K (Instr.fieldAt 7 (.pointer (some a)) 1) f d w = K (updO f d (.pointer (some (a.add 1)))) w := by
  rw [fld_ptrA f d w 7 1 (by rw [ty_fl_7_1]; rfl) a, ty_fl_7_1]; rfl
theorem fd_7_2 {K : Fr → World → Prop} {u : World} {f : Fr} {d : Option Nat} {w : World} (a : Addr) : Val1 Tryd.prog K (Instr.fieldAt 7 (.pointer (some a)) 2) u f d w = K (updO f d (.pointer (some (a.add 2)))) w := by
  rw [fld_ptr u f d w 7 2 (by rw [ty_fl_7_2]; rfl) a, ty_fl_7_2]; rfl
theorem fdA_7_2 {K : Fr → World → Prop} {f : Fr} {d : Option Nat} {w : World} (a : Addr) : ValA Tryd.prog K (Instr.fieldAt 7 (.pointer (some a)) 2) f d w = K (updO f d (.pointer (some (a.add 2)))) w := by
  rw [fld_ptrA f d w 7 2 (by rw [ty_fl_7_2]; rfl) a, ty_fl_7_2]; rfl
theorem fd_7_3 {K : Fr → World → Prop} {u : World} {f : Fr} {d : Option Nat} {w : World} (a : Addr) : Val1 Tryd.prog K (Instr.fieldAt 7 (.pointer (some a)) 3) u f d w = K (updO f d (.pointer (some (a.add 3)))) w := by
  rw [fld_ptr u f d w 7 3 (by rw [ty_fl_7_3]; rfl) a, ty_fl_7_3]; rfl
theorem fdA_7_3 {K : Fr → World → Prop} {f : Fr} {d : Option Nat} {w : World} (a : Addr) : ValA Tryd.prog K (Instr.fieldAt 7 (.pointer (some a)) 3) f d w = K (updO f d (.pointer (some (a.add 3)))) w := by
  rw [fld_ptrA f d w 7 3 (by rw [ty_fl_7_3]; rfl) a, ty_fl_7_3]; rfl
theorem fd_8_0 {K : Fr → World → Prop} {u : World} {f : Fr} {d : Option Nat} {w : World} (a : Addr) : Val1 Tryd.prog K (Instr.fieldAt 8 (.pointer (some a)) 0) u f d w = K (updO f d (.pointer (some (a.add 0)))) w := by
  rw [fld_ptr u f d w 8 0 (by rw [ty_fl_8_0]; rfl) a, ty_fl_8_0]; rfl
theorem fdA_8_0 {K : Fr → World → Prop} {f : Fr} {d : Option Nat} {w : World} (a : Addr) : ValA Tryd.prog K (Instr.fieldAt 8 (.pointer (some a)) 0) f d w = K (updO f d (.pointer (some (a.add 0)))) w := by
  rw [fld_ptrA f d w 8 0 (by rw [ty_fl_8_0]; rfl) a, ty_fl_8_0]; rfl
theorem fd_8_1 {K : Fr → World → Prop} {u : World} {f : Fr} {d : Option Nat} {w : World} (a : Addr) : Val1 Tryd.prog K (Instr.fieldAt 8 (.pointer (some a)) 1) u f d w = K (updO f d (.pointer (some (a.add 1)))) w := by
  rw [fld_ptr u f d w 8 1 (by rw [ty_fl_8_1]; rfl) a, ty_fl_8_1]; rfl
theorem fdA_8_1 {K : Fr → World → Prop} {f : Fr} {d : Option Nat} {w : World} (a : Addr) : ValA Tryd.prog K (Instr.fieldAt 8 (.pointer (some a)) 1) f d w = K (updO f d (.pointer (some (a.add 1)))) w := by
  rw [fld_ptrA f d w 8 1 (by rw [ty_fl_8_1]; rfl) a, ty_fl_8_1]; rfl
theorem fd_8_2 {K : Fr → World → Prop} {u : World} {f : Fr} {d : Option Nat} {w : World} (a : Addr) : Val1 Tryd.prog K (Instr.fieldAt 8 (.pointer (some a)) 2) u f d w = K (updO f d (.pointer (some (a.add 2)))) w := by
  rw [fld_ptr u f d w 8 2 (by rw [ty_fl_8_2]; rfl) a, ty_fl_8_2]; rfl
theorem fdA_8_2 {K : Fr → World → Prop} {f : Fr} {d : Option Nat} {w : World} (a : Addr) : ValA Tryd.prog K (Instr.fieldAt 8 (.pointer (some a)) 2) f d w = K (updO f d (.pointer (some (a.add 2)))) w := by
  rw [fld_ptrA f d w 8 2 (by rw [ty_fl_8_2]; rfl) a, ty_fl_8_2]; rfl
theorem fd_8_3 {K : Fr → World → Prop} {u : World} {f : Fr} {d : Option Nat} {w : World} (a : Addr) : Val1 Tryd.prog K (Instr.fieldAt 8 (.pointer (some a)) 3) u f d w = K (updO f d (.pointer (some (a.add 3)))) w := by
  rw [fld_ptr u f d w 8 3 (by rw [ty_fl_8_3]; rfl) a, ty_fl_8_3]; rfl
theorem fdA_8_3 {K : Fr → World → Prop} {f : Fr} {d : Option Nat} {w : World} (a : Addr) : ValA Tryd.prog K (Instr.fieldAt 8 (.pointer (some a)) 3) f d w = K (updO f d (.pointer (some (a.add 3)))) w := by
  rw [fld_ptrA f d w 8 3 (by rw [ty_fl_8_3]; rfl) a, ty_fl_8_3]; rfl
theorem fd_13_0 {K : Fr → World → Prop} {u : World} {f : Fr} {d : Option Nat} {w : World} (a : Addr) : Val1 Tryd.prog K (Instr.fieldAt 13 (.pointer (some a)) 0) u f d w = K (updO f d (.pointer (some (a.add 0)))) w := by
  rw [fld_ptr u f d w 13 0 (by rw [ty_fl_13_0]; rfl) a, ty_fl_13_0]; rfl
theorem fdA_13_0 {K : Fr → World → Prop} {f : Fr} {d : Option Nat} {w : World} (a : Addr) : ValA Tryd.prog K (Instr.fieldAt 13 (.pointer (some a)) 0) f d w = K (updO f d (.pointer (some (a.add 0)))) w := by
  rw [fld_ptrA f d w 13 0 (by rw [ty_fl_13_0]; rfl) a, ty_fl_13_0]; rfl
theorem fd_13_1 {K : Fr → World → Prop} {u : World} {f : Fr} {d : Option Nat} {w : World} (a : Addr) : Val1 Tryd.prog K (Instr.fieldAt 13 (.pointer (some a)) 1) u f d w = K (updO f d (.pointer (some (a.add 1)))) w := by
  rw [fld_ptr u f d w 13 1 (by rw [ty_fl_13_1]; rfl) a, ty_fl_13_1]; rfl
theorem fdA_13_1 {K : Fr → World → Prop} {f : Fr} {d : Option Nat} {w : World} (a : Addr) : ValA Tryd.prog K (Instr.fieldAt 13 (.pointer (some a)) 1) f d w = K (updO f d (.pointer (some (a.add 1)))) w := by
  rw [fld_ptrA f d w 13 1 (by rw [ty_fl_13_1]; rfl) a, ty_fl_13_1]; rfl
theorem fd_14_0 {K : Fr → World → Prop} {u : World} {f : Fr} {d : Option Nat} {w : World} (a : Addr) : Val1 Tryd.prog K (Instr.fieldAt 14 (.pointer (some a)) 0) u f d w = K (updO f d (.pointer (some (a.add 0)))) w := by
  rw [fld_ptr u f d w 14 0 (by rw [ty_fl_14_0]; rfl) a, ty_fl_14_0]; rfl
theorem fdA_14_0 {K : Fr → World → Prop} {f : Fr} {d : Option Nat} {w : World} (a : Addr) : ValA Tryd.prog K (Instr.fieldAt 14 (.pointer (some a)) 0) f d w = K (updO f d (.pointer (some (a.add 0)))) w := by
  rw [fld_ptrA f d w 14 0 (by rw [ty_fl_14_0]; rfl) a, ty_fl_14_0]; rfl
theorem fd_14_1 {K : Fr → World → Prop} {u : World} {f : Fr} {d : Option Nat} {w : World} (a : Addr) : Val1 Tryd.prog K (Instr.fieldAt 14 (.pointer (some a)) 1) u f d w = K (updO f d (.pointer (some (a.add 1)))) w := by
  rw [fld_ptr u f d w 14 1 (by rw [ty_fl_14_1]; rfl) a, ty_fl_14_1]; rfl
theorem fdA_14_1 {K : Fr → World → Prop} {f : Fr} {d : Option Nat} {w : World} (a : Addr) : ValA Tryd.prog K (Instr.fieldAt 14 (.pointer (some a)) 1) f d w = K (updO f d (.pointer (some (a.add 1)))) w := by
  rw [fld_ptrA f d w 14 1 (by rw [ty_fl_14_1]; rfl) a, ty_fl_14_1]; rfl
theorem fd_18_0 {K : Fr → World → Prop} {u : World} {f : Fr} {d : Option Nat} {w : World} (a : Addr) : Val1 Tryd.prog K (Instr.fieldAt 18 (.pointer (some a)) 0) u f d w = K (updO f d (.pointer (some (a.add 0)))) w := by
  rw [fld_ptr u f d w 18 0 (by rw [ty_fl_18_0]; rfl) a, ty_fl_18_0]; rfl
theorem fdA_18_0 {K : Fr → World → Prop} {f : Fr} {d : Option Nat} {w : World} (a : Addr) : ValA Tryd.prog K (Instr.fieldAt 18 (.pointer (some a)) 0) f d w = K (updO f d (.pointer (some (a.add 0)))) w := by
  rw [fld_ptrA f d w 18 0 (by rw [ty_fl_18_0]; rfl) a, ty_fl_18_0]; rfl
theorem fd_19_0 {K : Fr → World → Prop} {u : World} {f : Fr} {d : Option Nat} {w : World} (a : Addr) : Val1 Tryd.prog K (Instr.fieldAt 19 (.pointer (some a)) 0) u f d w = K (updO f d (.pointer (some (a.add 0)))) w := by
  rw [fld_ptr u f d w 19 0 (by rw [ty_fl_19_0]; rfl) a, ty_fl_19_0]; rfl
theorem fdA_19_0 {K : Fr → World → Prop} {f : Fr} {d : Option Nat} {w : World} (a : Addr) : ValA Tryd.prog K (Instr.fieldAt 19 (.pointer (some a)) 0) f d w = K (updO f d (.pointer (some (a.add 0)))) w := by
  rw [fld_ptrA f d w 19 0 (by rw [ty_fl_19_0]; rfl) a, ty_fl_19_0]; rfl
theorem ix_22 {K : Fr → World → Prop} {u : World} {f : Fr} {d : Option Nat} {w : World} (A : Option Addr) (hA : A.isSome = true) (n c : Nat) (k : IntKind) (i : Int) (h0 : 0 ≤ i) (h1 : i < n) : Val1 Tryd.prog K (Instr.indexAt 22 (.slice A n c) (.int k i)) u f d w = K (updO f d (.pointer (some (eA A (i.toNat * 1))))) w := by
  rw [idx_sl u f d w 22 (by rw [ty_sl_22]; rfl) A hA n c k i h0 h1, ty_sl_22]; rfl
theorem ln_22 {K : Fr → World → Prop} {u : World} {f : Fr} {d : Option Nat} {w : World} (ty : TypeId) (A : Option Addr) (n c : Nat) : Val1 Tryd.prog K (Builtin.len_ #[22] ty #[.slice A n c]) u f d w = K (updO f d (.int .i64 n)) w := len_sl u f d w ty 22 (by rw [ty_sl_22]; rfl) A n c
theorem ixA_22 {K : Fr → World → Prop} {f : Fr} {d : Option Nat} {w : World} (A : Option Addr) (hA : A.isSome = true) (n c : Nat) (k : IntKind) (i : Int) (h0 : 0 ≤ i) (h1 : i < n) : ValA Tryd.prog K (Instr.indexAt 22 (.slice A n c) (.int k i)) f d w = K (updO f d (.pointer (some (eA A (i.toNat * 1))))) w := by
  rw [idx_slA f d w 22 (by rw [ty_sl_22]; rfl) A hA n c k i h0 h1, ty_sl_22]; rfl
theorem ix_23 {K : Fr → World → Prop} {u : World} {f : Fr} {d : Option Nat} {w : World} (A : Option Addr) (hA : A.isSome = true) (n c : Nat) (k : IntKind) (i : Int) (h0 : 0 ≤ i) (h1 : i < n) : Val1 Tryd.prog K (Instr.indexAt 23 (.slice A n c) (.int k i)) u f d w = K (updO f d (.pointer (some (eA A (i.toNat * 3))))) w := by
  rw [idx_sl u f d w 23 (by rw [ty_sl_23]; rfl) A hA n c k i h0 h1, ty_sl_23]; rfl
theorem ln_23 {K : Fr → World → Prop} {u : World} {f : Fr} {d : Option Nat} {w : World} (ty : TypeId) (A : Option Addr) (n c : Nat) : Val1 Tryd.prog K (Builtin.len_ #[23] ty #[.slice A n c]) u f d w = K (updO f d (.int .i64 n)) w := len_sl u f d w ty 23 (by rw [ty_sl_23]; rfl) A n c
theorem ixA_23 {K : Fr → World → Prop} {f : Fr} {d : Option Nat} {w : World} (A : Option Addr) (hA : A.isSome = true) (n c : Nat) (k : IntKind) (i : Int) (h0 : 0 ≤ i) (h1 : i < n) : ValA Tryd.prog K (Instr.indexAt 23 (.slice A n c) (.int k i)) f d w = K (updO f d (.pointer (some (eA A (i.toNat * 3))))) w := by
  rw [idx_slA f d w 23 (by rw [ty_sl_23]; rfl) A hA n c k i h0 h1, ty_sl_23]; rfl
theorem fd_24_0 {K : Fr → World → Prop} {u : World} {f : Fr} {d : Option Nat} {w : World} (a : Addr) : Val1 Tryd.prog K (Instr.fieldAt 24 (.pointer (some a)) 0) u f d w = K (updO f d (.pointer (some (a.add 0)))) w := by
  rw [fld_ptr u f d w 24 0 (by rw [ty_fl_24_0]; rfl) a, ty_fl_24_0]; rfl
theorem fdA_24_0 {K : Fr → World → Prop} {f : Fr} {d : Option Nat} {w : World} (a : Addr) : ValA Tryd.prog K (Instr.fieldAt 24 (.pointer (some a)) 0) f d w = K (updO f d (.pointer (some (a.add 0)))) w := by
  rw [fld_ptrA f d w 24 0 (by rw [ty_fl_24_0]; rfl) a, ty_fl_24_0]; rfl
theorem fd_24_1 {K : Fr → World → Prop} {u : World} {f : Fr} {d : Option Nat} {w : World} (a : Addr) : Val1 Tryd.prog K (Instr.fieldAt 24 (.pointer (some a)) 1) u f d w = K (updO f d (.pointer (some (a.add 1)))) w := by
  rw [fld_ptr u f d w 24 1 (by rw [ty_fl_24_1]; rfl) a, ty_fl_24_1]; rfl
theorem fdA_24_1 {K : Fr → World → Prop} {f : Fr} {d : Option Nat} {w : World} (a : Addr) : ValA Tryd.prog K (Instr.fieldAt 24 (.pointer (some a)) 1) f d w = K (updO f d (.pointer (some (a.add 1)))) w := by
  rw [fld_ptrA f d w 24 1 (by rw [ty_fl_24_1]; rfl) a, ty_fl_24_1]; rfl
theorem fd_24_2 {K : Fr → World → Prop} {u : World} {f : Fr} {d : Option Nat} {w : World} (a : Addr) : Val1 Tryd.prog K (Instr.fieldAt 24 (.pointer (some a)) 2) u f d w = K (updO f d (.pointer (some (a.add 2)))) w := by
  rw [fld_ptr u f d w 24 2 (by rw [ty_fl_24_2]; rfl) a, ty_fl_24_2]; rfl
theorem fdA_24_2 {K : Fr → World → Prop} {f : Fr} {d : Option Nat} {w : World} (a : Addr) : ValA Tryd.prog K (Instr.fieldAt 24 (.pointer (some a)) 2) f d w = K (updO f d (.pointer (some (a.add 2)))) w := by
  rw [fld_ptrA f d w 24 2 (by rw [ty_fl_24_2]; rfl) a, ty_fl_24_2]; rfl
theorem fd_24_3 {K : Fr → World → Prop} {u : World} {f : Fr} {d : Option Nat} {w : World} (a : Addr) : Val1 Tryd.prog K (Instr.fieldAt 24 (.pointer (some a)) 3) u f d w = K (updO f d (.pointer (some (a.add 3)))) w := by
  rw [fld_ptr u f d w 24 3 (by rw [ty_fl_24_3]; rfl) a, ty_fl_24_3]; rfl
theorem fdA_24_3 {K : Fr → World → Prop} {f : Fr} {d : Option Nat} {w : World} (a : Addr) : ValA Tryd.prog K (Instr.fieldAt 24 (.pointer (some a)) 3) f d w = K (updO f d (.pointer (some (a.add 3)))) w := by
  rw [fld_ptrA f d w 24 3 (by rw [ty_fl_24_3]; rfl) a, ty_fl_24_3]; rfl
theorem fd_24_4 {K : Fr → World → Prop} {u : World} {f : Fr} {d : Option Nat} {w : World} (a : Addr) : Val1 Tryd.prog K (Instr.fieldAt 24 (.pointer (some a)) 4) u f d w = K (updO f d (.pointer (some (a.add 4)))) w := by
  rw [fld_ptr u f d w 24 4 (by rw [ty_fl_24_4]; rfl) a, ty_fl_24_4]; rfl
theorem fdA_24_4 {K : Fr → World → Prop} {f : Fr} {d : Option Nat} {w : World} (a : Addr) : ValA Tryd.prog K (Instr.fieldAt 24 (.pointer (some a)) 4) f d w = K (updO f d (.pointer (some (a.add 4)))) w := by
  rw [fld_ptrA f d w 24 4 (by rw [ty_fl_24_4]; rfl) a, ty_fl_24_4]; rfl
theorem fd_25_0 {K : Fr → World → Prop} {u : World} {f : Fr} {d : Option Nat} {w : World} (a : Addr) : Val1 Tryd.prog K (Instr.fieldAt 25 (.pointer (some a)) 0) u f d w = K (updO f d (.pointer (some (a.add 0)))) w := by
  rw [fld_ptr u f d w 25 0 (by rw [ty_fl_25_0]; rfl) a, ty_fl_25_0]; rfl
theorem fdA_25_0 {K : Fr → World → Prop} {f : Fr} {d : Option Nat} {w : World} (a : Addr) : ValA Tryd.prog K (Instr.fieldAt 25 (.pointer (some a)) 0) f d w = K (updO f d (.pointer (some (a.add 0)))) w := by
  rw [fld_ptrA f d w 25 0 (by rw [ty_fl_25_0]; rfl) a, ty_fl_25_0]; rfl
theorem fd_25_1 {K : Fr → World → Prop} {u : World} {f : Fr} {d : Option Nat} {w : World} (a : Addr) : Val1 Tryd.prog K (Instr.fieldAt 25 (.pointer (some a)) 1) u f d w = K (updO f d (.pointer (some (a.add 1)))) w := by
  rw [fld_ptr u f d w 25 1 (by rw [ty_fl_25_1]; rfl) a, ty_fl_25_1]; rfl
theorem fdA_25_1 {K : Fr → World → Prop} {f : Fr} {d : Option Nat} {w : World} (a : Addr) : ValA Tryd.prog K (Instr.fieldAt 25 (.pointer (some a)) 1) f d w = K (updO f d (.pointer (some (a.add 1)))) w := by
  rw [fld_ptrA f d w 25 1 (by rw [ty_fl_25_1]; rfl) a, ty_fl_25_1]; rfl
theorem fd_25_2 {K : Fr → World → Prop} {u : World} {f : Fr} {d : Option Nat} {w : World} (a : Addr) : Val1 Tryd.prog K (Instr.fieldAt 25 (.pointer (some a)) 2) u f d w = K (updO f d (.pointer (some (a.add 2)))) w := by
  rw [fld_ptr u f d w 25 2 (by rw [ty_fl_25_2]; rfl) a, ty_fl_25_2]; rfl
theorem fdA_25_2 {K : Fr → World → Prop} {f : Fr} {d : Option Nat} {w : World} (a : Addr) : ValA Tryd.prog K (Instr.fieldAt 25 (.pointer (some a)) 2) f d w = K (updO f d (.pointer (some (a.add 2)))) w := by
  rw [fld_ptrA f d w 25 2 (by rw [ty_fl_25_2]; rfl) a, ty_fl_25_2]; rfl
theorem fd_25_3 {K : Fr → World → Prop} {u : World} {f : Fr} {d : Option Nat} {w : World} (a : Addr) : Val1 Tryd.prog K (Instr.fieldAt 25 (.pointer (some a)) 3) u f d w = K (updO f d (.pointer (some (a.add 3)))) w := by
  rw [fld_ptr u f d w 25 3 (by rw [ty_fl_25_3]; rfl) a, ty_fl_25_3]; rfl
theorem fdA_25_3 {K : Fr → World → Prop} {f : Fr} {d : Option Nat} {w : World} (a : Addr) : ValA Tryd.prog K (Instr.fieldAt 25 (.pointer (some a)) 3) f d w = K (updO f d (.pointer (some (a.add 3)))) w := by
  rw [fld_ptrA f d w 25 3 (by rw [ty_fl_25_3]; rfl) a, ty_fl_25_3]; rfl
theorem fd_25_4 {K : Fr → World → Prop} {u : World} {f : Fr} {d : Option Nat} {w : World} (a : Addr) : Val1 Tryd.prog K (Instr.fieldAt 25 (.pointer (some a)) 4) u f d w = K (updO f d (.pointer (some (a.add 4)))) w := by
  rw [fld_ptr u f d w 25 4 (by rw [ty_fl_25_4]; rfl) a, ty_fl_25_4]; rfl
theorem fdA_25_4 {K : Fr → World → Prop} {f : Fr} {d : Option Nat} {w : World} (a : Addr) : ValA Tryd.prog K (Instr.fieldAt 25 (.pointer (some a)) 4) f d w = K (updO f d (.pointer (some (a.add 4)))) w := by
  rw [fld_ptrA f d w 25 4 (by rw [ty_fl_25_4]; rfl) a, ty_fl_25_4]; rfl
theorem fd_42_0 {K : Fr → World → Prop} {u : World} {f : Fr} {d : Option Nat} {w : World} (a : Addr) : Val1 Tryd.prog K (Instr.fieldAt 42 (.pointer (some a)) 0) u f d w = K (updO f d (.pointer (some (a.add 0)))) w := by
  rw [fld_ptr u f d w 42 0 (by rw [ty_fl_42_0]; rfl) a, ty_fl_42_0]; rfl
theorem fdA_42_0 {K : Fr → World → Prop} {f : Fr} {d : Option Nat} {w : World} (a : Addr) : ValA Tryd.prog K (Instr.fieldAt 42 (.pointer (some a)) 0) f d w = K (updO f d (.pointer (some (a.add 0)))) w := by
  rw [fld_ptrA f d w 42 0 (by rw [ty_fl_42_0]; rfl) a, ty_fl_42_0]; rfl
theorem fd_42_1 {K : Fr → World → Prop} {u : World} {f : Fr} {d : Option Nat} {w : World} (a : Addr) : Val1 Tryd.prog K (Instr.fieldAt 42 (.pointer (some a)) 1) u f d w = K (updO f d (.pointer (some (a.add 5)))) w := by
  rw [fld_ptr u f d w 42 1 (by rw [ty_fl_42_1]; rfl) a, ty_fl_42_1]; rfl
theorem fdA_42_1 {K : Fr → World → Prop} {f : Fr} {d : Option Nat} {w : World} (a : Addr) : ValA Tryd.prog K (Instr.fieldAt 42 (.pointer (some a)) 1) f d w = K (updO f d (.pointer (some (a.add 5)))) w := by
  rw [fld_ptrA f d w 42 1 (by rw [ty_fl_42_1]; rfl) a, ty_fl_42_1]; rfl
theorem fd_42_2 {K : Fr → World → Prop} {u : World} {f : Fr} {d : Option Nat} {w : World} (a : Addr) : Val1 Tryd.prog K (Instr.fieldAt 42 (.pointer (some a)) 2) u f d w = K (updO f d (.pointer (some (a.add 6)))) w := by
  rw [fld_ptr u f d w 42 2 (by rw [ty_fl_42_2]; rfl) a, ty_fl_42_2]; rfl
theorem fdA_42_2 {K : Fr → World → Prop} {f : Fr} {d : Option Nat} {w : World} (a : Addr) : ValA Tryd.prog K (Instr.fieldAt 42 (.pointer (some a)) 2) f d w = K (updO f d (.pointer (some (a.add 6)))) w := by
  rw [fld_ptrA f d w 42 2 (by rw [ty_fl_42_2]; rfl) a, ty_fl_42_2]; rfl
theorem fd_43_0 {K : Fr → World → Prop} {u : World} {f : Fr} {d : Option Nat} {w : World} (a : Addr) : Val1 Tryd.prog K (Instr.fieldAt 43 (.pointer (some a)) 0) u f d w = K (updO f d (.pointer (some (a.add 0)))) w := by
  rw [fld_ptr u f d w 43 0 (by rw [ty_fl_43_0]; rfl) a, ty_fl_43_0]; rfl
theorem fdA_43_0 {K : Fr → World → Prop} {f : Fr} {d : Option Nat} {w : World} (a : Addr) : ValA Tryd.prog K (Instr.fieldAt 43 (.pointer (some a)) 0) f d w = K (updO f d (.pointer (some (a.add 0)))) w := by
  rw [fld_ptrA f d w 43 0 (by rw [ty_fl_43_0]; rfl) a, ty_fl_43_0]; rfl
theorem fd_43_1 {K : Fr → World → Prop} {u : World} {f : Fr} {d : Option Nat} {w : World} (a : Addr) : Val1 Tryd.prog K (Instr.fieldAt 43 (.pointer (some a)) 1) u f d w = K (updO f d (.pointer (some (a.add 5)))) w := by
  rw [fld_ptr u f d w 43 1 (by rw [ty_fl_43_1]; rfl) a, ty_fl_43_1]; rfl
theorem fdA_43_1 {K : Fr → World → Prop} {f : Fr} {d : Option Nat} {w : World} (a : Addr) : ValA Tryd.prog K (Instr.fieldAt 43 (.pointer (some a)) 1) f d w = K (updO f d (.pointer (some (a.add 5)))) w := by
  rw [fld_ptrA f d w 43 1 (by rw [ty_fl_43_1]; rfl) a, ty_fl_43_1]; rfl
theorem fd_43_2 {K : Fr → World → Prop} {u : World} {f : Fr} {d : Option Nat} {w : World} (a : Addr) : Val1 Tryd.prog K (Instr.fieldAt 43 (.pointer (some a)) 2) u f d w = K (updO f d (.pointer (some (a.add 6)))) w := by
  rw [fld_ptr u f d w 43 2 (by rw [ty_fl_43_2]; rfl) a, ty_fl_43_2]; rfl
theorem fdA_43_2 {K : Fr → World → Prop} {f : Fr} {d : Option Nat} {w : World} (a : Addr) : ValA Tryd.prog K (Instr.fieldAt 43 (.pointer (some a)) 2) f d w = K (updO f d (.pointer (some (a.add 6)))) w := by
  rw [fld_ptrA f d w 43 2 (by rw [ty_fl_43_2]; rfl) a, ty_fl_43_2]; rfl
theorem ix_44 {K : Fr → World → Prop} {u : World} {f : Fr} {d : Option Nat} {w : World} (A : Option Addr) (hA : A.isSome = true) (n c : Nat) (k : IntKind) (i : Int) (h0 : 0 ≤ i) (h1 : i < n) : Val1 Tryd.prog K (Instr.indexAt 44 (.slice A n c) (.int k i)) u f d w = K (updO f d (.pointer (some (eA A (i.toNat * 1))))) w := by
  rw [idx_sl u f d w 44 (by rw [ty_sl_44]; rfl) A hA n c k i h0 h1, ty_sl_44]; rfl
theorem ln_44 {K : Fr → World → Prop} {u : World} {f : Fr} {d : Option Nat} {w : World} (ty : TypeId) (A : Option Addr) (n c : Nat) : Val1 Tryd.prog K (Builtin.len_ #[44] ty #[.slice A n c]) u f d w = K (updO f d (.int .i64 n)) w := len_sl u f d w ty 44 (by rw [ty_sl_44]; rfl) A n c
theorem ixA_44 {K : Fr → World → Prop} {f : Fr} {d : Option Nat} {w : World} (A : Option Addr) (hA : A.isSome = true) (n c : Nat) (k : IntKind) (i : Int) (h0 : 0 ≤ i) (h1 : i < n) : ValA Tryd.prog K (Instr.indexAt 44 (.slice A n c) (.int k i)) f d w = K (updO f d (.pointer (some (eA A (i.toNat * 1))))) w := by
  rw [idx_slA f d w 44 (by rw [ty_sl_44]; rfl) A hA n c k i h0 h1, ty_sl_44]; rfl
theorem ix_45 {K : Fr → World → Prop} {u : World} {f : Fr} {d : Option Nat} {w : World} (A : Option Addr) (hA : A.isSome = true) (n c : Nat) (k : IntKind) (i : Int) (h0 : 0 ≤ i) (h1 : i < n) : Val1 Tryd.prog K (Instr.indexAt 45 (.slice A n c) (.int k i)) u f d w = K (updO f d (.pointer (some (eA A (i.toNat * 4))))) w := by
  rw [idx_sl u f d w 45 (by rw [ty_sl_45]; rfl) A hA n c k i h0 h1, ty_sl_45]; rfl
theorem ln_45 {K : Fr → World → Prop} {u : World} {f : Fr} {d : Option Nat} {w : World} (ty : TypeId) (A : Option Addr) (n c : Nat) : Val1 Tryd.prog K (Builtin.len_ #[45] ty #[.slice A n c]) u f d w = K (updO f d (.int .i64 n)) w := len_sl u f d w ty 45 (by rw [ty_sl_45]; rfl) A n c
theorem ixA_45 {K : Fr → World → Prop} {f : Fr} {d : Option Nat} {w : World} (A : Option Addr) (hA : A.isSome = true) (n c : Nat) (k : IntKind) (i : Int) (h0 : 0 ≤ i) (h1 : i < n) : ValA Tryd.prog K (Instr.indexAt 45 (.slice A n c) (.int k i)) f d w = K (updO f d (.pointer (some (eA A (i.toNat * 4))))) w := by
  rw [idx_slA f d w 45 (by rw [ty_sl_45]; rfl) A hA n c k i h0 h1, ty_sl_45]; rfl
theorem fd_46_0 {K : Fr → World → Prop} {u : World} {f : Fr} {d : Option Nat} {w : World} (a : Addr) : Val1 Tryd.prog K (Instr.fieldAt 46 (.pointer (some a)) 0) u f d w = K (updO f d (.pointer (some (a.add 0)))) w := by
  rw [fld_ptr u f d w 46 0 (by rw [ty_fl_46_0]; rfl) a, ty_fl_46_0]; rfl
theorem fdA_46_0 {K : Fr → World → Prop} {f : Fr} {d : Option Nat} {w : World} (a : Addr) : ValA Tryd.prog K (Instr.fieldAt 46 (.pointer (some a)) 0) f d w = K (updO f d (.pointer (some (a.add 0)))) w := by
  rw [fld_ptrA f d w 46 0 (by rw [ty_fl_46_0]; rfl) a, ty_fl_46_0]; rfl
theorem fd_46_1 {K : Fr → World → Prop} {u : World} {f : Fr} {d : Option Nat} {w : World} (a : Addr) : Val1 Tryd.prog K (Instr.fieldAt 46 (.pointer (some a)) 1) u f d w = K (updO f d (.pointer (some (a.add 1)))) w := by
  rw [fld_ptr u f d w 46 1 (by rw [ty_fl_46_1]; rfl) a, ty_fl_46_1]; rfl
theorem fdA_46_1 {K : Fr → World → Prop} {f : Fr} {d : Option Nat} {w : World} (a : Addr) : ValA Tryd.prog K (Instr.fieldAt 46 (.pointer (some a)) 1) f d w = K (updO f d (.pointer (some (a.add 1)))) w := by
  rw [fld_ptrA f d w 46 1 (by rw [ty_fl_46_1]; rfl) a, ty_fl_46_1]; rfl
theorem fd_47_0 {K : Fr → World → Prop} {u : World} {f : Fr} {d : Option Nat} {w : World} (a : Addr) : Val1 Tryd.prog K (Instr.fieldAt 47 (.pointer (some a)) 0) u f d w = K (updO f d (.pointer (some (a.add 0)))) w := by
  rw [fld_ptr u f d w 47 0 (by rw [ty_fl_47_0]; rfl) a, ty_fl_47_0]; rfl
theorem fdA_47_0 {K : Fr → World → Prop} {f : Fr} {d : Option Nat} {w : World} (a : Addr) : ValA Tryd.prog K (Instr.fieldAt 47 (.pointer (some a)) 0) f d w = K (updO f d (.pointer (some (a.add 0)))) w := by
  rw [fld_ptrA f d w 47 0 (by rw [ty_fl_47_0]; rfl) a, ty_fl_47_0]; rfl
theorem fd_47_1 {K : Fr → World → Prop} {u : World} {f : Fr} {d : Option Nat} {w : World} (a : Addr) : Val1 Tryd.prog K (Instr.fieldAt 47 (.pointer (some a)) 1) u f d w = K (updO f d (.pointer (some (a.add 1)))) w := by
  rw [fld_ptr u f d w 47 1 (by rw [ty_fl_47_1]; rfl) a, ty_fl_47_1]; rfl
theorem fdA_47_1 {K : Fr → World → Prop} {f : Fr} {d : Option Nat} {w : World} (a : Addr) : ValA Tryd.prog K (Instr.fieldAt 47 (.pointer (some a)) 1) f d w = K (updO f d (.pointer (some (a.add 1)))) w := by
  rw [fld_ptrA f d w 47 1 (by rw [ty_fl_47_1]; rfl) a, ty_fl_47_1]; rfl
theorem fd_55_0 {K : Fr → World → Prop} {u : World} {f : Fr} {d : Option Nat} {w : World} (a : Addr) : Val1 Tryd.prog K (Instr.fieldAt 55 (.pointer (some a)) 0) u f d w = K (updO f d (.pointer (some (a.add 0)))) w := by
  rw [fld_ptr u f d w 55 0 (by rw [ty_fl_55_0]; rfl) a, ty_fl_55_0]; rfl
theorem fdA_55_0 {K : Fr → World → Prop} {f : Fr} {d : Option Nat} {w : World} (a : Addr) : ValA Tryd.prog K (Instr.fieldAt 55 (.pointer (some a)) 0) f d w = K (updO f d (.pointer (some (a.add 0)))) w := by
  rw [fld_ptrA f d w 55 0 (by rw [ty_fl_55_0]; rfl) a, ty_fl_55_0]; rfl
theorem fd_55_1 {K : Fr → World → Prop} {u : World} {f : Fr} {d : Option Nat} {w : World} (a : Addr) : Val1 Tryd.prog K (Instr.fieldAt 55 (.pointer (some a)) 1) u f d w = K (updO f d (.pointer (some (a.add 1)))) w := by
  rw [fld_ptr u f d w 55 1 (by rw [ty_fl_55_1]; rfl) a, ty_fl_55_1]; rfl
theorem fdA_55_1 {K : Fr → World → Prop} {f : Fr} {d : Option Nat} {w : World} (a : Addr) : ValA Tryd.prog K (Instr.fieldAt 55 (.pointer (some a)) 1) f d w = K (updO f d (.pointer (some (a.add 1)))) w := by
  rw [fld_ptrA f d w 55 1 (by rw [ty_fl_55_1]; rfl) a, ty_fl_55_1]; rfl
theorem fd_55_2 {K : Fr → World → Prop} {u : World} {f : Fr} {d : Option Nat} {w : World} (a : Addr) : Val1 Tryd.prog K (Instr.fieldAt 55 (.pointer (some a)) 2) u f d w = K (updO f d (.pointer (some (a.add 2)))) w := by
  rw [fld_ptr u f d w 55 2 (by rw [ty_fl_55_2]; rfl) a, ty_fl_55_2]; rfl
theorem fdA_55_2 {K : Fr → World → Prop} {f : Fr} {d : Option Nat} {w : World} (a : Addr) : ValA Tryd.prog K (Instr.fieldAt 55 (.pointer (some a)) 2) f d w = K (updO f d (.pointer (some (a.add 2)))) w := by
  rw [fld_ptrA f d w 55 2 (by rw [ty_fl_55_2]; rfl) a, ty_fl_55_2]; rfl
theorem fd_55_3 {K : Fr → World → Prop} {u : World} {f : Fr} {d : Option Nat} {w : World} (a : Addr) : Val1 Tryd.prog K (Instr.fieldAt 55 (.pointer (some a)) 3) u f d w = K (updO f d (.pointer (some (a.add 3)))) w := by
  rw [fld_ptr u f d w 55 3 (by rw [ty_fl_55_3]; rfl) a, ty_fl_55_3]; rfl
theorem fdA_55_3 {K : Fr → World → Prop} {f : Fr} {d : Option Nat} {w : World} (a : Addr) : ValA Tryd.prog K (Instr.fieldAt 55 (.pointer (some a)) 3) f d w = K (updO f d (.pointer (some (a.add 3)))) w := by
  rw [fld_ptrA f d w 55 3 (by rw [ty_fl_55_3]; rfl) a, ty_fl_55_3]; rfl
theorem fd_56_0 {K : Fr → World → Prop} {u : World} {f : Fr} {d : Option Nat} {w : World} (a : Addr) : Val1 Tryd.prog K (Instr.fieldAt 56 (.pointer (some a)) 0) u f d w = K (updO f d (.pointer (some (a.add 0)))) w := by
  rw [fld_ptr u f d w 56 0 (by rw [ty_fl_56_0]; rfl) a, ty_fl_56_0]; rfl
theorem fdA_56_0 {K : Fr → World → Prop} {f : Fr} {d : Option Nat} {w : World} (a : Addr) : ValA Tryd.prog K (Instr.fieldAt 56 (.pointer (some a)) 0) f d w = K (updO f d (.pointer (some (a.add 0)))) w := by
  rw [fld_ptrA f d w 56 0 (by rw [ty_fl_56_0]; rfl) a, ty_fl_56_0]; rfl
theorem fd_56_1 {K : Fr → World → Prop} {u : World} {f : Fr} {d : Option Nat} {w : World} (a : Addr) : Val1 Tryd.prog K (Instr.fieldAt 56 (.pointer (some a)) 1) u f d w = K (updO f d (.pointer (some (a.add 1)))) w := by
  rw [fld_ptr u f d w 56 1 (by rw [ty_fl_56_1]; rfl) a, ty_fl_56_1]; rfl
theorem fdA_56_1 {K : Fr → World → Prop} {f : Fr} {d : Option Nat} {w : World} (a : Addr) : ValA Tryd.prog K (Instr.fieldAt 56 (.pointer (some a)) 1) f d w = K (updO f d (.pointer (some (a.add 1)))) w := by
  rw [fld_ptrA f d w 56 1 (by rw [ty_fl_56_1]; rfl) a, ty_fl_56_1]; rfl
theorem fd_56_2 {K : Fr → World → Prop} {u : World} {f : Fr} {d : Option Nat} {w : World} (a : Addr) : Val1 Tryd.prog K (Instr.fieldAt 56 (.pointer (some a)) 2) u f d w = K (updO f d (.pointer (some (a.add 2)))) w := by
  rw [fld_ptr u f d w 56 2 (by rw [ty_fl_56_2]; rfl) a, ty_fl_56_2]; rfl
theorem fdA_56_2 {K : Fr → World → Prop} {f : Fr} {d : Option Nat} {w : World} (a : Addr) : ValA Tryd.prog K (Instr.fieldAt 56 (.pointer (some a)) 2) f d w = K (updO f d (.pointer (some (a.add 2)))) w := by
  rw [fld_ptrA f d w 56 2 (by rw [ty_fl_56_2]; rfl) a, ty_fl_56_2]; rfl
theorem fd_56_3 {K : Fr → World → Prop} {u : World} {f : Fr} {d : Option Nat} {w : World} (a : Addr) : Val1 Tryd.prog K (Instr.fieldAt 56 (.pointer (some a)) 3) u f d w = K (updO f d (.pointer (some (a.add 3)))) w := by
  rw [fld_ptr u f d w 56 3 (by rw [ty_fl_56_3]; rfl) a, ty_fl_56_3]; rfl
theorem fdA_56_3 {K : Fr → World → Prop} {f : Fr} {d : Option Nat} {w : World} (a : Addr) : ValA Tryd.prog K (Instr.fieldAt 56 (.pointer (some a)) 3) f d w = K (updO f d (.pointer (some (a.add 3)))) w := by
  rw [fld_ptrA f d w 56 3 (by rw [ty_fl_56_3]; rfl) a, ty_fl_56_3]; rfl
theorem ix_72 {K : Fr → World → Prop} {u : World} {f : Fr} {d : Option Nat} {w : World} (A : Option Addr) (hA : A.isSome = true) (n c : Nat) (k : IntKind) (i : Int) (h0 : 0 ≤ i) (h1 : i < n) : Val1 Tryd.prog K (Instr.indexAt 72 (.slice A n c) (.int k i)) u f d w = K (updO f d (.pointer (some (eA A (i.toNat * 4))))) w := by
  rw [idx_sl u f d w 72 (by rw [ty_sl_72]; rfl) A hA n c k i h0 h1, ty_sl_72]; rfl
theorem ln_72 {K : Fr → World → Prop} {u : World} {f : Fr} {d : Option Nat} {w : World} (ty : TypeId) (A : Option Addr) (n c : Nat) : Val1 Tryd.prog K (Builtin.len_ #[72] ty #[.slice A n c]) u f d w = K (updO f d (.int .i64 n)) w := len_sl u f d w ty 72 (by rw [ty_sl_72]; rfl) A n c
theorem ixA_72 {K : Fr → World → Prop} {f : Fr} {d : Option Nat} {w : World} (A : Option Addr) (hA : A.isSome = true) (n c : Nat) (k : IntKind) (i : Int) (h0 : 0 ≤ i) (h1 : i < n) : ValA Tryd.prog K (Instr.indexAt 72 (.slice A n c) (.int k i)) f d w = K (updO f d (.pointer (some (eA A (i.toNat * 4))))) w := by
  rw [idx_slA f d w 72 (by rw [ty_sl_72]; rfl) A hA n c k i h0 h1, ty_sl_72]; rfl
theorem ix_75 {K : Fr → World → Prop} {u : World} {f : Fr} {d : Option Nat} {w : World} (a : Addr) (k : IntKind) (i : Int) (h0 : 0 ≤ i) (h1 : i < 4) : Val1 Tryd.prog K (Instr.indexAt 75 (.pointer (some a)) (.int k i)) u f d w = K (updO f d (.pointer (some (a.add (i.toNat * 1))))) w := by
  rw [idx_arr u f d w 75 (by rw [ty_ar_75]; rfl) a k i h0 (by rw [ty_ar_75]; exact h1), ty_ar_75]; rfl
theorem ixA_75 {K : Fr → World → Prop} {f : Fr} {d : Option Nat} {w : World} (a : Addr) (k : IntKind) (i : Int) (h0 : 0 ≤ i) (h1 : i < 4) : ValA Tryd.prog K (Instr.indexAt 75 (.pointer (some a)) (.int k i)) f d w = K (updO f d (.pointer (some (a.add (i.toNat * 1))))) w := by
  rw [idx_arrA f d w 75 (by rw [ty_ar_75]; rfl) a k i h0 (by rw [ty_ar_75]; exact h1), ty_ar_75]; rfl
theorem ix_76 {K : Fr → World → Prop} {u : World} {f : Fr} {d : Option Nat} {w : World} (a : Addr) (k : IntKind) (i : Int) (h0 : 0 ≤ i) (h1 : i < 4) : Val1 Tryd.prog K (Instr.indexAt 76 (.pointer (some a)) (.int k i)) u f d w = K (updO f d (.pointer (some (a.add (i.toNat * 1))))) w := by
  rw [idx_arr u f d w 76 (by rw [ty_ar_76]; rfl) a k i h0 (by rw [ty_ar_76]; exact h1), ty_ar_76]; rfl
theorem ixA_76 {K : Fr → World → Prop} {f : Fr} {d : Option Nat} {w : World} (a : Addr) (k : IntKind) (i : Int) (h0 : 0 ≤ i) (h1 : i < 4) : ValA Tryd.prog K (Instr.indexAt 76 (.pointer (some a)) (.int k i)) f d w = K (updO f d (.pointer (some (a.add (i.toNat * 1))))) w := by
  rw [idx_arrA f d w 76 (by rw [ty_ar_76]; rfl) a k i h0 (by rw [ty_ar_76]; exact h1), ty_ar_76]; rfl
theorem fd_84_0 {K : Fr → World → Prop} {u : World} {f : Fr} {d : Option Nat} {w : World} (a : Addr) : Val1 Tryd.prog K (Instr.fieldAt 84 (.pointer (some a)) 0) u f d w = K (updO f d (.pointer (some (a.add 0)))) w := by
  rw [fld_ptr u f d w 84 0 (by rw [ty_fl_84_0]; rfl) a, ty_fl_84_0]; rfl
theorem fdA_84_0 {K : Fr → World → Prop} {f : Fr} {d : Option Nat} {w : World} (a : Addr) : ValA Tryd.prog K (Instr.fieldAt 84 (.pointer (some a)) 0) f d w = K (updO f d (.pointer (some (a.add 0)))) w := by
  rw [fld_ptrA f d w 84 0 (by rw [ty_fl_84_0]; rfl) a, ty_fl_84_0]; rfl
theorem fd_84_1 {K : Fr → World → Prop} {u : World} {f : Fr} {d : Option Nat} {w : World} (a : Addr) : Val1 Tryd.prog K (Instr.fieldAt 84 (.pointer (some a)) 1) u f d w = K (updO f d (.pointer (some (a.add 1)))) w := by
  rw [fld_ptr u f d w 84 1 (by rw [ty_fl_84_1]; rfl) a, ty_fl_84_1]; rfl
theorem fdA_84_1 {K : Fr → World → Prop} {f : Fr} {d : Option Nat} {w : World} (a : Addr) : ValA Tryd.prog K (Instr.fieldAt 84 (.pointer (some a)) 1) f d w = K (updO f d (.pointer (some (a.add 1)))) w := by
  rw [fld_ptrA f d w 84 1 (by rw [ty_fl_84_1]; rfl) a, ty_fl_84_1]; rfl
theorem fd_84_2 {K : Fr → World → Prop} {u : World} {f : Fr} {d : Option Nat} {w : World} (a : Addr) : Val1 Tryd.prog K (Instr.fieldAt 84 (.pointer (some a)) 2) u f d w = K (updO f d (.pointer (some (a.add 2)))) w := by
  rw [fld_ptr u f d w 84 2 (by rw [ty_fl_84_2]; rfl) a, ty_fl_84_2]; rfl
theorem fdA_84_2 {K : Fr → World → Prop} {f : Fr} {d : Option Nat} {w : World} (a : Addr) : ValA Tryd.prog K (Instr.fieldAt 84 (.pointer (some a)) 2) f d w = K (updO f d (.pointer (some (a.add 2)))) w := by
  rw [fld_ptrA f d w 84 2 (by rw [ty_fl_84_2]; rfl) a, ty_fl_84_2]; rfl
theorem fd_85_0 {K : Fr → World → Prop} {u : World} {f : Fr} {d : Option Nat} {w : World} (a : Addr) : Val1 Tryd.prog K (Instr.fieldAt 85 (.pointer (some a)) 0) u f d w = K (updO f d (.pointer (some (a.add 0)))) w := by
  rw [fld_ptr u f d w 85 0 (by rw [ty_fl_85_0]; rfl) a, ty_fl_85_0]; rfl
theorem fdA_85_0 {K : Fr → World → Prop} {f : Fr} {d : Option Nat} {w : World} (a : Addr) : ValA Tryd.prog K (Instr.fieldAt 85 (.pointer (some a)) 0) f d w = K (updO f d (.pointer (some (a.add 0)))) w := by
  rw [fld_ptrA f d w 85 0 (by rw [ty_fl_85_0]; rfl) a, ty_fl_85_0]; rfl
theorem fd_85_1 {K : Fr → World → Prop} {u : World} {f : Fr} {d : Option Nat} {w : World} (a : Addr) : Val1 Tryd.prog K (Instr.fieldAt 85 (.pointer (some a)) 1) u f d w = K (updO f d (.pointer (some (a.add 1)))) w := by
  rw [fld_ptr u f d w 85 1 (by rw [ty_fl_85_1]; rfl) a, ty_fl_85_1]; rfl
theorem fdA_85_1 {K : Fr → World → Prop} {f : Fr} {d : Option Nat} {w : World} (a : Addr) : ValA Tryd.prog K (Instr.fieldAt 85 (.pointer (some a)) 1) f d w = K (updO f d (.pointer (some (a.add 1)))) w := by
  rw [fld_ptrA f d w 85 1 (by rw [ty_fl_85_1]; rfl) a, ty_fl_85_1]; rfl
theorem fd_85_2 {K : Fr → World → Prop} {u : World} {f : Fr} {d : Option Nat} {w : World} (a : Addr) : Val1 Tryd.prog K (Instr.fieldAt 85 (.pointer (some a)) 2) u f d w = K (updO f d (.pointer (some (a.add 2)))) w := by
  rw [fld_ptr u f d w 85 2 (by rw [ty_fl_85_2]; rfl) a, ty_fl_85_2]; rfl
theorem fdA_85_2 {K : Fr → World → Prop} {f : Fr} {d : Option Nat} {w : World} (a : Addr) : ValA Tryd.prog K (Instr.fieldAt 85 (.pointer (some a)) 2) f d w = K (updO f d (.pointer (some (a.add 2)))) w := by
  rw [fld_ptrA f d w 85 2 (by rw [ty_fl_85_2]; rfl) a, ty_fl_85_2]; rfl
theorem ix_97 {K : Fr → World → Prop} {u : World} {f : Fr} {d : Option Nat} {w : World} (A : Option Addr) (hA : A.isSome = true) (n c : Nat) (k : IntKind) (i : Int) (h0 : 0 ≤ i) (h1 : i < n) : Val1 Tryd.prog K (Instr.indexAt 97 (.slice A n c) (.int k i)) u f d w = K (updO f d (.pointer (some (eA A (i.toNat * 1))))) w := by
  rw [idx_sl u f d w 97 (by rw [ty_sl_97]; rfl) A hA n c k i h0 h1, ty_sl_97]; rfl
theorem ln_97 {K : Fr → World → Prop} {u : World} {f : Fr} {d : Option Nat} {w : World} (ty : TypeId) (A : Option Addr) (n c : Nat) : Val1 Tryd.prog K (Builtin.len_ #[97] ty #[.slice A n c]) u f d w = K (updO f d (.int .i64 n)) w := len_sl u f d w ty 97 (by rw [ty_sl_97]; rfl) A n c
theorem ixA_97 {K : Fr → World → Prop} {f : Fr} {d : Option Nat} {w : World} (A : Option Addr) (hA : A.isSome = true) (n c : Nat) (k : IntKind) (i : Int) (h0 : 0 ≤ i) (h1 : i < n) : ValA Tryd.prog K (Instr.indexAt 97 (.slice A n c) (.int k i)) f d w = K (updO f d (.pointer (some (eA A (i.toNat * 1))))) w := by
  rw [idx_slA f d w 97 (by rw [ty_sl_97]; rfl) A hA n c k i h0 h1, ty_sl_97]; rfl
theorem ix_100 {K : Fr → World → Prop} {u : World} {f : Fr} {d : Option Nat} {w : World} (A : Option Addr) (hA : A.isSome = true) (n c : Nat) (k : IntKind) (i : Int) (h0 : 0 ≤ i) (h1 : i < n) : Val1 Tryd.prog K (Instr.indexAt 100 (.slice A n c) (.int k i)) u f d w = K (updO f d (.pointer (some (eA A (i.toNat * 1))))) w := by
  rw [idx_sl u f d w 100 (by rw [ty_sl_100]; rfl) A hA n c k i h0 h1, ty_sl_100]; rfl
theorem ln_100 {K : Fr → World → Prop} {u : World} {f : Fr} {d : Option Nat} {w : World} (ty : TypeId) (A : Option Addr) (n c : Nat) : Val1 Tryd.prog K (Builtin.len_ #[100] ty #[.slice A n c]) u f d w = K (updO f d (.int .i64 n)) w := len_sl u f d w ty 100 (by rw [ty_sl_100]; rfl) A n c
theorem ixA_100 {K : Fr → World → Prop} {f : Fr} {d : Option Nat} {w : World} (A : Option Addr) (hA : A.isSome = true) (n c : Nat) (k : IntKind) (i : Int) (h0 : 0 ≤ i) (h1 : i < n) : ValA Tryd.prog K (Instr.indexAt 100 (.slice A n c) (.int k i)) f d w = K (updO f d (.pointer (some (eA A (i.toNat * 1))))) w := by
  rw [idx_slA f d w 100 (by rw [ty_sl_100]; rfl) A hA n c k i h0 h1, ty_sl_100]; rfl
theorem ix_101 {K : Fr → World → Prop} {u : World} {f : Fr} {d : Option Nat} {w : World} (A : Option Addr) (hA : A.isSome = true) (n c : Nat) (k : IntKind) (i : Int) (h0 : 0 ≤ i) (h1 : i < n) : Val1 Tryd.prog K (Instr.indexAt 101 (.slice A n c) (.int k i)) u f d w = K (updO f d (.pointer (some (eA A (i.toNat * 3))))) w := by
  rw [idx_sl u f d w 101 (by rw [ty_sl_101]; rfl) A hA n c k i h0 h1, ty_sl_101]; rfl
theorem ln_101 {K : Fr → World → Prop} {u : World} {f : Fr} {d : Option Nat} {w : World} (ty : TypeId) (A : Option Addr) (n c : Nat) : Val1 Tryd.prog K (Builtin.len_ #[101] ty #[.slice A n c]) u f d w = K (updO f d (.int .i64 n)) w := len_sl u f d w ty 101 (by rw [ty_sl_101]; rfl) A n c
theorem ixA_101 {K : Fr → World → Prop} {f : Fr} {d : Option Nat} {w : World} (A : Option Addr) (hA : A.isSome = true) (n c : Nat) (k : IntKind) (i : Int) (h0 : 0 ≤ i) (h1 : i < n) : ValA Tryd.prog K (Instr.indexAt 101 (.slice A n c) (.int k i)) f d w = K (updO f d (.pointer (some (eA A (i.toNat * 3))))) w := by
  rw [idx_slA f d w 101 (by rw [ty_sl_101]; rfl) A hA n c k i h0 h1, ty_sl_101]; rfl
theorem fd_103_0 {K : Fr → World → Prop} {u : World} {f : Fr} {d : Option Nat} {w : World} (a : Addr) : Val1 Tryd.prog K (Instr.fieldAt 103 (.pointer (some a)) 0) u f d w = K (updO f d (.pointer (some (a.add 0)))) w := by
  rw [fld_ptr u f d w 103 0 (by rw [ty_fl_103_0]; rfl) a, ty_fl_103_0]; rfl
theorem fdA_103_0 {K : Fr → World → Prop} {f : Fr} {d : Option Nat} {w : World} (a : Addr) : ValA Tryd.prog K (Instr.fieldAt 103 (.pointer (some a)) 0) f d w = K (updO f d (.pointer (some (a.add 0)))) w := by
  rw [fld_ptrA f d w 103 0 (by rw [ty_fl_103_0]; rfl) a, ty_fl_103_0]; rfl
theorem fd_103_1 {K : Fr → World → Prop} {u : World} {f : Fr} {d : Option Nat} {w : World} (a : Addr) : Val1 Tryd.prog K (Instr.fieldAt 103 (.pointer (some a)) 1) u f d w = K (updO f d (.pointer (some (a.add 1)))) w := by
  rw [fld_ptr u f d w 103 1 (by rw [ty_fl_103_1]; rfl) a, ty_fl_103_1]; rfl
theorem fdA_103_1 {K : Fr → World → Prop} {f : Fr} {d : Option Nat} {w : World} (a : Addr) : ValA Tryd.prog K (Instr.fieldAt 103 (.pointer (some a)) 1) f d w = K (updO f d (.pointer (some (a.add 1)))) w := by
  rw [fld_ptrA f d w 103 1 (by rw [ty_fl_103_1]; rfl) a, ty_fl_103_1]; rfl
theorem fd_103_2 {K : Fr → World → Prop} {u : World} {f : Fr} {d : Option Nat} {w : World} (a : Addr) : Val1 Tryd.prog K (Instr.fieldAt 103 (.pointer (some a)) 2) u f d w = K (updO f d (.pointer (some (a.add 2)))) w := by
  rw [fld_ptr u f d w 103 2 (by rw [ty_fl_103_2]; rfl) a, ty_fl_103_2]; rfl
theorem fdA_103_2 {K : Fr → World → Prop} {f : Fr} {d : Option Nat} {w : World} (a : Addr) : ValA Tryd.prog K (Instr.fieldAt 103 (.pointer (some a)) 2) f d w = K (updO f d (.pointer (some (a.add 2)))) w := by
  rw [fld_ptrA f d w 103 2 (by rw [ty_fl_103_2]; rfl) a, ty_fl_103_2]; rfl
theorem fd_104_0 {K : Fr → World → Prop} {u : World} {f : Fr} {d : Option Nat} {w : World} (a : Addr) : Val1 Tryd.prog K (Instr.fieldAt 104 (.pointer (some a)) 0) u f d w = K (updO f d (.pointer (some (a.add 0)))) w := by
  rw [fld_ptr u f d w 104 0 (by rw [ty_fl_104_0]; rfl) a, ty_fl_104_0]; rfl
theorem fdA_104_0 {K : Fr → World → Prop} {f : Fr} {d : Option Nat} {w : World} (a : Addr) : ValA Tryd.prog K (Instr.fieldAt 104 (.pointer (some a)) 0) f d w = K (updO f d (.pointer (some (a.add 0)))) w := by
  rw [fld_ptrA f d w 104 0 (by rw [ty_fl_104_0]; rfl) a, ty_fl_104_0]; rfl
theorem fd_104_1 {K : Fr → World → Prop} {u : World} {f : Fr} {d : Option Nat} {w : World} (a : Addr) : Val1 Tryd.prog K (Instr.fieldAt 104 (.pointer (some a)) 1) u f d w = K (updO f d (.pointer (some (a.add 1)))) w := by
  rw [fld_ptr u f d w 104 1 (by rw [ty_fl_104_1]; rfl) a, ty_fl_104_1]; rfl
theorem fdA_104_1 {K : Fr → World → Prop} {f : Fr} {d : Option Nat} {w : World} (a : Addr) : ValA Tryd.prog K (Instr.fieldAt 104 (.pointer (some a)) 1) f d w = K (updO f d (.pointer (some (a.add 1)))) w := by
  rw [fld_ptrA f d w 104 1 (by rw [ty_fl_104_1]; rfl) a, ty_fl_104_1]; rfl
theorem fd_104_2 {K : Fr → World → Prop} {u : World} {f : Fr} {d : Option Nat} {w : World} (a : Addr) : Val1 Tryd.prog K (Instr.fieldAt 104 (.pointer (some a)) 2) u f d w = K (updO f d (.pointer (some (a.add 2)))) w := by
  rw [fld_ptr u f d w 104 2 (by rw [ty_fl_104_2]; rfl) a, ty_fl_104_2]; rfl
theorem fdA_104_2 {K : Fr → World → Prop} {f : Fr} {d : Option Nat} {w : World} (a : Addr) : ValA Tryd.prog K (Instr.fieldAt 104 (.pointer (some a)) 2) f d w = K (updO f d (.pointer (some (a.add 2)))) w := by
  rw [fld_ptrA f d w 104 2 (by rw [ty_fl_104_2]; rfl) a, ty_fl_104_2]; rfl
theorem fd_107_0 {K : Fr → World → Prop} {u : World} {f : Fr} {d : Option Nat} {w : World} (a : Addr) : Val1 Tryd.prog K (Instr.fieldAt 107 (.pointer (some a)) 0) u f d w = K (updO f d (.pointer (some (a.add 0)))) w := by
  rw [fld_ptr u f d w 107 0 (by rw [ty_fl_107_0]; rfl) a, ty_fl_107_0]; rfl
theorem fdA_107_0 {K : Fr → World → Prop} {f : Fr} {d : Option Nat} {w : World} (a : Addr) : ValA Tryd.prog K (Instr.fieldAt 107 (.pointer (some a)) 0) f d w = K (updO f d (.pointer (some (a.add 0)))) w := by
  rw [fld_ptrA f d w 107 0 (by rw [ty_fl_107_0]; rfl) a, ty_fl_107_0]; rfl
theorem fd_107_1 {K : Fr → World → Prop} {u : World} {f : Fr} {d : Option Nat} {w : World} (a : Addr) : Val1 Tryd.prog K (Instr.fieldAt 107 (.pointer (some a)) 1) u f d w = K (updO f d (.pointer (some (a.add 7)))) w := by
  rw [fld_ptr u f d w 107 1 (by rw [ty_fl_107_1]; rfl) a, ty_fl_107_1]; rfl
theorem fdA_107_1 {K : Fr → World → Prop} {f : Fr} {d : Option Nat} {w : World} (a : Addr) : ValA Tryd.prog K (Instr.fieldAt 107 (.pointer (some a)) 1) f d w = K (updO f d (.pointer (some (a.add 7)))) w := by
  rw [fld_ptrA f d w 107 1 (by rw [ty_fl_107_1]; rfl) a, ty_fl_107_1]; rfl
theorem fd_107_2 {K : Fr → World → Prop} {u : World} {f : Fr} {d : Option Nat} {w : World} (a : Addr) : Val1 Tryd.prog K (Instr.fieldAt 107 (.pointer (some a)) 2) u f d w = K (updO f d (.pointer (some (a.add 8)))) w := by
  rw [fld_ptr u f d w 107 2 (by rw [ty_fl_107_2]; rfl) a, ty_fl_107_2]; rfl
theorem fdA_107_2 {K : Fr → World → Prop} {f : Fr} {d : Option Nat} {w : World} (a : Addr) : ValA Tryd.prog K (Instr.fieldAt 107 (.pointer (some a)) 2) f d w = K (updO f d (.pointer (some (a.add 8)))) w := by
  rw [fld_ptrA f d w 107 2 (by rw [ty_fl_107_2]; rfl) a, ty_fl_107_2]; rfl
theorem fd_108_0 {K : Fr → World → Prop} {u : World} {f : Fr} {d : Option Nat} {w : World} (a : Addr) : Val1 Tryd.prog K (Instr.fieldAt 108 (.pointer (some a)) 0) u f d w = K (updO f d (.pointer (some (a.add 0)))) w := by
  rw [fld_ptr u f d w 108 0 (by rw [ty_fl_108_0]; rfl) a, ty_fl_108_0]; rfl
theorem fdA_108_0 {K : Fr → World → Prop} {f : Fr} {d : Option Nat} {w : World} (a : Addr) : ValA Tryd.prog K (Instr.fieldAt 108 (.pointer (some a)) 0) f d w = K (updO f d (.pointer (some (a.add 0)))) w := by
  rw [fld_ptrA f d w 108 0 (by rw [ty_fl_108_0]; rfl) a, ty_fl_108_0]; rfl
theorem fd_108_1 {K : Fr → World → Prop} {u : World} {f : Fr} {d : Option Nat} {w : World} (a : Addr) : Val1 Tryd.prog K (Instr.fieldAt 108 (.pointer (some a)) 1) u f d w = K (updO f d (.pointer (some (a.add 7)))) w := by
  rw [fld_ptr u f d w 108 1 (by rw [ty_fl_108_1]; rfl) a, ty_fl_108_1]; rfl
theorem fdA_108_1 {K : Fr → World → Prop} {f : Fr} {d : Option Nat} {w : World} (a : Addr) : ValA Tryd.prog K (Instr.fieldAt 108 (.pointer (some a)) 1) f d w = K (updO f d (.pointer (some (a.add 7)))) w := by
  rw [fld_ptrA f d w 108 1 (by rw [ty_fl_108_1]; rfl) a, ty_fl_108_1]; rfl
theorem fd_108_2 {K : Fr → World → Prop} {u : World} {f : Fr} {d : Option Nat} {w : World} (a : Addr) : Val1 Tryd.prog K (Instr.fieldAt 108 (.pointer (some a)) 2) u f d w = K (updO f d (.pointer (some (a.add 8)))) w := by
  rw [fld_ptr u f d w 108 2 (by rw [ty_fl_108_2]; rfl) a, ty_fl_108_2]; rfl
theorem fdA_108_2 {K : Fr → World → Prop} {f : Fr} {d : Option Nat} {w : World} (a : Addr) : ValA Tryd.prog K (Instr.fieldAt 108 (.pointer (some a)) 2) f d w = K (updO f d (.pointer (some (a.add 8)))) w := by
  rw [fld_ptrA f d w 108 2 (by rw [ty_fl_108_2]; rfl) a, ty_fl_108_2]; rfl
theorem ix_120 {K : Fr → World → Prop} {u : World} {f : Fr} {d : Option Nat} {w : World} (A : Option Addr) (hA : A.isSome = true) (n c : Nat) (k : IntKind) (i : Int) (h0 : 0 ≤ i) (h1 : i < n) : Val1 Tryd.prog K (Instr.indexAt 120 (.slice A n c) (.int k i)) u f d w = K (updO f d (.pointer (some (eA A (i.toNat * 1))))) w := by
  rw [idx_sl u f d w 120 (by rw [ty_sl_120]; rfl) A hA n c k i h0 h1, ty_sl_120]; rfl
theorem ln_120 {K : Fr → World → Prop} {u : World} {f : Fr} {d : Option Nat} {w : World} (ty : TypeId) (A : Option Addr) (n c : Nat) : Val1 Tryd.prog K (Builtin.len_ #[120] ty #[.slice A n c]) u f d w = K (updO f d (.int .i64 n)) w := len_sl u f d w ty 120 (by rw [ty_sl_120]; rfl) A n c
theorem ixA_120 {K : Fr → World → Prop} {f : Fr} {d : Option Nat} {w : World} (A : Option Addr) (hA : A.isSome = true) (n c : Nat) (k : IntKind) (i : Int) (h0 : 0 ≤ i) (h1 : i < n) : ValA Tryd.prog K (Instr.indexAt 120 (.slice A n c) (.int k i)) f d w = K (updO f d (.pointer (some (eA A (i.toNat * 1))))) w := by
  rw [idx_slA f d w 120 (by rw [ty_sl_120]; rfl) A hA n c k i h0 h1, ty_sl_120]; rfl
theorem ix_124 {K : Fr → World → Prop} {u : World} {f : Fr} {d : Option Nat} {w : World} (A : Option Addr) (hA : A.isSome = true) (n c : Nat) (k : IntKind) (i : Int) (h0 : 0 ≤ i) (h1 : i < n) : Val1 Tryd.prog K (Instr.indexAt 124 (.slice A n c) (.int k i)) u f d w = K (updO f d (.pointer (some (eA A (i.toNat * 2))))) w := by
  rw [idx_sl u f d w 124 (by rw [ty_sl_124]; rfl) A hA n c k i h0 h1, ty_sl_124]; rfl
theorem ln_124 {K : Fr → World → Prop} {u : World} {f : Fr} {d : Option Nat} {w : World} (ty : TypeId) (A : Option Addr) (n c : Nat) : Val1 Tryd.prog K (Builtin.len_ #[124] ty #[.slice A n c]) u f d w = K (updO f d (.int .i64 n)) w := len_sl u f d w ty 124 (by rw [ty_sl_124]; rfl) A n c
theorem ixA_124 {K : Fr → World → Prop} {f : Fr} {d : Option Nat} {w : World} (A : Option Addr) (hA : A.isSome = true) (n c : Nat) (k : IntKind) (i : Int) (h0 : 0 ≤ i) (h1 : i < n) : ValA Tryd.prog K (Instr.indexAt 124 (.slice A n c) (.int k i)) f d w = K (updO f d (.pointer (some (eA A (i.toNat * 2))))) w := by
  rw [idx_slA f d w 124 (by rw [ty_sl_124]; rfl) A hA n c k i h0 h1, ty_sl_124]; rfl
theorem fd_125_0 {K : Fr → World → Prop} {u : World} {f : Fr} {d : Option Nat} {w : World} (a : Addr) : Val1 Tryd.prog K (Instr.fieldAt 125 (.pointer (some a)) 0) u f d w = K (updO f d (.pointer (some (a.add 0)))) w := by
  rw [fld_ptr u f d w 125 0 (by rw [ty_fl_125_0]; rfl) a, ty_fl_125_0]; rfl
theorem fdA_125_0 {K : Fr → World → Prop} {f : Fr} {d : Option Nat} {w : World} (a : Addr) : ValA Tryd.prog K (Instr.fieldAt 125 (.pointer (some a)) 0) f d w = K (updO f d (.pointer (some (a.add 0)))) w := by
  rw [fld_ptrA f d w 125 0 (by rw [ty_fl_125_0]; rfl) a, ty_fl_125_0]; rfl
theorem fd_125_1 {K : Fr → World → Prop} {u : World} {f : Fr} {d : Option Nat} {w : World} (a : Addr) : Val1 Tryd.prog K (Instr.fieldAt 125 (.pointer (some a)) 1) u f d w = K (updO f d (.pointer (some (a.add 1)))) w := by
  rw [fld_ptr u f d w 125 1 (by rw [ty_fl_125_1]; rfl) a, ty_fl_125_1]; rfl
theorem fdA_125_1 {K : Fr → World → Prop} {f : Fr} {d : Option Nat} {w : World} (a : Addr) : ValA Tryd.prog K (Instr.fieldAt 125 (.pointer (some a)) 1) f d w = K (updO f d (.pointer (some (a.add 1)))) w := by
  rw [fld_ptrA f d w 125 1 (by rw [ty_fl_125_1]; rfl) a, ty_fl_125_1]; rfl
theorem fd_126_0 {K : Fr → World → Prop} {u : World} {f : Fr} {d : Option Nat} {w : World} (a : Addr) : Val1 Tryd.prog K (Instr.fieldAt 126 (.pointer (some a)) 0) u f d w = K (updO f d (.pointer (some (a.add 0)))) w := by
  rw [fld_ptr u f d w 126 0 (by rw [ty_fl_126_0]; rfl) a, ty_fl_126_0]; rfl
theorem fdA_126_0 {K : Fr → World → Prop} {f : Fr} {d : Option Nat} {w : World} (a : Addr) : ValA Tryd.prog K (Instr.fieldAt 126 (.pointer (some a)) 0) f d w = K (updO f d (.pointer (some (a.add 0)))) w := by
  rw [fld_ptrA f d w 126 0 (by rw [ty_fl_126_0]; rfl) a, ty_fl_126_0]; rfl
theorem fd_126_1 {K : Fr → World → Prop} {u : World} {f : Fr} {d : Option Nat} {w : World} (a : Addr) : Val1 Tryd.prog K (Instr.fieldAt 126 (.pointer (some a)) 1) u f d w = K (updO f d (.pointer (some (a.add 1)))) w := by
  rw [fld_ptr u f d w 126 1 (by rw [ty_fl_126_1]; rfl) a, ty_fl_126_1]; rfl
theorem fdA_126_1 {K : Fr → World → Prop} {f : Fr} {d : Option Nat} {w : World} (a : Addr) : ValA Tryd.prog K (Instr.fieldAt 126 (.pointer (some a)) 1) f d w = K (updO f d (.pointer (some (a.add 1)))) w := by
  rw [fld_ptrA f d w 126 1 (by rw [ty_fl_126_1]; rfl) a, ty_fl_126_1]; rfl
theorem fd_127_0 {K : Fr → World → Prop} {u : World} {f : Fr} {d : Option Nat} {w : World} (a : Addr) : Val1 Tryd.prog K (Instr.fieldAt 127 (.pointer (some a)) 0) u f d w = K (updO f d (.pointer (some (a.add 0)))) w := by
  rw [fld_ptr u f d w 127 0 (by rw [ty_fl_127_0]; rfl) a, ty_fl_127_0]; rfl
theorem fdA_127_0 {K : Fr → World → Prop} {f : Fr} {d : Option Nat} {w : World} (a : Addr) : ValA Tryd.prog K (Instr.fieldAt 127 (.pointer (some a)) 0) f d w = K (updO f d (.pointer (some (a.add 0)))) w := by
  rw [fld_ptrA f d w 127 0 (by rw [ty_fl_127_0]; rfl) a, ty_fl_127_0]; rfl
theorem fd_127_1 {K : Fr → World → Prop} {u : World} {f : Fr} {d : Option Nat} {w : World} (a : Addr) : Val1 Tryd.prog K (Instr.fieldAt 127 (.pointer (some a)) 1) u f d w = K (updO f d (.pointer (some (a.add 2)))) w := by
  rw [fld_ptr u f d w 127 1 (by rw [ty_fl_127_1]; rfl) a, ty_fl_127_1]; rfl
theorem fdA_127_1 {K : Fr → World → Prop} {f : Fr} {d : Option Nat} {w : World} (a : Addr) : ValA Tryd.prog K (Instr.fieldAt 127 (.pointer (some a)) 1) f d w = K (updO f d (.pointer (some (a.add 2)))) w := by
  rw [fld_ptrA f d w 127 1 (by rw [ty_fl_127_1]; rfl) a, ty_fl_127_1]; rfl
theorem fd_128_0 {K : Fr → World → Prop} {u : World} {f : Fr} {d : Option Nat} {w : World} (a : Addr) : Val1 Tryd.prog K (Instr.fieldAt 128 (.pointer (some a)) 0) u f d w = K (updO f d (.pointer (some (a.add 0)))) w := by
  rw [fld_ptr u f d w 128 0 (by rw [ty_fl_128_0]; rfl) a, ty_fl_128_0]; rfl
theorem fdA_128_0 {K : Fr → World → Prop} {f : Fr} {d : Option Nat} {w : World} (a : Addr) : ValA Tryd.prog K (Instr.fieldAt 128 (.pointer (some a)) 0) f d w = K (updO f d (.pointer (some (a.add 0)))) w := by
  rw [fld_ptrA f d w 128 0 (by rw [ty_fl_128_0]; rfl) a, ty_fl_128_0]; rfl
theorem fd_128_1 {K : Fr → World → Prop} {u : World} {f : Fr} {d : Option Nat} {w : World} (a : Addr) : Val1 Tryd.prog K (Instr.fieldAt 128 (.pointer (some a)) 1) u f d w = K (updO f d (.pointer (some (a.add 2)))) w := by
  rw [fld_ptr u f d w 128 1 (by rw [ty_fl_128_1]; rfl) a, ty_fl_128_1]; rfl
theorem fdA_128_1 {K : Fr → World → Prop} {f : Fr} {d : Option Nat} {w : World} (a : Addr) : ValA Tryd.prog K (Instr.fieldAt 128 (.pointer (some a)) 1) f d w = K (updO f d (.pointer (some (a.add 2)))) w := by
  rw [fld_ptrA f d w 128 1 (by rw [ty_fl_128_1]; rfl) a, ty_fl_128_1]; rfl
theorem ix_129 {K : Fr → World → Prop} {u : World} {f : Fr} {d : Option Nat} {w : World} (A : Option Addr) (hA : A.isSome = true) (n c : Nat) (k : IntKind) (i : Int) (h0 : 0 ≤ i) (h1 : i < n) : Val1 Tryd.prog K (Instr.indexAt 129 (.slice A n c) (.int k i)) u f d w = K (updO f d (.pointer (some (eA A (i.toNat * 3))))) w := by
  rw [idx_sl u f d w 129 (by rw [ty_sl_129]; rfl) A hA n c k i h0 h1, ty_sl_129]; rfl
theorem ln_129 {K : Fr → World → Prop} {u : World} {f : Fr} {d : Option Nat} {w : World} (ty : TypeId) (A : Option Addr) (n c : Nat) : Val1 Tryd.prog K (Builtin.len_ #[129] ty #[.slice A n c]) u f d w = K (updO f d (.int .i64 n)) w := len_sl u f d w ty 129 (by rw [ty_sl_129]; rfl) A n c
theorem ixA_129 {K : Fr → World → Prop} {f : Fr} {d : Option Nat} {w : World} (A : Option Addr) (hA : A.isSome = true) (n c : Nat) (k : IntKind) (i : Int) (h0 : 0 ≤ i) (h1 : i < n) : ValA Tryd.prog K (Instr.indexAt 129 (.slice A n c) (.int k i)) f d w = K (updO f d (.pointer (some (eA A (i.toNat * 3))))) w := by
  rw [idx_slA f d w 129 (by rw [ty_sl_129]; rfl) A hA n c k i h0 h1, ty_sl_129]; rfl
theorem ix_134 {K : Fr → World → Prop} {u : World} {f : Fr} {d : Option Nat} {w : World} (A : Option Addr) (hA : A.isSome = true) (n c : Nat) (k : IntKind) (i : Int) (h0 : 0 ≤ i) (h1 : i < n) : Val1 Tryd.prog K (Instr.indexAt 134 (.slice A n c) (.int k i)) u f d w = K (updO f d (.pointer (some (eA A (i.toNat * 2))))) w := by
  rw [idx_sl u f d w 134 (by rw [ty_sl_134]; rfl) A hA n c k i h0 h1, ty_sl_134]; rfl
theorem ln_134 {K : Fr → World → Prop} {u : World} {f : Fr} {d : Option Nat} {w : World} (ty : TypeId) (A : Option Addr) (n c : Nat) : Val1 Tryd.prog K (Builtin.len_ #[134] ty #[.slice A n c]) u f d w = K (updO f d (.int .i64 n)) w := len_sl u f d w ty 134 (by rw [ty_sl_134]; rfl) A n c
theorem ixA_134 {K : Fr → World → Prop} {f : Fr} {d : Option Nat} {w : World} (A : Option Addr) (hA : A.isSome = true) (n c : Nat) (k : IntKind) (i : Int) (h0 : 0 ≤ i) (h1 : i < n) : ValA Tryd.prog K (Instr.indexAt 134 (.slice A n c) (.int k i)) f d w = K (updO f d (.pointer (some (eA A (i.toNat * 2))))) w := by
  rw [idx_slA f d w 134 (by rw [ty_sl_134]; rfl) A hA n c k i h0 h1, ty_sl_134]; rfl
theorem fd_135_0 {K : Fr → World → Prop} {u : World} {f : Fr} {d : Option Nat} {w : World} (a : Addr) : Val1 Tryd.prog K (Instr.fieldAt 135 (.pointer (some a)) 0) u f d w = K (updO f d (.pointer (some (a.add 0)))) w := by
  rw [fld_ptr u f d w 135 0 (by rw [ty_fl_135_0]; rfl) a, ty_fl_135_0]; rfl
theorem fdA_135_0 {K : Fr → World → Prop} {f : Fr} {d : Option Nat} {w : World} (a : Addr) : ValA Tryd.prog K (Instr.fieldAt 135 (.pointer (some a)) 0) f d w = K (updO f d (.pointer (some (a.add 0)))) w := by
  rw [fld_ptrA f d w 135 0 (by rw [ty_fl_135_0]; rfl) a, ty_fl_135_0]; rfl
theorem fd_135_1 {K : Fr → World → Prop} {u : World} {f : Fr} {d : Option Nat} {w : World} (a : Addr) : Val1 Tryd.prog K (Instr.fieldAt 135 (.pointer (some a)) 1) u f d w = K (updO f d (.pointer (some (a.add 5)))) w := by
  rw [fld_ptr u f d w 135 1 (by rw [ty_fl_135_1]; rfl) a, ty_fl_135_1]; rfl
theorem fdA_135_1 {K : Fr → World → Prop} {f : Fr} {d : Option Nat} {w : World} (a : Addr) : ValA Tryd.prog K (Instr.fieldAt 135 (.pointer (some a)) 1) f d w = K (updO f d (.pointer (some (a.add 5)))) w := by
  rw [fld_ptrA f d w 135 1 (by rw [ty_fl_135_1]; rfl) a, ty_fl_135_1]; rfl
theorem fd_135_2 {K : Fr → World → Prop} {u : World} {f : Fr} {d : Option Nat} {w : World} (a : Addr) : Val1 Tryd.prog K (Instr.fieldAt 135 (.pointer (some a)) 2) u f d w = K (updO f d (.pointer (some (a.add 6)))) w := by
  rw [fld_ptr u f d w 135 2 (by rw [ty_fl_135_2]; rfl) a, ty_fl_135_2]; rfl
theorem fdA_135_2 {K : Fr → World → Prop} {f : Fr} {d : Option Nat} {w : World} (a : Addr) : ValA Tryd.prog K (Instr.fieldAt 135 (.pointer (some a)) 2) f d w = K (updO f d (.pointer (some (a.add 6)))) w := by
  rw [fld_ptrA f d w 135 2 (by rw [ty_fl_135_2]; rfl) a, ty_fl_135_2]; rfl
theorem fd_136_0 {K : Fr → World → Prop} {u : World} {f : Fr} {d : Option Nat} {w : World} (a : Addr) : Val1 Tryd.prog K (Instr.fieldAt 136 (.pointer (some a)) 0) u f d w = K (updO f d (.pointer (some (a.add 0)))) w := by
  rw [fld_ptr u f d w 136 0 (by rw [ty_fl_136_0]; rfl) a, ty_fl_136_0]; rfl
theorem fdA_136_0 {K : Fr → World → Prop} {f : Fr} {d : Option Nat} {w : World} (a : Addr) : ValA Tryd.prog K (Instr.fieldAt 136 (.pointer (some a)) 0) f d w = K (updO f d (.pointer (some (a.add 0)))) w := by
  rw [fld_ptrA f d w 136 0 (by rw [ty_fl_136_0]; rfl) a, ty_fl_136_0]; rfl
theorem fd_136_1 {K : Fr → World → Prop} {u : World} {f : Fr} {d : Option Nat} {w : World} (a : Addr) : Val1 Tryd.prog K (Instr.fieldAt 136 (.pointer (some a)) 1) u f d w = K (updO f d (.pointer (some (a.add 5)))) w := by
  rw [fld_ptr u f d w 136 1 (by rw [ty_fl_136_1]; rfl) a, ty_fl_136_1]; rfl
theorem fdA_136_1 {K : Fr → World → Prop} {f : Fr} {d : Option Nat} {w : World} (a : Addr) : ValA Tryd.prog K (Instr.fieldAt 136 (.pointer (some a)) 1) f d w = K (updO f d (.pointer (some (a.add 5)))) w := by
  rw [fld_ptrA f d w 136 1 (by rw [ty_fl_136_1]; rfl) a, ty_fl_136_1]; rfl
theorem fd_136_2 {K : Fr → World → Prop} {u : World} {f : Fr} {d : Option Nat} {w : World} (a : Addr) : Val1 Tryd.prog K (Instr.fieldAt 136 (.pointer (some a)) 2) u f d w = K (updO f d (.pointer (some (a.add 6)))) w := by
  rw [fld_ptr u f d w 136 2 (by rw [ty_fl_136_2]; rfl) a, ty_fl_136_2]; rfl
theorem fdA_136_2 {K : Fr → World → Prop} {f : Fr} {d : Option Nat} {w : World} (a : Addr) : ValA Tryd.prog K (Instr.fieldAt 136 (.pointer (some a)) 2) f d w = K (updO f d (.pointer (some (a.add 6)))) w := by
  rw [fld_ptrA f d w 136 2 (by rw [ty_fl_136_2]; rfl) a, ty_fl_136_2]; rfl
theorem fd_138_0 {K : Fr → World → Prop} {u : World} {f : Fr} {d : Option Nat} {w : World} (a : Addr) : Val1 Tryd.prog K (Instr.fieldAt 138 (.pointer (some a)) 0) u f d w = K (updO f d (.pointer (some (a.add 0)))) w := by
  rw [fld_ptr u f d w 138 0 (by rw [ty_fl_138_0]; rfl) a, ty_fl_138_0]; rfl
theorem fdA_138_0 {K : Fr → World → Prop} {f : Fr} {d : Option Nat} {w : World} (a : Addr) : ValA Tryd.prog K (Instr.fieldAt 138 (.pointer (some a)) 0) f d w = K (updO f d (.pointer (some (a.add 0)))) w := by
  rw [fld_ptrA f d w 138 0 (by rw [ty_fl_138_0]; rfl) a, ty_fl_138_0]; rfl
theorem fd_138_1 {K : Fr → World → Prop} {u : World} {f : Fr} {d : Option Nat} {w : World} (a : Addr) : Val1 Tryd.prog K (Instr.fieldAt 138 (.pointer (some a)) 1) u f d w = K (updO f d (.pointer (some (a.add 1)))) w := by
  rw [fld_ptr u f d w 138 1 (by rw [ty_fl_138_1]; rfl) a, ty_fl_138_1]; rfl
theorem fdA_138_1 {K : Fr → World → Prop} {f : Fr} {d : Option Nat} {w : World} (a : Addr) : ValA Tryd.prog K (Instr.fieldAt 138 (.pointer (some a)) 1) f d w = K (updO f d (.pointer (some (a.add 1)))) w := by
  rw [fld_ptrA f d w 138 1 (by rw [ty_fl_138_1]; rfl) a, ty_fl_138_1]; rfl
theorem fd_139_0 {K : Fr → World → Prop} {u : World} {f : Fr} {d : Option Nat} {w : World} (a : Addr) : Val1 Tryd.prog K (Instr.fieldAt 139 (.pointer (some a)) 0) u f d w = K (updO f d (.pointer (some (a.add 0)))) w := by
  rw [fld_ptr u f d w 139 0 (by rw [ty_fl_139_0]; rfl) a, ty_fl_139_0]; rfl
theorem fdA_139_0 {K : Fr → World → Prop} {f : Fr} {d : Option Nat} {w : World} (a : Addr) : ValA Tryd.prog K (Instr.fieldAt 139 (.pointer (some a)) 0) f d w = K (updO f d (.pointer (some (a.add 0)))) w := by
  rw [fld_ptrA f d w 139 0 (by rw [ty_fl_139_0]; rfl) a, ty_fl_139_0]; rfl
theorem fd_139_1 {K : Fr → World → Prop} {u : World} {f : Fr} {d : Option Nat} {w : World} (a : Addr) : Val1 Tryd.prog K (Instr.fieldAt 139 (.pointer (some a)) 1) u f d w = K (updO f d (.pointer (some (a.add 1)))) w := by
  rw [fld_ptr u f d w 139 1 (by rw [ty_fl_139_1]; rfl) a, ty_fl_139_1]; rfl
theorem fdA_139_1 {K : Fr → World → Prop} {f : Fr} {d : Option Nat} {w : World} (a : Addr) : ValA Tryd.prog K (Instr.fieldAt 139 (.pointer (some a)) 1) f d w = K (updO f d (.pointer (some (a.add 1)))) w := by
  rw [fld_ptrA f d w 139 1 (by rw [ty_fl_139_1]; rfl) a, ty_fl_139_1]; rfl
theorem ix_156 {K : Fr → World → Prop} {u : World} {f : Fr} {d : Option Nat} {w : World} (a : Addr) (k : IntKind) (i : Int) (h0 : 0 ≤ i) (h1 : i < 8) : Val1 Tryd.prog K (Instr.indexAt 156 (.pointer (some a)) (.int k i)) u f d w = K (updO f d (.pointer (some (a.add (i.toNat * 1))))) w := by
  rw [idx_arr u f d w 156 (by rw [ty_ar_156]; rfl) a k i h0 (by rw [ty_ar_156]; exact h1), ty_ar_156]; rfl
theorem ixA_156 {K : Fr → World → Prop} {f : Fr} {d : Option Nat} {w : World} (a : Addr) (k : IntKind) (i : Int) (h0 : 0 ≤ i) (h1 : i < 8) : ValA Tryd.prog K (Instr.indexAt 156 (.pointer (some a)) (.int k i)) f d w = K (updO f d (.pointer (some (a.add (i.toNat * 1))))) w := by
  rw [idx_arrA f d w 156 (by rw [ty_ar_156]; rfl) a k i h0 (by rw [ty_ar_156]; exact h1), ty_ar_156]; rfl
theorem fd_157_0 {K : Fr → World → Prop} {u : World} {f : Fr} {d : Option Nat} {w : World} (a : Addr) : Val1 Tryd.prog K (Instr.fieldAt 157 (.pointer (some a)) 0) u f d w = K (updO f d (.pointer (some (a.add 0)))) w := by
  rw [fld_ptr u f d w 157 0 (by rw [ty_fl_157_0]; rfl) a, ty_fl_157_0]; rfl
theorem fdA_157_0 {K : Fr → World → Prop} {f : Fr} {d : Option Nat} {w : World} (a : Addr) : ValA Tryd.prog K (Instr.fieldAt 157 (.pointer (some a)) 0) f d w = K (updO f d (.pointer (some (a.add 0)))) w := by
  rw [fld_ptrA f d w 157 0 (by rw [ty_fl_157_0]; rfl) a, ty_fl_157_0]; rfl
theorem fd_157_1 {K : Fr → World → Prop} {u : World} {f : Fr} {d : Option Nat} {w : World} (a : Addr) : Val1 Tryd.prog K (Instr.fieldAt 157 (.pointer (some a)) 1) u f d w = K (updO f d (.pointer (some (a.add 1)))) w := by
  rw [fld_ptr u f d w 157 1 (by rw [ty_fl_157_1]; rfl) a, ty_fl_157_1]; rfl
theorem fdA_157_1 {K : Fr → World → Prop} {f : Fr} {d : Option Nat} {w : World} (a : Addr) : ValA Tryd.prog K (Instr.fieldAt 157 (.pointer (some a)) 1) f d w = K (updO f d (.pointer (some (a.add 1)))) w := by
  rw [fld_ptrA f d w 157 1 (by rw [ty_fl_157_1]; rfl) a, ty_fl_157_1]; rfl
theorem fd_158_0 {K : Fr → World → Prop} {u : World} {f : Fr} {d : Option Nat} {w : World} (a : Addr) : Val1 Tryd.prog K (Instr.fieldAt 158 (.pointer (some a)) 0) u f d w = K (updO f d (.pointer (some (a.add 0)))) w := by
  rw [fld_ptr u f d w 158 0 (by rw [ty_fl_158_0]; rfl) a, ty_fl_158_0]; rfl
theorem fdA_158_0 {K : Fr → World → Prop} {f : Fr} {d : Option Nat} {w : World} (a : Addr) : ValA Tryd.prog K (Instr.fieldAt 158 (.pointer (some a)) 0) f d w = K (updO f d (.pointer (some (a.add 0)))) w := by
  rw [fld_ptrA f d w 158 0 (by rw [ty_fl_158_0]; rfl) a, ty_fl_158_0]; rfl
theorem fd_158_1 {K : Fr → World → Prop} {u : World} {f : Fr} {d : Option Nat} {w : World} (a : Addr) : Val1 Tryd.prog K (Instr.fieldAt 158 (.pointer (some a)) 1) u f d w = K (updO f d (.pointer (some (a.add 1)))) w := by
  rw [fld_ptr u f d w 158 1 (by rw [ty_fl_158_1]; rfl) a, ty_fl_158_1]; rfl
theorem fdA_158_1 {K : Fr → World → Prop} {f : Fr} {d : Option Nat} {w : World} (a : Addr) : ValA Tryd.prog K (Instr.fieldAt 158 (.pointer (some a)) 1) f d w = K (updO f d (.pointer (some (a.add 1)))) w := by
  rw [fld_ptrA f d w 158 1 (by rw [ty_fl_158_1]; rfl) a, ty_fl_158_1]; rfl
theorem fd_171_0 {K : Fr → World → Prop} {u : World} {f : Fr} {d : Option Nat} {w : World} (a : Addr) : Val1 Tryd.prog K (Instr.fieldAt 171 (.pointer (some a)) 0) u f d w = K (updO f d (.pointer (some (a.add 0)))) w := by
  rw [fld_ptr u f d w 171 0 (by rw [ty_fl_171_0]; rfl) a, ty_fl_171_0]; rfl
theorem fdA_171_0 {K : Fr → World → Prop} {f : Fr} {d : Option Nat} {w : World} (a : Addr) : ValA Tryd.prog K (Instr.fieldAt 171 (.pointer (some a)) 0) f d w = K (updO f d (.pointer (some (a.add 0)))) w := by
  rw [fld_ptrA f d w 171 0 (by rw [ty_fl_171_0]; rfl) a, ty_fl_171_0]; rfl
theorem fd_171_1 {K : Fr → World → Prop} {u : World} {f : Fr} {d : Option Nat} {w : World} (a : Addr) : Val1 Tryd.prog K (Instr.fieldAt 171 (.pointer (some a)) 1) u f d w = K (updO f d (.pointer (some (a.add 4)))) w := by
  rw [fld_ptr u f d w 171 1 (by rw [ty_fl_171_1]; rfl) a, ty_fl_171_1]; rfl
theorem fdA_171_1 {K : Fr → World → Prop} {f : Fr} {d : Option Nat} {w : World} (a : Addr) : ValA Tryd.prog K (Instr.fieldAt 171 (.pointer (some a)) 1) f d w = K (updO f d (.pointer (some (a.add 4)))) w := by
  rw [fld_ptrA f d w 171 1 (by rw [ty_fl_171_1]; rfl) a, ty_fl_171_1]; rfl
theorem fd_172_0 {K : Fr → World → Prop} {u : World} {f : Fr} {d : Option Nat} {w : World} (a : Addr) : Val1 Tryd.prog K (Instr.fieldAt 172 (.pointer (some a)) 0) u f d w = K (updO f d (.pointer (some (a.add 0)))) w := by
  rw [fld_ptr u f d w 172 0 (by rw [ty_fl_172_0]; rfl) a, ty_fl_172_0]; rfl
theorem fdA_172_0 {K : Fr → World → Prop} {f : Fr} {d : Option Nat} {w : World} (a : Addr) : ValA Tryd.prog K (Instr.fieldAt 172 (.pointer (some a)) 0) f d w = K (updO f d (.pointer (some (a.add 0)))) w := by
  rw [fld_ptrA f d w 172 0 (by rw [ty_fl_172_0]; rfl) a, ty_fl_172_0]; rfl
theorem fd_172_1 {K : Fr → World → Prop} {u : World} {f : Fr} {d : Option Nat} {w : World} (a : Addr) : Val1 Tryd.prog K (Instr.fieldAt 172 (.pointer (some a)) 1) u f d w = K (updO f d (.pointer (some (a.add 4)))) w := by
  rw [fld_ptr u f d w 172 1 (by rw [ty_fl_172_1]; rfl) a, ty_fl_172_1]; rfl
theorem fdA_172_1 {K : Fr → World → Prop} {f : Fr} {d : Option Nat} {w : World} (a : Addr) : ValA Tryd.prog K (Instr.fieldAt 172 (.pointer (some a)) 1) f d w = K (updO f d (.pointer (some (a.add 4)))) w := by
  rw [fld_ptrA f d w 172 1 (by rw [ty_fl_172_1]; rfl) a, ty_fl_172_1]; rfl
theorem ix_179 {K : Fr → World → Prop} {u : World} {f : Fr} {d : Option Nat} {w : World} (a : Addr) (k : IntKind) (i : Int) (h0 : 0 ≤ i) (h1 : i < 64) : Val1 Tryd.prog K (Instr.indexAt 179 (.pointer (some a)) (.int k i)) u f d w = K (updO f d (.pointer (some (a.add (i.toNat * 1))))) w := by
  rw [idx_arr u f d w 179 (by rw [ty_ar_179]; rfl) a k i h0 (by rw [ty_ar_179]; exact h1), ty_ar_179]; rfl
theorem ixA_179 {K : Fr → World → Prop} {f : Fr} {d : Option Nat} {w : World} (a : Addr) (k : IntKind) (i : Int) (h0 : 0 ≤ i) (h1 : i < 64) : ValA Tryd.prog K (Instr.indexAt 179 (.pointer (some a)) (.int k i)) f d w = K (updO f d (.pointer (some (a.add (i.toNat * 1))))) w := by
  rw [idx_arrA f d w 179 (by rw [ty_ar_179]; rfl) a k i h0 (by rw [ty_ar_179]; exact h1), ty_ar_179]; rfl
theorem fd_184_0 {K : Fr → World → Prop} {u : World} {f : Fr} {d : Option Nat} {w : World} (a : Addr) : Val1 Tryd.prog K (Instr.fieldAt 184 (.pointer (some a)) 0) u f d w = K (updO f d (.pointer (some (a.add 0)))) w := by
  rw [fld_ptr u f d w 184 0 (by rw [ty_fl_184_0]; rfl) a, ty_fl_184_0]; rfl
theorem fdA_184_0 {K : Fr → World → Prop} {f : Fr} {d : Option Nat} {w : World} (a : Addr) : ValA Tryd.prog K (Instr.fieldAt 184 (.pointer (some a)) 0) f d w = K (updO f d (.pointer (some (a.add 0)))) w := by
  rw [fld_ptrA f d w 184 0 (by rw [ty_fl_184_0]; rfl) a, ty_fl_184_0]; rfl
theorem fd_184_1 {K : Fr → World → Prop} {u : World} {f : Fr} {d : Option Nat} {w : World} (a : Addr) : Val1 Tryd.prog K (Instr.fieldAt 184 (.pointer (some a)) 1) u f d w = K (updO f d (.pointer (some (a.add 8)))) w := by
  rw [fld_ptr u f d w 184 1 (by rw [ty_fl_184_1]; rfl) a, ty_fl_184_1]; rfl
theorem fdA_184_1 {K : Fr → World → Prop} {f : Fr} {d : Option Nat} {w : World} (a : Addr) : ValA Tryd.prog K (Instr.fieldAt 184 (.pointer (some a)) 1) f d w = K (updO f d (.pointer (some (a.add 8)))) w := by
  rw [fld_ptrA f d w 184 1 (by rw [ty_fl_184_1]; rfl) a, ty_fl_184_1]; rfl
theorem fd_184_2 {K : Fr → World → Prop} {u : World} {f : Fr} {d : Option Nat} {w : World} (a : Addr) : Val1 Tryd.prog K (Instr.fieldAt 184 (.pointer (some a)) 2) u f d w = K (updO f d (.pointer (some (a.add 9)))) w := by
  rw [fld_ptr u f d w 184 2 (by rw [ty_fl_184_2]; rfl) a, ty_fl_184_2]; rfl
theorem fdA_184_2 {K : Fr → World → Prop} {f : Fr} {d : Option Nat} {w : World} (a : Addr) : ValA Tryd.prog K (Instr.fieldAt 184 (.pointer (some a)) 2) f d w = K (updO f d (.pointer (some (a.add 9)))) w := by
  rw [fld_ptrA f d w 184 2 (by rw [ty_fl_184_2]; rfl) a, ty_fl_184_2]; rfl
theorem fd_185_0 {K : Fr → World → Prop} {u : World} {f : Fr} {d : Option Nat} {w : World} (a : Addr) : Val1 Tryd.prog K (Instr.fieldAt 185 (.pointer (some a)) 0) u f d w = K (updO f d (.pointer (some (a.add 0)))) w := by
  rw [fld_ptr u f d w 185 0 (by rw [ty_fl_185_0]; rfl) a, ty_fl_185_0]; rfl
theorem fdA_185_0 {K : Fr → World → Prop} {f : Fr} {d : Option Nat} {w : World} (a : Addr) : ValA Tryd.prog K (Instr.fieldAt 185 (.pointer (some a)) 0) f d w = K (updO f d (.pointer (some (a.add 0)))) w := by
  rw [fld_ptrA f d w 185 0 (by rw [ty_fl_185_0]; rfl) a, ty_fl_185_0]; rfl
theorem fd_185_1 {K : Fr → World → Prop} {u : World} {f : Fr} {d : Option Nat} {w : World} (a : Addr) : Val1 Tryd.prog K (Instr.fieldAt 185 (.pointer (some a)) 1) u f d w = K (updO f d (.pointer (some (a.add 8)))) w := by
  rw [fld_ptr u f d w 185 1 (by rw [ty_fl_185_1]; rfl) a, ty_fl_185_1]; rfl
theorem fdA_185_1 {K : Fr → World → Prop} {f : Fr} {d : Option Nat} {w : World} (a : Addr) : ValA Tryd.prog K (Instr.fieldAt 185 (.pointer (some a)) 1) f d w = K (updO f d (.pointer (some (a.add 8)))) w := by
  rw [fld_ptrA f d w 185 1 (by rw [ty_fl_185_1]; rfl) a, ty_fl_185_1]; rfl
theorem fd_185_2 {K : Fr → World → Prop} {u : World} {f : Fr} {d : Option Nat} {w : World} (a : Addr) : Val1 Tryd.prog K (Instr.fieldAt 185 (.pointer (some a)) 2) u f d w = K (updO f d (.pointer (some (a.add 9)))) w := by
  rw [fld_ptr u f d w 185 2 (by rw [ty_fl_185_2]; rfl) a, ty_fl_185_2]; rfl
theorem fdA_185_2 {K : Fr → World → Prop} {f : Fr} {d : Option Nat} {w : World} (a : Addr) : ValA Tryd.prog K (Instr.fieldAt 185 (.pointer (some a)) 2) f d w = K (updO f d (.pointer (some (a.add 9)))) w := by
  rw [fld_ptrA f d w 185 2 (by rw [ty_fl_185_2]; rfl) a, ty_fl_185_2]; rfl
theorem ix_186 {K : Fr → World → Prop} {u : World} {f : Fr} {d : Option Nat} {w : World} (A : Option Addr) (hA : A.isSome = true) (n c : Nat) (k : IntKind) (i : Int) (h0 : 0 ≤ i) (h1 : i < n) : Val1 Tryd.prog K (Instr.indexAt 186 (.slice A n c) (.int k i)) u f d w = K (updO f d (.pointer (some (eA A (i.toNat * 10))))) w := by
  rw [idx_sl u f d w 186 (by rw [ty_sl_186]; rfl) A hA n c k i h0 h1, ty_sl_186]; rfl
theorem ln_186 {K : Fr → World → Prop} {u : World} {f : Fr} {d : Option Nat} {w : World} (ty : TypeId) (A : Option Addr) (n c : Nat) : Val1 Tryd.prog K (Builtin.len_ #[186] ty #[.slice A n c]) u f d w = K (updO f d (.int .i64 n)) w := len_sl u f d w ty 186 (by rw [ty_sl_186]; rfl) A n c
theorem ixA_186 {K : Fr → World → Prop} {f : Fr} {d : Option Nat} {w : World} (A : Option Addr) (hA : A.isSome = true) (n c : Nat) (k : IntKind) (i : Int) (h0 : 0 ≤ i) (h1 : i < n) : ValA Tryd.prog K (Instr.indexAt 186 (.slice A n c) (.int k i)) f d w = K (updO f d (.pointer (some (eA A (i.toNat * 10))))) w := by
  rw [idx_slA f d w 186 (by rw [ty_sl_186]; rfl) A hA n c k i h0 h1, ty_sl_186]; rfl
theorem fd_207_0 {K : Fr → World → Prop} {u : World} {f : Fr} {d : Option Nat} {w : World} (a : Addr) : Val1 Tryd.prog K (Instr.fieldAt 207 (.pointer (some a)) 0) u f d w = K (updO f d (.pointer (some (a.add 0)))) w := by
  rw [fld_ptr u f d w 207 0 (by rw [ty_fl_207_0]; rfl) a, ty_fl_207_0]; rfl
theorem fdA_207_0 {K : Fr → World → Prop} {f : Fr} {d : Option Nat} {w : World} (a : Addr) : ValA Tryd.prog K (Instr.fieldAt 207 (.pointer (some a)) 0) f d w = K (updO f d (.pointer (some (a.add 0)))) w := by
  rw [fld_ptrA f d w 207 0 (by rw [ty_fl_207_0]; rfl) a, ty_fl_207_0]; rfl
theorem fd_207_1 {K : Fr → World → Prop} {u : World} {f : Fr} {d : Option Nat} {w : World} (a : Addr) : Val1 Tryd.prog K (Instr.fieldAt 207 (.pointer (some a)) 1) u f d w = K (updO f d (.pointer (some (a.add 1)))) w := by
  rw [fld_ptr u f d w 207 1 (by rw [ty_fl_207_1]; rfl) a, ty_fl_207_1]; rfl
theorem fdA_207_1 {K : Fr → World → Prop} {f : Fr} {d : Option Nat} {w : World} (a : Addr) : ValA Tryd.prog K (Instr.fieldAt 207 (.pointer (some a)) 1) f d w = K (updO f d (.pointer (some (a.add 1)))) w := by
  rw [fld_ptrA f d w 207 1 (by rw [ty_fl_207_1]; rfl) a, ty_fl_207_1]; rfl
theorem fd_207_2 {K : Fr → World → Prop} {u : World} {f : Fr} {d : Option Nat} {w : World} (a : Addr) : Val1 Tryd.prog K (Instr.fieldAt 207 (.pointer (some a)) 2) u f d w = K (updO f d (.pointer (some (a.add 2)))) w := by
  rw [fld_ptr u f d w 207 2 (by rw [ty_fl_207_2]; rfl) a, ty_fl_207_2]; rfl
theorem fdA_207_2 {K : Fr → World → Prop} {f : Fr} {d : Option Nat} {w : World} (a : Addr) : ValA Tryd.prog K (Instr.fieldAt 207 (.pointer (some a)) 2) f d w = K (updO f d (.pointer (some (a.add 2)))) w := by
  rw [fld_ptrA f d w 207 2 (by rw [ty_fl_207_2]; rfl) a, ty_fl_207_2]; rfl
theorem fd_207_3 {K : Fr → World → Prop} {u : World} {f : Fr} {d : Option Nat} {w : World} (a : Addr) : Val1 Tryd.prog K (Instr.fieldAt 207 (.pointer (some a)) 3) u f d w = K (updO f d (.pointer (some (a.add 3)))) w := by
  rw [fld_ptr u f d w 207 3 (by rw [ty_fl_207_3]; rfl) a, ty_fl_207_3]; rfl
theorem fdA_207_3 {K : Fr → World → Prop} {f : Fr} {d : Option Nat} {w : World} (a : Addr) : ValA Tryd.prog K (Instr.fieldAt 207 (.pointer (some a)) 3) f d w = K (updO f d (.pointer (some (a.add 3)))) w := by
  rw [fld_ptrA f d w 207 3 (by rw [ty_fl_207_3]; rfl) a, ty_fl_207_3]; rfl
theorem fd_208_0 {K : Fr → World → Prop} {u : World} {f : Fr} {d : Option Nat} {w : World} (a : Addr) : Val1 Tryd.prog K (Instr.fieldAt 208 (.pointer (some a)) 0) u f d w = K (updO f d (.pointer (some (a.add 0)))) w := by
  rw [fld_ptr u f d w 208 0 (by rw [ty_fl_208_0]; rfl) a, ty_fl_208_0]; rfl
theorem fdA_208_0 {K : Fr → World → Prop} {f : Fr} {d : Option Nat} {w : World} (a : Addr) : ValA Tryd.prog K (Instr.fieldAt 208 (.pointer (some a)) 0) f d w = K (updO f d (.pointer (some (a.add 0)))) w := by
  rw [fld_ptrA f d w 208 0 (by rw [ty_fl_208_0]; rfl) a, ty_fl_208_0]; rfl
theorem fd_208_1 {K : Fr → World → Prop} {u : World} {f : Fr} {d : Option Nat} {w : World} (a : Addr) : Val1 Tryd.prog K (Instr.fieldAt 208 (.pointer (some a)) 1) u f d w = K (updO f d (.pointer (some (a.add 1)))) w := by
  rw [fld_ptr u f d w 208 1 (by rw [ty_fl_208_1]; rfl) a, ty_fl_208_1]; rfl
theorem fdA_208_1 {K : Fr → World → Prop} {f : Fr} {d : Option Nat} {w : World} (a : Addr) : ValA Tryd.prog K (Instr.fieldAt 208 (.pointer (some a)) 1) f d w = K (updO f d (.pointer (some (a.add 1)))) w := by
  rw [fld_ptrA f d w 208 1 (by rw [ty_fl_208_1]; rfl) a, ty_fl_208_1]; rfl
theorem fd_208_2 {K : Fr → World → Prop} {u : World} {f : Fr} {d : Option Nat} {w : World} (a : Addr) : Val1 Tryd.prog K (Instr.fieldAt 208 (.pointer (some a)) 2) u f d w = K (updO f d (.pointer (some (a.add 2)))) w := by
  rw [fld_ptr u f d w 208 2 (by rw [ty_fl_208_2]; rfl) a, ty_fl_208_2]; rfl
theorem fdA_208_2 {K : Fr → World → Prop} {f : Fr} {d : Option Nat} {w : World} (a : Addr) : ValA Tryd.prog K (Instr.fieldAt 208 (.pointer (some a)) 2) f d w = K (updO f d (.pointer (some (a.add 2)))) w := by
  rw [fld_ptrA f d w 208 2 (by rw [ty_fl_208_2]; rfl) a, ty_fl_208_2]; rfl
theorem fd_208_3 {K : Fr → World → Prop} {u : World} {f : Fr} {d : Option Nat} {w : World} (a : Addr) : Val1 Tryd.prog K (Instr.fieldAt 208 (.pointer (some a)) 3) u f d w = K (updO f d (.pointer (some (a.add 3)))) w := by
  rw [fld_ptr u f d w 208 3 (by rw [ty_fl_208_3]; rfl) a, ty_fl_208_3]; rfl
theorem fdA_208_3 {K : Fr → World → Prop} {f : Fr} {d : Option Nat} {w : World} (a : Addr) : ValA Tryd.prog K (Instr.fieldAt 208 (.pointer (some a)) 3) f d w = K (updO f d (.pointer (some (a.add 3)))) w := by
  rw [fld_ptrA f d w 208 3 (by rw [ty_fl_208_3]; rfl) a, ty_fl_208_3]; rfl
theorem ix_209 {K : Fr → World → Prop} {u : World} {f : Fr} {d : Option Nat} {w : World} (a : Addr) (k : IntKind) (i : Int) (h0 : 0 ≤ i) (h1 : i < 0) : Val1 Tryd.prog K (Instr.indexAt 209 (.pointer (some a)) (.int k i)) u f d w = K (updO f d (.pointer (some (a.add (i.toNat * 1))))) w := by
  rw [idx_arr u f d w 209 (by rw [ty_ar_209]; rfl) a k i h0 (by rw [ty_ar_209]; exact h1), ty_ar_209]; rfl
theorem ixA_209 {K : Fr → World → Prop} {f : Fr} {d : Option Nat} {w : World} (a : Addr) (k : IntKind) (i : Int) (h0 : 0 ≤ i) (h1 : i < 0) : ValA Tryd.prog K (Instr.indexAt 209 (.pointer (some a)) (.int k i)) f d w = K (updO f d (.pointer (some (a.add (i.toNat * 1))))) w := by
  rw [idx_arrA f d w 209 (by rw [ty_ar_209]; rfl) a k i h0 (by rw [ty_ar_209]; exact h1), ty_ar_209]; rfl
theorem fd_219_0 {K : Fr → World → Prop} {u : World} {f : Fr} {d : Option Nat} {w : World} (a : Addr) : Val1 Tryd.prog K (Instr.fieldAt 219 (.pointer (some a)) 0) u f d w = K (updO f d (.pointer (some (a.add 0)))) w := by
  rw [fld_ptr u f d w 219 0 (by rw [ty_fl_219_0]; rfl) a, ty_fl_219_0]; rfl
theorem fdA_219_0 {K : Fr → World → Prop} {f : Fr} {d : Option Nat} {w : World} (a : Addr) : ValA Tryd.prog K (Instr.fieldAt 219 (.pointer (some a)) 0) f d w = K (updO f d (.pointer (some (a.add 0)))) w := by
  rw [fld_ptrA f d w 219 0 (by rw [ty_fl_219_0]; rfl) a, ty_fl_219_0]; rfl
theorem fd_219_1 {K : Fr → World → Prop} {u : World} {f : Fr} {d : Option Nat} {w : World} (a : Addr) : Val1 Tryd.prog K (Instr.fieldAt 219 (.pointer (some a)) 1) u f d w = K (updO f d (.pointer (some (a.add 1)))) w := by
  rw [fld_ptr u f d w 219 1 (by rw [ty_fl_219_1]; rfl) a, ty_fl_219_1]; rfl
theorem fdA_219_1 {K : Fr → World → Prop} {f : Fr} {d : Option Nat} {w : World} (a : Addr) : ValA Tryd.prog K (Instr.fieldAt 219 (.pointer (some a)) 1) f d w = K (updO f d (.pointer (some (a.add 1)))) w := by
  rw [fld_ptrA f d w 219 1 (by rw [ty_fl_219_1]; rfl) a, ty_fl_219_1]; rfl
theorem fd_219_2 {K : Fr → World → Prop} {u : World} {f : Fr} {d : Option Nat} {w : World} (a : Addr) : Val1 Tryd.prog K (Instr.fieldAt 219 (.pointer (some a)) 2) u f d w = K (updO f d (.pointer (some (a.add 2)))) w := by
  rw [fld_ptr u f d w 219 2 (by rw [ty_fl_219_2]; rfl) a, ty_fl_219_2]; rfl
theorem fdA_219_2 {K : Fr → World → Prop} {f : Fr} {d : Option Nat} {w : World} (a : Addr) : ValA Tryd.prog K (Instr.fieldAt 219 (.pointer (some a)) 2) f d w = K (updO f d (.pointer (some (a.add 2)))) w := by
  rw [fld_ptrA f d w 219 2 (by rw [ty_fl_219_2]; rfl) a, ty_fl_219_2]; rfl
theorem fd_219_3 {K : Fr → World → Prop} {u : World} {f : Fr} {d : Option Nat} {w : World} (a : Addr) : Val1 Tryd.prog K (Instr.fieldAt 219 (.pointer (some a)) 3) u f d w = K (updO f d (.pointer (some (a.add 3)))) w := by
  rw [fld_ptr u f d w 219 3 (by rw [ty_fl_219_3]; rfl) a, ty_fl_219_3]; rfl
theorem fdA_219_3 {K : Fr → World → Prop} {f : Fr} {d : Option Nat} {w : World} (a : Addr) : ValA Tryd.prog K (Instr.fieldAt 219 (.pointer (some a)) 3) f d w = K (updO f d (.pointer (some (a.add 3)))) w := by
  rw [fld_ptrA f d w 219 3 (by rw [ty_fl_219_3]; rfl) a, ty_fl_219_3]; rfl
theorem fd_219_4 {K : Fr → World → Prop} {u : World} {f : Fr} {d : Option Nat} {w : World} (a : Addr) : Val1 Tryd.prog K (Instr.fieldAt 219 (.pointer (some a)) 4) u f d w = K (updO f d (.pointer (some (a.add 4)))) w := by
  rw [fld_ptr u f d w 219 4 (by rw [ty_fl_219_4]; rfl) a, ty_fl_219_4]; rfl
theorem fdA_219_4 {K : Fr → World → Prop} {f : Fr} {d : Option Nat} {w : World} (a : Addr) : ValA Tryd.prog K (Instr.fieldAt 219 (.pointer (some a)) 4) f d w = K (updO f d (.pointer (some (a.add 4)))) w := by
  rw [fld_ptrA f d w 219 4 (by rw [ty_fl_219_4]; rfl) a, ty_fl_219_4]; rfl
theorem fd_219_5 {K : Fr → World → Prop} {u : World} {f : Fr} {d : Option Nat} {w : World} (a : Addr) : Val1 Tryd.prog K (Instr.fieldAt 219 (.pointer (some a)) 5) u f d w = K (updO f d (.pointer (some (a.add 5)))) w := by
  rw [fld_ptr u f d w 219 5 (by rw [ty_fl_219_5]; rfl) a, ty_fl_219_5]; rfl
theorem fdA_219_5 {K : Fr → World → Prop} {f : Fr} {d : Option Nat} {w : World} (a : Addr) : ValA Tryd.prog K (Instr.fieldAt 219 (.pointer (some a)) 5) f d w = K (updO f d (.pointer (some (a.add 5)))) w := by
  rw [fld_ptrA f d w 219 5 (by rw [ty_fl_219_5]; rfl) a, ty_fl_219_5]; rfl
theorem fd_219_6 {K : Fr → World → Prop} {u : World} {f : Fr} {d : Option Nat} {w : World} (a : Addr) : Val1 Tryd.prog K (Instr.fieldAt 219 (.pointer (some a)) 6) u f d w = K (updO f d (.pointer (some (a.add 6)))) w := by
  rw [fld_ptr u f d w 219 6 (by rw [ty_fl_219_6]; rfl) a, ty_fl_219_6]; rfl
theorem fdA_219_6 {K : Fr → World → Prop} {f : Fr} {d : Option Nat} {w : World} (a : Addr) : ValA Tryd.prog K (Instr.fieldAt 219 (.pointer (some a)) 6) f d w = K (updO f d (.pointer (some (a.add 6)))) w := by
  rw [fld_ptrA f d w 219 6 (by rw [ty_fl_219_6]; rfl) a, ty_fl_219_6]; rfl
theorem fd_219_7 {K : Fr → World → Prop} {u : World} {f : Fr} {d : Option Nat} {w : World} (a : Addr) : Val1 Tryd.prog K (Instr.fieldAt 219 (.pointer (some a)) 7) u f d w = K (updO f d (.pointer (some (a.add 7)))) w := by
  rw [fld_ptr u f d w 219 7 (by rw [ty_fl_219_7]; rfl) a, ty_fl_219_7]; rfl
theorem fdA_219_7 {K : Fr → World → Prop} {f : Fr} {d : Option Nat} {w : World} (a : Addr) : ValA Tryd.prog K (Instr.fieldAt 219 (.pointer (some a)) 7) f d w = K (updO f d (.pointer (some (a.add 7)))) w := by
  rw [fld_ptrA f d w 219 7 (by rw [ty_fl_219_7]; rfl) a, ty_fl_219_7]; rfl
theorem fd_219_8 {K : Fr → World → Prop} {u : World} {f : Fr} {d : Option Nat} {w : World} (a : Addr) : Val1 Tryd.prog K (Instr.fieldAt 219 (.pointer (some a)) 8) u f d w = K (updO f d (.pointer (some (a.add 8)))) w := by
  rw [fld_ptr u f d w 219 8 (by rw [ty_fl_219_8]; rfl) a, ty_fl_219_8]; rfl
theorem fdA_219_8 {K : Fr → World → Prop} {f : Fr} {d : Option Nat} {w : World} (a : Addr) : ValA Tryd.prog K (Instr.fieldAt 219 (.pointer (some a)) 8) f d w = K (updO f d (.pointer (some (a.add 8)))) w := by
  rw [fld_ptrA f d w 219 8 (by rw [ty_fl_219_8]; rfl) a, ty_fl_219_8]; rfl
theorem fd_219_9 {K : Fr → World → Prop} {u : World} {f : Fr} {d : Option Nat} {w : World} (a : Addr) : Val1 Tryd.prog K (Instr.fieldAt 219 (.pointer (some a)) 9) u f d w = K (updO f d (.pointer (some (a.add 9)))) w := by
  rw [fld_ptr u f d w 219 9 (by rw [ty_fl_219_9]; rfl) a, ty_fl_219_9]; rfl
theorem fdA_219_9 {K : Fr → World → Prop} {f : Fr} {d : Option Nat} {w : World} (a : Addr) : ValA Tryd.prog K (Instr.fieldAt 219 (.pointer (some a)) 9) f d w = K (updO f d (.pointer (some (a.add 9)))) w := by
  rw [fld_ptrA f d w 219 9 (by rw [ty_fl_219_9]; rfl) a, ty_fl_219_9]; rfl
theorem fd_219_10 {K : Fr → World → Prop} {u : World} {f : Fr} {d : Option Nat} {w : World} (a : Addr) : Val1 Tryd.prog K (Instr.fieldAt 219 (.pointer (some a)) 10) u f d w = K (updO f d (.pointer (some (a.add 10)))) w := by
  rw [fld_ptr u f d w 219 10 (by rw [ty_fl_219_10]; rfl) a, ty_fl_219_10]; rfl
theorem fdA_219_10 {K : Fr → World → Prop} {f : Fr} {d : Option Nat} {w : World} (a : Addr) : ValA Tryd.prog K (Instr.fieldAt 219 (.pointer (some a)) 10) f d w = K (updO f d (.pointer (some (a.add 10)))) w := by
  rw [fld_ptrA f d w 219 10 (by rw [ty_fl_219_10]; rfl) a, ty_fl_219_10]; rfl
theorem fd_220_0 {K : Fr → World → Prop} {u : World} {f : Fr} {d : Option Nat} {w : World} (a : Addr) : Val1 Tryd.prog K (Instr.fieldAt 220 (.pointer (some a)) 0) u f d w = K (updO f d (.pointer (some (a.add 0)))) w := by
  rw [fld_ptr u f d w 220 0 (by rw [ty_fl_220_0]; rfl) a, ty_fl_220_0]; rfl
theorem fdA_220_0 {K : Fr → World → Prop} {f : Fr} {d : Option Nat} {w : World} (a : Addr) : ValA Tryd.prog K (Instr.fieldAt 220 (.pointer (some a)) 0) f d w = K (updO f d (.pointer (some (a.add 0)))) w := by
  rw [fld_ptrA f d w 220 0 (by rw [ty_fl_220_0]; rfl) a, ty_fl_220_0]; rfl
theorem fd_220_1 {K : Fr → World → Prop} {u : World} {f : Fr} {d : Option Nat} {w : World} (a : Addr) : Val1 Tryd.prog K (Instr.fieldAt 220 (.pointer (some a)) 1) u f d w = K (updO f d (.pointer (some (a.add 1)))) w := by
  rw [fld_ptr u f d w 220 1 (by rw [ty_fl_220_1]; rfl) a, ty_fl_220_1]; rfl
theorem fdA_220_1 {K : Fr → World → Prop} {f : Fr} {d : Option Nat} {w : World} (a : Addr) : ValA Tryd.prog K (Instr.fieldAt 220 (.pointer (some a)) 1) f d w = K (updO f d (.pointer (some (a.add 1)))) w := by
  rw [fld_ptrA f d w 220 1 (by rw [ty_fl_220_1]; rfl) a, ty_fl_220_1]; rfl
theorem fd_220_2 {K : Fr → World → Prop} {u : World} {f : Fr} {d : Option Nat} {w : World} (a : Addr) : Val1 Tryd.prog K (Instr.fieldAt 220 (.pointer (some a)) 2) u f d w = K (updO f d (.pointer (some (a.add 2)))) w := by
  rw [fld_ptr u f d w 220 2 (by rw [ty_fl_220_2]; rfl) a, ty_fl_220_2]; rfl
theorem fdA_220_2 {K : Fr → World → Prop} {f : Fr} {d : Option Nat} {w : World} (a : Addr) : ValA Tryd.prog K (Instr.fieldAt 220 (.pointer (some a)) 2) f d w = K (updO f d (.pointer (some (a.add 2)))) w := by
  rw [fld_ptrA f d w 220 2 (by rw [ty_fl_220_2]; rfl) a, ty_fl_220_2]; rfl
theorem fd_220_3 {K : Fr → World → Prop} {u : World} {f : Fr} {d : Option Nat} {w : World} (a : Addr) : Val1 Tryd.prog K (Instr.fieldAt 220 (.pointer (some a)) 3) u f d w = K (updO f d (.pointer (some (a.add 3)))) w := by
  rw [fld_ptr u f d w 220 3 (by rw [ty_fl_220_3]; rfl) a, ty_fl_220_3]; rfl
theorem fdA_220_3 {K : Fr → World → Prop} {f : Fr} {d : Option Nat} {w : World} (a : Addr) : ValA Tryd.prog K (Instr.fieldAt 220 (.pointer (some a)) 3) f d w = K (updO f d (.pointer (some (a.add 3)))) w := by
  rw [fld_ptrA f d w 220 3 (by rw [ty_fl_220_3]; rfl) a, ty_fl_220_3]; rfl
theorem fd_220_4 {K : Fr → World → Prop} {u : World} {f : Fr} {d : Option Nat} {w : World} (a : Addr) : Val1 Tryd.prog K (Instr.fieldAt 220 (.pointer (some a)) 4) u f d w = K (updO f d (.pointer (some (a.add 4)))) w := by
  rw [fld_ptr u f d w 220 4 (by rw [ty_fl_220_4]; rfl) a, ty_fl_220_4]; rfl
theorem fdA_220_4 {K : Fr → World → Prop} {f : Fr} {d : Option Nat} {w : World} (a : Addr) : ValA Tryd.prog K (Instr.fieldAt 220 (.pointer (some a)) 4) f d w = K (updO f d (.pointer (some (a.add 4)))) w := by
  rw [fld_ptrA f d w 220 4 (by rw [ty_fl_220_4]; rfl) a, ty_fl_220_4]; rfl
theorem fd_220_5 {K : Fr → World → Prop} {u : World} {f : Fr} {d : Option Nat} {w : World} (a : Addr) : Val1 Tryd.prog K (Instr.fieldAt 220 (.pointer (some a)) 5) u f d w = K (updO f d (.pointer (some (a.add 5)))) w := by
  rw [fld_ptr u f d w 220 5 (by rw [ty_fl_220_5]; rfl) a, ty_fl_220_5]; rfl
theorem fdA_220_5 {K : Fr → World → Prop} {f : Fr} {d : Option Nat} {w : World} (a : Addr) : ValA Tryd.prog K (Instr.fieldAt 220 (.pointer (some a)) 5) f d w = K (updO f d (.pointer (some (a.add 5)))) w := by
  rw [fld_ptrA f d w 220 5 (by rw [ty_fl_220_5]; rfl) a, ty_fl_220_5]; rfl
theorem fd_220_6 {K : Fr → World → Prop} {u : World} {f : Fr} {d : Option Nat} {w : World} (a : Addr) : Val1 Tryd.prog K (Instr.fieldAt 220 (.pointer (some a)) 6) u f d w = K (updO f d (.pointer (some (a.add 6)))) w := by
  rw [fld_ptr u f d w 220 6 (by rw [ty_fl_220_6]; rfl) a, ty_fl_220_6]; rfl
theorem fdA_220_6 {K : Fr → World → Prop} {f : Fr} {d : Option Nat} {w : World} (a : Addr) : ValA Tryd.prog K (Instr.fieldAt 220 (.pointer (some a)) 6) f d w = K (updO f d (.pointer (some (a.add 6)))) w := by
  rw [fld_ptrA f d w 220 6 (by rw [ty_fl_220_6]; rfl) a, ty_fl_220_6]; rfl
theorem fd_220_7 {K : Fr → World → Prop} {u : World} {f : Fr} {d : Option Nat} {w : World} (a : Addr) : Val1 Tryd.prog K (Instr.fieldAt 220 (.pointer (some a)) 7) u f d w = K (updO f d (.pointer (some (a.add 7)))) w := by
  rw [fld_ptr u f d w 220 7 (by rw [ty_fl_220_7]; rfl) a, ty_fl_220_7]; rfl
theorem fdA_220_7 {K : Fr → World → Prop} {f : Fr} {d : Option Nat} {w : World} (a : Addr) : ValA Tryd.prog K (Instr.fieldAt 220 (.pointer (some a)) 7) f d w = K (updO f d (.pointer (some (a.add 7)))) w := by
  rw [fld_ptrA f d w 220 7 (by rw [ty_fl_220_7]; rfl) a, ty_fl_220_7]; rfl
theorem fd_220_8 {K : Fr → World → Prop} {u : World} {f : Fr} {d : Option Nat} {w : World} (a : Addr) : Val1 Tryd.prog K (Instr.fieldAt 220 (.pointer (some a)) 8) u f d w = K (updO f d (.pointer (some (a.add 8)))) w := by
  rw [fld_ptr u f d w 220 8 (by rw [ty_fl_220_8]; rfl) a, ty_fl_220_8]; rfl
theorem fdA_220_8 {K : Fr → World → Prop} {f : Fr} {d : Option Nat} {w : World} (a : Addr) : ValA Tryd.prog K (Instr.fieldAt 220 (.pointer (some a)) 8) f d w = K (updO f d (.pointer (some (a.add 8)))) w := by
  rw [fld_ptrA f d w 220 8 (by rw [ty_fl_220_8]; rfl) a, ty_fl_220_8]; rfl
theorem fd_220_9 {K : Fr → World → Prop} {u : World} {f : Fr} {d : Option Nat} {w : World} (a : Addr) : Val1 Tryd.prog K (Instr.fieldAt 220 (.pointer (some a)) 9) u f d w = K (updO f d (.pointer (some (a.add 9)))) w := by
  rw [fld_ptr u f d w 220 9 (by rw [ty_fl_220_9]; rfl) a, ty_fl_220_9]; rfl
theorem fdA_220_9 {K : Fr → World → Prop} {f : Fr} {d : Option Nat} {w : World} (a : Addr) : ValA Tryd.prog K (Instr.fieldAt 220 (.pointer (some a)) 9) f d w = K (updO f d (.pointer (some (a.add 9)))) w := by
  rw [fld_ptrA f d w 220 9 (by rw [ty_fl_220_9]; rfl) a, ty_fl_220_9]; rfl
theorem fd_220_10 {K : Fr → World → Prop} {u : World} {f : Fr} {d : Option Nat} {w : World} (a : Addr) : Val1 Tryd.prog K (Instr.fieldAt 220 (.pointer (some a)) 10) u f d w = K (updO f d (.pointer (some (a.add 10)))) w := by
  rw [fld_ptr u f d w 220 10 (by rw [ty_fl_220_10]; rfl) a, ty_fl_220_10]; rfl
theorem fdA_220_10 {K : Fr → World → Prop} {f : Fr} {d : Option Nat} {w : World} (a : Addr) : ValA Tryd.prog K (Instr.fieldAt 220 (.pointer (some a)) 10) f d w = K (updO f d (.pointer (some (a.add 10)))) w := by
  rw [fld_ptrA f d w 220 10 (by rw [ty_fl_220_10]; rfl) a, ty_fl_220_10]; rfl
theorem eqb_4 {K : Fr → World → Prop} {u : World} {f : Fr} {d : Option Nat} {w : World} (xo yo : Operand) (a b : Bool) : Val1 Tryd.prog K (binS .eql 4 xo yo (.bool a) (.bool b)) u f d w = K (updO f d (.bool (a == b))) w := bin_eqb u f d w 4 xo yo (by kernel_rfl) a b
theorem neb_4 {K : Fr → World → Prop} {u : World} {f : Fr} {d : Option Nat} {w : World} (xo yo : Operand) (a b : Bool) : Val1 Tryd.prog K (binS .neq 4 xo yo (.bool a) (.bool b)) u f d w = K (updO f d (.bool (a != b))) w := bin_neb u f d w 4 xo yo (by kernel_rfl) a b
theorem slT_22 : SlT Tryd.prog 22 3 1 8 := ⟨by kernel_rfl, by kernel_rfl, by decide⟩
theorem bs_22 {K : Fr → World → Prop} {f : Fr} {d : Option Nat} {w : World} (n : Int) : Eff1 Tryd.prog K (Instr.buildSlice 22 1 #[(0, .int .i64 n)]) f d w = K (updO f d (.slice (some ⟨w.heap.size, 0, none⟩) 1 1)) (w.alloc (.cells [.int .i64 n].toArray 3)) := bsl1_eq slT_22 _ rfl (by decide)
theorem bs0_22 {K : Fr → World → Prop} {f : Fr} {d : Option Nat} {w : World} : Eff1 Tryd.prog K (Instr.buildSlice 22 0 #[]) f d w = K (updO f d (.slice (some ⟨w.heap.size, 0, none⟩) 0 0)) (w.alloc (.cells [].toArray 3)) := bsl0_eq slT_22
theorem slT_23 : SlT Tryd.prog 23 85 3 24 := ⟨by kernel_rfl, by kernel_rfl, by decide⟩
theorem bs_23 {K : Fr → World → Prop} {f : Fr} {d : Option Nat} {w : World} (x0 x1 x2 : Value) : Eff1 Tryd.prog K (Instr.buildSlice 23 1 #[(0, .agg #[x0, x1, x2])]) f d w = K (updO f d (.slice (some ⟨w.heap.size, 0, none⟩) 1 1)) (w.alloc (.cells [x0, x1, x2].toArray 85)) := bsl1_eq slT_23 _ rfl (by decide)
theorem bs0_23 {K : Fr → World → Prop} {f : Fr} {d : Option Nat} {w : World} : Eff1 Tryd.prog K (Instr.buildSlice 23 0 #[]) f d w = K (updO f d (.slice (some ⟨w.heap.size, 0, none⟩) 0 0)) (w.alloc (.cells [].toArray 85)) := bsl0_eq slT_23
theorem al_25 {K : Fr → World → Prop} {f : Fr} {d : Option Nat} {w : World} : Eff1 Tryd.prog K (Instr.alloc 25 true (.tuple #[])) f d w = K (updO f d (.pointer (some ⟨w.heap.size, 0, none⟩))) (w.alloc (.cells [.int .i64 0, .int .i64 0, .slice none 0 0, .slice none 0 0, .slice none 0 0].toArray 25)) := alloc_eq 25 (.agg #[.int .i64 0, .int .i64 0, .slice none 0 0, .slice none 0 0, .slice none 0 0]) (by kernel_rfl)
theorem slT_44 : SlT Tryd.prog 44 22 1 24 := ⟨by kernel_rfl, by kernel_rfl, by decide⟩
theorem bs_44 {K : Fr → World → Prop} {f : Fr} {d : Option Nat} {w : World} (A : Option Addr) (n c : Nat) : Eff1 Tryd.prog K (Instr.buildSlice 44 1 #[(0, .slice A n c)]) f d w = K (updO f d (.slice (some ⟨w.heap.size, 0, none⟩) 1 1)) (w.alloc (.cells [.slice A n c].toArray 22)) := bsl1_eq slT_44 _ rfl (by decide)
theorem bs0_44 {K : Fr → World → Prop} {f : Fr} {d : Option Nat} {w : World} : Eff1 Tryd.prog K (Instr.buildSlice 44 0 #[]) f d w = K (updO f d (.slice (some ⟨w.heap.size, 0, none⟩) 0 0)) (w.alloc (.cells [].toArray 22)) := bsl0_eq slT_44
theorem slT_45 : SlT Tryd.prog 45 56 4 48 := ⟨by kernel_rfl, by kernel_rfl, by decide⟩
theorem bs_45 {K : Fr → World → Prop} {f : Fr} {d : Option Nat} {w : World} (x0 x1 x2 x3 : Value) : Eff1 Tryd.prog K (Instr.buildSlice 45 1 #[(0, .agg #[x0, x1, x2, x3])]) f d w = K (updO f d (.slice (some ⟨w.heap.size, 0, none⟩) 1 1)) (w.alloc (.cells [x0, x1, x2, x3].toArray 56)) := bsl1_eq slT_45 _ rfl (by decide)
theorem bs0_45 {K : Fr → World → Prop} {f : Fr} {d : Option Nat} {w : World} : Eff1 Tryd.prog K (Instr.buildSlice 45 0 #[]) f d w = K (updO f d (.slice (some ⟨w.heap.size, 0, none⟩) 0 0)) (w.alloc (.cells [].toArray 56)) := bsl0_eq slT_45
theorem al_47 {K : Fr → World → Prop} {f : Fr} {d : Option Nat} {w : World} : Eff1 Tryd.prog K (Instr.alloc 47 true (.tuple #[])) f d w = K (updO f d (.pointer (some ⟨w.heap.size, 0, none⟩))) (w.alloc (.cells [.slice none 0 0, .slice none 0 0].toArray 47)) := alloc_eq 47 (.agg #[.slice none 0 0, .slice none 0 0]) (by kernel_rfl)
theorem al_56 {K : Fr → World → Prop} {f : Fr} {d : Option Nat} {w : World} : Eff1 Tryd.prog K (Instr.alloc 56 true (.tuple #[])) f d w = K (updO f d (.pointer (some ⟨w.heap.size, 0, none⟩))) (w.alloc (.cells [.int .i64 0, .int .i64 0, .slice none 0 0, .int .i64 0].toArray 56)) := alloc_eq 56 (.agg #[.int .i64 0, .int .i64 0, .slice none 0 0, .int .i64 0]) (by kernel_rfl)
theorem slT_72 : SlT Tryd.prog 72 76 4 32 := ⟨by kernel_rfl, by kernel_rfl, by decide⟩
theorem bs_72 {K : Fr → World → Prop} {f : Fr} {d : Option Nat} {w : World} (x0 x1 x2 x3 : Value) : Eff1 Tryd.prog K (Instr.buildSlice 72 1 #[(0, .agg #[x0, x1, x2, x3])]) f d w = K (updO f d (.slice (some ⟨w.heap.size, 0, none⟩) 1 1)) (w.alloc (.cells [x0, x1, x2, x3].toArray 76)) := bsl1_eq slT_72 _ rfl (by decide)
theorem bs0_72 {K : Fr → World → Prop} {f : Fr} {d : Option Nat} {w : World} : Eff1 Tryd.prog K (Instr.buildSlice 72 0 #[]) f d w = K (updO f d (.slice (some ⟨w.heap.size, 0, none⟩) 0 0)) (w.alloc (.cells [].toArray 76)) := bsl0_eq slT_72
theorem al_76 {K : Fr → World → Prop} {f : Fr} {d : Option Nat} {w : World} : Eff1 Tryd.prog K (Instr.alloc 76 true (.tuple #[])) f d w = K (updO f d (.pointer (some ⟨w.heap.size, 0, none⟩))) (w.alloc (.cells [.int .u64 0, .int .u64 0, .int .u64 0, .int .u64 0].toArray 76)) := alloc_eq 76 (.agg #[.int .u64 0, .int .u64 0, .int .u64 0, .int .u64 0]) (by kernel_rfl)
theorem al_85 {K : Fr → World → Prop} {f : Fr} {d : Option Nat} {w : World} : Eff1 Tryd.prog K (Instr.alloc 85 true (.tuple #[])) f d w = K (updO f d (.pointer (some ⟨w.heap.size, 0, none⟩))) (w.alloc (.cells [.int .i64 0, .int .i64 0, .int .i64 0].toArray 85)) := alloc_eq 85 (.agg #[.int .i64 0, .int .i64 0, .int .i64 0]) (by kernel_rfl)
theorem slT_97 : SlT Tryd.prog 97 100 1 24 := ⟨by kernel_rfl, by kernel_rfl, by decide⟩
theorem bs_97 {K : Fr → World → Prop} {f : Fr} {d : Option Nat} {w : World} (A : Option Addr) (n c : Nat) : Eff1 Tryd.prog K (Instr.buildSlice 97 1 #[(0, .slice A n c)]) f d w = K (updO f d (.slice (some ⟨w.heap.size, 0, none⟩) 1 1)) (w.alloc (.cells [.slice A n c].toArray 100)) := bsl1_eq slT_97 _ rfl (by decide)
theorem bs0_97 {K : Fr → World → Prop} {f : Fr} {d : Option Nat} {w : World} : Eff1 Tryd.prog K (Instr.buildSlice 97 0 #[]) f d w = K (updO f d (.slice (some ⟨w.heap.size, 0, none⟩) 0 0)) (w.alloc (.cells [].toArray 100)) := bsl0_eq slT_97
theorem slT_100 : SlT Tryd.prog 100 4 1 1 := ⟨by kernel_rfl, by kernel_rfl, by decide⟩
theorem bs_100 {K : Fr → World → Prop} {f : Fr} {d : Option Nat} {w : World} (b : Bool) : Eff1 Tryd.prog K (Instr.buildSlice 100 1 #[(0, .bool b)]) f d w = K (updO f d (.slice (some ⟨w.heap.size, 0, none⟩) 1 1)) (w.alloc (.cells [.bool b].toArray 4)) := bsl1_eq slT_100 _ rfl (by decide)
theorem bs0_100 {K : Fr → World → Prop} {f : Fr} {d : Option Nat} {w : World} : Eff1 Tryd.prog K (Instr.buildSlice 100 0 #[]) f d w = K (updO f d (.slice (some ⟨w.heap.size, 0, none⟩) 0 0)) (w.alloc (.cells [].toArray 4)) := bsl0_eq slT_100
theorem slT_101 : SlT Tryd.prog 101 104 3 72 := ⟨by kernel_rfl, by kernel_rfl, by decide⟩
theorem bs_101 {K : Fr → World → Prop} {f : Fr} {d : Option Nat} {w : World} (x0 x1 x2 : Value) : Eff1 Tryd.prog K (Instr.buildSlice 101 1 #[(0, .agg #[x0, x1, x2])]) f d w = K (updO f d (.slice (some ⟨w.heap.size, 0, none⟩) 1 1)) (w.alloc (.cells [x0, x1, x2].toArray 104)) := bsl1_eq slT_101 _ rfl (by decide)
theorem bs0_101 {K : Fr → World → Prop} {f : Fr} {d : Option Nat} {w : World} : Eff1 Tryd.prog K (Instr.buildSlice 101 0 #[]) f d w = K (updO f d (.slice (some ⟨w.heap.size, 0, none⟩) 0 0)) (w.alloc (.cells [].toArray 104)) := bsl0_eq slT_101
theorem slT_120 : SlT Tryd.prog 120 124 1 24 := ⟨by kernel_rfl, by kernel_rfl, by decide⟩
theorem bs_120 {K : Fr → World → Prop} {f : Fr} {d : Option Nat} {w : World} (A : Option Addr) (n c : Nat) : Eff1 Tryd.prog K (Instr.buildSlice 120 1 #[(0, .slice A n c)]) f d w = K (updO f d (.slice (some ⟨w.heap.size, 0, none⟩) 1 1)) (w.alloc (.cells [.slice A n c].toArray 124)) := bsl1_eq slT_120 _ rfl (by decide)
theorem bs0_120 {K : Fr → World → Prop} {f : Fr} {d : Option Nat} {w : World} : Eff1 Tryd.prog K (Instr.buildSlice 120 0 #[]) f d w = K (updO f d (.slice (some ⟨w.heap.size, 0, none⟩) 0 0)) (w.alloc (.cells [].toArray 124)) := bsl0_eq slT_120
theorem slT_124 : SlT Tryd.prog 124 126 2 32 := ⟨by kernel_rfl, by kernel_rfl, by decide⟩
theorem bs_124 {K : Fr → World → Prop} {f : Fr} {d : Option Nat} {w : World} (x0 x1 : Value) : Eff1 Tryd.prog K (Instr.buildSlice 124 1 #[(0, .agg #[x0, x1])]) f d w = K (updO f d (.slice (some ⟨w.heap.size, 0, none⟩) 1 1)) (w.alloc (.cells [x0, x1].toArray 126)) := bsl1_eq slT_124 _ rfl (by decide)
theorem bs0_124 {K : Fr → World → Prop} {f : Fr} {d : Option Nat} {w : World} : Eff1 Tryd.prog K (Instr.buildSlice 124 0 #[]) f d w = K (updO f d (.slice (some ⟨w.heap.size, 0, none⟩) 0 0)) (w.alloc (.cells [].toArray 126)) := bsl0_eq slT_124
theorem al_126 {K : Fr → World → Prop} {f : Fr} {d : Option Nat} {w : World} : Eff1 Tryd.prog K (Instr.alloc 126 true (.tuple #[])) f d w = K (updO f d (.pointer (some ⟨w.heap.size, 0, none⟩))) (w.alloc (.cells [.int .i64 0, .slice none 0 0].toArray 126)) := alloc_eq 126 (.agg #[.int .i64 0, .slice none 0 0]) (by kernel_rfl)
theorem slT_129 : SlT Tryd.prog 129 128 3 40 := ⟨by kernel_rfl, by kernel_rfl, by decide⟩
theorem bs_129 {K : Fr → World → Prop} {f : Fr} {d : Option Nat} {w : World} (x0 x1 x2 : Value) : Eff1 Tryd.prog K (Instr.buildSlice 129 1 #[(0, .agg #[x0, x1, x2])]) f d w = K (updO f d (.slice (some ⟨w.heap.size, 0, none⟩) 1 1)) (w.alloc (.cells [x0, x1, x2].toArray 128)) := bsl1_eq slT_129 _ rfl (by decide)
theorem bs0_129 {K : Fr → World → Prop} {f : Fr} {d : Option Nat} {w : World} : Eff1 Tryd.prog K (Instr.buildSlice 129 0 #[]) f d w = K (updO f d (.slice (some ⟨w.heap.size, 0, none⟩) 0 0)) (w.alloc (.cells [].toArray 128)) := bsl0_eq slT_129
theorem slT_134 : SlT Tryd.prog 134 139 2 16 := ⟨by kernel_rfl, by kernel_rfl, by decide⟩
theorem bs_134 {K : Fr → World → Prop} {f : Fr} {d : Option Nat} {w : World} (x0 x1 : Value) : Eff1 Tryd.prog K (Instr.buildSlice 134 1 #[(0, .agg #[x0, x1])]) f d w = K (updO f d (.slice (some ⟨w.heap.size, 0, none⟩) 1 1)) (w.alloc (.cells [x0, x1].toArray 139)) := bsl1_eq slT_134 _ rfl (by decide)
theorem bs0_134 {K : Fr → World → Prop} {f : Fr} {d : Option Nat} {w : World} : Eff1 Tryd.prog K (Instr.buildSlice 134 0 #[]) f d w = K (updO f d (.slice (some ⟨w.heap.size, 0, none⟩) 0 0)) (w.alloc (.cells [].toArray 139)) := bsl0_eq slT_134
theorem slT_186 : SlT Tryd.prog 186 185 10 80 := ⟨by kernel_rfl, by kernel_rfl, by decide⟩
theorem bs_186 {K : Fr → World → Prop} {f : Fr} {d : Option Nat} {w : World} (x0 x1 x2 x3 x4 x5 x6 x7 x8 x9 : Value) : Eff1 Tryd.prog K (Instr.buildSlice 186 1 #[(0, .agg #[x0, x1, x2, x3, x4, x5, x6, x7, x8, x9])]) f d w = K (updO f d (.slice (some ⟨w.heap.size, 0, none⟩) 1 1)) (w.alloc (.cells [x0, x1, x2, x3, x4, x5, x6, x7, x8, x9].toArray 185)) := bsl1_eq slT_186 _ rfl (by decide)
theorem bs0_186 {K : Fr → World → Prop} {f : Fr} {d : Option Nat} {w : World} : Eff1 Tryd.prog K (Instr.buildSlice 186 0 #[]) f d w = K (updO f d (.slice (some ⟨w.heap.size, 0, none⟩) 0 0)) (w.alloc (.cells [].toArray 185)) := bsl0_eq slT_186
attribute [push_cast] fd_7_0 fdA_7_0 fd_7_1 fdA_7_1 fd_7_2 fdA_7_2 fd_7_3 fdA_7_3 fd_8_0 fdA_8_0 fd_8_1 fdA_8_1 fd_8_2 fdA_8_2 fd_8_3 fdA_8_3 fd_13_0 fdA_13_0 fd_13_1 fdA_13_1 fd_14_0 fdA_14_0 fd_14_1 fdA_14_1 fd_18_0 fdA_18_0 fd_19_0 fdA_19_0 ix_22 ln_22 ixA_22 ix_23 ln_23 ixA_23 fd_24_0 fdA_24_0 fd_24_1 fdA_24_1 fd_24_2 fdA_24_2 fd_24_3 fdA_24_3 fd_24_4 fdA_24_4 fd_25_0 fdA_25_0 fd_25_1 fdA_25_1 fd_25_2 fdA_25_2 fd_25_3 fdA_25_3 fd_25_4 fdA_25_4 fd_42_0 fdA_42_0 fd_42_1 fdA_42_1 fd_42_2 fdA_42_2 fd_43_0 fdA_43_0 fd_43_1 fdA_43_1 fd_43_2 fdA_43_2 ix_44 ln_44 ixA_44 ix_45 ln_45 ixA_45 fd_46_0 fdA_46_0 fd_46_1 fdA_46_1 fd_47_0 fdA_47_0 fd_47_1 fdA_47_1 fd_55_0 fdA_55_0 fd_55_1 fdA_55_1 fd_55_2 fdA_55_2 fd_55_3 fdA_55_3 fd_56_0 fdA_56_0 fd_56_1 fdA_56_1 fd_56_2 fdA_56_2 fd_56_3 fdA_56_3 ix_72 ln_72 ixA_72 ix_75 ixA_75 ix_76 ixA_76 fd_84_0 fdA_84_0 fd_84_1 fdA_84_1 fd_84_2 fdA_84_2 fd_85_0 fdA_85_0 fd_85_1 fdA_85_1 fd_85_2 fdA_85_2 ix_97 ln_97 ixA_97 ix_100 ln_100 ixA_100 ix_101 ln_101 ixA_101 fd_103_0 fdA_103_0 fd_103_1 fdA_103_1 fd_103_2 fdA_103_2 fd_104_0 fdA_104_0 fd_104_1 fdA_104_1 fd_104_2 fdA_104_2 fd_107_0 fdA_107_0 fd_107_1 fdA_107_1 fd_107_2 fdA_107_2 fd_108_0 fdA_108_0 fd_108_1 fdA_108_1 fd_108_2 fdA_108_2 ix_120 ln_120 ixA_120 ix_124 ln_124 ixA_124 fd_125_0 fdA_125_0 fd_125_1 fdA_125_1 fd_126_0 fdA_126_0 fd_126_1 fdA_126_1 fd_127_0 fdA_127_0 fd_127_1 fdA_127_1 fd_128_0 fdA_128_0 fd_128_1 fdA_128_1 ix_129 ln_129 ixA_129 ix_134 ln_134 ixA_134 fd_135_0 fdA_135_0 fd_135_1 fdA_135_1 fd_135_2 fdA_135_2 fd_136_0 fdA_136_0 fd_136_1 fdA_136_1 fd_136_2 fdA_136_2 fd_138_0 fdA_138_0 fd_138_1 fdA_138_1 fd_139_0 fdA_139_0 fd_139_1 fdA_139_1 ix_156 ixA_156 fd_157_0 fdA_157_0 fd_157_1 fdA_157_1 fd_158_0 fdA_158_0 fd_158_1 fdA_158_1 fd_171_0 fdA_171_0 fd_171_1 fdA_171_1 fd_172_0 fdA_172_0 fd_172_1 fdA_172_1 ix_179 ixA_179 fd_184_0 fdA_184_0 fd_184_1 fdA_184_1 fd_184_2 fdA_184_2 fd_185_0 fdA_185_0 fd_185_1 fdA_185_1 fd_185_2 fdA_185_2 ix_186 ln_186 ixA_186 fd_207_0 fdA_207_0 fd_207_1 fdA_207_1 fd_207_2 fdA_207_2 fd_207_3 fdA_207_3 fd_208_0 fdA_208_0 fd_208_1 fdA_208_1 fd_208_2 fdA_208_2 fd_208_3 fdA_208_3 ix_209 ixA_209 fd_219_0 fdA_219_0 fd_219_1 fdA_219_1 fd_219_2 fdA_219_2 fd_219_3 fdA_219_3 fd_219_4 fdA_219_4 fd_219_5 fdA_219_5 fd_219_6 fdA_219_6 fd_219_7 fdA_219_7 fd_219_8 fdA_219_8 fd_219_9 fdA_219_9 fd_219_10 fdA_219_10 fd_220_0 fdA_220_0 fd_220_1 fdA_220_1 fd_220_2 fdA_220_2 fd_220_3 fdA_220_3 fd_220_4 fdA_220_4 fd_220_5 fdA_220_5 fd_220_6 fdA_220_6 fd_220_7 fdA_220_7 fd_220_8 fdA_220_8 fd_220_9 fdA_220_9 fd_220_10 fdA_220_10 eqb_4 neb_4 bs_22 bs0_22 bs_23 bs0_23 bs_44 bs0_44 bs_45 bs0_45 bs_72 bs0_72 bs_97 bs0_97 bs_100 bs0_100 bs_101 bs0_101 bs_120 bs0_120 bs_124 bs0_124 bs_129 bs0_129 bs_134 bs0_134 bs_186 bs0_186
end Go.Proofs.YtcjedgiglimipaaDoor
