/-
  Closed facts on the seat's types (by program: tygen.py).
-/
import Derived.Test.YtiabkafgmanhiaaDoorProg
import Derived.Test.YtiabkafgmanhiaaDoorLaws
import Derived.KernelRfl
namespace Go.Proofs.YtiabkafgmanhiaaDoor
theorem ty_ag_2 : tyAgg Tryd.prog 2 = some false := by kernel_rfl
theorem ty_ag_3 : tyAgg Tryd.prog 3 = some false := by kernel_rfl
theorem ty_sz_int : tySize Tryd.prog 3 = some 1 := by kernel_rfl
theorem ty_ag_4 : tyAgg Tryd.prog 4 = some false := by kernel_rfl
theorem ty_ag_5 : tyAgg Tryd.prog 5 = some false := by kernel_rfl
theorem ty_ag_6 : tyAgg Tryd.prog 6 = some false := by kernel_rfl
theorem ty_ag_7 : tyAgg Tryd.prog 7 = some true := by kernel_rfl
theorem ty_sz_7 : tySize Tryd.prog 7 = some 4 := by kernel_rfl
theorem ty_fl_7_0 : tyFld Tryd.prog 7 0 = some 0 := by kernel_rfl
theorem ty_fl_7_1 : tyFld Tryd.prog 7 1 = some 1 := by kernel_rfl
theorem ty_fl_7_2 : tyFld Tryd.prog 7 2 = some 2 := by kernel_rfl
theorem ty_fl_7_3 : tyFld Tryd.prog 7 3 = some 3 := by kernel_rfl
theorem ty_ag_8 : tyAgg Tryd.prog 8 = some true := by kernel_rfl
theorem ty_sz_8 : tySize Tryd.prog 8 = some 4 := by kernel_rfl
theorem ty_fl_8_0 : tyFld Tryd.prog 8 0 = some 0 := by kernel_rfl
theorem ty_fl_8_1 : tyFld Tryd.prog 8 1 = some 1 := by kernel_rfl
theorem ty_fl_8_2 : tyFld Tryd.prog 8 2 = some 2 := by kernel_rfl
theorem ty_fl_8_3 : tyFld Tryd.prog 8 3 = some 3 := by kernel_rfl
theorem ty_ag_9 : tyAgg Tryd.prog 9 = some false := by kernel_rfl
theorem ty_ag_10 : tyAgg Tryd.prog 10 = some false := by kernel_rfl
theorem ty_ag_11 : tyAgg Tryd.prog 11 = some false := by kernel_rfl
theorem ty_ag_12 : tyAgg Tryd.prog 12 = some false := by kernel_rfl
theorem ty_ag_13 : tyAgg Tryd.prog 13 = some true := by kernel_rfl
theorem ty_sz_13 : tySize Tryd.prog 13 = some 2 := by kernel_rfl
theorem ty_fl_13_0 : tyFld Tryd.prog 13 0 = some 0 := by kernel_rfl
theorem ty_fl_13_1 : tyFld Tryd.prog 13 1 = some 1 := by kernel_rfl
theorem ty_ag_14 : tyAgg Tryd.prog 14 = some true := by kernel_rfl
theorem ty_sz_14 : tySize Tryd.prog 14 = some 2 := by kernel_rfl
theorem ty_fl_14_0 : tyFld Tryd.prog 14 0 = some 0 := by kernel_rfl
theorem ty_fl_14_1 : tyFld Tryd.prog 14 1 = some 1 := by kernel_rfl
theorem ty_ag_15 : tyAgg Tryd.prog 15 = some false := by kernel_rfl
theorem ty_ag_16 : tyAgg Tryd.prog 16 = some false := by kernel_rfl
theorem ty_ag_17 : tyAgg Tryd.prog 17 = some false := by kernel_rfl
theorem ty_ag_18 : tyAgg Tryd.prog 18 = some true := by kernel_rfl
theorem ty_sz_18 : tySize Tryd.prog 18 = some 1 := by kernel_rfl
theorem ty_fl_18_0 : tyFld Tryd.prog 18 0 = some 0 := by kernel_rfl
theorem ty_ag_19 : tyAgg Tryd.prog 19 = some true := by kernel_rfl
theorem ty_sz_19 : tySize Tryd.prog 19 = some 1 := by kernel_rfl
theorem ty_fl_19_0 : tyFld Tryd.prog 19 0 = some 0 := by kernel_rfl
theorem ty_ag_21 : tyAgg Tryd.prog 21 = some false := by kernel_rfl
theorem ty_ag_22 : tyAgg Tryd.prog 22 = some false := by kernel_rfl
theorem ty_sl_22 : tySl Tryd.prog 22 = some 1 := by kernel_rfl
theorem ty_ag_23 : tyAgg Tryd.prog 23 = some false := by kernel_rfl
theorem ty_sl_23 : tySl Tryd.prog 23 = some 3 := by kernel_rfl
theorem ty_ag_24 : tyAgg Tryd.prog 24 = some true := by kernel_rfl
theorem ty_sz_24 : tySize Tryd.prog 24 = some 5 := by kernel_rfl
theorem ty_fl_24_0 : tyFld Tryd.prog 24 0 = some 0 := by kernel_rfl
theorem ty_fl_24_1 : tyFld Tryd.prog 24 1 = some 1 := by kernel_rfl
theorem ty_fl_24_2 : tyFld Tryd.prog 24 2 = some 2 := by kernel_rfl
theorem ty_fl_24_3 : tyFld Tryd.prog 24 3 = some 3 := by kernel_rfl
theorem ty_fl_24_4 : tyFld Tryd.prog 24 4 = some 4 := by kernel_rfl
theorem ty_ag_25 : tyAgg Tryd.prog 25 = some true := by kernel_rfl
theorem ty_sz_25 : tySize Tryd.prog 25 = some 5 := by kernel_rfl
theorem ty_fl_25_0 : tyFld Tryd.prog 25 0 = some 0 := by kernel_rfl
theorem ty_fl_25_1 : tyFld Tryd.prog 25 1 = some 1 := by kernel_rfl
theorem ty_fl_25_2 : tyFld Tryd.prog 25 2 = some 2 := by kernel_rfl
theorem ty_fl_25_3 : tyFld Tryd.prog 25 3 = some 3 := by kernel_rfl
theorem ty_fl_25_4 : tyFld Tryd.prog 25 4 = some 4 := by kernel_rfl
theorem ty_ag_26 : tyAgg Tryd.prog 26 = some false := by kernel_rfl
theorem ty_ag_38 : tyAgg Tryd.prog 38 = some false := by kernel_rfl
theorem ty_sl_38 : tySl Tryd.prog 38 = some 1 := by kernel_rfl
theorem ty_ag_55 : tyAgg Tryd.prog 55 = some true := by kernel_rfl
theorem ty_sz_55 : tySize Tryd.prog 55 = some 7 := by kernel_rfl
theorem ty_fl_55_0 : tyFld Tryd.prog 55 0 = some 0 := by kernel_rfl
theorem ty_fl_55_1 : tyFld Tryd.prog 55 1 = some 5 := by kernel_rfl
theorem ty_fl_55_2 : tyFld Tryd.prog 55 2 = some 6 := by kernel_rfl
theorem ty_ag_56 : tyAgg Tryd.prog 56 = some true := by kernel_rfl
theorem ty_sz_56 : tySize Tryd.prog 56 = some 7 := by kernel_rfl
theorem ty_fl_56_0 : tyFld Tryd.prog 56 0 = some 0 := by kernel_rfl
theorem ty_fl_56_1 : tyFld Tryd.prog 56 1 = some 5 := by kernel_rfl
theorem ty_fl_56_2 : tyFld Tryd.prog 56 2 = some 6 := by kernel_rfl
theorem ty_ag_62 : tyAgg Tryd.prog 62 = some false := by kernel_rfl
theorem ty_sl_62 : tySl Tryd.prog 62 = some 2 := by kernel_rfl
theorem ty_ag_67 : tyAgg Tryd.prog 67 = some false := by kernel_rfl
theorem ty_ag_68 : tyAgg Tryd.prog 68 = some true := by kernel_rfl
theorem ty_sz_68 : tySize Tryd.prog 68 = some 4 := by kernel_rfl
theorem ty_ar_68 : tyArr Tryd.prog 68 = some (4, 1) := by kernel_rfl
theorem ty_ag_69 : tyAgg Tryd.prog 69 = some true := by kernel_rfl
theorem ty_sz_69 : tySize Tryd.prog 69 = some 4 := by kernel_rfl
theorem ty_ar_69 : tyArr Tryd.prog 69 = some (4, 1) := by kernel_rfl
theorem ty_ag_74 : tyAgg Tryd.prog 74 = some true := by kernel_rfl
theorem ty_sz_74 : tySize Tryd.prog 74 = some 3 := by kernel_rfl
theorem ty_fl_74_0 : tyFld Tryd.prog 74 0 = some 0 := by kernel_rfl
theorem ty_fl_74_1 : tyFld Tryd.prog 74 1 = some 1 := by kernel_rfl
theorem ty_fl_74_2 : tyFld Tryd.prog 74 2 = some 2 := by kernel_rfl
theorem ty_ag_75 : tyAgg Tryd.prog 75 = some true := by kernel_rfl
theorem ty_sz_75 : tySize Tryd.prog 75 = some 3 := by kernel_rfl
theorem ty_fl_75_0 : tyFld Tryd.prog 75 0 = some 0 := by kernel_rfl
theorem ty_fl_75_1 : tyFld Tryd.prog 75 1 = some 1 := by kernel_rfl
theorem ty_fl_75_2 : tyFld Tryd.prog 75 2 = some 2 := by kernel_rfl
theorem ty_ag_81 : tyAgg Tryd.prog 81 = some false := by kernel_rfl
theorem ty_sl_81 : tySl Tryd.prog 81 = some 4 := by kernel_rfl
theorem ty_ag_103 : tyAgg Tryd.prog 103 = some false := by kernel_rfl
theorem ty_sl_103 : tySl Tryd.prog 103 = some 5 := by kernel_rfl
theorem ty_ag_105 : tyAgg Tryd.prog 105 = some true := by kernel_rfl
theorem ty_sz_105 : tySize Tryd.prog 105 = some 5 := by kernel_rfl
theorem ty_fl_105_0 : tyFld Tryd.prog 105 0 = some 0 := by kernel_rfl
theorem ty_fl_105_1 : tyFld Tryd.prog 105 1 = some 4 := by kernel_rfl
theorem ty_ag_106 : tyAgg Tryd.prog 106 = some true := by kernel_rfl
theorem ty_sz_106 : tySize Tryd.prog 106 = some 5 := by kernel_rfl
theorem ty_fl_106_0 : tyFld Tryd.prog 106 0 = some 0 := by kernel_rfl
theorem ty_fl_106_1 : tyFld Tryd.prog 106 1 = some 4 := by kernel_rfl
theorem ty_ag_109 : tyAgg Tryd.prog 109 = some true := by kernel_rfl
theorem ty_sz_109 : tySize Tryd.prog 109 = some 2 := by kernel_rfl
theorem ty_fl_109_0 : tyFld Tryd.prog 109 0 = some 0 := by kernel_rfl
theorem ty_fl_109_1 : tyFld Tryd.prog 109 1 = some 1 := by kernel_rfl
theorem ty_ag_110 : tyAgg Tryd.prog 110 = some true := by kernel_rfl
theorem ty_sz_110 : tySize Tryd.prog 110 = some 2 := by kernel_rfl
theorem ty_fl_110_0 : tyFld Tryd.prog 110 0 = some 0 := by kernel_rfl
theorem ty_fl_110_1 : tyFld Tryd.prog 110 1 = some 1 := by kernel_rfl
theorem ty_ag_113 : tyAgg Tryd.prog 113 = some false := by kernel_rfl
theorem ty_ag_116 : tyAgg Tryd.prog 116 = some false := by kernel_rfl
theorem ty_sl_116 : tySl Tryd.prog 116 = some 1 := by kernel_rfl
theorem ty_ag_119 : tyAgg Tryd.prog 119 = some false := by kernel_rfl
theorem ty_sl_119 : tySl Tryd.prog 119 = some 1 := by kernel_rfl
theorem ty_ag_123 : tyAgg Tryd.prog 123 = some false := by kernel_rfl
theorem ty_ag_129 : tyAgg Tryd.prog 129 = some true := by kernel_rfl
theorem ty_sz_129 : tySize Tryd.prog 129 = some 8 := by kernel_rfl
theorem ty_fl_129_0 : tyFld Tryd.prog 129 0 = some 0 := by kernel_rfl
theorem ty_fl_129_1 : tyFld Tryd.prog 129 1 = some 4 := by kernel_rfl
theorem ty_ag_130 : tyAgg Tryd.prog 130 = some true := by kernel_rfl
theorem ty_sz_130 : tySize Tryd.prog 130 = some 8 := by kernel_rfl
theorem ty_fl_130_0 : tyFld Tryd.prog 130 0 = some 0 := by kernel_rfl
theorem ty_fl_130_1 : tyFld Tryd.prog 130 1 = some 4 := by kernel_rfl
theorem ty_ag_134 : tyAgg Tryd.prog 134 = some false := by kernel_rfl
theorem ty_ag_135 : tyAgg Tryd.prog 135 = some true := by kernel_rfl
theorem ty_sz_135 : tySize Tryd.prog 135 = some 8 := by kernel_rfl
theorem ty_ar_135 : tyArr Tryd.prog 135 = some (8, 1) := by kernel_rfl
theorem ty_ag_136 : tyAgg Tryd.prog 136 = some true := by kernel_rfl
theorem ty_sz_136 : tySize Tryd.prog 136 = some 9 := by kernel_rfl
theorem ty_fl_136_0 : tyFld Tryd.prog 136 0 = some 0 := by kernel_rfl
theorem ty_fl_136_1 : tyFld Tryd.prog 136 1 = some 1 := by kernel_rfl
theorem ty_ag_137 : tyAgg Tryd.prog 137 = some true := by kernel_rfl
theorem ty_sz_137 : tySize Tryd.prog 137 = some 9 := by kernel_rfl
theorem ty_fl_137_0 : tyFld Tryd.prog 137 0 = some 0 := by kernel_rfl
theorem ty_fl_137_1 : tyFld Tryd.prog 137 1 = some 1 := by kernel_rfl
theorem ty_ag_138 : tyAgg Tryd.prog 138 = some false := by kernel_rfl
theorem ty_ag_139 : tyAgg Tryd.prog 139 = some true := by kernel_rfl
theorem ty_sz_139 : tySize Tryd.prog 139 = some 64 := by kernel_rfl
theorem ty_ar_139 : tyArr Tryd.prog 139 = some (64, 1) := by kernel_rfl
theorem ty_ag_140 : tyAgg Tryd.prog 140 = some false := by kernel_rfl
theorem ty_ag_141 : tyAgg Tryd.prog 141 = some false := by kernel_rfl
theorem ty_ag_142 : tyAgg Tryd.prog 142 = some true := by kernel_rfl
theorem ty_sz_142 : tySize Tryd.prog 142 = some 10 := by kernel_rfl
theorem ty_fl_142_0 : tyFld Tryd.prog 142 0 = some 0 := by kernel_rfl
theorem ty_fl_142_1 : tyFld Tryd.prog 142 1 = some 8 := by kernel_rfl
theorem ty_fl_142_2 : tyFld Tryd.prog 142 2 = some 9 := by kernel_rfl
theorem ty_ag_143 : tyAgg Tryd.prog 143 = some true := by kernel_rfl
theorem ty_sz_143 : tySize Tryd.prog 143 = some 10 := by kernel_rfl
theorem ty_fl_143_0 : tyFld Tryd.prog 143 0 = some 0 := by kernel_rfl
theorem ty_fl_143_1 : tyFld Tryd.prog 143 1 = some 8 := by kernel_rfl
theorem ty_fl_143_2 : tyFld Tryd.prog 143 2 = some 9 := by kernel_rfl
theorem ty_ag_144 : tyAgg Tryd.prog 144 = some false := by kernel_rfl
theorem ty_sl_144 : tySl Tryd.prog 144 = some 10 := by kernel_rfl
theorem ty_ag_147 : tyAgg Tryd.prog 147 = some true := by kernel_rfl
theorem ty_sz_147 : tySize Tryd.prog 147 = some 4 := by kernel_rfl
theorem ty_fl_147_0 : tyFld Tryd.prog 147 0 = some 0 := by kernel_rfl
theorem ty_fl_147_1 : tyFld Tryd.prog 147 1 = some 1 := by kernel_rfl
theorem ty_fl_147_2 : tyFld Tryd.prog 147 2 = some 2 := by kernel_rfl
theorem ty_fl_147_3 : tyFld Tryd.prog 147 3 = some 3 := by kernel_rfl
theorem ty_ag_148 : tyAgg Tryd.prog 148 = some true := by kernel_rfl
theorem ty_sz_148 : tySize Tryd.prog 148 = some 4 := by kernel_rfl
theorem ty_fl_148_0 : tyFld Tryd.prog 148 0 = some 0 := by kernel_rfl
theorem ty_fl_148_1 : tyFld Tryd.prog 148 1 = some 1 := by kernel_rfl
theorem ty_fl_148_2 : tyFld Tryd.prog 148 2 = some 2 := by kernel_rfl
theorem ty_fl_148_3 : tyFld Tryd.prog 148 3 = some 3 := by kernel_rfl
theorem ty_ag_149 : tyAgg Tryd.prog 149 = some true := by kernel_rfl
theorem ty_sz_149 : tySize Tryd.prog 149 = some 0 := by kernel_rfl
theorem ty_ar_149 : tyArr Tryd.prog 149 = some (0, 1) := by kernel_rfl
theorem ty_ag_150 : tyAgg Tryd.prog 150 = some true := by kernel_rfl
theorem ty_sz_150 : tySize Tryd.prog 150 = some 0 := by kernel_rfl
theorem ty_ag_151 : tyAgg Tryd.prog 151 = some true := by kernel_rfl
theorem ty_sz_151 : tySize Tryd.prog 151 = some 0 := by kernel_rfl
theorem ty_ag_153 : tyAgg Tryd.prog 153 = some false := by kernel_rfl
theorem ty_ag_154 : tyAgg Tryd.prog 154 = some false := by kernel_rfl
theorem ty_ag_155 : tyAgg Tryd.prog 155 = some false := by kernel_rfl
theorem ty_ag_157 : tyAgg Tryd.prog 157 = some false := by kernel_rfl
theorem ty_ag_158 : tyAgg Tryd.prog 158 = some false := by kernel_rfl
theorem ty_ag_159 : tyAgg Tryd.prog 159 = some false := by kernel_rfl
theorem ty_ag_160 : tyAgg Tryd.prog 160 = some true := by kernel_rfl
theorem ty_sz_160 : tySize Tryd.prog 160 = some 11 := by kernel_rfl
theorem ty_fl_160_0 : tyFld Tryd.prog 160 0 = some 0 := by kernel_rfl
theorem ty_fl_160_1 : tyFld Tryd.prog 160 1 = some 1 := by kernel_rfl
theorem ty_fl_160_2 : tyFld Tryd.prog 160 2 = some 2 := by kernel_rfl
theorem ty_fl_160_3 : tyFld Tryd.prog 160 3 = some 3 := by kernel_rfl
theorem ty_fl_160_4 : tyFld Tryd.prog 160 4 = some 4 := by kernel_rfl
theorem ty_fl_160_5 : tyFld Tryd.prog 160 5 = some 5 := by kernel_rfl
theorem ty_fl_160_6 : tyFld Tryd.prog 160 6 = some 6 := by kernel_rfl
theorem ty_fl_160_7 : tyFld Tryd.prog 160 7 = some 7 := by kernel_rfl
theorem ty_fl_160_8 : tyFld Tryd.prog 160 8 = some 8 := by kernel_rfl
theorem ty_fl_160_9 : tyFld Tryd.prog 160 9 = some 9 := by kernel_rfl
theorem ty_fl_160_10 : tyFld Tryd.prog 160 10 = some 10 := by kernel_rfl
theorem ty_ag_161 : tyAgg Tryd.prog 161 = some true := by kernel_rfl
theorem ty_sz_161 : tySize Tryd.prog 161 = some 11 := by kernel_rfl
theorem ty_fl_161_0 : tyFld Tryd.prog 161 0 = some 0 := by kernel_rfl
theorem ty_fl_161_1 : tyFld Tryd.prog 161 1 = some 1 := by kernel_rfl
theorem ty_fl_161_2 : tyFld Tryd.prog 161 2 = some 2 := by kernel_rfl
theorem ty_fl_161_3 : tyFld Tryd.prog 161 3 = some 3 := by kernel_rfl
theorem ty_fl_161_4 : tyFld Tryd.prog 161 4 = some 4 := by kernel_rfl
theorem ty_fl_161_5 : tyFld Tryd.prog 161 5 = some 5 := by kernel_rfl
theorem ty_fl_161_6 : tyFld Tryd.prog 161 6 = some 6 := by kernel_rfl
theorem ty_fl_161_7 : tyFld Tryd.prog 161 7 = some 7 := by kernel_rfl
theorem ty_fl_161_8 : tyFld Tryd.prog 161 8 = some 8 := by kernel_rfl
theorem ty_fl_161_9 : tyFld Tryd.prog 161 9 = some 9 := by kernel_rfl
theorem ty_fl_161_10 : tyFld Tryd.prog 161 10 = some 10 := by kernel_rfl
theorem fd_7_0 {K : Fr → World → Prop} {u : World} {f : Fr} {d : Option Nat} {w : World} (a : Addr) : Val1 Tryd.prog K (Instr.fieldAt 7 (.pointer (some a)) 0) u f d w = K (updO f d (.pointer (some (a.add 0)))) w := by
  rw [fld_ptr u f d w 7 0 (by rw [ty_fl_7_0]; rfl) a, ty_fl_7_0]; rfl
theorem fd_7_1 {K : Fr → World → Prop} {u : World} {f : Fr} {d : Option Nat} {w : World} (a : Addr) : Val1 Tryd.prog K (Instr.fieldAt 7 (.pointer (some a)) 1) u f d w = K (updO f d (.pointer (some (a.add 1)))) w := by
  rw [fld_ptr u f d w 7 1 (by rw [ty_fl_7_1]; rfl) a, ty_fl_7_1]; rfl
theorem fd_7_2 {K : Fr → World → Prop} {u : World} {f : Fr} {d : Option Nat} {w : World} (a : Addr) : Val1 Tryd.prog K (Instr.fieldAt 7 (.pointer (some a)) 2) u f d w = K (updO f d (.pointer (some (a.add 2)))) w := by
  rw [fld_ptr u f d w 7 2 (by rw [ty_fl_7_2]; rfl) a, ty_fl_7_2]; rfl
theorem fd_7_3 {K : Fr → World → Prop} {u : World} {f : Fr} {d : Option Nat} {w : World} (a : Addr) : Val1 Tryd.prog K (Instr.fieldAt 7 (.pointer (some a)) 3) u f d w = K (updO f d (.pointer (some (a.add 3)))) w := by
  rw [fld_ptr u f d w 7 3 (by rw [ty_fl_7_3]; rfl) a, ty_fl_7_3]; rfl
theorem fd_8_0 {K : Fr → World → Prop} {u : World} {f : Fr} {d : Option Nat} {w : World} (a : Addr) : Val1 Tryd.prog K (Instr.fieldAt 8 (.pointer (some a)) 0) u f d w = K (updO f d (.pointer (some (a.add 0)))) w := by
  rw [fld_ptr u f d w 8 0 (by rw [ty_fl_8_0]; rfl) a, ty_fl_8_0]; rfl
theorem fd_8_1 {K : Fr → World → Prop} {u : World} {f : Fr} {d : Option Nat} {w : World} (a : Addr) : Val1 Tryd.prog K (Instr.fieldAt 8 (.pointer (some a)) 1) u f d w = K (updO f d (.pointer (some (a.add 1)))) w := by
  rw [fld_ptr u f d w 8 1 (by rw [ty_fl_8_1]; rfl) a, ty_fl_8_1]; rfl
theorem fd_8_2 {K : Fr → World → Prop} {u : World} {f : Fr} {d : Option Nat} {w : World} (a : Addr) : Val1 Tryd.prog K (Instr.fieldAt 8 (.pointer (some a)) 2) u f d w = K (updO f d (.pointer (some (a.add 2)))) w := by
  rw [fld_ptr u f d w 8 2 (by rw [ty_fl_8_2]; rfl) a, ty_fl_8_2]; rfl
theorem fd_8_3 {K : Fr → World → Prop} {u : World} {f : Fr} {d : Option Nat} {w : World} (a : Addr) : Val1 Tryd.prog K (Instr.fieldAt 8 (.pointer (some a)) 3) u f d w = K (updO f d (.pointer (some (a.add 3)))) w := by
  rw [fld_ptr u f d w 8 3 (by rw [ty_fl_8_3]; rfl) a, ty_fl_8_3]; rfl
theorem fd_13_0 {K : Fr → World → Prop} {u : World} {f : Fr} {d : Option Nat} {w : World} (a : Addr) : Val1 Tryd.prog K (Instr.fieldAt 13 (.pointer (some a)) 0) u f d w = K (updO f d (.pointer (some (a.add 0)))) w := by
  rw [fld_ptr u f d w 13 0 (by rw [ty_fl_13_0]; rfl) a, ty_fl_13_0]; rfl
theorem fd_13_1 {K : Fr → World → Prop} {u : World} {f : Fr} {d : Option Nat} {w : World} (a : Addr) : Val1 Tryd.prog K (Instr.fieldAt 13 (.pointer (some a)) 1) u f d w = K (updO f d (.pointer (some (a.add 1)))) w := by
  rw [fld_ptr u f d w 13 1 (by rw [ty_fl_13_1]; rfl) a, ty_fl_13_1]; rfl
theorem fd_14_0 {K : Fr → World → Prop} {u : World} {f : Fr} {d : Option Nat} {w : World} (a : Addr) : Val1 Tryd.prog K (Instr.fieldAt 14 (.pointer (some a)) 0) u f d w = K (updO f d (.pointer (some (a.add 0)))) w := by
  rw [fld_ptr u f d w 14 0 (by rw [ty_fl_14_0]; rfl) a, ty_fl_14_0]; rfl
theorem fd_14_1 {K : Fr → World → Prop} {u : World} {f : Fr} {d : Option Nat} {w : World} (a : Addr) : Val1 Tryd.prog K (Instr.fieldAt 14 (.pointer (some a)) 1) u f d w = K (updO f d (.pointer (some (a.add 1)))) w := by
  rw [fld_ptr u f d w 14 1 (by rw [ty_fl_14_1]; rfl) a, ty_fl_14_1]; rfl
theorem fd_18_0 {K : Fr → World → Prop} {u : World} {f : Fr} {d : Option Nat} {w : World} (a : Addr) : Val1 Tryd.prog K (Instr.fieldAt 18 (.pointer (some a)) 0) u f d w = K (updO f d (.pointer (some (a.add 0)))) w := by
  rw [fld_ptr u f d w 18 0 (by rw [ty_fl_18_0]; rfl) a, ty_fl_18_0]; rfl
theorem fd_19_0 {K : Fr → World → Prop} {u : World} {f : Fr} {d : Option Nat} {w : World} (a : Addr) : Val1 Tryd.prog K (Instr.fieldAt 19 (.pointer (some a)) 0) u f d w = K (updO f d (.pointer (some (a.add 0)))) w := by
  rw [fld_ptr u f d w 19 0 (by rw [ty_fl_19_0]; rfl) a, ty_fl_19_0]; rfl
theorem ix_22 {K : Fr → World → Prop} {u : World} {f : Fr} {d : Option Nat} {w : World} (A : Option Addr) (hA : A.isSome = true) (n c : Nat) (k : IntKind) (i : Int) (h0 : 0 ≤ i) (h1 : i < n) : Val1 Tryd.prog K (Instr.indexAt 22 (.slice A n c) (.int k i)) u f d w = K (updO f d (.pointer (some (eA A (i.toNat * 1))))) w := by
  rw [idx_sl u f d w 22 (by rw [ty_sl_22]; rfl) A hA n c k i h0 h1, ty_sl_22]; rfl
theorem ln_22 {K : Fr → World → Prop} {u : World} {f : Fr} {d : Option Nat} {w : World} (ty : TypeId) (A : Option Addr) (n c : Nat) : Val1 Tryd.prog K (Builtin.len_ #[22] ty #[.slice A n c]) u f d w = K (updO f d (.int .i64 n)) w := len_sl u f d w ty 22 (by rw [ty_sl_22]; rfl) A n c
theorem ix_23 {K : Fr → World → Prop} {u : World} {f : Fr} {d : Option Nat} {w : World} (A : Option Addr) (hA : A.isSome = true) (n c : Nat) (k : IntKind) (i : Int) (h0 : 0 ≤ i) (h1 : i < n) : Val1 Tryd.prog K (Instr.indexAt 23 (.slice A n c) (.int k i)) u f d w = K (updO f d (.pointer (some (eA A (i.toNat * 3))))) w := by
  rw [idx_sl u f d w 23 (by rw [ty_sl_23]; rfl) A hA n c k i h0 h1, ty_sl_23]; rfl
theorem ln_23 {K : Fr → World → Prop} {u : World} {f : Fr} {d : Option Nat} {w : World} (ty : TypeId) (A : Option Addr) (n c : Nat) : Val1 Tryd.prog K (Builtin.len_ #[23] ty #[.slice A n c]) u f d w = K (updO f d (.int .i64 n)) w := len_sl u f d w ty 23 (by rw [ty_sl_23]; rfl) A n c
theorem fd_24_0 {K : Fr → World → Prop} {u : World} {f : Fr} {d : Option Nat} {w : World} (a : Addr) : Val1 Tryd.prog K (Instr.fieldAt 24 (.pointer (some a)) 0) u f d w = K (updO f d (.pointer (some (a.add 0)))) w := by
  rw [fld_ptr u f d w 24 0 (by rw [ty_fl_24_0]; rfl) a, ty_fl_24_0]; rfl
theorem fd_24_1 {K : Fr → World → Prop} {u : World} {f : Fr} {d : Option Nat} {w : World} (a : Addr) : Val1 Tryd.prog K (Instr.fieldAt 24 (.pointer (some a)) 1) u f d w = K (updO f d (.pointer (some (a.add 1)))) w := by
  rw [fld_ptr u f d w 24 1 (by rw [ty_fl_24_1]; rfl) a, ty_fl_24_1]; rfl
theorem fd_24_2 {K : Fr → World → Prop} {u : World} {f : Fr} {d : Option Nat} {w : World} (a : Addr) : Val1 Tryd.prog K (Instr.fieldAt 24 (.pointer (some a)) 2) u f d w = K (updO f d (.pointer (some (a.add 2)))) w := by
  rw [fld_ptr u f d w 24 2 (by rw [ty_fl_24_2]; rfl) a, ty_fl_24_2]; rfl
theorem fd_24_3 {K : Fr → World → Prop} {u : World} {f : Fr} {d : Option Nat} {w : World} (a : Addr) : Val1 Tryd.prog K (Instr.fieldAt 24 (.pointer (some a)) 3) u f d w = K (updO f d (.pointer (some (a.add 3)))) w := by
  rw [fld_ptr u f d w 24 3 (by rw [ty_fl_24_3]; rfl) a, ty_fl_24_3]; rfl
theorem fd_24_4 {K : Fr → World → Prop} {u : World} {f : Fr} {d : Option Nat} {w : World} (a : Addr) : Val1 Tryd.prog K (Instr.fieldAt 24 (.pointer (some a)) 4) u f d w = K (updO f d (.pointer (some (a.add 4)))) w := by
  rw [fld_ptr u f d w 24 4 (by rw [ty_fl_24_4]; rfl) a, ty_fl_24_4]; rfl
theorem fd_25_0 {K : Fr → World → Prop} {u : World} {f : Fr} {d : Option Nat} {w : World} (a : Addr) : Val1 Tryd.prog K (Instr.fieldAt 25 (.pointer (some a)) 0) u f d w = K (updO f d (.pointer (some (a.add 0)))) w := by
  rw [fld_ptr u f d w 25 0 (by rw [ty_fl_25_0]; rfl) a, ty_fl_25_0]; rfl
theorem fd_25_1 {K : Fr → World → Prop} {u : World} {f : Fr} {d : Option Nat} {w : World} (a : Addr) : Val1 Tryd.prog K (Instr.fieldAt 25 (.pointer (some a)) 1) u f d w = K (updO f d (.pointer (some (a.add 1)))) w := by
  rw [fld_ptr u f d w 25 1 (by rw [ty_fl_25_1]; rfl) a, ty_fl_25_1]; rfl
theorem fd_25_2 {K : Fr → World → Prop} {u : World} {f : Fr} {d : Option Nat} {w : World} (a : Addr) : Val1 Tryd.prog K (Instr.fieldAt 25 (.pointer (some a)) 2) u f d w = K (updO f d (.pointer (some (a.add 2)))) w := by
  rw [fld_ptr u f d w 25 2 (by rw [ty_fl_25_2]; rfl) a, ty_fl_25_2]; rfl
theorem fd_25_3 {K : Fr → World → Prop} {u : World} {f : Fr} {d : Option Nat} {w : World} (a : Addr) : Val1 Tryd.prog K (Instr.fieldAt 25 (.pointer (some a)) 3) u f d w = K (updO f d (.pointer (some (a.add 3)))) w := by
  rw [fld_ptr u f d w 25 3 (by rw [ty_fl_25_3]; rfl) a, ty_fl_25_3]; rfl
theorem fd_25_4 {K : Fr → World → Prop} {u : World} {f : Fr} {d : Option Nat} {w : World} (a : Addr) : Val1 Tryd.prog K (Instr.fieldAt 25 (.pointer (some a)) 4) u f d w = K (updO f d (.pointer (some (a.add 4)))) w := by
  rw [fld_ptr u f d w 25 4 (by rw [ty_fl_25_4]; rfl) a, ty_fl_25_4]; rfl
theorem ix_38 {K : Fr → World → Prop} {u : World} {f : Fr} {d : Option Nat} {w : World} (A : Option Addr) (hA : A.isSome = true) (n c : Nat) (k : IntKind) (i : Int) (h0 : 0 ≤ i) (h1 : i < n) : Val1 Tryd.prog K (Instr.indexAt 38 (.slice A n c) (.int k i)) u f d w = K (updO f d (.pointer (some (eA A (i.toNat * 1))))) w := by
  rw [idx_sl u f d w 38 (by rw [ty_sl_38]; rfl) A hA n c k i h0 h1, ty_sl_38]; rfl
theorem ln_38 {K : Fr → World → Prop} {u : World} {f : Fr} {d : Option Nat} {w : World} (ty : TypeId) (A : Option Addr) (n c : Nat) : Val1 Tryd.prog K (Builtin.len_ #[38] ty #[.slice A n c]) u f d w = K (updO f d (.int .i64 n)) w := len_sl u f d w ty 38 (by rw [ty_sl_38]; rfl) A n c
theorem fd_55_0 {K : Fr → World → Prop} {u : World} {f : Fr} {d : Option Nat} {w : World} (a : Addr) : Val1 Tryd.prog K (Instr.fieldAt 55 (.pointer (some a)) 0) u f d w = K (updO f d (.pointer (some (a.add 0)))) w := by
  rw [fld_ptr u f d w 55 0 (by rw [ty_fl_55_0]; rfl) a, ty_fl_55_0]; rfl
theorem fd_55_1 {K : Fr → World → Prop} {u : World} {f : Fr} {d : Option Nat} {w : World} (a : Addr) : Val1 Tryd.prog K (Instr.fieldAt 55 (.pointer (some a)) 1) u f d w = K (updO f d (.pointer (some (a.add 5)))) w := by
  rw [fld_ptr u f d w 55 1 (by rw [ty_fl_55_1]; rfl) a, ty_fl_55_1]; rfl
theorem fd_55_2 {K : Fr → World → Prop} {u : World} {f : Fr} {d : Option Nat} {w : World} (a : Addr) : Val1 Tryd.prog K (Instr.fieldAt 55 (.pointer (some a)) 2) u f d w = K (updO f d (.pointer (some (a.add 6)))) w := by
  rw [fld_ptr u f d w 55 2 (by rw [ty_fl_55_2]; rfl) a, ty_fl_55_2]; rfl
theorem fd_56_0 {K : Fr → World → Prop} {u : World} {f : Fr} {d : Option Nat} {w : World} (a : Addr) : Val1 Tryd.prog K (Instr.fieldAt 56 (.pointer (some a)) 0) u f d w = K (updO f d (.pointer (some (a.add 0)))) w := by
  rw [fld_ptr u f d w 56 0 (by rw [ty_fl_56_0]; rfl) a, ty_fl_56_0]; rfl
theorem fd_56_1 {K : Fr → World → Prop} {u : World} {f : Fr} {d : Option Nat} {w : World} (a : Addr) : Val1 Tryd.prog K (Instr.fieldAt 56 (.pointer (some a)) 1) u f d w = K (updO f d (.pointer (some (a.add 5)))) w := by
  rw [fld_ptr u f d w 56 1 (by rw [ty_fl_56_1]; rfl) a, ty_fl_56_1]; rfl
theorem fd_56_2 {K : Fr → World → Prop} {u : World} {f : Fr} {d : Option Nat} {w : World} (a : Addr) : Val1 Tryd.prog K (Instr.fieldAt 56 (.pointer (some a)) 2) u f d w = K (updO f d (.pointer (some (a.add 6)))) w := by
  rw [fld_ptr u f d w 56 2 (by rw [ty_fl_56_2]; rfl) a, ty_fl_56_2]; rfl
theorem ix_62 {K : Fr → World → Prop} {u : World} {f : Fr} {d : Option Nat} {w : World} (A : Option Addr) (hA : A.isSome = true) (n c : Nat) (k : IntKind) (i : Int) (h0 : 0 ≤ i) (h1 : i < n) : Val1 Tryd.prog K (Instr.indexAt 62 (.slice A n c) (.int k i)) u f d w = K (updO f d (.pointer (some (eA A (i.toNat * 2))))) w := by
  rw [idx_sl u f d w 62 (by rw [ty_sl_62]; rfl) A hA n c k i h0 h1, ty_sl_62]; rfl
theorem ln_62 {K : Fr → World → Prop} {u : World} {f : Fr} {d : Option Nat} {w : World} (ty : TypeId) (A : Option Addr) (n c : Nat) : Val1 Tryd.prog K (Builtin.len_ #[62] ty #[.slice A n c]) u f d w = K (updO f d (.int .i64 n)) w := len_sl u f d w ty 62 (by rw [ty_sl_62]; rfl) A n c
theorem ix_68 {K : Fr → World → Prop} {u : World} {f : Fr} {d : Option Nat} {w : World} (a : Addr) (k : IntKind) (i : Int) (h0 : 0 ≤ i) (h1 : i < 4) : Val1 Tryd.prog K (Instr.indexAt 68 (.pointer (some a)) (.int k i)) u f d w = K (updO f d (.pointer (some (a.add (i.toNat * 1))))) w := by
  rw [idx_arr u f d w 68 (by rw [ty_ar_68]; rfl) a k i h0 (by rw [ty_ar_68]; exact h1), ty_ar_68]; rfl
theorem ix_69 {K : Fr → World → Prop} {u : World} {f : Fr} {d : Option Nat} {w : World} (a : Addr) (k : IntKind) (i : Int) (h0 : 0 ≤ i) (h1 : i < 4) : Val1 Tryd.prog K (Instr.indexAt 69 (.pointer (some a)) (.int k i)) u f d w = K (updO f d (.pointer (some (a.add (i.toNat * 1))))) w := by
  rw [idx_arr u f d w 69 (by rw [ty_ar_69]; rfl) a k i h0 (by rw [ty_ar_69]; exact h1), ty_ar_69]; rfl
theorem fd_74_0 {K : Fr → World → Prop} {u : World} {f : Fr} {d : Option Nat} {w : World} (a : Addr) : Val1 Tryd.prog K (Instr.fieldAt 74 (.pointer (some a)) 0) u f d w = K (updO f d (.pointer (some (a.add 0)))) w := by
  rw [fld_ptr u f d w 74 0 (by rw [ty_fl_74_0]; rfl) a, ty_fl_74_0]; rfl
theorem fd_74_1 {K : Fr → World → Prop} {u : World} {f : Fr} {d : Option Nat} {w : World} (a : Addr) : Val1 Tryd.prog K (Instr.fieldAt 74 (.pointer (some a)) 1) u f d w = K (updO f d (.pointer (some (a.add 1)))) w := by
  rw [fld_ptr u f d w 74 1 (by rw [ty_fl_74_1]; rfl) a, ty_fl_74_1]; rfl
theorem fd_74_2 {K : Fr → World → Prop} {u : World} {f : Fr} {d : Option Nat} {w : World} (a : Addr) : Val1 Tryd.prog K (Instr.fieldAt 74 (.pointer (some a)) 2) u f d w = K (updO f d (.pointer (some (a.add 2)))) w := by
  rw [fld_ptr u f d w 74 2 (by rw [ty_fl_74_2]; rfl) a, ty_fl_74_2]; rfl
theorem fd_75_0 {K : Fr → World → Prop} {u : World} {f : Fr} {d : Option Nat} {w : World} (a : Addr) : Val1 Tryd.prog K (Instr.fieldAt 75 (.pointer (some a)) 0) u f d w = K (updO f d (.pointer (some (a.add 0)))) w := by
  rw [fld_ptr u f d w 75 0 (by rw [ty_fl_75_0]; rfl) a, ty_fl_75_0]; rfl
theorem fd_75_1 {K : Fr → World → Prop} {u : World} {f : Fr} {d : Option Nat} {w : World} (a : Addr) : Val1 Tryd.prog K (Instr.fieldAt 75 (.pointer (some a)) 1) u f d w = K (updO f d (.pointer (some (a.add 1)))) w := by
  rw [fld_ptr u f d w 75 1 (by rw [ty_fl_75_1]; rfl) a, ty_fl_75_1]; rfl
theorem fd_75_2 {K : Fr → World → Prop} {u : World} {f : Fr} {d : Option Nat} {w : World} (a : Addr) : Val1 Tryd.prog K (Instr.fieldAt 75 (.pointer (some a)) 2) u f d w = K (updO f d (.pointer (some (a.add 2)))) w := by
  rw [fld_ptr u f d w 75 2 (by rw [ty_fl_75_2]; rfl) a, ty_fl_75_2]; rfl
theorem ix_81 {K : Fr → World → Prop} {u : World} {f : Fr} {d : Option Nat} {w : World} (A : Option Addr) (hA : A.isSome = true) (n c : Nat) (k : IntKind) (i : Int) (h0 : 0 ≤ i) (h1 : i < n) : Val1 Tryd.prog K (Instr.indexAt 81 (.slice A n c) (.int k i)) u f d w = K (updO f d (.pointer (some (eA A (i.toNat * 4))))) w := by
  rw [idx_sl u f d w 81 (by rw [ty_sl_81]; rfl) A hA n c k i h0 h1, ty_sl_81]; rfl
theorem ln_81 {K : Fr → World → Prop} {u : World} {f : Fr} {d : Option Nat} {w : World} (ty : TypeId) (A : Option Addr) (n c : Nat) : Val1 Tryd.prog K (Builtin.len_ #[81] ty #[.slice A n c]) u f d w = K (updO f d (.int .i64 n)) w := len_sl u f d w ty 81 (by rw [ty_sl_81]; rfl) A n c
theorem ix_103 {K : Fr → World → Prop} {u : World} {f : Fr} {d : Option Nat} {w : World} (A : Option Addr) (hA : A.isSome = true) (n c : Nat) (k : IntKind) (i : Int) (h0 : 0 ≤ i) (h1 : i < n) : Val1 Tryd.prog K (Instr.indexAt 103 (.slice A n c) (.int k i)) u f d w = K (updO f d (.pointer (some (eA A (i.toNat * 5))))) w := by
  rw [idx_sl u f d w 103 (by rw [ty_sl_103]; rfl) A hA n c k i h0 h1, ty_sl_103]; rfl
theorem ln_103 {K : Fr → World → Prop} {u : World} {f : Fr} {d : Option Nat} {w : World} (ty : TypeId) (A : Option Addr) (n c : Nat) : Val1 Tryd.prog K (Builtin.len_ #[103] ty #[.slice A n c]) u f d w = K (updO f d (.int .i64 n)) w := len_sl u f d w ty 103 (by rw [ty_sl_103]; rfl) A n c
theorem fd_105_0 {K : Fr → World → Prop} {u : World} {f : Fr} {d : Option Nat} {w : World} (a : Addr) : Val1 Tryd.prog K (Instr.fieldAt 105 (.pointer (some a)) 0) u f d w = K (updO f d (.pointer (some (a.add 0)))) w := by
  rw [fld_ptr u f d w 105 0 (by rw [ty_fl_105_0]; rfl) a, ty_fl_105_0]; rfl
theorem fd_105_1 {K : Fr → World → Prop} {u : World} {f : Fr} {d : Option Nat} {w : World} (a : Addr) : Val1 Tryd.prog K (Instr.fieldAt 105 (.pointer (some a)) 1) u f d w = K (updO f d (.pointer (some (a.add 4)))) w := by
  rw [fld_ptr u f d w 105 1 (by rw [ty_fl_105_1]; rfl) a, ty_fl_105_1]; rfl
theorem fd_106_0 {K : Fr → World → Prop} {u : World} {f : Fr} {d : Option Nat} {w : World} (a : Addr) : Val1 Tryd.prog K (Instr.fieldAt 106 (.pointer (some a)) 0) u f d w = K (updO f d (.pointer (some (a.add 0)))) w := by
  rw [fld_ptr u f d w 106 0 (by rw [ty_fl_106_0]; rfl) a, ty_fl_106_0]; rfl
theorem fd_106_1 {K : Fr → World → Prop} {u : World} {f : Fr} {d : Option Nat} {w : World} (a : Addr) : Val1 Tryd.prog K (Instr.fieldAt 106 (.pointer (some a)) 1) u f d w = K (updO f d (.pointer (some (a.add 4)))) w := by
  rw [fld_ptr u f d w 106 1 (by rw [ty_fl_106_1]; rfl) a, ty_fl_106_1]; rfl
theorem fd_109_0 {K : Fr → World → Prop} {u : World} {f : Fr} {d : Option Nat} {w : World} (a : Addr) : Val1 Tryd.prog K (Instr.fieldAt 109 (.pointer (some a)) 0) u f d w = K (updO f d (.pointer (some (a.add 0)))) w := by
  rw [fld_ptr u f d w 109 0 (by rw [ty_fl_109_0]; rfl) a, ty_fl_109_0]; rfl
theorem fd_109_1 {K : Fr → World → Prop} {u : World} {f : Fr} {d : Option Nat} {w : World} (a : Addr) : Val1 Tryd.prog K (Instr.fieldAt 109 (.pointer (some a)) 1) u f d w = K (updO f d (.pointer (some (a.add 1)))) w := by
  rw [fld_ptr u f d w 109 1 (by rw [ty_fl_109_1]; rfl) a, ty_fl_109_1]; rfl
theorem fd_110_0 {K : Fr → World → Prop} {u : World} {f : Fr} {d : Option Nat} {w : World} (a : Addr) : Val1 Tryd.prog K (Instr.fieldAt 110 (.pointer (some a)) 0) u f d w = K (updO f d (.pointer (some (a.add 0)))) w := by
  rw [fld_ptr u f d w 110 0 (by rw [ty_fl_110_0]; rfl) a, ty_fl_110_0]; rfl
theorem fd_110_1 {K : Fr → World → Prop} {u : World} {f : Fr} {d : Option Nat} {w : World} (a : Addr) : Val1 Tryd.prog K (Instr.fieldAt 110 (.pointer (some a)) 1) u f d w = K (updO f d (.pointer (some (a.add 1)))) w := by
  rw [fld_ptr u f d w 110 1 (by rw [ty_fl_110_1]; rfl) a, ty_fl_110_1]; rfl
theorem ix_116 {K : Fr → World → Prop} {u : World} {f : Fr} {d : Option Nat} {w : World} (A : Option Addr) (hA : A.isSome = true) (n c : Nat) (k : IntKind) (i : Int) (h0 : 0 ≤ i) (h1 : i < n) : Val1 Tryd.prog K (Instr.indexAt 116 (.slice A n c) (.int k i)) u f d w = K (updO f d (.pointer (some (eA A (i.toNat * 1))))) w := by
  rw [idx_sl u f d w 116 (by rw [ty_sl_116]; rfl) A hA n c k i h0 h1, ty_sl_116]; rfl
theorem ln_116 {K : Fr → World → Prop} {u : World} {f : Fr} {d : Option Nat} {w : World} (ty : TypeId) (A : Option Addr) (n c : Nat) : Val1 Tryd.prog K (Builtin.len_ #[116] ty #[.slice A n c]) u f d w = K (updO f d (.int .i64 n)) w := len_sl u f d w ty 116 (by rw [ty_sl_116]; rfl) A n c
theorem ix_119 {K : Fr → World → Prop} {u : World} {f : Fr} {d : Option Nat} {w : World} (A : Option Addr) (hA : A.isSome = true) (n c : Nat) (k : IntKind) (i : Int) (h0 : 0 ≤ i) (h1 : i < n) : Val1 Tryd.prog K (Instr.indexAt 119 (.slice A n c) (.int k i)) u f d w = K (updO f d (.pointer (some (eA A (i.toNat * 1))))) w := by
  rw [idx_sl u f d w 119 (by rw [ty_sl_119]; rfl) A hA n c k i h0 h1, ty_sl_119]; rfl
theorem ln_119 {K : Fr → World → Prop} {u : World} {f : Fr} {d : Option Nat} {w : World} (ty : TypeId) (A : Option Addr) (n c : Nat) : Val1 Tryd.prog K (Builtin.len_ #[119] ty #[.slice A n c]) u f d w = K (updO f d (.int .i64 n)) w := len_sl u f d w ty 119 (by rw [ty_sl_119]; rfl) A n c
theorem fd_129_0 {K : Fr → World → Prop} {u : World} {f : Fr} {d : Option Nat} {w : World} (a : Addr) : Val1 Tryd.prog K (Instr.fieldAt 129 (.pointer (some a)) 0) u f d w = K (updO f d (.pointer (some (a.add 0)))) w := by
  rw [fld_ptr u f d w 129 0 (by rw [ty_fl_129_0]; rfl) a, ty_fl_129_0]; rfl
theorem fd_129_1 {K : Fr → World → Prop} {u : World} {f : Fr} {d : Option Nat} {w : World} (a : Addr) : Val1 Tryd.prog K (Instr.fieldAt 129 (.pointer (some a)) 1) u f d w = K (updO f d (.pointer (some (a.add 4)))) w := by
  rw [fld_ptr u f d w 129 1 (by rw [ty_fl_129_1]; rfl) a, ty_fl_129_1]; rfl
theorem fd_130_0 {K : Fr → World → Prop} {u : World} {f : Fr} {d : Option Nat} {w : World} (a : Addr) : Val1 Tryd.prog K (Instr.fieldAt 130 (.pointer (some a)) 0) u f d w = K (updO f d (.pointer (some (a.add 0)))) w := by
  rw [fld_ptr u f d w 130 0 (by rw [ty_fl_130_0]; rfl) a, ty_fl_130_0]; rfl
theorem fd_130_1 {K : Fr → World → Prop} {u : World} {f : Fr} {d : Option Nat} {w : World} (a : Addr) : Val1 Tryd.prog K (Instr.fieldAt 130 (.pointer (some a)) 1) u f d w = K (updO f d (.pointer (some (a.add 4)))) w := by
  rw [fld_ptr u f d w 130 1 (by rw [ty_fl_130_1]; rfl) a, ty_fl_130_1]; rfl
theorem ix_135 {K : Fr → World → Prop} {u : World} {f : Fr} {d : Option Nat} {w : World} (a : Addr) (k : IntKind) (i : Int) (h0 : 0 ≤ i) (h1 : i < 8) : Val1 Tryd.prog K (Instr.indexAt 135 (.pointer (some a)) (.int k i)) u f d w = K (updO f d (.pointer (some (a.add (i.toNat * 1))))) w := by
  rw [idx_arr u f d w 135 (by rw [ty_ar_135]; rfl) a k i h0 (by rw [ty_ar_135]; exact h1), ty_ar_135]; rfl
theorem fd_136_0 {K : Fr → World → Prop} {u : World} {f : Fr} {d : Option Nat} {w : World} (a : Addr) : Val1 Tryd.prog K (Instr.fieldAt 136 (.pointer (some a)) 0) u f d w = K (updO f d (.pointer (some (a.add 0)))) w := by
  rw [fld_ptr u f d w 136 0 (by rw [ty_fl_136_0]; rfl) a, ty_fl_136_0]; rfl
theorem fd_136_1 {K : Fr → World → Prop} {u : World} {f : Fr} {d : Option Nat} {w : World} (a : Addr) : Val1 Tryd.prog K (Instr.fieldAt 136 (.pointer (some a)) 1) u f d w = K (updO f d (.pointer (some (a.add 1)))) w := by
  rw [fld_ptr u f d w 136 1 (by rw [ty_fl_136_1]; rfl) a, ty_fl_136_1]; rfl
theorem fd_137_0 {K : Fr → World → Prop} {u : World} {f : Fr} {d : Option Nat} {w : World} (a : Addr) : Val1 Tryd.prog K (Instr.fieldAt 137 (.pointer (some a)) 0) u f d w = K (updO f d (.pointer (some (a.add 0)))) w := by
  rw [fld_ptr u f d w 137 0 (by rw [ty_fl_137_0]; rfl) a, ty_fl_137_0]; rfl
theorem fd_137_1 {K : Fr → World → Prop} {u : World} {f : Fr} {d : Option Nat} {w : World} (a : Addr) : Val1 Tryd.prog K (Instr.fieldAt 137 (.pointer (some a)) 1) u f d w = K (updO f d (.pointer (some (a.add 1)))) w := by
  rw [fld_ptr u f d w 137 1 (by rw [ty_fl_137_1]; rfl) a, ty_fl_137_1]; rfl
theorem ix_139 {K : Fr → World → Prop} {u : World} {f : Fr} {d : Option Nat} {w : World} (a : Addr) (k : IntKind) (i : Int) (h0 : 0 ≤ i) (h1 : i < 64) : Val1 Tryd.prog K (Instr.indexAt 139 (.pointer (some a)) (.int k i)) u f d w = K (updO f d (.pointer (some (a.add (i.toNat * 1))))) w := by
  rw [idx_arr u f d w 139 (by rw [ty_ar_139]; rfl) a k i h0 (by rw [ty_ar_139]; exact h1), ty_ar_139]; rfl
theorem fd_142_0 {K : Fr → World → Prop} {u : World} {f : Fr} {d : Option Nat} {w : World} (a : Addr) : Val1 Tryd.prog K (Instr.fieldAt 142 (.pointer (some a)) 0) u f d w = K (updO f d (.pointer (some (a.add 0)))) w := by
  rw [fld_ptr u f d w 142 0 (by rw [ty_fl_142_0]; rfl) a, ty_fl_142_0]; rfl
theorem fd_142_1 {K : Fr → World → Prop} {u : World} {f : Fr} {d : Option Nat} {w : World} (a : Addr) : Val1 Tryd.prog K (Instr.fieldAt 142 (.pointer (some a)) 1) u f d w = K (updO f d (.pointer (some (a.add 8)))) w := by
  rw [fld_ptr u f d w 142 1 (by rw [ty_fl_142_1]; rfl) a, ty_fl_142_1]; rfl
theorem fd_142_2 {K : Fr → World → Prop} {u : World} {f : Fr} {d : Option Nat} {w : World} (a : Addr) : Val1 Tryd.prog K (Instr.fieldAt 142 (.pointer (some a)) 2) u f d w = K (updO f d (.pointer (some (a.add 9)))) w := by
  rw [fld_ptr u f d w 142 2 (by rw [ty_fl_142_2]; rfl) a, ty_fl_142_2]; rfl
theorem fd_143_0 {K : Fr → World → Prop} {u : World} {f : Fr} {d : Option Nat} {w : World} (a : Addr) : Val1 Tryd.prog K (Instr.fieldAt 143 (.pointer (some a)) 0) u f d w = K (updO f d (.pointer (some (a.add 0)))) w := by
  rw [fld_ptr u f d w 143 0 (by rw [ty_fl_143_0]; rfl) a, ty_fl_143_0]; rfl
theorem fd_143_1 {K : Fr → World → Prop} {u : World} {f : Fr} {d : Option Nat} {w : World} (a : Addr) : Val1 Tryd.prog K (Instr.fieldAt 143 (.pointer (some a)) 1) u f d w = K (updO f d (.pointer (some (a.add 8)))) w := by
  rw [fld_ptr u f d w 143 1 (by rw [ty_fl_143_1]; rfl) a, ty_fl_143_1]; rfl
theorem fd_143_2 {K : Fr → World → Prop} {u : World} {f : Fr} {d : Option Nat} {w : World} (a : Addr) : Val1 Tryd.prog K (Instr.fieldAt 143 (.pointer (some a)) 2) u f d w = K (updO f d (.pointer (some (a.add 9)))) w := by
  rw [fld_ptr u f d w 143 2 (by rw [ty_fl_143_2]; rfl) a, ty_fl_143_2]; rfl
theorem ix_144 {K : Fr → World → Prop} {u : World} {f : Fr} {d : Option Nat} {w : World} (A : Option Addr) (hA : A.isSome = true) (n c : Nat) (k : IntKind) (i : Int) (h0 : 0 ≤ i) (h1 : i < n) : Val1 Tryd.prog K (Instr.indexAt 144 (.slice A n c) (.int k i)) u f d w = K (updO f d (.pointer (some (eA A (i.toNat * 10))))) w := by
  rw [idx_sl u f d w 144 (by rw [ty_sl_144]; rfl) A hA n c k i h0 h1, ty_sl_144]; rfl
theorem ln_144 {K : Fr → World → Prop} {u : World} {f : Fr} {d : Option Nat} {w : World} (ty : TypeId) (A : Option Addr) (n c : Nat) : Val1 Tryd.prog K (Builtin.len_ #[144] ty #[.slice A n c]) u f d w = K (updO f d (.int .i64 n)) w := len_sl u f d w ty 144 (by rw [ty_sl_144]; rfl) A n c
theorem fd_147_0 {K : Fr → World → Prop} {u : World} {f : Fr} {d : Option Nat} {w : World} (a : Addr) : Val1 Tryd.prog K (Instr.fieldAt 147 (.pointer (some a)) 0) u f d w = K (updO f d (.pointer (some (a.add 0)))) w := by
  rw [fld_ptr u f d w 147 0 (by rw [ty_fl_147_0]; rfl) a, ty_fl_147_0]; rfl
theorem fd_147_1 {K : Fr → World → Prop} {u : World} {f : Fr} {d : Option Nat} {w : World} (a : Addr) : Val1 Tryd.prog K (Instr.fieldAt 147 (.pointer (some a)) 1) u f d w = K (updO f d (.pointer (some (a.add 1)))) w := by
  rw [fld_ptr u f d w 147 1 (by rw [ty_fl_147_1]; rfl) a, ty_fl_147_1]; rfl
theorem fd_147_2 {K : Fr → World → Prop} {u : World} {f : Fr} {d : Option Nat} {w : World} (a : Addr) : Val1 Tryd.prog K (Instr.fieldAt 147 (.pointer (some a)) 2) u f d w = K (updO f d (.pointer (some (a.add 2)))) w := by
  rw [fld_ptr u f d w 147 2 (by rw [ty_fl_147_2]; rfl) a, ty_fl_147_2]; rfl
theorem fd_147_3 {K : Fr → World → Prop} {u : World} {f : Fr} {d : Option Nat} {w : World} (a : Addr) : Val1 Tryd.prog K (Instr.fieldAt 147 (.pointer (some a)) 3) u f d w = K (updO f d (.pointer (some (a.add 3)))) w := by
  rw [fld_ptr u f d w 147 3 (by rw [ty_fl_147_3]; rfl) a, ty_fl_147_3]; rfl
theorem fd_148_0 {K : Fr → World → Prop} {u : World} {f : Fr} {d : Option Nat} {w : World} (a : Addr) : Val1 Tryd.prog K (Instr.fieldAt 148 (.pointer (some a)) 0) u f d w = K (updO f d (.pointer (some (a.add 0)))) w := by
  rw [fld_ptr u f d w 148 0 (by rw [ty_fl_148_0]; rfl) a, ty_fl_148_0]; rfl
theorem fd_148_1 {K : Fr → World → Prop} {u : World} {f : Fr} {d : Option Nat} {w : World} (a : Addr) : Val1 Tryd.prog K (Instr.fieldAt 148 (.pointer (some a)) 1) u f d w = K (updO f d (.pointer (some (a.add 1)))) w := by
  rw [fld_ptr u f d w 148 1 (by rw [ty_fl_148_1]; rfl) a, ty_fl_148_1]; rfl
theorem fd_148_2 {K : Fr → World → Prop} {u : World} {f : Fr} {d : Option Nat} {w : World} (a : Addr) : Val1 Tryd.prog K (Instr.fieldAt 148 (.pointer (some a)) 2) u f d w = K (updO f d (.pointer (some (a.add 2)))) w := by
  rw [fld_ptr u f d w 148 2 (by rw [ty_fl_148_2]; rfl) a, ty_fl_148_2]; rfl
theorem fd_148_3 {K : Fr → World → Prop} {u : World} {f : Fr} {d : Option Nat} {w : World} (a : Addr) : Val1 Tryd.prog K (Instr.fieldAt 148 (.pointer (some a)) 3) u f d w = K (updO f d (.pointer (some (a.add 3)))) w := by
  rw [fld_ptr u f d w 148 3 (by rw [ty_fl_148_3]; rfl) a, ty_fl_148_3]; rfl
theorem ix_149 {K : Fr → World → Prop} {u : World} {f : Fr} {d : Option Nat} {w : World} (a : Addr) (k : IntKind) (i : Int) (h0 : 0 ≤ i) (h1 : i < 0) : Val1 Tryd.prog K (Instr.indexAt 149 (.pointer (some a)) (.int k i)) u f d w = K (updO f d (.pointer (some (a.add (i.toNat * 1))))) w := by
  rw [idx_arr u f d w 149 (by rw [ty_ar_149]; rfl) a k i h0 (by rw [ty_ar_149]; exact h1), ty_ar_149]; rfl
theorem fd_160_0 {K : Fr → World → Prop} {u : World} {f : Fr} {d : Option Nat} {w : World} (a : Addr) : Val1 Tryd.prog K (Instr.fieldAt 160 (.pointer (some a)) 0) u f d w = K (updO f d (.pointer (some (a.add 0)))) w := by
  rw [fld_ptr u f d w 160 0 (by rw [ty_fl_160_0]; rfl) a, ty_fl_160_0]; rfl
theorem fd_160_1 {K : Fr → World → Prop} {u : World} {f : Fr} {d : Option Nat} {w : World} (a : Addr) : Val1 Tryd.prog K (Instr.fieldAt 160 (.pointer (some a)) 1) u f d w = K (updO f d (.pointer (some (a.add 1)))) w := by
  rw [fld_ptr u f d w 160 1 (by rw [ty_fl_160_1]; rfl) a, ty_fl_160_1]; rfl
theorem fd_160_2 {K : Fr → World → Prop} {u : World} {f : Fr} {d : Option Nat} {w : World} (a : Addr) : Val1 Tryd.prog K (Instr.fieldAt 160 (.pointer (some a)) 2) u f d w = K (updO f d (.pointer (some (a.add 2)))) w := by
  rw [fld_ptr u f d w 160 2 (by rw [ty_fl_160_2]; rfl) a, ty_fl_160_2]; rfl
theorem fd_160_3 {K : Fr → World → Prop} {u : World} {f : Fr} {d : Option Nat} {w : World} (a : Addr) : Val1 Tryd.prog K (Instr.fieldAt 160 (.pointer (some a)) 3) u f d w = K (updO f d (.pointer (some (a.add 3)))) w := by
  rw [fld_ptr u f d w 160 3 (by rw [ty_fl_160_3]; rfl) a, ty_fl_160_3]; rfl
theorem fd_160_4 {K : Fr → World → Prop} {u : World} {f : Fr} {d : Option Nat} {w : World} (a : Addr) : Val1 Tryd.prog K (Instr.fieldAt 160 (.pointer (some a)) 4) u f d w = K (updO f d (.pointer (some (a.add 4)))) w := by
  rw [fld_ptr u f d w 160 4 (by rw [ty_fl_160_4]; rfl) a, ty_fl_160_4]; rfl
theorem fd_160_5 {K : Fr → World → Prop} {u : World} {f : Fr} {d : Option Nat} {w : World} (a : Addr) : Val1 Tryd.prog K (Instr.fieldAt 160 (.pointer (some a)) 5) u f d w = K (updO f d (.pointer (some (a.add 5)))) w := by
  rw [fld_ptr u f d w 160 5 (by rw [ty_fl_160_5]; rfl) a, ty_fl_160_5]; rfl
theorem fd_160_6 {K : Fr → World → Prop} {u : World} {f : Fr} {d : Option Nat} {w : World} (a : Addr) : Val1 Tryd.prog K (Instr.fieldAt 160 (.pointer (some a)) 6) u f d w = K (updO f d (.pointer (some (a.add 6)))) w := by
  rw [fld_ptr u f d w 160 6 (by rw [ty_fl_160_6]; rfl) a, ty_fl_160_6]; rfl
theorem fd_160_7 {K : Fr → World → Prop} {u : World} {f : Fr} {d : Option Nat} {w : World} (a : Addr) : Val1 Tryd.prog K (Instr.fieldAt 160 (.pointer (some a)) 7) u f d w = K (updO f d (.pointer (some (a.add 7)))) w := by
  rw [fld_ptr u f d w 160 7 (by rw [ty_fl_160_7]; rfl) a, ty_fl_160_7]; rfl
theorem fd_160_8 {K : Fr → World → Prop} {u : World} {f : Fr} {d : Option Nat} {w : World} (a : Addr) : Val1 Tryd.prog K (Instr.fieldAt 160 (.pointer (some a)) 8) u f d w = K (updO f d (.pointer (some (a.add 8)))) w := by
  rw [fld_ptr u f d w 160 8 (by rw [ty_fl_160_8]; rfl) a, ty_fl_160_8]; rfl
theorem fd_160_9 {K : Fr → World → Prop} {u : World} {f : Fr} {d : Option Nat} {w : World} (a : Addr) : Val1 Tryd.prog K (Instr.fieldAt 160 (.pointer (some a)) 9) u f d w = K (updO f d (.pointer (some (a.add 9)))) w := by
  rw [fld_ptr u f d w 160 9 (by rw [ty_fl_160_9]; rfl) a, ty_fl_160_9]; rfl
theorem fd_160_10 {K : Fr → World → Prop} {u : World} {f : Fr} {d : Option Nat} {w : World} (a : Addr) : Val1 Tryd.prog K (Instr.fieldAt 160 (.pointer (some a)) 10) u f d w = K (updO f d (.pointer (some (a.add 10)))) w := by
  rw [fld_ptr u f d w 160 10 (by rw [ty_fl_160_10]; rfl) a, ty_fl_160_10]; rfl
theorem fd_161_0 {K : Fr → World → Prop} {u : World} {f : Fr} {d : Option Nat} {w : World} (a : Addr) : Val1 Tryd.prog K (Instr.fieldAt 161 (.pointer (some a)) 0) u f d w = K (updO f d (.pointer (some (a.add 0)))) w := by
  rw [fld_ptr u f d w 161 0 (by rw [ty_fl_161_0]; rfl) a, ty_fl_161_0]; rfl
theorem fd_161_1 {K : Fr → World → Prop} {u : World} {f : Fr} {d : Option Nat} {w : World} (a : Addr) : Val1 Tryd.prog K (Instr.fieldAt 161 (.pointer (some a)) 1) u f d w = K (updO f d (.pointer (some (a.add 1)))) w := by
  rw [fld_ptr u f d w 161 1 (by rw [ty_fl_161_1]; rfl) a, ty_fl_161_1]; rfl
theorem fd_161_2 {K : Fr → World → Prop} {u : World} {f : Fr} {d : Option Nat} {w : World} (a : Addr) : Val1 Tryd.prog K (Instr.fieldAt 161 (.pointer (some a)) 2) u f d w = K (updO f d (.pointer (some (a.add 2)))) w := by
  rw [fld_ptr u f d w 161 2 (by rw [ty_fl_161_2]; rfl) a, ty_fl_161_2]; rfl
theorem fd_161_3 {K : Fr → World → Prop} {u : World} {f : Fr} {d : Option Nat} {w : World} (a : Addr) : Val1 Tryd.prog K (Instr.fieldAt 161 (.pointer (some a)) 3) u f d w = K (updO f d (.pointer (some (a.add 3)))) w := by
  rw [fld_ptr u f d w 161 3 (by rw [ty_fl_161_3]; rfl) a, ty_fl_161_3]; rfl
theorem fd_161_4 {K : Fr → World → Prop} {u : World} {f : Fr} {d : Option Nat} {w : World} (a : Addr) : Val1 Tryd.prog K (Instr.fieldAt 161 (.pointer (some a)) 4) u f d w = K (updO f d (.pointer (some (a.add 4)))) w := by
  rw [fld_ptr u f d w 161 4 (by rw [ty_fl_161_4]; rfl) a, ty_fl_161_4]; rfl
theorem fd_161_5 {K : Fr → World → Prop} {u : World} {f : Fr} {d : Option Nat} {w : World} (a : Addr) : Val1 Tryd.prog K (Instr.fieldAt 161 (.pointer (some a)) 5) u f d w = K (updO f d (.pointer (some (a.add 5)))) w := by
  rw [fld_ptr u f d w 161 5 (by rw [ty_fl_161_5]; rfl) a, ty_fl_161_5]; rfl
theorem fd_161_6 {K : Fr → World → Prop} {u : World} {f : Fr} {d : Option Nat} {w : World} (a : Addr) : Val1 Tryd.prog K (Instr.fieldAt 161 (.pointer (some a)) 6) u f d w = K (updO f d (.pointer (some (a.add 6)))) w := by
  rw [fld_ptr u f d w 161 6 (by rw [ty_fl_161_6]; rfl) a, ty_fl_161_6]; rfl
theorem fd_161_7 {K : Fr → World → Prop} {u : World} {f : Fr} {d : Option Nat} {w : World} (a : Addr) : Val1 Tryd.prog K (Instr.fieldAt 161 (.pointer (some a)) 7) u f d w = K (updO f d (.pointer (some (a.add 7)))) w := by
  rw [fld_ptr u f d w 161 7 (by rw [ty_fl_161_7]; rfl) a, ty_fl_161_7]; rfl
theorem fd_161_8 {K : Fr → World → Prop} {u : World} {f : Fr} {d : Option Nat} {w : World} (a : Addr) : Val1 Tryd.prog K (Instr.fieldAt 161 (.pointer (some a)) 8) u f d w = K (updO f d (.pointer (some (a.add 8)))) w := by
  rw [fld_ptr u f d w 161 8 (by rw [ty_fl_161_8]; rfl) a, ty_fl_161_8]; rfl
theorem fd_161_9 {K : Fr → World → Prop} {u : World} {f : Fr} {d : Option Nat} {w : World} (a : Addr) : Val1 Tryd.prog K (Instr.fieldAt 161 (.pointer (some a)) 9) u f d w = K (updO f d (.pointer (some (a.add 9)))) w := by
  rw [fld_ptr u f d w 161 9 (by rw [ty_fl_161_9]; rfl) a, ty_fl_161_9]; rfl
theorem fd_161_10 {K : Fr → World → Prop} {u : World} {f : Fr} {d : Option Nat} {w : World} (a : Addr) : Val1 Tryd.prog K (Instr.fieldAt 161 (.pointer (some a)) 10) u f d w = K (updO f d (.pointer (some (a.add 10)))) w := by
  rw [fld_ptr u f d w 161 10 (by rw [ty_fl_161_10]; rfl) a, ty_fl_161_10]; rfl
theorem al_2 {K : Fr → World → Prop} {f : Fr} {d : Option Nat} {w : World} : Eff1 Tryd.prog K (Instr.alloc 2 true (.tuple #[])) f d w = K (updO f d (.pointer (some ⟨w.heap.size, 0, none⟩))) (w.alloc (.cells [.int .i64 0].toArray 2)) := alloc_eq 2 (.int .i64 0) (by kernel_rfl)
theorem al_3 {K : Fr → World → Prop} {f : Fr} {d : Option Nat} {w : World} : Eff1 Tryd.prog K (Instr.alloc 3 true (.tuple #[])) f d w = K (updO f d (.pointer (some ⟨w.heap.size, 0, none⟩))) (w.alloc (.cells [.int .i64 0].toArray 3)) := alloc_eq 3 (.int .i64 0) (by kernel_rfl)
theorem eqb_4 {K : Fr → World → Prop} {u : World} {f : Fr} {d : Option Nat} {w : World} (xo yo : Operand) (a b : Bool) : Val1 Tryd.prog K (binS .eql 4 xo yo (.bool a) (.bool b)) u f d w = K (updO f d (.bool (a == b))) w := bin_eqb u f d w 4 xo yo (by kernel_rfl) a b
theorem neb_4 {K : Fr → World → Prop} {u : World} {f : Fr} {d : Option Nat} {w : World} (xo yo : Operand) (a b : Bool) : Val1 Tryd.prog K (binS .neq 4 xo yo (.bool a) (.bool b)) u f d w = K (updO f d (.bool (a != b))) w := bin_neb u f d w 4 xo yo (by kernel_rfl) a b
theorem al_4 {K : Fr → World → Prop} {f : Fr} {d : Option Nat} {w : World} : Eff1 Tryd.prog K (Instr.alloc 4 true (.tuple #[])) f d w = K (updO f d (.pointer (some ⟨w.heap.size, 0, none⟩))) (w.alloc (.cells [.bool false].toArray 4)) := alloc_eq 4 (.bool false) (by kernel_rfl)
theorem al_5 {K : Fr → World → Prop} {f : Fr} {d : Option Nat} {w : World} : Eff1 Tryd.prog K (Instr.alloc 5 true (.tuple #[])) f d w = K (updO f d (.pointer (some ⟨w.heap.size, 0, none⟩))) (w.alloc (.cells [.int .u8 0].toArray 5)) := alloc_eq 5 (.int .u8 0) (by kernel_rfl)
theorem al_6 {K : Fr → World → Prop} {f : Fr} {d : Option Nat} {w : World} : Eff1 Tryd.prog K (Instr.alloc 6 true (.tuple #[])) f d w = K (updO f d (.pointer (some ⟨w.heap.size, 0, none⟩))) (w.alloc (.cells [.int .u8 0].toArray 6)) := alloc_eq 6 (.int .u8 0) (by kernel_rfl)
theorem al_7 {K : Fr → World → Prop} {f : Fr} {d : Option Nat} {w : World} : Eff1 Tryd.prog K (Instr.alloc 7 true (.tuple #[])) f d w = K (updO f d (.pointer (some ⟨w.heap.size, 0, none⟩))) (w.alloc (.cells [.int .i64 0, .int .i64 0, .bool false, .int .u8 0].toArray 7)) := alloc_eq 7 (.agg #[.int .i64 0, .int .i64 0, .bool false, .int .u8 0]) (by kernel_rfl)
theorem al_8 {K : Fr → World → Prop} {f : Fr} {d : Option Nat} {w : World} : Eff1 Tryd.prog K (Instr.alloc 8 true (.tuple #[])) f d w = K (updO f d (.pointer (some ⟨w.heap.size, 0, none⟩))) (w.alloc (.cells [.int .i64 0, .int .i64 0, .bool false, .int .u8 0].toArray 8)) := alloc_eq 8 (.agg #[.int .i64 0, .int .i64 0, .bool false, .int .u8 0]) (by kernel_rfl)
theorem al_12 {K : Fr → World → Prop} {f : Fr} {d : Option Nat} {w : World} : Eff1 Tryd.prog K (Instr.alloc 12 true (.tuple #[])) f d w = K (updO f d (.pointer (some ⟨w.heap.size, 0, none⟩))) (w.alloc (.cells [.int .u64 0].toArray 12)) := alloc_eq 12 (.int .u64 0) (by kernel_rfl)
theorem al_13 {K : Fr → World → Prop} {f : Fr} {d : Option Nat} {w : World} : Eff1 Tryd.prog K (Instr.alloc 13 true (.tuple #[])) f d w = K (updO f d (.pointer (some ⟨w.heap.size, 0, none⟩))) (w.alloc (.cells [.string ByteArray.empty, .int .u64 0].toArray 13)) := alloc_eq 13 (.agg #[.string ByteArray.empty, .int .u64 0]) (by kernel_rfl)
theorem al_14 {K : Fr → World → Prop} {f : Fr} {d : Option Nat} {w : World} : Eff1 Tryd.prog K (Instr.alloc 14 true (.tuple #[])) f d w = K (updO f d (.pointer (some ⟨w.heap.size, 0, none⟩))) (w.alloc (.cells [.string ByteArray.empty, .int .u64 0].toArray 14)) := alloc_eq 14 (.agg #[.string ByteArray.empty, .int .u64 0]) (by kernel_rfl)
theorem al_18 {K : Fr → World → Prop} {f : Fr} {d : Option Nat} {w : World} : Eff1 Tryd.prog K (Instr.alloc 18 true (.tuple #[])) f d w = K (updO f d (.pointer (some ⟨w.heap.size, 0, none⟩))) (w.alloc (.cells [.pointer none].toArray 18)) := alloc_eq 18 (.agg #[.pointer none]) (by kernel_rfl)
theorem al_19 {K : Fr → World → Prop} {f : Fr} {d : Option Nat} {w : World} : Eff1 Tryd.prog K (Instr.alloc 19 true (.tuple #[])) f d w = K (updO f d (.pointer (some ⟨w.heap.size, 0, none⟩))) (w.alloc (.cells [.pointer none].toArray 19)) := alloc_eq 19 (.agg #[.pointer none]) (by kernel_rfl)
theorem al_21 {K : Fr → World → Prop} {f : Fr} {d : Option Nat} {w : World} : Eff1 Tryd.prog K (Instr.alloc 21 true (.tuple #[])) f d w = K (updO f d (.pointer (some ⟨w.heap.size, 0, none⟩))) (w.alloc (.cells [.int .i32 0].toArray 21)) := alloc_eq 21 (.int .i32 0) (by kernel_rfl)
theorem slT_22 : SlT Tryd.prog 22 3 1 8 := ⟨by kernel_rfl, by kernel_rfl, by decide⟩
theorem bs_22 {K : Fr → World → Prop} {f : Fr} {d : Option Nat} {w : World} (n : Int) : Eff1 Tryd.prog K (Instr.buildSlice 22 1 #[(0, .int .i64 n)]) f d w = K (updO f d (.slice (some ⟨w.heap.size, 0, none⟩) 1 1)) (w.alloc (.cells [.int .i64 n].toArray 3)) := bsl1_eq slT_22 _ rfl (by decide)
theorem bs0_22 {K : Fr → World → Prop} {f : Fr} {d : Option Nat} {w : World} : Eff1 Tryd.prog K (Instr.buildSlice 22 0 #[]) f d w = K (updO f d (.slice (some ⟨w.heap.size, 0, none⟩) 0 0)) (w.alloc (.cells [].toArray 3)) := bsl0_eq slT_22
theorem al_22 {K : Fr → World → Prop} {f : Fr} {d : Option Nat} {w : World} : Eff1 Tryd.prog K (Instr.alloc 22 true (.tuple #[])) f d w = K (updO f d (.pointer (some ⟨w.heap.size, 0, none⟩))) (w.alloc (.cells [.slice none 0 0].toArray 22)) := alloc_eq 22 (.slice none 0 0) (by kernel_rfl)
theorem slT_23 : SlT Tryd.prog 23 75 3 24 := ⟨by kernel_rfl, by kernel_rfl, by decide⟩
theorem bs_23 {K : Fr → World → Prop} {f : Fr} {d : Option Nat} {w : World} (x0 x1 x2 : Value) : Eff1 Tryd.prog K (Instr.buildSlice 23 1 #[(0, .agg #[x0, x1, x2])]) f d w = K (updO f d (.slice (some ⟨w.heap.size, 0, none⟩) 1 1)) (w.alloc (.cells [x0, x1, x2].toArray 75)) := bsl1_eq slT_23 _ rfl (by decide)
theorem bs0_23 {K : Fr → World → Prop} {f : Fr} {d : Option Nat} {w : World} : Eff1 Tryd.prog K (Instr.buildSlice 23 0 #[]) f d w = K (updO f d (.slice (some ⟨w.heap.size, 0, none⟩) 0 0)) (w.alloc (.cells [].toArray 75)) := bsl0_eq slT_23
theorem al_23 {K : Fr → World → Prop} {f : Fr} {d : Option Nat} {w : World} : Eff1 Tryd.prog K (Instr.alloc 23 true (.tuple #[])) f d w = K (updO f d (.pointer (some ⟨w.heap.size, 0, none⟩))) (w.alloc (.cells [.slice none 0 0].toArray 23)) := alloc_eq 23 (.slice none 0 0) (by kernel_rfl)
theorem al_24 {K : Fr → World → Prop} {f : Fr} {d : Option Nat} {w : World} : Eff1 Tryd.prog K (Instr.alloc 24 true (.tuple #[])) f d w = K (updO f d (.pointer (some ⟨w.heap.size, 0, none⟩))) (w.alloc (.cells [.int .i64 0, .int .i64 0, .slice none 0 0, .slice none 0 0, .slice none 0 0].toArray 24)) := alloc_eq 24 (.agg #[.int .i64 0, .int .i64 0, .slice none 0 0, .slice none 0 0, .slice none 0 0]) (by kernel_rfl)
theorem al_25 {K : Fr → World → Prop} {f : Fr} {d : Option Nat} {w : World} : Eff1 Tryd.prog K (Instr.alloc 25 true (.tuple #[])) f d w = K (updO f d (.pointer (some ⟨w.heap.size, 0, none⟩))) (w.alloc (.cells [.int .i64 0, .int .i64 0, .slice none 0 0, .slice none 0 0, .slice none 0 0].toArray 25)) := alloc_eq 25 (.agg #[.int .i64 0, .int .i64 0, .slice none 0 0, .slice none 0 0, .slice none 0 0]) (by kernel_rfl)
theorem al_26 {K : Fr → World → Prop} {f : Fr} {d : Option Nat} {w : World} : Eff1 Tryd.prog K (Instr.alloc 26 true (.tuple #[])) f d w = K (updO f d (.pointer (some ⟨w.heap.size, 0, none⟩))) (w.alloc (.cells [.int .i64 0].toArray 26)) := alloc_eq 26 (.int .i64 0) (by kernel_rfl)
theorem slT_38 : SlT Tryd.prog 38 22 1 24 := ⟨by kernel_rfl, by kernel_rfl, by decide⟩
theorem bs_38 {K : Fr → World → Prop} {f : Fr} {d : Option Nat} {w : World} (A : Option Addr) (n c : Nat) : Eff1 Tryd.prog K (Instr.buildSlice 38 1 #[(0, .slice A n c)]) f d w = K (updO f d (.slice (some ⟨w.heap.size, 0, none⟩) 1 1)) (w.alloc (.cells [.slice A n c].toArray 22)) := bsl1_eq slT_38 _ rfl (by decide)
theorem bs0_38 {K : Fr → World → Prop} {f : Fr} {d : Option Nat} {w : World} : Eff1 Tryd.prog K (Instr.buildSlice 38 0 #[]) f d w = K (updO f d (.slice (some ⟨w.heap.size, 0, none⟩) 0 0)) (w.alloc (.cells [].toArray 22)) := bsl0_eq slT_38
theorem al_38 {K : Fr → World → Prop} {f : Fr} {d : Option Nat} {w : World} : Eff1 Tryd.prog K (Instr.alloc 38 true (.tuple #[])) f d w = K (updO f d (.pointer (some ⟨w.heap.size, 0, none⟩))) (w.alloc (.cells [.slice none 0 0].toArray 38)) := alloc_eq 38 (.slice none 0 0) (by kernel_rfl)
theorem al_55 {K : Fr → World → Prop} {f : Fr} {d : Option Nat} {w : World} : Eff1 Tryd.prog K (Instr.alloc 55 true (.tuple #[])) f d w = K (updO f d (.pointer (some ⟨w.heap.size, 0, none⟩))) (w.alloc (.cells [.int .i64 0, .int .i64 0, .slice none 0 0, .slice none 0 0, .slice none 0 0, .slice none 0 0, .slice none 0 0].toArray 55)) := alloc_eq 55 (.agg #[.int .i64 0, .int .i64 0, .slice none 0 0, .slice none 0 0, .slice none 0 0, .slice none 0 0, .slice none 0 0]) (by kernel_rfl)
theorem al_56 {K : Fr → World → Prop} {f : Fr} {d : Option Nat} {w : World} : Eff1 Tryd.prog K (Instr.alloc 56 true (.tuple #[])) f d w = K (updO f d (.pointer (some ⟨w.heap.size, 0, none⟩))) (w.alloc (.cells [.int .i64 0, .int .i64 0, .slice none 0 0, .slice none 0 0, .slice none 0 0, .slice none 0 0, .slice none 0 0].toArray 56)) := alloc_eq 56 (.agg #[.int .i64 0, .int .i64 0, .slice none 0 0, .slice none 0 0, .slice none 0 0, .slice none 0 0, .slice none 0 0]) (by kernel_rfl)
theorem slT_62 : SlT Tryd.prog 62 110 2 48 := ⟨by kernel_rfl, by kernel_rfl, by decide⟩
theorem bs_62 {K : Fr → World → Prop} {f : Fr} {d : Option Nat} {w : World} (x0 x1 : Value) : Eff1 Tryd.prog K (Instr.buildSlice 62 1 #[(0, .agg #[x0, x1])]) f d w = K (updO f d (.slice (some ⟨w.heap.size, 0, none⟩) 1 1)) (w.alloc (.cells [x0, x1].toArray 110)) := bsl1_eq slT_62 _ rfl (by decide)
theorem bs0_62 {K : Fr → World → Prop} {f : Fr} {d : Option Nat} {w : World} : Eff1 Tryd.prog K (Instr.buildSlice 62 0 #[]) f d w = K (updO f d (.slice (some ⟨w.heap.size, 0, none⟩) 0 0)) (w.alloc (.cells [].toArray 110)) := bsl0_eq slT_62
theorem al_62 {K : Fr → World → Prop} {f : Fr} {d : Option Nat} {w : World} : Eff1 Tryd.prog K (Instr.alloc 62 true (.tuple #[])) f d w = K (updO f d (.pointer (some ⟨w.heap.size, 0, none⟩))) (w.alloc (.cells [.slice none 0 0].toArray 62)) := alloc_eq 62 (.slice none 0 0) (by kernel_rfl)
theorem al_67 {K : Fr → World → Prop} {f : Fr} {d : Option Nat} {w : World} : Eff1 Tryd.prog K (Instr.alloc 67 true (.tuple #[])) f d w = K (updO f d (.pointer (some ⟨w.heap.size, 0, none⟩))) (w.alloc (.cells [.int .u64 0].toArray 67)) := alloc_eq 67 (.int .u64 0) (by kernel_rfl)
theorem al_68 {K : Fr → World → Prop} {f : Fr} {d : Option Nat} {w : World} : Eff1 Tryd.prog K (Instr.alloc 68 true (.tuple #[])) f d w = K (updO f d (.pointer (some ⟨w.heap.size, 0, none⟩))) (w.alloc (.cells [.int .u64 0, .int .u64 0, .int .u64 0, .int .u64 0].toArray 68)) := alloc_eq 68 (.agg #[.int .u64 0, .int .u64 0, .int .u64 0, .int .u64 0]) (by kernel_rfl)
theorem al_69 {K : Fr → World → Prop} {f : Fr} {d : Option Nat} {w : World} : Eff1 Tryd.prog K (Instr.alloc 69 true (.tuple #[])) f d w = K (updO f d (.pointer (some ⟨w.heap.size, 0, none⟩))) (w.alloc (.cells [.int .u64 0, .int .u64 0, .int .u64 0, .int .u64 0].toArray 69)) := alloc_eq 69 (.agg #[.int .u64 0, .int .u64 0, .int .u64 0, .int .u64 0]) (by kernel_rfl)
theorem al_74 {K : Fr → World → Prop} {f : Fr} {d : Option Nat} {w : World} : Eff1 Tryd.prog K (Instr.alloc 74 true (.tuple #[])) f d w = K (updO f d (.pointer (some ⟨w.heap.size, 0, none⟩))) (w.alloc (.cells [.int .i64 0, .int .i64 0, .int .i64 0].toArray 74)) := alloc_eq 74 (.agg #[.int .i64 0, .int .i64 0, .int .i64 0]) (by kernel_rfl)
theorem al_75 {K : Fr → World → Prop} {f : Fr} {d : Option Nat} {w : World} : Eff1 Tryd.prog K (Instr.alloc 75 true (.tuple #[])) f d w = K (updO f d (.pointer (some ⟨w.heap.size, 0, none⟩))) (w.alloc (.cells [.int .i64 0, .int .i64 0, .int .i64 0].toArray 75)) := alloc_eq 75 (.agg #[.int .i64 0, .int .i64 0, .int .i64 0]) (by kernel_rfl)
theorem slT_81 : SlT Tryd.prog 81 69 4 32 := ⟨by kernel_rfl, by kernel_rfl, by decide⟩
theorem bs_81 {K : Fr → World → Prop} {f : Fr} {d : Option Nat} {w : World} (x0 x1 x2 x3 : Value) : Eff1 Tryd.prog K (Instr.buildSlice 81 1 #[(0, .agg #[x0, x1, x2, x3])]) f d w = K (updO f d (.slice (some ⟨w.heap.size, 0, none⟩) 1 1)) (w.alloc (.cells [x0, x1, x2, x3].toArray 69)) := bsl1_eq slT_81 _ rfl (by decide)
theorem bs0_81 {K : Fr → World → Prop} {f : Fr} {d : Option Nat} {w : World} : Eff1 Tryd.prog K (Instr.buildSlice 81 0 #[]) f d w = K (updO f d (.slice (some ⟨w.heap.size, 0, none⟩) 0 0)) (w.alloc (.cells [].toArray 69)) := bsl0_eq slT_81
theorem al_81 {K : Fr → World → Prop} {f : Fr} {d : Option Nat} {w : World} : Eff1 Tryd.prog K (Instr.alloc 81 true (.tuple #[])) f d w = K (updO f d (.pointer (some ⟨w.heap.size, 0, none⟩))) (w.alloc (.cells [.slice none 0 0].toArray 81)) := alloc_eq 81 (.slice none 0 0) (by kernel_rfl)
theorem slT_103 : SlT Tryd.prog 103 106 5 56 := ⟨by kernel_rfl, by kernel_rfl, by decide⟩
theorem bs_103 {K : Fr → World → Prop} {f : Fr} {d : Option Nat} {w : World} (x0 x1 x2 x3 x4 : Value) : Eff1 Tryd.prog K (Instr.buildSlice 103 1 #[(0, .agg #[x0, x1, x2, x3, x4])]) f d w = K (updO f d (.slice (some ⟨w.heap.size, 0, none⟩) 1 1)) (w.alloc (.cells [x0, x1, x2, x3, x4].toArray 106)) := bsl1_eq slT_103 _ rfl (by decide)
theorem bs0_103 {K : Fr → World → Prop} {f : Fr} {d : Option Nat} {w : World} : Eff1 Tryd.prog K (Instr.buildSlice 103 0 #[]) f d w = K (updO f d (.slice (some ⟨w.heap.size, 0, none⟩) 0 0)) (w.alloc (.cells [].toArray 106)) := bsl0_eq slT_103
theorem al_103 {K : Fr → World → Prop} {f : Fr} {d : Option Nat} {w : World} : Eff1 Tryd.prog K (Instr.alloc 103 true (.tuple #[])) f d w = K (updO f d (.pointer (some ⟨w.heap.size, 0, none⟩))) (w.alloc (.cells [.slice none 0 0].toArray 103)) := alloc_eq 103 (.slice none 0 0) (by kernel_rfl)
theorem al_105 {K : Fr → World → Prop} {f : Fr} {d : Option Nat} {w : World} : Eff1 Tryd.prog K (Instr.alloc 105 true (.tuple #[])) f d w = K (updO f d (.pointer (some ⟨w.heap.size, 0, none⟩))) (w.alloc (.cells [.int .u64 0, .int .u64 0, .int .u64 0, .int .u64 0, .slice none 0 0].toArray 105)) := alloc_eq 105 (.agg #[.int .u64 0, .int .u64 0, .int .u64 0, .int .u64 0, .slice none 0 0]) (by kernel_rfl)
theorem al_106 {K : Fr → World → Prop} {f : Fr} {d : Option Nat} {w : World} : Eff1 Tryd.prog K (Instr.alloc 106 true (.tuple #[])) f d w = K (updO f d (.pointer (some ⟨w.heap.size, 0, none⟩))) (w.alloc (.cells [.int .u64 0, .int .u64 0, .int .u64 0, .int .u64 0, .slice none 0 0].toArray 106)) := alloc_eq 106 (.agg #[.int .u64 0, .int .u64 0, .int .u64 0, .int .u64 0, .slice none 0 0]) (by kernel_rfl)
theorem al_109 {K : Fr → World → Prop} {f : Fr} {d : Option Nat} {w : World} : Eff1 Tryd.prog K (Instr.alloc 109 true (.tuple #[])) f d w = K (updO f d (.pointer (some ⟨w.heap.size, 0, none⟩))) (w.alloc (.cells [.slice none 0 0, .slice none 0 0].toArray 109)) := alloc_eq 109 (.agg #[.slice none 0 0, .slice none 0 0]) (by kernel_rfl)
theorem al_110 {K : Fr → World → Prop} {f : Fr} {d : Option Nat} {w : World} : Eff1 Tryd.prog K (Instr.alloc 110 true (.tuple #[])) f d w = K (updO f d (.pointer (some ⟨w.heap.size, 0, none⟩))) (w.alloc (.cells [.slice none 0 0, .slice none 0 0].toArray 110)) := alloc_eq 110 (.agg #[.slice none 0 0, .slice none 0 0]) (by kernel_rfl)
theorem al_113 {K : Fr → World → Prop} {f : Fr} {d : Option Nat} {w : World} : Eff1 Tryd.prog K (Instr.alloc 113 true (.tuple #[])) f d w = K (updO f d (.pointer (some ⟨w.heap.size, 0, none⟩))) (w.alloc (.cells [.map none].toArray 113)) := alloc_eq 113 (.map none) (by kernel_rfl)
theorem slT_116 : SlT Tryd.prog 116 119 1 24 := ⟨by kernel_rfl, by kernel_rfl, by decide⟩
theorem bs_116 {K : Fr → World → Prop} {f : Fr} {d : Option Nat} {w : World} (A : Option Addr) (n c : Nat) : Eff1 Tryd.prog K (Instr.buildSlice 116 1 #[(0, .slice A n c)]) f d w = K (updO f d (.slice (some ⟨w.heap.size, 0, none⟩) 1 1)) (w.alloc (.cells [.slice A n c].toArray 119)) := bsl1_eq slT_116 _ rfl (by decide)
theorem bs0_116 {K : Fr → World → Prop} {f : Fr} {d : Option Nat} {w : World} : Eff1 Tryd.prog K (Instr.buildSlice 116 0 #[]) f d w = K (updO f d (.slice (some ⟨w.heap.size, 0, none⟩) 0 0)) (w.alloc (.cells [].toArray 119)) := bsl0_eq slT_116
theorem al_116 {K : Fr → World → Prop} {f : Fr} {d : Option Nat} {w : World} : Eff1 Tryd.prog K (Instr.alloc 116 true (.tuple #[])) f d w = K (updO f d (.pointer (some ⟨w.heap.size, 0, none⟩))) (w.alloc (.cells [.slice none 0 0].toArray 116)) := alloc_eq 116 (.slice none 0 0) (by kernel_rfl)
theorem slT_119 : SlT Tryd.prog 119 4 1 1 := ⟨by kernel_rfl, by kernel_rfl, by decide⟩
theorem bs_119 {K : Fr → World → Prop} {f : Fr} {d : Option Nat} {w : World} (b : Bool) : Eff1 Tryd.prog K (Instr.buildSlice 119 1 #[(0, .bool b)]) f d w = K (updO f d (.slice (some ⟨w.heap.size, 0, none⟩) 1 1)) (w.alloc (.cells [.bool b].toArray 4)) := bsl1_eq slT_119 _ rfl (by decide)
theorem bs0_119 {K : Fr → World → Prop} {f : Fr} {d : Option Nat} {w : World} : Eff1 Tryd.prog K (Instr.buildSlice 119 0 #[]) f d w = K (updO f d (.slice (some ⟨w.heap.size, 0, none⟩) 0 0)) (w.alloc (.cells [].toArray 4)) := bsl0_eq slT_119
theorem al_119 {K : Fr → World → Prop} {f : Fr} {d : Option Nat} {w : World} : Eff1 Tryd.prog K (Instr.alloc 119 true (.tuple #[])) f d w = K (updO f d (.pointer (some ⟨w.heap.size, 0, none⟩))) (w.alloc (.cells [.slice none 0 0].toArray 119)) := alloc_eq 119 (.slice none 0 0) (by kernel_rfl)
theorem al_123 {K : Fr → World → Prop} {f : Fr} {d : Option Nat} {w : World} : Eff1 Tryd.prog K (Instr.alloc 123 true (.tuple #[])) f d w = K (updO f d (.pointer (some ⟨w.heap.size, 0, none⟩))) (w.alloc (.cells [.map none].toArray 123)) := alloc_eq 123 (.map none) (by kernel_rfl)
theorem al_129 {K : Fr → World → Prop} {f : Fr} {d : Option Nat} {w : World} : Eff1 Tryd.prog K (Instr.alloc 129 true (.tuple #[])) f d w = K (updO f d (.pointer (some ⟨w.heap.size, 0, none⟩))) (w.alloc (.cells [.int .u64 0, .int .u64 0, .int .u64 0, .int .u64 0, .int .u64 0, .int .u64 0, .int .u64 0, .int .u64 0].toArray 129)) := alloc_eq 129 (.agg #[.int .u64 0, .int .u64 0, .int .u64 0, .int .u64 0, .int .u64 0, .int .u64 0, .int .u64 0, .int .u64 0]) (by kernel_rfl)
theorem al_130 {K : Fr → World → Prop} {f : Fr} {d : Option Nat} {w : World} : Eff1 Tryd.prog K (Instr.alloc 130 true (.tuple #[])) f d w = K (updO f d (.pointer (some ⟨w.heap.size, 0, none⟩))) (w.alloc (.cells [.int .u64 0, .int .u64 0, .int .u64 0, .int .u64 0, .int .u64 0, .int .u64 0, .int .u64 0, .int .u64 0].toArray 130)) := alloc_eq 130 (.agg #[.int .u64 0, .int .u64 0, .int .u64 0, .int .u64 0, .int .u64 0, .int .u64 0, .int .u64 0, .int .u64 0]) (by kernel_rfl)
theorem al_134 {K : Fr → World → Prop} {f : Fr} {d : Option Nat} {w : World} : Eff1 Tryd.prog K (Instr.alloc 134 true (.tuple #[])) f d w = K (updO f d (.pointer (some ⟨w.heap.size, 0, none⟩))) (w.alloc (.cells [.map none].toArray 134)) := alloc_eq 134 (.map none) (by kernel_rfl)
theorem al_135 {K : Fr → World → Prop} {f : Fr} {d : Option Nat} {w : World} : Eff1 Tryd.prog K (Instr.alloc 135 true (.tuple #[])) f d w = K (updO f d (.pointer (some ⟨w.heap.size, 0, none⟩))) (w.alloc (.cells [.int .i64 0, .int .i64 0, .int .i64 0, .int .i64 0, .int .i64 0, .int .i64 0, .int .i64 0, .int .i64 0].toArray 135)) := alloc_eq 135 (.agg #[.int .i64 0, .int .i64 0, .int .i64 0, .int .i64 0, .int .i64 0, .int .i64 0, .int .i64 0, .int .i64 0]) (by kernel_rfl)
theorem al_136 {K : Fr → World → Prop} {f : Fr} {d : Option Nat} {w : World} : Eff1 Tryd.prog K (Instr.alloc 136 true (.tuple #[])) f d w = K (updO f d (.pointer (some ⟨w.heap.size, 0, none⟩))) (w.alloc (.cells [.int .i64 0, .int .i64 0, .int .i64 0, .int .i64 0, .int .i64 0, .int .i64 0, .int .i64 0, .int .i64 0, .int .i64 0].toArray 136)) := alloc_eq 136 (.agg #[.int .i64 0, .int .i64 0, .int .i64 0, .int .i64 0, .int .i64 0, .int .i64 0, .int .i64 0, .int .i64 0, .int .i64 0]) (by kernel_rfl)
theorem al_137 {K : Fr → World → Prop} {f : Fr} {d : Option Nat} {w : World} : Eff1 Tryd.prog K (Instr.alloc 137 true (.tuple #[])) f d w = K (updO f d (.pointer (some ⟨w.heap.size, 0, none⟩))) (w.alloc (.cells [.int .i64 0, .int .i64 0, .int .i64 0, .int .i64 0, .int .i64 0, .int .i64 0, .int .i64 0, .int .i64 0, .int .i64 0].toArray 137)) := alloc_eq 137 (.agg #[.int .i64 0, .int .i64 0, .int .i64 0, .int .i64 0, .int .i64 0, .int .i64 0, .int .i64 0, .int .i64 0, .int .i64 0]) (by kernel_rfl)
theorem al_139 {K : Fr → World → Prop} {f : Fr} {d : Option Nat} {w : World} : Eff1 Tryd.prog K (Instr.alloc 139 true (.tuple #[])) f d w = K (updO f d (.pointer (some ⟨w.heap.size, 0, none⟩))) (w.alloc (.cells [.int .u8 0, .int .u8 0, .int .u8 0, .int .u8 0, .int .u8 0, .int .u8 0, .int .u8 0, .int .u8 0, .int .u8 0, .int .u8 0, .int .u8 0, .int .u8 0, .int .u8 0, .int .u8 0, .int .u8 0, .int .u8 0, .int .u8 0, .int .u8 0, .int .u8 0, .int .u8 0, .int .u8 0, .int .u8 0, .int .u8 0, .int .u8 0, .int .u8 0, .int .u8 0, .int .u8 0, .int .u8 0, .int .u8 0, .int .u8 0, .int .u8 0, .int .u8 0, .int .u8 0, .int .u8 0, .int .u8 0, .int .u8 0, .int .u8 0, .int .u8 0, .int .u8 0, .int .u8 0, .int .u8 0, .int .u8 0, .int .u8 0, .int .u8 0, .int .u8 0, .int .u8 0, .int .u8 0, .int .u8 0, .int .u8 0, .int .u8 0, .int .u8 0, .int .u8 0, .int .u8 0, .int .u8 0, .int .u8 0, .int .u8 0, .int .u8 0, .int .u8 0, .int .u8 0, .int .u8 0, .int .u8 0, .int .u8 0, .int .u8 0, .int .u8 0].toArray 139)) := alloc_eq 139 (.agg #[.int .u8 0, .int .u8 0, .int .u8 0, .int .u8 0, .int .u8 0, .int .u8 0, .int .u8 0, .int .u8 0, .int .u8 0, .int .u8 0, .int .u8 0, .int .u8 0, .int .u8 0, .int .u8 0, .int .u8 0, .int .u8 0, .int .u8 0, .int .u8 0, .int .u8 0, .int .u8 0, .int .u8 0, .int .u8 0, .int .u8 0, .int .u8 0, .int .u8 0, .int .u8 0, .int .u8 0, .int .u8 0, .int .u8 0, .int .u8 0, .int .u8 0, .int .u8 0, .int .u8 0, .int .u8 0, .int .u8 0, .int .u8 0, .int .u8 0, .int .u8 0, .int .u8 0, .int .u8 0, .int .u8 0, .int .u8 0, .int .u8 0, .int .u8 0, .int .u8 0, .int .u8 0, .int .u8 0, .int .u8 0, .int .u8 0, .int .u8 0, .int .u8 0, .int .u8 0, .int .u8 0, .int .u8 0, .int .u8 0, .int .u8 0, .int .u8 0, .int .u8 0, .int .u8 0, .int .u8 0, .int .u8 0, .int .u8 0, .int .u8 0, .int .u8 0]) (by kernel_rfl)
theorem al_140 {K : Fr → World → Prop} {f : Fr} {d : Option Nat} {w : World} : Eff1 Tryd.prog K (Instr.alloc 140 true (.tuple #[])) f d w = K (updO f d (.pointer (some ⟨w.heap.size, 0, none⟩))) (w.alloc (.cells [.int .u64 0].toArray 140)) := alloc_eq 140 (.int .u64 0) (by kernel_rfl)
theorem al_141 {K : Fr → World → Prop} {f : Fr} {d : Option Nat} {w : World} : Eff1 Tryd.prog K (Instr.alloc 141 true (.tuple #[])) f d w = K (updO f d (.pointer (some ⟨w.heap.size, 0, none⟩))) (w.alloc (.cells [.map none].toArray 141)) := alloc_eq 141 (.map none) (by kernel_rfl)
theorem al_142 {K : Fr → World → Prop} {f : Fr} {d : Option Nat} {w : World} : Eff1 Tryd.prog K (Instr.alloc 142 true (.tuple #[])) f d w = K (updO f d (.pointer (some ⟨w.heap.size, 0, none⟩))) (w.alloc (.cells [.int .u64 0, .int .u64 0, .int .u64 0, .int .u64 0, .int .u64 0, .int .u64 0, .int .u64 0, .int .u64 0, .int .i64 0, .int .i64 0].toArray 142)) := alloc_eq 142 (.agg #[.int .u64 0, .int .u64 0, .int .u64 0, .int .u64 0, .int .u64 0, .int .u64 0, .int .u64 0, .int .u64 0, .int .i64 0, .int .i64 0]) (by kernel_rfl)
theorem al_143 {K : Fr → World → Prop} {f : Fr} {d : Option Nat} {w : World} : Eff1 Tryd.prog K (Instr.alloc 143 true (.tuple #[])) f d w = K (updO f d (.pointer (some ⟨w.heap.size, 0, none⟩))) (w.alloc (.cells [.int .u64 0, .int .u64 0, .int .u64 0, .int .u64 0, .int .u64 0, .int .u64 0, .int .u64 0, .int .u64 0, .int .i64 0, .int .i64 0].toArray 143)) := alloc_eq 143 (.agg #[.int .u64 0, .int .u64 0, .int .u64 0, .int .u64 0, .int .u64 0, .int .u64 0, .int .u64 0, .int .u64 0, .int .i64 0, .int .i64 0]) (by kernel_rfl)
theorem slT_144 : SlT Tryd.prog 144 143 10 80 := ⟨by kernel_rfl, by kernel_rfl, by decide⟩
theorem bs_144 {K : Fr → World → Prop} {f : Fr} {d : Option Nat} {w : World} (x0 x1 x2 x3 x4 x5 x6 x7 x8 x9 : Value) : Eff1 Tryd.prog K (Instr.buildSlice 144 1 #[(0, .agg #[x0, x1, x2, x3, x4, x5, x6, x7, x8, x9])]) f d w = K (updO f d (.slice (some ⟨w.heap.size, 0, none⟩) 1 1)) (w.alloc (.cells [x0, x1, x2, x3, x4, x5, x6, x7, x8, x9].toArray 143)) := bsl1_eq slT_144 _ rfl (by decide)
theorem bs0_144 {K : Fr → World → Prop} {f : Fr} {d : Option Nat} {w : World} : Eff1 Tryd.prog K (Instr.buildSlice 144 0 #[]) f d w = K (updO f d (.slice (some ⟨w.heap.size, 0, none⟩) 0 0)) (w.alloc (.cells [].toArray 143)) := bsl0_eq slT_144
theorem al_144 {K : Fr → World → Prop} {f : Fr} {d : Option Nat} {w : World} : Eff1 Tryd.prog K (Instr.alloc 144 true (.tuple #[])) f d w = K (updO f d (.pointer (some ⟨w.heap.size, 0, none⟩))) (w.alloc (.cells [.slice none 0 0].toArray 144)) := alloc_eq 144 (.slice none 0 0) (by kernel_rfl)
theorem al_147 {K : Fr → World → Prop} {f : Fr} {d : Option Nat} {w : World} : Eff1 Tryd.prog K (Instr.alloc 147 true (.tuple #[])) f d w = K (updO f d (.pointer (some ⟨w.heap.size, 0, none⟩))) (w.alloc (.cells [.pointer none, .pointer none, .pointer none, .string ByteArray.empty].toArray 147)) := alloc_eq 147 (.agg #[.pointer none, .pointer none, .pointer none, .string ByteArray.empty]) (by kernel_rfl)
theorem al_148 {K : Fr → World → Prop} {f : Fr} {d : Option Nat} {w : World} : Eff1 Tryd.prog K (Instr.alloc 148 true (.tuple #[])) f d w = K (updO f d (.pointer (some ⟨w.heap.size, 0, none⟩))) (w.alloc (.cells [.pointer none, .pointer none, .pointer none, .string ByteArray.empty].toArray 148)) := alloc_eq 148 (.agg #[.pointer none, .pointer none, .pointer none, .string ByteArray.empty]) (by kernel_rfl)
theorem al_149 {K : Fr → World → Prop} {f : Fr} {d : Option Nat} {w : World} : Eff1 Tryd.prog K (Instr.alloc 149 true (.tuple #[])) f d w = K (updO f d (.pointer (some ⟨w.heap.size, 0, none⟩))) (w.alloc (.cells [].toArray 149)) := alloc_eq 149 (.agg #[]) (by kernel_rfl)
theorem al_150 {K : Fr → World → Prop} {f : Fr} {d : Option Nat} {w : World} : Eff1 Tryd.prog K (Instr.alloc 150 true (.tuple #[])) f d w = K (updO f d (.pointer (some ⟨w.heap.size, 0, none⟩))) (w.alloc (.cells [].toArray 150)) := alloc_eq 150 (.agg #[]) (by kernel_rfl)
theorem al_151 {K : Fr → World → Prop} {f : Fr} {d : Option Nat} {w : World} : Eff1 Tryd.prog K (Instr.alloc 151 true (.tuple #[])) f d w = K (updO f d (.pointer (some ⟨w.heap.size, 0, none⟩))) (w.alloc (.cells [].toArray 151)) := alloc_eq 151 (.agg #[]) (by kernel_rfl)
theorem al_153 {K : Fr → World → Prop} {f : Fr} {d : Option Nat} {w : World} : Eff1 Tryd.prog K (Instr.alloc 153 true (.tuple #[])) f d w = K (updO f d (.pointer (some ⟨w.heap.size, 0, none⟩))) (w.alloc (.cells [.int .u32 0].toArray 153)) := alloc_eq 153 (.int .u32 0) (by kernel_rfl)
theorem al_154 {K : Fr → World → Prop} {f : Fr} {d : Option Nat} {w : World} : Eff1 Tryd.prog K (Instr.alloc 154 true (.tuple #[])) f d w = K (updO f d (.pointer (some ⟨w.heap.size, 0, none⟩))) (w.alloc (.cells [.int .u8 0].toArray 154)) := alloc_eq 154 (.int .u8 0) (by kernel_rfl)
theorem al_155 {K : Fr → World → Prop} {f : Fr} {d : Option Nat} {w : World} : Eff1 Tryd.prog K (Instr.alloc 155 true (.tuple #[])) f d w = K (updO f d (.pointer (some ⟨w.heap.size, 0, none⟩))) (w.alloc (.cells [.int .u8 0].toArray 155)) := alloc_eq 155 (.int .u8 0) (by kernel_rfl)
theorem al_158 {K : Fr → World → Prop} {f : Fr} {d : Option Nat} {w : World} : Eff1 Tryd.prog K (Instr.alloc 158 true (.tuple #[])) f d w = K (updO f d (.pointer (some ⟨w.heap.size, 0, none⟩))) (w.alloc (.cells [.int .i32 0].toArray 158)) := alloc_eq 158 (.int .i32 0) (by kernel_rfl)
theorem al_159 {K : Fr → World → Prop} {f : Fr} {d : Option Nat} {w : World} : Eff1 Tryd.prog K (Instr.alloc 159 true (.tuple #[])) f d w = K (updO f d (.pointer (some ⟨w.heap.size, 0, none⟩))) (w.alloc (.cells [.int .i32 0].toArray 159)) := alloc_eq 159 (.int .i32 0) (by kernel_rfl)
theorem al_160 {K : Fr → World → Prop} {f : Fr} {d : Option Nat} {w : World} : Eff1 Tryd.prog K (Instr.alloc 160 true (.tuple #[])) f d w = K (updO f d (.pointer (some ⟨w.heap.size, 0, none⟩))) (w.alloc (.cells [.int .u64 0, .int .u64 0, .int .u32 0, .int .u8 0, .int .u8 0, .int .u8 0, .int .u8 0, .nilFunc, .pointer none, .int .i32 0, .int .i32 0].toArray 160)) := alloc_eq 160 (.agg #[.int .u64 0, .int .u64 0, .int .u32 0, .int .u8 0, .int .u8 0, .int .u8 0, .int .u8 0, .nilFunc, .pointer none, .int .i32 0, .int .i32 0]) (by kernel_rfl)
theorem al_161 {K : Fr → World → Prop} {f : Fr} {d : Option Nat} {w : World} : Eff1 Tryd.prog K (Instr.alloc 161 true (.tuple #[])) f d w = K (updO f d (.pointer (some ⟨w.heap.size, 0, none⟩))) (w.alloc (.cells [.int .u64 0, .int .u64 0, .int .u32 0, .int .u8 0, .int .u8 0, .int .u8 0, .int .u8 0, .nilFunc, .pointer none, .int .i32 0, .int .i32 0].toArray 161)) := alloc_eq 161 (.agg #[.int .u64 0, .int .u64 0, .int .u32 0, .int .u8 0, .int .u8 0, .int .u8 0, .int .u8 0, .nilFunc, .pointer none, .int .i32 0, .int .i32 0]) (by kernel_rfl)
attribute [push_cast] fd_7_0 fd_7_1 fd_7_2 fd_7_3 fd_8_0 fd_8_1 fd_8_2 fd_8_3 fd_13_0 fd_13_1 fd_14_0 fd_14_1 fd_18_0 fd_19_0 ix_22 ln_22 ix_23 ln_23 fd_24_0 fd_24_1 fd_24_2 fd_24_3 fd_24_4 fd_25_0 fd_25_1 fd_25_2 fd_25_3 fd_25_4 ix_38 ln_38 fd_55_0 fd_55_1 fd_55_2 fd_56_0 fd_56_1 fd_56_2 ix_62 ln_62 ix_68 ix_69 fd_74_0 fd_74_1 fd_74_2 fd_75_0 fd_75_1 fd_75_2 ix_81 ln_81 ix_103 ln_103 fd_105_0 fd_105_1 fd_106_0 fd_106_1 fd_109_0 fd_109_1 fd_110_0 fd_110_1 ix_116 ln_116 ix_119 ln_119 fd_129_0 fd_129_1 fd_130_0 fd_130_1 ix_135 fd_136_0 fd_136_1 fd_137_0 fd_137_1 ix_139 fd_142_0 fd_142_1 fd_142_2 fd_143_0 fd_143_1 fd_143_2 ix_144 ln_144 fd_147_0 fd_147_1 fd_147_2 fd_147_3 fd_148_0 fd_148_1 fd_148_2 fd_148_3 ix_149 fd_160_0 fd_160_1 fd_160_2 fd_160_3 fd_160_4 fd_160_5 fd_160_6 fd_160_7 fd_160_8 fd_160_9 fd_160_10 fd_161_0 fd_161_1 fd_161_2 fd_161_3 fd_161_4 fd_161_5 fd_161_6 fd_161_7 fd_161_8 fd_161_9 fd_161_10 eqb_4 neb_4 bs_22 bs0_22 bs_23 bs0_23 bs_38 bs0_38 bs_62 bs0_62 bs_81 bs0_81 bs_103 bs0_103 bs_116 bs0_116 bs_119 bs0_119 bs_144 bs0_144
end Go.Proofs.YtiabkafgmanhiaaDoor
