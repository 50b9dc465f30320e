/-
  Closed facts on the seat's types (by program: tygen.py).
-/
import Derived.Test.YtkemapljhmoafaaProg
import Derived.Test.YtkemapljhmoafaaMem
import Derived.KernelRfl
namespace Go.Proofs.Ytkemapljhmoafaa
theorem ty_ag_2 : tyAgg Try.prog 2 = some false := by kernel_rfl
theorem ty_ag_3 : tyAgg Try.prog 3 = some false := by kernel_rfl
theorem ty_sz_int : tySize Try.prog 3 = some 1 := by kernel_rfl
theorem ty_ag_4 : tyAgg Try.prog 4 = some false := by kernel_rfl
theorem ty_ag_5 : tyAgg Try.prog 5 = some false := by kernel_rfl
theorem ty_ag_6 : tyAgg Try.prog 6 = some false := by kernel_rfl
theorem ty_ag_7 : tyAgg Try.prog 7 = some true := by kernel_rfl
theorem ty_sz_7 : tySize Try.prog 7 = some 4 := by kernel_rfl
theorem ty_fl_7_0 : tyFld Try.prog 7 0 = some 0 := by kernel_rfl
theorem ty_fl_7_1 : tyFld Try.prog 7 1 = some 1 := by kernel_rfl
theorem ty_fl_7_2 : tyFld Try.prog 7 2 = some 2 := by kernel_rfl
theorem ty_fl_7_3 : tyFld Try.prog 7 3 = some 3 := by kernel_rfl
theorem ty_ag_8 : tyAgg Try.prog 8 = some true := by kernel_rfl
theorem ty_sz_8 : tySize Try.prog 8 = some 4 := by kernel_rfl
theorem ty_fl_8_0 : tyFld Try.prog 8 0 = some 0 := by kernel_rfl
theorem ty_fl_8_1 : tyFld Try.prog 8 1 = some 1 := by kernel_rfl
theorem ty_fl_8_2 : tyFld Try.prog 8 2 = some 2 := by kernel_rfl
theorem ty_fl_8_3 : tyFld Try.prog 8 3 = some 3 := by kernel_rfl
theorem ty_ag_9 : tyAgg Try.prog 9 = some false := by kernel_rfl
theorem ty_ag_10 : tyAgg Try.prog 10 = some false := by kernel_rfl
theorem ty_ag_11 : tyAgg Try.prog 11 = some false := by kernel_rfl
theorem ty_ag_12 : tyAgg Try.prog 12 = some false := by kernel_rfl
theorem ty_ag_13 : tyAgg Try.prog 13 = some true := by kernel_rfl
theorem ty_sz_13 : tySize Try.prog 13 = some 2 := by kernel_rfl
theorem ty_fl_13_0 : tyFld Try.prog 13 0 = some 0 := by kernel_rfl
theorem ty_fl_13_1 : tyFld Try.prog 13 1 = some 1 := by kernel_rfl
theorem ty_ag_14 : tyAgg Try.prog 14 = some true := by kernel_rfl
theorem ty_sz_14 : tySize Try.prog 14 = some 2 := by kernel_rfl
theorem ty_fl_14_0 : tyFld Try.prog 14 0 = some 0 := by kernel_rfl
theorem ty_fl_14_1 : tyFld Try.prog 14 1 = some 1 := by kernel_rfl
theorem ty_ag_15 : tyAgg Try.prog 15 = some false := by kernel_rfl
theorem ty_ag_16 : tyAgg Try.prog 16 = some false := by kernel_rfl
theorem ty_ag_17 : tyAgg Try.prog 17 = some false := by kernel_rfl
theorem ty_ag_18 : tyAgg Try.prog 18 = some true := by kernel_rfl
theorem ty_sz_18 : tySize Try.prog 18 = some 1 := by kernel_rfl
theorem ty_fl_18_0 : tyFld Try.prog 18 0 = some 0 := by kernel_rfl
theorem ty_ag_19 : tyAgg Try.prog 19 = some true := by kernel_rfl
theorem ty_sz_19 : tySize Try.prog 19 = some 1 := by kernel_rfl
theorem ty_fl_19_0 : tyFld Try.prog 19 0 = some 0 := by kernel_rfl
theorem ty_ag_21 : tyAgg Try.prog 21 = some false := by kernel_rfl
theorem ty_ag_22 : tyAgg Try.prog 22 = some false := by kernel_rfl
theorem ty_sl_22 : tySl Try.prog 22 = some 1 := by kernel_rfl
theorem ty_ag_24 : tyAgg Try.prog 24 = some false := by kernel_rfl
theorem ty_ag_31 : tyAgg Try.prog 31 = some false := by kernel_rfl
theorem ty_sl_31 : tySl Try.prog 31 = some 3 := by kernel_rfl
theorem ty_ag_32 : tyAgg Try.prog 32 = some true := by kernel_rfl
theorem ty_sz_32 : tySize Try.prog 32 = some 5 := by kernel_rfl
theorem ty_fl_32_0 : tyFld Try.prog 32 0 = some 0 := by kernel_rfl
theorem ty_fl_32_1 : tyFld Try.prog 32 1 = some 1 := by kernel_rfl
theorem ty_fl_32_2 : tyFld Try.prog 32 2 = some 2 := by kernel_rfl
theorem ty_fl_32_3 : tyFld Try.prog 32 3 = some 3 := by kernel_rfl
theorem ty_fl_32_4 : tyFld Try.prog 32 4 = some 4 := by kernel_rfl
theorem ty_ag_33 : tyAgg Try.prog 33 = some true := by kernel_rfl
theorem ty_sz_33 : tySize Try.prog 33 = some 5 := by kernel_rfl
theorem ty_fl_33_0 : tyFld Try.prog 33 0 = some 0 := by kernel_rfl
theorem ty_fl_33_1 : tyFld Try.prog 33 1 = some 1 := by kernel_rfl
theorem ty_fl_33_2 : tyFld Try.prog 33 2 = some 2 := by kernel_rfl
theorem ty_fl_33_3 : tyFld Try.prog 33 3 = some 3 := by kernel_rfl
theorem ty_fl_33_4 : tyFld Try.prog 33 4 = some 4 := by kernel_rfl
theorem ty_ag_47 : tyAgg Try.prog 47 = some true := by kernel_rfl
theorem ty_sz_47 : tySize Try.prog 47 = some 7 := by kernel_rfl
theorem ty_fl_47_0 : tyFld Try.prog 47 0 = some 0 := by kernel_rfl
theorem ty_fl_47_1 : tyFld Try.prog 47 1 = some 5 := by kernel_rfl
theorem ty_fl_47_2 : tyFld Try.prog 47 2 = some 6 := by kernel_rfl
theorem ty_ag_48 : tyAgg Try.prog 48 = some true := by kernel_rfl
theorem ty_sz_48 : tySize Try.prog 48 = some 7 := by kernel_rfl
theorem ty_fl_48_0 : tyFld Try.prog 48 0 = some 0 := by kernel_rfl
theorem ty_fl_48_1 : tyFld Try.prog 48 1 = some 5 := by kernel_rfl
theorem ty_fl_48_2 : tyFld Try.prog 48 2 = some 6 := by kernel_rfl
theorem ty_ag_53 : tyAgg Try.prog 53 = some true := by kernel_rfl
theorem ty_sz_53 : tySize Try.prog 53 = some 3 := by kernel_rfl
theorem ty_fl_53_0 : tyFld Try.prog 53 0 = some 0 := by kernel_rfl
theorem ty_fl_53_1 : tyFld Try.prog 53 1 = some 1 := by kernel_rfl
theorem ty_fl_53_2 : tyFld Try.prog 53 2 = some 2 := by kernel_rfl
theorem ty_ag_54 : tyAgg Try.prog 54 = some true := by kernel_rfl
theorem ty_sz_54 : tySize Try.prog 54 = some 3 := by kernel_rfl
theorem ty_fl_54_0 : tyFld Try.prog 54 0 = some 0 := by kernel_rfl
theorem ty_fl_54_1 : tyFld Try.prog 54 1 = some 1 := by kernel_rfl
theorem ty_fl_54_2 : tyFld Try.prog 54 2 = some 2 := by kernel_rfl
theorem ty_ag_58 : tyAgg Try.prog 58 = some false := by kernel_rfl
theorem ty_ag_59 : tyAgg Try.prog 59 = some true := by kernel_rfl
theorem ty_sz_59 : tySize Try.prog 59 = some 4 := by kernel_rfl
theorem ty_ar_59 : tyArr Try.prog 59 = some (4, 1) := by kernel_rfl
theorem ty_ag_60 : tyAgg Try.prog 60 = some true := by kernel_rfl
theorem ty_sz_60 : tySize Try.prog 60 = some 4 := by kernel_rfl
theorem ty_ar_60 : tyArr Try.prog 60 = some (4, 1) := by kernel_rfl
theorem ty_ag_70 : tyAgg Try.prog 70 = some false := by kernel_rfl
theorem ty_ag_71 : tyAgg Try.prog 71 = some false := by kernel_rfl
theorem ty_ag_72 : tyAgg Try.prog 72 = some true := by kernel_rfl
theorem ty_sz_72 : tySize Try.prog 72 = some 8 := by kernel_rfl
theorem ty_ar_72 : tyArr Try.prog 72 = some (8, 1) := by kernel_rfl
theorem ty_ag_73 : tyAgg Try.prog 73 = some true := by kernel_rfl
theorem ty_sz_73 : tySize Try.prog 73 = some 48 := by kernel_rfl
theorem ty_ar_73 : tyArr Try.prog 73 = some (6, 8) := by kernel_rfl
theorem ty_ag_74 : tyAgg Try.prog 74 = some false := by kernel_rfl
theorem ty_sl_74 : tySl Try.prog 74 = some 3 := by kernel_rfl
theorem ty_ag_75 : tyAgg Try.prog 75 = some true := by kernel_rfl
theorem ty_sz_75 : tySize Try.prog 75 = some 57 := by kernel_rfl
theorem ty_fl_75_0 : tyFld Try.prog 75 0 = some 0 := by kernel_rfl
theorem ty_fl_75_1 : tyFld Try.prog 75 1 = some 5 := by kernel_rfl
theorem ty_fl_75_2 : tyFld Try.prog 75 2 = some 6 := by kernel_rfl
theorem ty_fl_75_3 : tyFld Try.prog 75 3 = some 7 := by kernel_rfl
theorem ty_fl_75_4 : tyFld Try.prog 75 4 = some 55 := by kernel_rfl
theorem ty_fl_75_5 : tyFld Try.prog 75 5 = some 56 := by kernel_rfl
theorem ty_ag_76 : tyAgg Try.prog 76 = some true := by kernel_rfl
theorem ty_sz_76 : tySize Try.prog 76 = some 57 := by kernel_rfl
theorem ty_fl_76_0 : tyFld Try.prog 76 0 = some 0 := by kernel_rfl
theorem ty_fl_76_1 : tyFld Try.prog 76 1 = some 5 := by kernel_rfl
theorem ty_fl_76_2 : tyFld Try.prog 76 2 = some 6 := by kernel_rfl
theorem ty_fl_76_3 : tyFld Try.prog 76 3 = some 7 := by kernel_rfl
theorem ty_fl_76_4 : tyFld Try.prog 76 4 = some 55 := by kernel_rfl
theorem ty_fl_76_5 : tyFld Try.prog 76 5 = some 56 := by kernel_rfl
theorem ty_ag_78 : tyAgg Try.prog 78 = some true := by kernel_rfl
theorem ty_sz_78 : tySize Try.prog 78 = some 3 := by kernel_rfl
theorem ty_fl_78_0 : tyFld Try.prog 78 0 = some 0 := by kernel_rfl
theorem ty_fl_78_1 : tyFld Try.prog 78 1 = some 1 := by kernel_rfl
theorem ty_fl_78_2 : tyFld Try.prog 78 2 = some 2 := by kernel_rfl
theorem ty_ag_79 : tyAgg Try.prog 79 = some true := by kernel_rfl
theorem ty_sz_79 : tySize Try.prog 79 = some 3 := by kernel_rfl
theorem ty_fl_79_0 : tyFld Try.prog 79 0 = some 0 := by kernel_rfl
theorem ty_fl_79_1 : tyFld Try.prog 79 1 = some 1 := by kernel_rfl
theorem ty_fl_79_2 : tyFld Try.prog 79 2 = some 2 := by kernel_rfl
theorem ty_ag_80 : tyAgg Try.prog 80 = some false := by kernel_rfl
theorem ty_sl_80 : tySl Try.prog 80 = some 3 := by kernel_rfl
theorem ty_ag_81 : tyAgg Try.prog 81 = some false := by kernel_rfl
theorem ty_sl_81 : tySl Try.prog 81 = some 3 := by kernel_rfl
theorem ty_ag_84 : tyAgg Try.prog 84 = some true := by kernel_rfl
theorem ty_sz_84 : tySize Try.prog 84 = some 3 := by kernel_rfl
theorem ty_fl_84_0 : tyFld Try.prog 84 0 = some 0 := by kernel_rfl
theorem ty_fl_84_1 : tyFld Try.prog 84 1 = some 1 := by kernel_rfl
theorem ty_fl_84_2 : tyFld Try.prog 84 2 = some 2 := by kernel_rfl
theorem ty_ag_85 : tyAgg Try.prog 85 = some true := by kernel_rfl
theorem ty_sz_85 : tySize Try.prog 85 = some 3 := by kernel_rfl
theorem ty_fl_85_0 : tyFld Try.prog 85 0 = some 0 := by kernel_rfl
theorem ty_fl_85_1 : tyFld Try.prog 85 1 = some 1 := by kernel_rfl
theorem ty_fl_85_2 : tyFld Try.prog 85 2 = some 2 := by kernel_rfl
theorem ty_ag_86 : tyAgg Try.prog 86 = some true := by kernel_rfl
theorem ty_sz_86 : tySize Try.prog 86 = some 3 := by kernel_rfl
theorem ty_fl_86_0 : tyFld Try.prog 86 0 = some 0 := by kernel_rfl
theorem ty_fl_86_1 : tyFld Try.prog 86 1 = some 1 := by kernel_rfl
theorem ty_fl_86_2 : tyFld Try.prog 86 2 = some 2 := by kernel_rfl
theorem ty_ag_87 : tyAgg Try.prog 87 = some true := by kernel_rfl
theorem ty_sz_87 : tySize Try.prog 87 = some 3 := by kernel_rfl
theorem ty_fl_87_0 : tyFld Try.prog 87 0 = some 0 := by kernel_rfl
theorem ty_fl_87_1 : tyFld Try.prog 87 1 = some 1 := by kernel_rfl
theorem ty_fl_87_2 : tyFld Try.prog 87 2 = some 2 := by kernel_rfl
theorem ty_ag_92 : tyAgg Try.prog 92 = some true := by kernel_rfl
theorem ty_sz_92 : tySize Try.prog 92 = some 8 := by kernel_rfl
theorem ty_fl_92_0 : tyFld Try.prog 92 0 = some 0 := by kernel_rfl
theorem ty_fl_92_1 : tyFld Try.prog 92 1 = some 4 := by kernel_rfl
theorem ty_ag_93 : tyAgg Try.prog 93 = some true := by kernel_rfl
theorem ty_sz_93 : tySize Try.prog 93 = some 8 := by kernel_rfl
theorem ty_fl_93_0 : tyFld Try.prog 93 0 = some 0 := by kernel_rfl
theorem ty_fl_93_1 : tyFld Try.prog 93 1 = some 4 := by kernel_rfl
theorem ty_ag_98 : tyAgg Try.prog 98 = some false := by kernel_rfl
theorem ty_sl_98 : tySl Try.prog 98 = some 2 := by kernel_rfl
theorem ty_ag_100 : tyAgg Try.prog 100 = some false := by kernel_rfl
theorem ty_sl_100 : tySl Try.prog 100 = some 1 := by kernel_rfl
theorem ty_ag_101 : tyAgg Try.prog 101 = some false := by kernel_rfl
theorem ty_sl_101 : tySl Try.prog 101 = some 1 := by kernel_rfl
theorem ty_ag_109 : tyAgg Try.prog 109 = some false := by kernel_rfl
theorem ty_ag_110 : tyAgg Try.prog 110 = some false := by kernel_rfl
theorem ty_sl_110 : tySl Try.prog 110 = some 3 := by kernel_rfl
theorem ty_ag_112 : tyAgg Try.prog 112 = some true := by kernel_rfl
theorem ty_sz_112 : tySize Try.prog 112 = some 3 := by kernel_rfl
theorem ty_fl_112_0 : tyFld Try.prog 112 0 = some 0 := by kernel_rfl
theorem ty_fl_112_1 : tyFld Try.prog 112 1 = some 1 := by kernel_rfl
theorem ty_fl_112_2 : tyFld Try.prog 112 2 = some 2 := by kernel_rfl
theorem ty_ag_113 : tyAgg Try.prog 113 = some true := by kernel_rfl
theorem ty_sz_113 : tySize Try.prog 113 = some 3 := by kernel_rfl
theorem ty_fl_113_0 : tyFld Try.prog 113 0 = some 0 := by kernel_rfl
theorem ty_fl_113_1 : tyFld Try.prog 113 1 = some 1 := by kernel_rfl
theorem ty_fl_113_2 : tyFld Try.prog 113 2 = some 2 := by kernel_rfl
theorem ty_ag_115 : tyAgg Try.prog 115 = some false := by kernel_rfl
theorem ty_sl_115 : tySl Try.prog 115 = some 1 := by kernel_rfl
theorem ty_ag_120 : tyAgg Try.prog 120 = some false := by kernel_rfl
theorem ty_ag_121 : tyAgg Try.prog 121 = some true := by kernel_rfl
theorem ty_sz_121 : tySize Try.prog 121 = some 10 := by kernel_rfl
theorem ty_fl_121_0 : tyFld Try.prog 121 0 = some 0 := by kernel_rfl
theorem ty_fl_121_1 : tyFld Try.prog 121 1 = some 8 := by kernel_rfl
theorem ty_fl_121_2 : tyFld Try.prog 121 2 = some 9 := by kernel_rfl
theorem ty_ag_122 : tyAgg Try.prog 122 = some true := by kernel_rfl
theorem ty_sz_122 : tySize Try.prog 122 = some 10 := by kernel_rfl
theorem ty_fl_122_0 : tyFld Try.prog 122 0 = some 0 := by kernel_rfl
theorem ty_fl_122_1 : tyFld Try.prog 122 1 = some 8 := by kernel_rfl
theorem ty_fl_122_2 : tyFld Try.prog 122 2 = some 9 := by kernel_rfl
theorem ty_ag_123 : tyAgg Try.prog 123 = some false := by kernel_rfl
theorem ty_sl_123 : tySl Try.prog 123 = some 10 := by kernel_rfl
theorem ty_ag_126 : tyAgg Try.prog 126 = some true := by kernel_rfl
theorem ty_sz_126 : tySize Try.prog 126 = some 2 := by kernel_rfl
theorem ty_fl_126_0 : tyFld Try.prog 126 0 = some 0 := by kernel_rfl
theorem ty_fl_126_1 : tyFld Try.prog 126 1 = some 1 := by kernel_rfl
theorem ty_ag_127 : tyAgg Try.prog 127 = some true := by kernel_rfl
theorem ty_sz_127 : tySize Try.prog 127 = some 2 := by kernel_rfl
theorem ty_fl_127_0 : tyFld Try.prog 127 0 = some 0 := by kernel_rfl
theorem ty_fl_127_1 : tyFld Try.prog 127 1 = some 1 := by kernel_rfl
theorem ty_ag_134 : tyAgg Try.prog 134 = some true := by kernel_rfl
theorem ty_sz_134 : tySize Try.prog 134 = some 4 := by kernel_rfl
theorem ty_fl_134_0 : tyFld Try.prog 134 0 = some 0 := by kernel_rfl
theorem ty_fl_134_1 : tyFld Try.prog 134 1 = some 1 := by kernel_rfl
theorem ty_fl_134_2 : tyFld Try.prog 134 2 = some 2 := by kernel_rfl
theorem ty_fl_134_3 : tyFld Try.prog 134 3 = some 3 := by kernel_rfl
theorem ty_ag_135 : tyAgg Try.prog 135 = some true := by kernel_rfl
theorem ty_sz_135 : tySize Try.prog 135 = some 4 := by kernel_rfl
theorem ty_fl_135_0 : tyFld Try.prog 135 0 = some 0 := by kernel_rfl
theorem ty_fl_135_1 : tyFld Try.prog 135 1 = some 1 := by kernel_rfl
theorem ty_fl_135_2 : tyFld Try.prog 135 2 = some 2 := by kernel_rfl
theorem ty_fl_135_3 : tyFld Try.prog 135 3 = some 3 := by kernel_rfl
theorem ty_ag_136 : tyAgg Try.prog 136 = some true := by kernel_rfl
theorem ty_sz_136 : tySize Try.prog 136 = some 0 := by kernel_rfl
theorem ty_ar_136 : tyArr Try.prog 136 = some (0, 1) := by kernel_rfl
theorem ty_ag_137 : tyAgg Try.prog 137 = some true := by kernel_rfl
theorem ty_sz_137 : tySize Try.prog 137 = some 0 := by kernel_rfl
theorem ty_ag_138 : tyAgg Try.prog 138 = some true := by kernel_rfl
theorem ty_sz_138 : tySize Try.prog 138 = some 0 := by kernel_rfl
theorem ty_ag_140 : tyAgg Try.prog 140 = some false := by kernel_rfl
theorem ty_ag_141 : tyAgg Try.prog 141 = some false := by kernel_rfl
theorem ty_ag_142 : tyAgg Try.prog 142 = some false := by kernel_rfl
theorem ty_ag_144 : tyAgg Try.prog 144 = some false := by kernel_rfl
theorem ty_ag_145 : tyAgg Try.prog 145 = some false := by kernel_rfl
theorem ty_ag_146 : tyAgg Try.prog 146 = some false := by kernel_rfl
theorem ty_ag_147 : tyAgg Try.prog 147 = some true := by kernel_rfl
theorem ty_sz_147 : tySize Try.prog 147 = some 11 := by kernel_rfl
theorem ty_fl_147_0 : tyFld Try.prog 147 0 = some 0 := by kernel_rfl
theorem ty_fl_147_1 : tyFld Try.prog 147 1 = some 1 := by kernel_rfl
theorem ty_fl_147_2 : tyFld Try.prog 147 2 = some 2 := by kernel_rfl
theorem ty_fl_147_3 : tyFld Try.prog 147 3 = some 3 := by kernel_rfl
theorem ty_fl_147_4 : tyFld Try.prog 147 4 = some 4 := by kernel_rfl
theorem ty_fl_147_5 : tyFld Try.prog 147 5 = some 5 := by kernel_rfl
theorem ty_fl_147_6 : tyFld Try.prog 147 6 = some 6 := by kernel_rfl
theorem ty_fl_147_7 : tyFld Try.prog 147 7 = some 7 := by kernel_rfl
theorem ty_fl_147_8 : tyFld Try.prog 147 8 = some 8 := by kernel_rfl
theorem ty_fl_147_9 : tyFld Try.prog 147 9 = some 9 := by kernel_rfl
theorem ty_fl_147_10 : tyFld Try.prog 147 10 = some 10 := by kernel_rfl
theorem ty_ag_148 : tyAgg Try.prog 148 = some true := by kernel_rfl
theorem ty_sz_148 : tySize Try.prog 148 = some 11 := by kernel_rfl
theorem ty_fl_148_0 : tyFld Try.prog 148 0 = some 0 := by kernel_rfl
theorem ty_fl_148_1 : tyFld Try.prog 148 1 = some 1 := by kernel_rfl
theorem ty_fl_148_2 : tyFld Try.prog 148 2 = some 2 := by kernel_rfl
theorem ty_fl_148_3 : tyFld Try.prog 148 3 = some 3 := by kernel_rfl
theorem ty_fl_148_4 : tyFld Try.prog 148 4 = some 4 := by kernel_rfl
theorem ty_fl_148_5 : tyFld Try.prog 148 5 = some 5 := by kernel_rfl
theorem ty_fl_148_6 : tyFld Try.prog 148 6 = some 6 := by kernel_rfl
theorem ty_fl_148_7 : tyFld Try.prog 148 7 = some 7 := by kernel_rfl
theorem ty_fl_148_8 : tyFld Try.prog 148 8 = some 8 := by kernel_rfl
theorem ty_fl_148_9 : tyFld Try.prog 148 9 = some 9 := by kernel_rfl
theorem ty_fl_148_10 : tyFld Try.prog 148 10 = some 10 := by kernel_rfl
theorem fd_7_0 {K : Fr → World → Prop} {u : World} {f : Fr} {d : Option Nat} {w : World} (a : Addr) : Val1 Try.prog K (Instr.fieldAt 7 (.pointer (some a)) 0) u f d w = K (updO f d (.pointer (some (a.add 0)))) w := by
  rw [fld_ptr u f d w 7 0 (by rw [ty_fl_7_0]; rfl) a, ty_fl_7_0]; rfl
theorem fd_7_1 {K : Fr → World → Prop} {u : World} {f : Fr} {d : Option Nat} {w : World} (a : Addr) : Val1 Try.prog K (Instr.fieldAt 7 (.pointer (some a)) 1) u f d w = K (updO f d (.pointer (some (a.add 1)))) w := by
  rw [fld_ptr u f d w 7 1 (by rw [ty_fl_7_1]; rfl) a, ty_fl_7_1]; rfl
theorem fd_7_2 {K : Fr → World → Prop} {u : World} {f : Fr} {d : Option Nat} {w : World} (a : Addr) : Val1 Try.prog K (Instr.fieldAt 7 (.pointer (some a)) 2) u f d w = K (updO f d (.pointer (some (a.add 2)))) w := by
  rw [fld_ptr u f d w 7 2 (by rw [ty_fl_7_2]; rfl) a, ty_fl_7_2]; rfl
theorem fd_7_3 {K : Fr → World → Prop} {u : World} {f : Fr} {d : Option Nat} {w : World} (a : Addr) : Val1 Try.prog K (Instr.fieldAt 7 (.pointer (some a)) 3) u f d w = K (updO f d (.pointer (some (a.add 3)))) w := by
  rw [fld_ptr u f d w 7 3 (by rw [ty_fl_7_3]; rfl) a, ty_fl_7_3]; rfl
theorem fd_8_0 {K : Fr → World → Prop} {u : World} {f : Fr} {d : Option Nat} {w : World} (a : Addr) : Val1 Try.prog K (Instr.fieldAt 8 (.pointer (some a)) 0) u f d w = K (updO f d (.pointer (some (a.add 0)))) w := by
  rw [fld_ptr u f d w 8 0 (by rw [ty_fl_8_0]; rfl) a, ty_fl_8_0]; rfl
theorem fd_8_1 {K : Fr → World → Prop} {u : World} {f : Fr} {d : Option Nat} {w : World} (a : Addr) : Val1 Try.prog K (Instr.fieldAt 8 (.pointer (some a)) 1) u f d w = K (updO f d (.pointer (some (a.add 1)))) w := by
  rw [fld_ptr u f d w 8 1 (by rw [ty_fl_8_1]; rfl) a, ty_fl_8_1]; rfl
theorem fd_8_2 {K : Fr → World → Prop} {u : World} {f : Fr} {d : Option Nat} {w : World} (a : Addr) : Val1 Try.prog K (Instr.fieldAt 8 (.pointer (some a)) 2) u f d w = K (updO f d (.pointer (some (a.add 2)))) w := by
  rw [fld_ptr u f d w 8 2 (by rw [ty_fl_8_2]; rfl) a, ty_fl_8_2]; rfl
theorem fd_8_3 {K : Fr → World → Prop} {u : World} {f : Fr} {d : Option Nat} {w : World} (a : Addr) : Val1 Try.prog K (Instr.fieldAt 8 (.pointer (some a)) 3) u f d w = K (updO f d (.pointer (some (a.add 3)))) w := by
  rw [fld_ptr u f d w 8 3 (by rw [ty_fl_8_3]; rfl) a, ty_fl_8_3]; rfl
theorem fd_13_0 {K : Fr → World → Prop} {u : World} {f : Fr} {d : Option Nat} {w : World} (a : Addr) : Val1 Try.prog K (Instr.fieldAt 13 (.pointer (some a)) 0) u f d w = K (updO f d (.pointer (some (a.add 0)))) w := by
  rw [fld_ptr u f d w 13 0 (by rw [ty_fl_13_0]; rfl) a, ty_fl_13_0]; rfl
theorem fd_13_1 {K : Fr → World → Prop} {u : World} {f : Fr} {d : Option Nat} {w : World} (a : Addr) : Val1 Try.prog K (Instr.fieldAt 13 (.pointer (some a)) 1) u f d w = K (updO f d (.pointer (some (a.add 1)))) w := by
  rw [fld_ptr u f d w 13 1 (by rw [ty_fl_13_1]; rfl) a, ty_fl_13_1]; rfl
theorem fd_14_0 {K : Fr → World → Prop} {u : World} {f : Fr} {d : Option Nat} {w : World} (a : Addr) : Val1 Try.prog K (Instr.fieldAt 14 (.pointer (some a)) 0) u f d w = K (updO f d (.pointer (some (a.add 0)))) w := by
  rw [fld_ptr u f d w 14 0 (by rw [ty_fl_14_0]; rfl) a, ty_fl_14_0]; rfl
theorem fd_14_1 {K : Fr → World → Prop} {u : World} {f : Fr} {d : Option Nat} {w : World} (a : Addr) : Val1 Try.prog K (Instr.fieldAt 14 (.pointer (some a)) 1) u f d w = K (updO f d (.pointer (some (a.add 1)))) w := by
  rw [fld_ptr u f d w 14 1 (by rw [ty_fl_14_1]; rfl) a, ty_fl_14_1]; rfl
theorem fd_18_0 {K : Fr → World → Prop} {u : World} {f : Fr} {d : Option Nat} {w : World} (a : Addr) : Val1 Try.prog K (Instr.fieldAt 18 (.pointer (some a)) 0) u f d w = K (updO f d (.pointer (some (a.add 0)))) w := by
  rw [fld_ptr u f d w 18 0 (by rw [ty_fl_18_0]; rfl) a, ty_fl_18_0]; rfl
theorem fd_19_0 {K : Fr → World → Prop} {u : World} {f : Fr} {d : Option Nat} {w : World} (a : Addr) : Val1 Try.prog K (Instr.fieldAt 19 (.pointer (some a)) 0) u f d w = K (updO f d (.pointer (some (a.add 0)))) w := by
  rw [fld_ptr u f d w 19 0 (by rw [ty_fl_19_0]; rfl) a, ty_fl_19_0]; rfl
theorem ix_22 {K : Fr → World → Prop} {u : World} {f : Fr} {d : Option Nat} {w : World} (A : Option Addr) (hA : A.isSome = true) (n c : Nat) (k : IntKind) (i : Int) (h0 : 0 ≤ i) (h1 : i < n) : Val1 Try.prog K (Instr.indexAt 22 (.slice A n c) (.int k i)) u f d w = K (updO f d (.pointer (some (eA A (i.toNat * 1))))) w := by
  rw [idx_sl u f d w 22 (by rw [ty_sl_22]; rfl) A hA n c k i h0 h1, ty_sl_22]; rfl
theorem ln_22 {K : Fr → World → Prop} {u : World} {f : Fr} {d : Option Nat} {w : World} (ty : TypeId) (A : Option Addr) (n c : Nat) : Val1 Try.prog K (Builtin.len_ #[22] ty #[.slice A n c]) u f d w = K (updO f d (.int .i64 n)) w := len_sl u f d w ty 22 (by rw [ty_sl_22]; rfl) A n c
theorem ix_31 {K : Fr → World → Prop} {u : World} {f : Fr} {d : Option Nat} {w : World} (A : Option Addr) (hA : A.isSome = true) (n c : Nat) (k : IntKind) (i : Int) (h0 : 0 ≤ i) (h1 : i < n) : Val1 Try.prog K (Instr.indexAt 31 (.slice A n c) (.int k i)) u f d w = K (updO f d (.pointer (some (eA A (i.toNat * 3))))) w := by
  rw [idx_sl u f d w 31 (by rw [ty_sl_31]; rfl) A hA n c k i h0 h1, ty_sl_31]; rfl
theorem ln_31 {K : Fr → World → Prop} {u : World} {f : Fr} {d : Option Nat} {w : World} (ty : TypeId) (A : Option Addr) (n c : Nat) : Val1 Try.prog K (Builtin.len_ #[31] ty #[.slice A n c]) u f d w = K (updO f d (.int .i64 n)) w := len_sl u f d w ty 31 (by rw [ty_sl_31]; rfl) A n c
theorem fd_32_0 {K : Fr → World → Prop} {u : World} {f : Fr} {d : Option Nat} {w : World} (a : Addr) : Val1 Try.prog K (Instr.fieldAt 32 (.pointer (some a)) 0) u f d w = K (updO f d (.pointer (some (a.add 0)))) w := by
  rw [fld_ptr u f d w 32 0 (by rw [ty_fl_32_0]; rfl) a, ty_fl_32_0]; rfl
theorem fd_32_1 {K : Fr → World → Prop} {u : World} {f : Fr} {d : Option Nat} {w : World} (a : Addr) : Val1 Try.prog K (Instr.fieldAt 32 (.pointer (some a)) 1) u f d w = K (updO f d (.pointer (some (a.add 1)))) w := by
  rw [fld_ptr u f d w 32 1 (by rw [ty_fl_32_1]; rfl) a, ty_fl_32_1]; rfl
theorem fd_32_2 {K : Fr → World → Prop} {u : World} {f : Fr} {d : Option Nat} {w : World} (a : Addr) : Val1 Try.prog K (Instr.fieldAt 32 (.pointer (some a)) 2) u f d w = K (updO f d (.pointer (some (a.add 2)))) w := by
  rw [fld_ptr u f d w 32 2 (by rw [ty_fl_32_2]; rfl) a, ty_fl_32_2]; rfl
theorem fd_32_3 {K : Fr → World → Prop} {u : World} {f : Fr} {d : Option Nat} {w : World} (a : Addr) : Val1 Try.prog K (Instr.fieldAt 32 (.pointer (some a)) 3) u f d w = K (updO f d (.pointer (some (a.add 3)))) w := by
  rw [fld_ptr u f d w 32 3 (by rw [ty_fl_32_3]; rfl) a, ty_fl_32_3]; rfl
theorem fd_32_4 {K : Fr → World → Prop} {u : World} {f : Fr} {d : Option Nat} {w : World} (a : Addr) : Val1 Try.prog K (Instr.fieldAt 32 (.pointer (some a)) 4) u f d w = K (updO f d (.pointer (some (a.add 4)))) w := by
  rw [fld_ptr u f d w 32 4 (by rw [ty_fl_32_4]; rfl) a, ty_fl_32_4]; rfl
theorem fd_33_0 {K : Fr → World → Prop} {u : World} {f : Fr} {d : Option Nat} {w : World} (a : Addr) : Val1 Try.prog K (Instr.fieldAt 33 (.pointer (some a)) 0) u f d w = K (updO f d (.pointer (some (a.add 0)))) w := by
  rw [fld_ptr u f d w 33 0 (by rw [ty_fl_33_0]; rfl) a, ty_fl_33_0]; rfl
theorem fd_33_1 {K : Fr → World → Prop} {u : World} {f : Fr} {d : Option Nat} {w : World} (a : Addr) : Val1 Try.prog K (Instr.fieldAt 33 (.pointer (some a)) 1) u f d w = K (updO f d (.pointer (some (a.add 1)))) w := by
  rw [fld_ptr u f d w 33 1 (by rw [ty_fl_33_1]; rfl) a, ty_fl_33_1]; rfl
theorem fd_33_2 {K : Fr → World → Prop} {u : World} {f : Fr} {d : Option Nat} {w : World} (a : Addr) : Val1 Try.prog K (Instr.fieldAt 33 (.pointer (some a)) 2) u f d w = K (updO f d (.pointer (some (a.add 2)))) w := by
  rw [fld_ptr u f d w 33 2 (by rw [ty_fl_33_2]; rfl) a, ty_fl_33_2]; rfl
theorem fd_33_3 {K : Fr → World → Prop} {u : World} {f : Fr} {d : Option Nat} {w : World} (a : Addr) : Val1 Try.prog K (Instr.fieldAt 33 (.pointer (some a)) 3) u f d w = K (updO f d (.pointer (some (a.add 3)))) w := by
  rw [fld_ptr u f d w 33 3 (by rw [ty_fl_33_3]; rfl) a, ty_fl_33_3]; rfl
theorem fd_33_4 {K : Fr → World → Prop} {u : World} {f : Fr} {d : Option Nat} {w : World} (a : Addr) : Val1 Try.prog K (Instr.fieldAt 33 (.pointer (some a)) 4) u f d w = K (updO f d (.pointer (some (a.add 4)))) w := by
  rw [fld_ptr u f d w 33 4 (by rw [ty_fl_33_4]; rfl) a, ty_fl_33_4]; rfl
theorem fd_47_0 {K : Fr → World → Prop} {u : World} {f : Fr} {d : Option Nat} {w : World} (a : Addr) : Val1 Try.prog K (Instr.fieldAt 47 (.pointer (some a)) 0) u f d w = K (updO f d (.pointer (some (a.add 0)))) w := by
  rw [fld_ptr u f d w 47 0 (by rw [ty_fl_47_0]; rfl) a, ty_fl_47_0]; rfl
theorem fd_47_1 {K : Fr → World → Prop} {u : World} {f : Fr} {d : Option Nat} {w : World} (a : Addr) : Val1 Try.prog K (Instr.fieldAt 47 (.pointer (some a)) 1) u f d w = K (updO f d (.pointer (some (a.add 5)))) w := by
  rw [fld_ptr u f d w 47 1 (by rw [ty_fl_47_1]; rfl) a, ty_fl_47_1]; rfl
theorem fd_47_2 {K : Fr → World → Prop} {u : World} {f : Fr} {d : Option Nat} {w : World} (a : Addr) : Val1 Try.prog K (Instr.fieldAt 47 (.pointer (some a)) 2) u f d w = K (updO f d (.pointer (some (a.add 6)))) w := by
  rw [fld_ptr u f d w 47 2 (by rw [ty_fl_47_2]; rfl) a, ty_fl_47_2]; rfl
theorem fd_48_0 {K : Fr → World → Prop} {u : World} {f : Fr} {d : Option Nat} {w : World} (a : Addr) : Val1 Try.prog K (Instr.fieldAt 48 (.pointer (some a)) 0) u f d w = K (updO f d (.pointer (some (a.add 0)))) w := by
  rw [fld_ptr u f d w 48 0 (by rw [ty_fl_48_0]; rfl) a, ty_fl_48_0]; rfl
theorem fd_48_1 {K : Fr → World → Prop} {u : World} {f : Fr} {d : Option Nat} {w : World} (a : Addr) : Val1 Try.prog K (Instr.fieldAt 48 (.pointer (some a)) 1) u f d w = K (updO f d (.pointer (some (a.add 5)))) w := by
  rw [fld_ptr u f d w 48 1 (by rw [ty_fl_48_1]; rfl) a, ty_fl_48_1]; rfl
theorem fd_48_2 {K : Fr → World → Prop} {u : World} {f : Fr} {d : Option Nat} {w : World} (a : Addr) : Val1 Try.prog K (Instr.fieldAt 48 (.pointer (some a)) 2) u f d w = K (updO f d (.pointer (some (a.add 6)))) w := by
  rw [fld_ptr u f d w 48 2 (by rw [ty_fl_48_2]; rfl) a, ty_fl_48_2]; rfl
theorem fd_53_0 {K : Fr → World → Prop} {u : World} {f : Fr} {d : Option Nat} {w : World} (a : Addr) : Val1 Try.prog K (Instr.fieldAt 53 (.pointer (some a)) 0) u f d w = K (updO f d (.pointer (some (a.add 0)))) w := by
  rw [fld_ptr u f d w 53 0 (by rw [ty_fl_53_0]; rfl) a, ty_fl_53_0]; rfl
theorem fd_53_1 {K : Fr → World → Prop} {u : World} {f : Fr} {d : Option Nat} {w : World} (a : Addr) : Val1 Try.prog K (Instr.fieldAt 53 (.pointer (some a)) 1) u f d w = K (updO f d (.pointer (some (a.add 1)))) w := by
  rw [fld_ptr u f d w 53 1 (by rw [ty_fl_53_1]; rfl) a, ty_fl_53_1]; rfl
theorem fd_53_2 {K : Fr → World → Prop} {u : World} {f : Fr} {d : Option Nat} {w : World} (a : Addr) : Val1 Try.prog K (Instr.fieldAt 53 (.pointer (some a)) 2) u f d w = K (updO f d (.pointer (some (a.add 2)))) w := by
  rw [fld_ptr u f d w 53 2 (by rw [ty_fl_53_2]; rfl) a, ty_fl_53_2]; rfl
theorem fd_54_0 {K : Fr → World → Prop} {u : World} {f : Fr} {d : Option Nat} {w : World} (a : Addr) : Val1 Try.prog K (Instr.fieldAt 54 (.pointer (some a)) 0) u f d w = K (updO f d (.pointer (some (a.add 0)))) w := by
  rw [fld_ptr u f d w 54 0 (by rw [ty_fl_54_0]; rfl) a, ty_fl_54_0]; rfl
theorem fd_54_1 {K : Fr → World → Prop} {u : World} {f : Fr} {d : Option Nat} {w : World} (a : Addr) : Val1 Try.prog K (Instr.fieldAt 54 (.pointer (some a)) 1) u f d w = K (updO f d (.pointer (some (a.add 1)))) w := by
  rw [fld_ptr u f d w 54 1 (by rw [ty_fl_54_1]; rfl) a, ty_fl_54_1]; rfl
theorem fd_54_2 {K : Fr → World → Prop} {u : World} {f : Fr} {d : Option Nat} {w : World} (a : Addr) : Val1 Try.prog K (Instr.fieldAt 54 (.pointer (some a)) 2) u f d w = K (updO f d (.pointer (some (a.add 2)))) w := by
  rw [fld_ptr u f d w 54 2 (by rw [ty_fl_54_2]; rfl) a, ty_fl_54_2]; rfl
theorem ix_59 {K : Fr → World → Prop} {u : World} {f : Fr} {d : Option Nat} {w : World} (a : Addr) (k : IntKind) (i : Int) (h0 : 0 ≤ i) (h1 : i < 4) : Val1 Try.prog K (Instr.indexAt 59 (.pointer (some a)) (.int k i)) u f d w = K (updO f d (.pointer (some (a.add (i.toNat * 1))))) w := by
  rw [idx_arr u f d w 59 (by rw [ty_ar_59]; rfl) a k i h0 (by rw [ty_ar_59]; exact h1), ty_ar_59]; rfl
theorem ix_60 {K : Fr → World → Prop} {u : World} {f : Fr} {d : Option Nat} {w : World} (a : Addr) (k : IntKind) (i : Int) (h0 : 0 ≤ i) (h1 : i < 4) : Val1 Try.prog K (Instr.indexAt 60 (.pointer (some a)) (.int k i)) u f d w = K (updO f d (.pointer (some (a.add (i.toNat * 1))))) w := by
  rw [idx_arr u f d w 60 (by rw [ty_ar_60]; rfl) a k i h0 (by rw [ty_ar_60]; exact h1), ty_ar_60]; rfl
theorem ix_72 {K : Fr → World → Prop} {u : World} {f : Fr} {d : Option Nat} {w : World} (a : Addr) (k : IntKind) (i : Int) (h0 : 0 ≤ i) (h1 : i < 8) : Val1 Try.prog K (Instr.indexAt 72 (.pointer (some a)) (.int k i)) u f d w = K (updO f d (.pointer (some (a.add (i.toNat * 1))))) w := by
  rw [idx_arr u f d w 72 (by rw [ty_ar_72]; rfl) a k i h0 (by rw [ty_ar_72]; exact h1), ty_ar_72]; rfl
theorem ix_73 {K : Fr → World → Prop} {u : World} {f : Fr} {d : Option Nat} {w : World} (a : Addr) (k : IntKind) (i : Int) (h0 : 0 ≤ i) (h1 : i < 6) : Val1 Try.prog K (Instr.indexAt 73 (.pointer (some a)) (.int k i)) u f d w = K (updO f d (.pointer (some (a.add (i.toNat * 8))))) w := by
  rw [idx_arr u f d w 73 (by rw [ty_ar_73]; rfl) a k i h0 (by rw [ty_ar_73]; exact h1), ty_ar_73]; rfl
theorem ix_74 {K : Fr → World → Prop} {u : World} {f : Fr} {d : Option Nat} {w : World} (A : Option Addr) (hA : A.isSome = true) (n c : Nat) (k : IntKind) (i : Int) (h0 : 0 ≤ i) (h1 : i < n) : Val1 Try.prog K (Instr.indexAt 74 (.slice A n c) (.int k i)) u f d w = K (updO f d (.pointer (some (eA A (i.toNat * 3))))) w := by
  rw [idx_sl u f d w 74 (by rw [ty_sl_74]; rfl) A hA n c k i h0 h1, ty_sl_74]; rfl
theorem ln_74 {K : Fr → World → Prop} {u : World} {f : Fr} {d : Option Nat} {w : World} (ty : TypeId) (A : Option Addr) (n c : Nat) : Val1 Try.prog K (Builtin.len_ #[74] ty #[.slice A n c]) u f d w = K (updO f d (.int .i64 n)) w := len_sl u f d w ty 74 (by rw [ty_sl_74]; rfl) A n c
theorem fd_75_0 {K : Fr → World → Prop} {u : World} {f : Fr} {d : Option Nat} {w : World} (a : Addr) : Val1 Try.prog K (Instr.fieldAt 75 (.pointer (some a)) 0) u f d w = K (updO f d (.pointer (some (a.add 0)))) w := by
  rw [fld_ptr u f d w 75 0 (by rw [ty_fl_75_0]; rfl) a, ty_fl_75_0]; rfl
theorem fd_75_1 {K : Fr → World → Prop} {u : World} {f : Fr} {d : Option Nat} {w : World} (a : Addr) : Val1 Try.prog K (Instr.fieldAt 75 (.pointer (some a)) 1) u f d w = K (updO f d (.pointer (some (a.add 5)))) w := by
  rw [fld_ptr u f d w 75 1 (by rw [ty_fl_75_1]; rfl) a, ty_fl_75_1]; rfl
theorem fd_75_2 {K : Fr → World → Prop} {u : World} {f : Fr} {d : Option Nat} {w : World} (a : Addr) : Val1 Try.prog K (Instr.fieldAt 75 (.pointer (some a)) 2) u f d w = K (updO f d (.pointer (some (a.add 6)))) w := by
  rw [fld_ptr u f d w 75 2 (by rw [ty_fl_75_2]; rfl) a, ty_fl_75_2]; rfl
theorem fd_75_3 {K : Fr → World → Prop} {u : World} {f : Fr} {d : Option Nat} {w : World} (a : Addr) : Val1 Try.prog K (Instr.fieldAt 75 (.pointer (some a)) 3) u f d w = K (updO f d (.pointer (some (a.add 7)))) w := by
  rw [fld_ptr u f d w 75 3 (by rw [ty_fl_75_3]; rfl) a, ty_fl_75_3]; rfl
theorem fd_75_4 {K : Fr → World → Prop} {u : World} {f : Fr} {d : Option Nat} {w : World} (a : Addr) : Val1 Try.prog K (Instr.fieldAt 75 (.pointer (some a)) 4) u f d w = K (updO f d (.pointer (some (a.add 55)))) w := by
  rw [fld_ptr u f d w 75 4 (by rw [ty_fl_75_4]; rfl) a, ty_fl_75_4]; rfl
theorem fd_75_5 {K : Fr → World → Prop} {u : World} {f : Fr} {d : Option Nat} {w : World} (a : Addr) : Val1 Try.prog K (Instr.fieldAt 75 (.pointer (some a)) 5) u f d w = K (updO f d (.pointer (some (a.add 56)))) w := by
  rw [fld_ptr u f d w 75 5 (by rw [ty_fl_75_5]; rfl) a, ty_fl_75_5]; rfl
theorem fd_76_0 {K : Fr → World → Prop} {u : World} {f : Fr} {d : Option Nat} {w : World} (a : Addr) : Val1 Try.prog K (Instr.fieldAt 76 (.pointer (some a)) 0) u f d w = K (updO f d (.pointer (some (a.add 0)))) w := by
  rw [fld_ptr u f d w 76 0 (by rw [ty_fl_76_0]; rfl) a, ty_fl_76_0]; rfl
theorem fd_76_1 {K : Fr → World → Prop} {u : World} {f : Fr} {d : Option Nat} {w : World} (a : Addr) : Val1 Try.prog K (Instr.fieldAt 76 (.pointer (some a)) 1) u f d w = K (updO f d (.pointer (some (a.add 5)))) w := by
  rw [fld_ptr u f d w 76 1 (by rw [ty_fl_76_1]; rfl) a, ty_fl_76_1]; rfl
theorem fd_76_2 {K : Fr → World → Prop} {u : World} {f : Fr} {d : Option Nat} {w : World} (a : Addr) : Val1 Try.prog K (Instr.fieldAt 76 (.pointer (some a)) 2) u f d w = K (updO f d (.pointer (some (a.add 6)))) w := by
  rw [fld_ptr u f d w 76 2 (by rw [ty_fl_76_2]; rfl) a, ty_fl_76_2]; rfl
theorem fd_76_3 {K : Fr → World → Prop} {u : World} {f : Fr} {d : Option Nat} {w : World} (a : Addr) : Val1 Try.prog K (Instr.fieldAt 76 (.pointer (some a)) 3) u f d w = K (updO f d (.pointer (some (a.add 7)))) w := by
  rw [fld_ptr u f d w 76 3 (by rw [ty_fl_76_3]; rfl) a, ty_fl_76_3]; rfl
theorem fd_76_4 {K : Fr → World → Prop} {u : World} {f : Fr} {d : Option Nat} {w : World} (a : Addr) : Val1 Try.prog K (Instr.fieldAt 76 (.pointer (some a)) 4) u f d w = K (updO f d (.pointer (some (a.add 55)))) w := by
  rw [fld_ptr u f d w 76 4 (by rw [ty_fl_76_4]; rfl) a, ty_fl_76_4]; rfl
theorem fd_76_5 {K : Fr → World → Prop} {u : World} {f : Fr} {d : Option Nat} {w : World} (a : Addr) : Val1 Try.prog K (Instr.fieldAt 76 (.pointer (some a)) 5) u f d w = K (updO f d (.pointer (some (a.add 56)))) w := by
  rw [fld_ptr u f d w 76 5 (by rw [ty_fl_76_5]; rfl) a, ty_fl_76_5]; rfl
theorem fd_78_0 {K : Fr → World → Prop} {u : World} {f : Fr} {d : Option Nat} {w : World} (a : Addr) : Val1 Try.prog K (Instr.fieldAt 78 (.pointer (some a)) 0) u f d w = K (updO f d (.pointer (some (a.add 0)))) w := by
  rw [fld_ptr u f d w 78 0 (by rw [ty_fl_78_0]; rfl) a, ty_fl_78_0]; rfl
theorem fd_78_1 {K : Fr → World → Prop} {u : World} {f : Fr} {d : Option Nat} {w : World} (a : Addr) : Val1 Try.prog K (Instr.fieldAt 78 (.pointer (some a)) 1) u f d w = K (updO f d (.pointer (some (a.add 1)))) w := by
  rw [fld_ptr u f d w 78 1 (by rw [ty_fl_78_1]; rfl) a, ty_fl_78_1]; rfl
theorem fd_78_2 {K : Fr → World → Prop} {u : World} {f : Fr} {d : Option Nat} {w : World} (a : Addr) : Val1 Try.prog K (Instr.fieldAt 78 (.pointer (some a)) 2) u f d w = K (updO f d (.pointer (some (a.add 2)))) w := by
  rw [fld_ptr u f d w 78 2 (by rw [ty_fl_78_2]; rfl) a, ty_fl_78_2]; rfl
theorem fd_79_0 {K : Fr → World → Prop} {u : World} {f : Fr} {d : Option Nat} {w : World} (a : Addr) : Val1 Try.prog K (Instr.fieldAt 79 (.pointer (some a)) 0) u f d w = K (updO f d (.pointer (some (a.add 0)))) w := by
  rw [fld_ptr u f d w 79 0 (by rw [ty_fl_79_0]; rfl) a, ty_fl_79_0]; rfl
theorem fd_79_1 {K : Fr → World → Prop} {u : World} {f : Fr} {d : Option Nat} {w : World} (a : Addr) : Val1 Try.prog K (Instr.fieldAt 79 (.pointer (some a)) 1) u f d w = K (updO f d (.pointer (some (a.add 1)))) w := by
  rw [fld_ptr u f d w 79 1 (by rw [ty_fl_79_1]; rfl) a, ty_fl_79_1]; rfl
theorem fd_79_2 {K : Fr → World → Prop} {u : World} {f : Fr} {d : Option Nat} {w : World} (a : Addr) : Val1 Try.prog K (Instr.fieldAt 79 (.pointer (some a)) 2) u f d w = K (updO f d (.pointer (some (a.add 2)))) w := by
  rw [fld_ptr u f d w 79 2 (by rw [ty_fl_79_2]; rfl) a, ty_fl_79_2]; rfl
theorem ix_80 {K : Fr → World → Prop} {u : World} {f : Fr} {d : Option Nat} {w : World} (A : Option Addr) (hA : A.isSome = true) (n c : Nat) (k : IntKind) (i : Int) (h0 : 0 ≤ i) (h1 : i < n) : Val1 Try.prog K (Instr.indexAt 80 (.slice A n c) (.int k i)) u f d w = K (updO f d (.pointer (some (eA A (i.toNat * 3))))) w := by
  rw [idx_sl u f d w 80 (by rw [ty_sl_80]; rfl) A hA n c k i h0 h1, ty_sl_80]; rfl
theorem ln_80 {K : Fr → World → Prop} {u : World} {f : Fr} {d : Option Nat} {w : World} (ty : TypeId) (A : Option Addr) (n c : Nat) : Val1 Try.prog K (Builtin.len_ #[80] ty #[.slice A n c]) u f d w = K (updO f d (.int .i64 n)) w := len_sl u f d w ty 80 (by rw [ty_sl_80]; rfl) A n c
theorem ix_81 {K : Fr → World → Prop} {u : World} {f : Fr} {d : Option Nat} {w : World} (A : Option Addr) (hA : A.isSome = true) (n c : Nat) (k : IntKind) (i : Int) (h0 : 0 ≤ i) (h1 : i < n) : Val1 Try.prog K (Instr.indexAt 81 (.slice A n c) (.int k i)) u f d w = K (updO f d (.pointer (some (eA A (i.toNat * 3))))) w := by
  rw [idx_sl u f d w 81 (by rw [ty_sl_81]; rfl) A hA n c k i h0 h1, ty_sl_81]; rfl
theorem ln_81 {K : Fr → World → Prop} {u : World} {f : Fr} {d : Option Nat} {w : World} (ty : TypeId) (A : Option Addr) (n c : Nat) : Val1 Try.prog K (Builtin.len_ #[81] ty #[.slice A n c]) u f d w = K (updO f d (.int .i64 n)) w := len_sl u f d w ty 81 (by rw [ty_sl_81]; rfl) A n c
theorem fd_84_0 {K : Fr → World → Prop} {u : World} {f : Fr} {d : Option Nat} {w : World} (a : Addr) : Val1 Try.prog K (Instr.fieldAt 84 (.pointer (some a)) 0) u f d w = K (updO f d (.pointer (some (a.add 0)))) w := by
  rw [fld_ptr u f d w 84 0 (by rw [ty_fl_84_0]; rfl) a, ty_fl_84_0]; rfl
theorem fd_84_1 {K : Fr → World → Prop} {u : World} {f : Fr} {d : Option Nat} {w : World} (a : Addr) : Val1 Try.prog K (Instr.fieldAt 84 (.pointer (some a)) 1) u f d w = K (updO f d (.pointer (some (a.add 1)))) w := by
  rw [fld_ptr u f d w 84 1 (by rw [ty_fl_84_1]; rfl) a, ty_fl_84_1]; rfl
theorem fd_84_2 {K : Fr → World → Prop} {u : World} {f : Fr} {d : Option Nat} {w : World} (a : Addr) : Val1 Try.prog K (Instr.fieldAt 84 (.pointer (some a)) 2) u f d w = K (updO f d (.pointer (some (a.add 2)))) w := by
  rw [fld_ptr u f d w 84 2 (by rw [ty_fl_84_2]; rfl) a, ty_fl_84_2]; rfl
theorem fd_85_0 {K : Fr → World → Prop} {u : World} {f : Fr} {d : Option Nat} {w : World} (a : Addr) : Val1 Try.prog K (Instr.fieldAt 85 (.pointer (some a)) 0) u f d w = K (updO f d (.pointer (some (a.add 0)))) w := by
  rw [fld_ptr u f d w 85 0 (by rw [ty_fl_85_0]; rfl) a, ty_fl_85_0]; rfl
theorem fd_85_1 {K : Fr → World → Prop} {u : World} {f : Fr} {d : Option Nat} {w : World} (a : Addr) : Val1 Try.prog K (Instr.fieldAt 85 (.pointer (some a)) 1) u f d w = K (updO f d (.pointer (some (a.add 1)))) w := by
  rw [fld_ptr u f d w 85 1 (by rw [ty_fl_85_1]; rfl) a, ty_fl_85_1]; rfl
theorem fd_85_2 {K : Fr → World → Prop} {u : World} {f : Fr} {d : Option Nat} {w : World} (a : Addr) : Val1 Try.prog K (Instr.fieldAt 85 (.pointer (some a)) 2) u f d w = K (updO f d (.pointer (some (a.add 2)))) w := by
  rw [fld_ptr u f d w 85 2 (by rw [ty_fl_85_2]; rfl) a, ty_fl_85_2]; rfl
theorem fd_86_0 {K : Fr → World → Prop} {u : World} {f : Fr} {d : Option Nat} {w : World} (a : Addr) : Val1 Try.prog K (Instr.fieldAt 86 (.pointer (some a)) 0) u f d w = K (updO f d (.pointer (some (a.add 0)))) w := by
  rw [fld_ptr u f d w 86 0 (by rw [ty_fl_86_0]; rfl) a, ty_fl_86_0]; rfl
theorem fd_86_1 {K : Fr → World → Prop} {u : World} {f : Fr} {d : Option Nat} {w : World} (a : Addr) : Val1 Try.prog K (Instr.fieldAt 86 (.pointer (some a)) 1) u f d w = K (updO f d (.pointer (some (a.add 1)))) w := by
  rw [fld_ptr u f d w 86 1 (by rw [ty_fl_86_1]; rfl) a, ty_fl_86_1]; rfl
theorem fd_86_2 {K : Fr → World → Prop} {u : World} {f : Fr} {d : Option Nat} {w : World} (a : Addr) : Val1 Try.prog K (Instr.fieldAt 86 (.pointer (some a)) 2) u f d w = K (updO f d (.pointer (some (a.add 2)))) w := by
  rw [fld_ptr u f d w 86 2 (by rw [ty_fl_86_2]; rfl) a, ty_fl_86_2]; rfl
theorem fd_87_0 {K : Fr → World → Prop} {u : World} {f : Fr} {d : Option Nat} {w : World} (a : Addr) : Val1 Try.prog K (Instr.fieldAt 87 (.pointer (some a)) 0) u f d w = K (updO f d (.pointer (some (a.add 0)))) w := by
  rw [fld_ptr u f d w 87 0 (by rw [ty_fl_87_0]; rfl) a, ty_fl_87_0]; rfl
theorem fd_87_1 {K : Fr → World → Prop} {u : World} {f : Fr} {d : Option Nat} {w : World} (a : Addr) : Val1 Try.prog K (Instr.fieldAt 87 (.pointer (some a)) 1) u f d w = K (updO f d (.pointer (some (a.add 1)))) w := by
  rw [fld_ptr u f d w 87 1 (by rw [ty_fl_87_1]; rfl) a, ty_fl_87_1]; rfl
theorem fd_87_2 {K : Fr → World → Prop} {u : World} {f : Fr} {d : Option Nat} {w : World} (a : Addr) : Val1 Try.prog K (Instr.fieldAt 87 (.pointer (some a)) 2) u f d w = K (updO f d (.pointer (some (a.add 2)))) w := by
  rw [fld_ptr u f d w 87 2 (by rw [ty_fl_87_2]; rfl) a, ty_fl_87_2]; rfl
theorem fd_92_0 {K : Fr → World → Prop} {u : World} {f : Fr} {d : Option Nat} {w : World} (a : Addr) : Val1 Try.prog K (Instr.fieldAt 92 (.pointer (some a)) 0) u f d w = K (updO f d (.pointer (some (a.add 0)))) w := by
  rw [fld_ptr u f d w 92 0 (by rw [ty_fl_92_0]; rfl) a, ty_fl_92_0]; rfl
theorem fd_92_1 {K : Fr → World → Prop} {u : World} {f : Fr} {d : Option Nat} {w : World} (a : Addr) : Val1 Try.prog K (Instr.fieldAt 92 (.pointer (some a)) 1) u f d w = K (updO f d (.pointer (some (a.add 4)))) w := by
  rw [fld_ptr u f d w 92 1 (by rw [ty_fl_92_1]; rfl) a, ty_fl_92_1]; rfl
theorem fd_93_0 {K : Fr → World → Prop} {u : World} {f : Fr} {d : Option Nat} {w : World} (a : Addr) : Val1 Try.prog K (Instr.fieldAt 93 (.pointer (some a)) 0) u f d w = K (updO f d (.pointer (some (a.add 0)))) w := by
  rw [fld_ptr u f d w 93 0 (by rw [ty_fl_93_0]; rfl) a, ty_fl_93_0]; rfl
theorem fd_93_1 {K : Fr → World → Prop} {u : World} {f : Fr} {d : Option Nat} {w : World} (a : Addr) : Val1 Try.prog K (Instr.fieldAt 93 (.pointer (some a)) 1) u f d w = K (updO f d (.pointer (some (a.add 4)))) w := by
  rw [fld_ptr u f d w 93 1 (by rw [ty_fl_93_1]; rfl) a, ty_fl_93_1]; rfl
theorem ix_98 {K : Fr → World → Prop} {u : World} {f : Fr} {d : Option Nat} {w : World} (A : Option Addr) (hA : A.isSome = true) (n c : Nat) (k : IntKind) (i : Int) (h0 : 0 ≤ i) (h1 : i < n) : Val1 Try.prog K (Instr.indexAt 98 (.slice A n c) (.int k i)) u f d w = K (updO f d (.pointer (some (eA A (i.toNat * 2))))) w := by
  rw [idx_sl u f d w 98 (by rw [ty_sl_98]; rfl) A hA n c k i h0 h1, ty_sl_98]; rfl
theorem ln_98 {K : Fr → World → Prop} {u : World} {f : Fr} {d : Option Nat} {w : World} (ty : TypeId) (A : Option Addr) (n c : Nat) : Val1 Try.prog K (Builtin.len_ #[98] ty #[.slice A n c]) u f d w = K (updO f d (.int .i64 n)) w := len_sl u f d w ty 98 (by rw [ty_sl_98]; rfl) A n c
theorem ix_100 {K : Fr → World → Prop} {u : World} {f : Fr} {d : Option Nat} {w : World} (A : Option Addr) (hA : A.isSome = true) (n c : Nat) (k : IntKind) (i : Int) (h0 : 0 ≤ i) (h1 : i < n) : Val1 Try.prog K (Instr.indexAt 100 (.slice A n c) (.int k i)) u f d w = K (updO f d (.pointer (some (eA A (i.toNat * 1))))) w := by
  rw [idx_sl u f d w 100 (by rw [ty_sl_100]; rfl) A hA n c k i h0 h1, ty_sl_100]; rfl
theorem ln_100 {K : Fr → World → Prop} {u : World} {f : Fr} {d : Option Nat} {w : World} (ty : TypeId) (A : Option Addr) (n c : Nat) : Val1 Try.prog K (Builtin.len_ #[100] ty #[.slice A n c]) u f d w = K (updO f d (.int .i64 n)) w := len_sl u f d w ty 100 (by rw [ty_sl_100]; rfl) A n c
theorem ix_101 {K : Fr → World → Prop} {u : World} {f : Fr} {d : Option Nat} {w : World} (A : Option Addr) (hA : A.isSome = true) (n c : Nat) (k : IntKind) (i : Int) (h0 : 0 ≤ i) (h1 : i < n) : Val1 Try.prog K (Instr.indexAt 101 (.slice A n c) (.int k i)) u f d w = K (updO f d (.pointer (some (eA A (i.toNat * 1))))) w := by
  rw [idx_sl u f d w 101 (by rw [ty_sl_101]; rfl) A hA n c k i h0 h1, ty_sl_101]; rfl
theorem ln_101 {K : Fr → World → Prop} {u : World} {f : Fr} {d : Option Nat} {w : World} (ty : TypeId) (A : Option Addr) (n c : Nat) : Val1 Try.prog K (Builtin.len_ #[101] ty #[.slice A n c]) u f d w = K (updO f d (.int .i64 n)) w := len_sl u f d w ty 101 (by rw [ty_sl_101]; rfl) A n c
theorem ix_110 {K : Fr → World → Prop} {u : World} {f : Fr} {d : Option Nat} {w : World} (A : Option Addr) (hA : A.isSome = true) (n c : Nat) (k : IntKind) (i : Int) (h0 : 0 ≤ i) (h1 : i < n) : Val1 Try.prog K (Instr.indexAt 110 (.slice A n c) (.int k i)) u f d w = K (updO f d (.pointer (some (eA A (i.toNat * 3))))) w := by
  rw [idx_sl u f d w 110 (by rw [ty_sl_110]; rfl) A hA n c k i h0 h1, ty_sl_110]; rfl
theorem ln_110 {K : Fr → World → Prop} {u : World} {f : Fr} {d : Option Nat} {w : World} (ty : TypeId) (A : Option Addr) (n c : Nat) : Val1 Try.prog K (Builtin.len_ #[110] ty #[.slice A n c]) u f d w = K (updO f d (.int .i64 n)) w := len_sl u f d w ty 110 (by rw [ty_sl_110]; rfl) A n c
theorem fd_112_0 {K : Fr → World → Prop} {u : World} {f : Fr} {d : Option Nat} {w : World} (a : Addr) : Val1 Try.prog K (Instr.fieldAt 112 (.pointer (some a)) 0) u f d w = K (updO f d (.pointer (some (a.add 0)))) w := by
  rw [fld_ptr u f d w 112 0 (by rw [ty_fl_112_0]; rfl) a, ty_fl_112_0]; rfl
theorem fd_112_1 {K : Fr → World → Prop} {u : World} {f : Fr} {d : Option Nat} {w : World} (a : Addr) : Val1 Try.prog K (Instr.fieldAt 112 (.pointer (some a)) 1) u f d w = K (updO f d (.pointer (some (a.add 1)))) w := by
  rw [fld_ptr u f d w 112 1 (by rw [ty_fl_112_1]; rfl) a, ty_fl_112_1]; rfl
theorem fd_112_2 {K : Fr → World → Prop} {u : World} {f : Fr} {d : Option Nat} {w : World} (a : Addr) : Val1 Try.prog K (Instr.fieldAt 112 (.pointer (some a)) 2) u f d w = K (updO f d (.pointer (some (a.add 2)))) w := by
  rw [fld_ptr u f d w 112 2 (by rw [ty_fl_112_2]; rfl) a, ty_fl_112_2]; rfl
theorem fd_113_0 {K : Fr → World → Prop} {u : World} {f : Fr} {d : Option Nat} {w : World} (a : Addr) : Val1 Try.prog K (Instr.fieldAt 113 (.pointer (some a)) 0) u f d w = K (updO f d (.pointer (some (a.add 0)))) w := by
  rw [fld_ptr u f d w 113 0 (by rw [ty_fl_113_0]; rfl) a, ty_fl_113_0]; rfl
theorem fd_113_1 {K : Fr → World → Prop} {u : World} {f : Fr} {d : Option Nat} {w : World} (a : Addr) : Val1 Try.prog K (Instr.fieldAt 113 (.pointer (some a)) 1) u f d w = K (updO f d (.pointer (some (a.add 1)))) w := by
  rw [fld_ptr u f d w 113 1 (by rw [ty_fl_113_1]; rfl) a, ty_fl_113_1]; rfl
theorem fd_113_2 {K : Fr → World → Prop} {u : World} {f : Fr} {d : Option Nat} {w : World} (a : Addr) : Val1 Try.prog K (Instr.fieldAt 113 (.pointer (some a)) 2) u f d w = K (updO f d (.pointer (some (a.add 2)))) w := by
  rw [fld_ptr u f d w 113 2 (by rw [ty_fl_113_2]; rfl) a, ty_fl_113_2]; rfl
theorem ix_115 {K : Fr → World → Prop} {u : World} {f : Fr} {d : Option Nat} {w : World} (A : Option Addr) (hA : A.isSome = true) (n c : Nat) (k : IntKind) (i : Int) (h0 : 0 ≤ i) (h1 : i < n) : Val1 Try.prog K (Instr.indexAt 115 (.slice A n c) (.int k i)) u f d w = K (updO f d (.pointer (some (eA A (i.toNat * 1))))) w := by
  rw [idx_sl u f d w 115 (by rw [ty_sl_115]; rfl) A hA n c k i h0 h1, ty_sl_115]; rfl
theorem ln_115 {K : Fr → World → Prop} {u : World} {f : Fr} {d : Option Nat} {w : World} (ty : TypeId) (A : Option Addr) (n c : Nat) : Val1 Try.prog K (Builtin.len_ #[115] ty #[.slice A n c]) u f d w = K (updO f d (.int .i64 n)) w := len_sl u f d w ty 115 (by rw [ty_sl_115]; rfl) A n c
theorem fd_121_0 {K : Fr → World → Prop} {u : World} {f : Fr} {d : Option Nat} {w : World} (a : Addr) : Val1 Try.prog K (Instr.fieldAt 121 (.pointer (some a)) 0) u f d w = K (updO f d (.pointer (some (a.add 0)))) w := by
  rw [fld_ptr u f d w 121 0 (by rw [ty_fl_121_0]; rfl) a, ty_fl_121_0]; rfl
theorem fd_121_1 {K : Fr → World → Prop} {u : World} {f : Fr} {d : Option Nat} {w : World} (a : Addr) : Val1 Try.prog K (Instr.fieldAt 121 (.pointer (some a)) 1) u f d w = K (updO f d (.pointer (some (a.add 8)))) w := by
  rw [fld_ptr u f d w 121 1 (by rw [ty_fl_121_1]; rfl) a, ty_fl_121_1]; rfl
theorem fd_121_2 {K : Fr → World → Prop} {u : World} {f : Fr} {d : Option Nat} {w : World} (a : Addr) : Val1 Try.prog K (Instr.fieldAt 121 (.pointer (some a)) 2) u f d w = K (updO f d (.pointer (some (a.add 9)))) w := by
  rw [fld_ptr u f d w 121 2 (by rw [ty_fl_121_2]; rfl) a, ty_fl_121_2]; rfl
theorem fd_122_0 {K : Fr → World → Prop} {u : World} {f : Fr} {d : Option Nat} {w : World} (a : Addr) : Val1 Try.prog K (Instr.fieldAt 122 (.pointer (some a)) 0) u f d w = K (updO f d (.pointer (some (a.add 0)))) w := by
  rw [fld_ptr u f d w 122 0 (by rw [ty_fl_122_0]; rfl) a, ty_fl_122_0]; rfl
theorem fd_122_1 {K : Fr → World → Prop} {u : World} {f : Fr} {d : Option Nat} {w : World} (a : Addr) : Val1 Try.prog K (Instr.fieldAt 122 (.pointer (some a)) 1) u f d w = K (updO f d (.pointer (some (a.add 8)))) w := by
  rw [fld_ptr u f d w 122 1 (by rw [ty_fl_122_1]; rfl) a, ty_fl_122_1]; rfl
theorem fd_122_2 {K : Fr → World → Prop} {u : World} {f : Fr} {d : Option Nat} {w : World} (a : Addr) : Val1 Try.prog K (Instr.fieldAt 122 (.pointer (some a)) 2) u f d w = K (updO f d (.pointer (some (a.add 9)))) w := by
  rw [fld_ptr u f d w 122 2 (by rw [ty_fl_122_2]; rfl) a, ty_fl_122_2]; rfl
theorem ix_123 {K : Fr → World → Prop} {u : World} {f : Fr} {d : Option Nat} {w : World} (A : Option Addr) (hA : A.isSome = true) (n c : Nat) (k : IntKind) (i : Int) (h0 : 0 ≤ i) (h1 : i < n) : Val1 Try.prog K (Instr.indexAt 123 (.slice A n c) (.int k i)) u f d w = K (updO f d (.pointer (some (eA A (i.toNat * 10))))) w := by
  rw [idx_sl u f d w 123 (by rw [ty_sl_123]; rfl) A hA n c k i h0 h1, ty_sl_123]; rfl
theorem ln_123 {K : Fr → World → Prop} {u : World} {f : Fr} {d : Option Nat} {w : World} (ty : TypeId) (A : Option Addr) (n c : Nat) : Val1 Try.prog K (Builtin.len_ #[123] ty #[.slice A n c]) u f d w = K (updO f d (.int .i64 n)) w := len_sl u f d w ty 123 (by rw [ty_sl_123]; rfl) A n c
theorem fd_126_0 {K : Fr → World → Prop} {u : World} {f : Fr} {d : Option Nat} {w : World} (a : Addr) : Val1 Try.prog K (Instr.fieldAt 126 (.pointer (some a)) 0) u f d w = K (updO f d (.pointer (some (a.add 0)))) w := by
  rw [fld_ptr u f d w 126 0 (by rw [ty_fl_126_0]; rfl) a, ty_fl_126_0]; rfl
theorem fd_126_1 {K : Fr → World → Prop} {u : World} {f : Fr} {d : Option Nat} {w : World} (a : Addr) : Val1 Try.prog K (Instr.fieldAt 126 (.pointer (some a)) 1) u f d w = K (updO f d (.pointer (some (a.add 1)))) w := by
  rw [fld_ptr u f d w 126 1 (by rw [ty_fl_126_1]; rfl) a, ty_fl_126_1]; rfl
theorem fd_127_0 {K : Fr → World → Prop} {u : World} {f : Fr} {d : Option Nat} {w : World} (a : Addr) : Val1 Try.prog K (Instr.fieldAt 127 (.pointer (some a)) 0) u f d w = K (updO f d (.pointer (some (a.add 0)))) w := by
  rw [fld_ptr u f d w 127 0 (by rw [ty_fl_127_0]; rfl) a, ty_fl_127_0]; rfl
theorem fd_127_1 {K : Fr → World → Prop} {u : World} {f : Fr} {d : Option Nat} {w : World} (a : Addr) : Val1 Try.prog K (Instr.fieldAt 127 (.pointer (some a)) 1) u f d w = K (updO f d (.pointer (some (a.add 1)))) w := by
  rw [fld_ptr u f d w 127 1 (by rw [ty_fl_127_1]; rfl) a, ty_fl_127_1]; rfl
theorem fd_134_0 {K : Fr → World → Prop} {u : World} {f : Fr} {d : Option Nat} {w : World} (a : Addr) : Val1 Try.prog K (Instr.fieldAt 134 (.pointer (some a)) 0) u f d w = K (updO f d (.pointer (some (a.add 0)))) w := by
  rw [fld_ptr u f d w 134 0 (by rw [ty_fl_134_0]; rfl) a, ty_fl_134_0]; rfl
theorem fd_134_1 {K : Fr → World → Prop} {u : World} {f : Fr} {d : Option Nat} {w : World} (a : Addr) : Val1 Try.prog K (Instr.fieldAt 134 (.pointer (some a)) 1) u f d w = K (updO f d (.pointer (some (a.add 1)))) w := by
  rw [fld_ptr u f d w 134 1 (by rw [ty_fl_134_1]; rfl) a, ty_fl_134_1]; rfl
theorem fd_134_2 {K : Fr → World → Prop} {u : World} {f : Fr} {d : Option Nat} {w : World} (a : Addr) : Val1 Try.prog K (Instr.fieldAt 134 (.pointer (some a)) 2) u f d w = K (updO f d (.pointer (some (a.add 2)))) w := by
  rw [fld_ptr u f d w 134 2 (by rw [ty_fl_134_2]; rfl) a, ty_fl_134_2]; rfl
theorem fd_134_3 {K : Fr → World → Prop} {u : World} {f : Fr} {d : Option Nat} {w : World} (a : Addr) : Val1 Try.prog K (Instr.fieldAt 134 (.pointer (some a)) 3) u f d w = K (updO f d (.pointer (some (a.add 3)))) w := by
  rw [fld_ptr u f d w 134 3 (by rw [ty_fl_134_3]; rfl) a, ty_fl_134_3]; rfl
theorem fd_135_0 {K : Fr → World → Prop} {u : World} {f : Fr} {d : Option Nat} {w : World} (a : Addr) : Val1 Try.prog K (Instr.fieldAt 135 (.pointer (some a)) 0) u f d w = K (updO f d (.pointer (some (a.add 0)))) w := by
  rw [fld_ptr u f d w 135 0 (by rw [ty_fl_135_0]; rfl) a, ty_fl_135_0]; rfl
theorem fd_135_1 {K : Fr → World → Prop} {u : World} {f : Fr} {d : Option Nat} {w : World} (a : Addr) : Val1 Try.prog K (Instr.fieldAt 135 (.pointer (some a)) 1) u f d w = K (updO f d (.pointer (some (a.add 1)))) w := by
  rw [fld_ptr u f d w 135 1 (by rw [ty_fl_135_1]; rfl) a, ty_fl_135_1]; rfl
theorem fd_135_2 {K : Fr → World → Prop} {u : World} {f : Fr} {d : Option Nat} {w : World} (a : Addr) : Val1 Try.prog K (Instr.fieldAt 135 (.pointer (some a)) 2) u f d w = K (updO f d (.pointer (some (a.add 2)))) w := by
  rw [fld_ptr u f d w 135 2 (by rw [ty_fl_135_2]; rfl) a, ty_fl_135_2]; rfl
theorem fd_135_3 {K : Fr → World → Prop} {u : World} {f : Fr} {d : Option Nat} {w : World} (a : Addr) : Val1 Try.prog K (Instr.fieldAt 135 (.pointer (some a)) 3) u f d w = K (updO f d (.pointer (some (a.add 3)))) w := by
  rw [fld_ptr u f d w 135 3 (by rw [ty_fl_135_3]; rfl) a, ty_fl_135_3]; rfl
theorem ix_136 {K : Fr → World → Prop} {u : World} {f : Fr} {d : Option Nat} {w : World} (a : Addr) (k : IntKind) (i : Int) (h0 : 0 ≤ i) (h1 : i < 0) : Val1 Try.prog K (Instr.indexAt 136 (.pointer (some a)) (.int k i)) u f d w = K (updO f d (.pointer (some (a.add (i.toNat * 1))))) w := by
  rw [idx_arr u f d w 136 (by rw [ty_ar_136]; rfl) a k i h0 (by rw [ty_ar_136]; exact h1), ty_ar_136]; rfl
theorem fd_147_0 {K : Fr → World → Prop} {u : World} {f : Fr} {d : Option Nat} {w : World} (a : Addr) : Val1 Try.prog K (Instr.fieldAt 147 (.pointer (some a)) 0) u f d w = K (updO f d (.pointer (some (a.add 0)))) w := by
  rw [fld_ptr u f d w 147 0 (by rw [ty_fl_147_0]; rfl) a, ty_fl_147_0]; rfl
theorem fd_147_1 {K : Fr → World → Prop} {u : World} {f : Fr} {d : Option Nat} {w : World} (a : Addr) : Val1 Try.prog K (Instr.fieldAt 147 (.pointer (some a)) 1) u f d w = K (updO f d (.pointer (some (a.add 1)))) w := by
  rw [fld_ptr u f d w 147 1 (by rw [ty_fl_147_1]; rfl) a, ty_fl_147_1]; rfl
theorem fd_147_2 {K : Fr → World → Prop} {u : World} {f : Fr} {d : Option Nat} {w : World} (a : Addr) : Val1 Try.prog K (Instr.fieldAt 147 (.pointer (some a)) 2) u f d w = K (updO f d (.pointer (some (a.add 2)))) w := by
  rw [fld_ptr u f d w 147 2 (by rw [ty_fl_147_2]; rfl) a, ty_fl_147_2]; rfl
theorem fd_147_3 {K : Fr → World → Prop} {u : World} {f : Fr} {d : Option Nat} {w : World} (a : Addr) : Val1 Try.prog K (Instr.fieldAt 147 (.pointer (some a)) 3) u f d w = K (updO f d (.pointer (some (a.add 3)))) w := by
  rw [fld_ptr u f d w 147 3 (by rw [ty_fl_147_3]; rfl) a, ty_fl_147_3]; rfl
theorem fd_147_4 {K : Fr → World → Prop} {u : World} {f : Fr} {d : Option Nat} {w : World} (a : Addr) : Val1 Try.prog K (Instr.fieldAt 147 (.pointer (some a)) 4) u f d w = K (updO f d (.pointer (some (a.add 4)))) w := by
  rw [fld_ptr u f d w 147 4 (by rw [ty_fl_147_4]; rfl) a, ty_fl_147_4]; rfl
theorem fd_147_5 {K : Fr → World → Prop} {u : World} {f : Fr} {d : Option Nat} {w : World} (a : Addr) : Val1 Try.prog K (Instr.fieldAt 147 (.pointer (some a)) 5) u f d w = K (updO f d (.pointer (some (a.add 5)))) w := by
  rw [fld_ptr u f d w 147 5 (by rw [ty_fl_147_5]; rfl) a, ty_fl_147_5]; rfl
theorem fd_147_6 {K : Fr → World → Prop} {u : World} {f : Fr} {d : Option Nat} {w : World} (a : Addr) : Val1 Try.prog K (Instr.fieldAt 147 (.pointer (some a)) 6) u f d w = K (updO f d (.pointer (some (a.add 6)))) w := by
  rw [fld_ptr u f d w 147 6 (by rw [ty_fl_147_6]; rfl) a, ty_fl_147_6]; rfl
theorem fd_147_7 {K : Fr → World → Prop} {u : World} {f : Fr} {d : Option Nat} {w : World} (a : Addr) : Val1 Try.prog K (Instr.fieldAt 147 (.pointer (some a)) 7) u f d w = K (updO f d (.pointer (some (a.add 7)))) w := by
  rw [fld_ptr u f d w 147 7 (by rw [ty_fl_147_7]; rfl) a, ty_fl_147_7]; rfl
theorem fd_147_8 {K : Fr → World → Prop} {u : World} {f : Fr} {d : Option Nat} {w : World} (a : Addr) : Val1 Try.prog K (Instr.fieldAt 147 (.pointer (some a)) 8) u f d w = K (updO f d (.pointer (some (a.add 8)))) w := by
  rw [fld_ptr u f d w 147 8 (by rw [ty_fl_147_8]; rfl) a, ty_fl_147_8]; rfl
theorem fd_147_9 {K : Fr → World → Prop} {u : World} {f : Fr} {d : Option Nat} {w : World} (a : Addr) : Val1 Try.prog K (Instr.fieldAt 147 (.pointer (some a)) 9) u f d w = K (updO f d (.pointer (some (a.add 9)))) w := by
  rw [fld_ptr u f d w 147 9 (by rw [ty_fl_147_9]; rfl) a, ty_fl_147_9]; rfl
theorem fd_147_10 {K : Fr → World → Prop} {u : World} {f : Fr} {d : Option Nat} {w : World} (a : Addr) : Val1 Try.prog K (Instr.fieldAt 147 (.pointer (some a)) 10) u f d w = K (updO f d (.pointer (some (a.add 10)))) w := by
  rw [fld_ptr u f d w 147 10 (by rw [ty_fl_147_10]; rfl) a, ty_fl_147_10]; rfl
theorem fd_148_0 {K : Fr → World → Prop} {u : World} {f : Fr} {d : Option Nat} {w : World} (a : Addr) : Val1 Try.prog K (Instr.fieldAt 148 (.pointer (some a)) 0) u f d w = K (updO f d (.pointer (some (a.add 0)))) w := by
  rw [fld_ptr u f d w 148 0 (by rw [ty_fl_148_0]; rfl) a, ty_fl_148_0]; rfl
theorem fd_148_1 {K : Fr → World → Prop} {u : World} {f : Fr} {d : Option Nat} {w : World} (a : Addr) : Val1 Try.prog K (Instr.fieldAt 148 (.pointer (some a)) 1) u f d w = K (updO f d (.pointer (some (a.add 1)))) w := by
  rw [fld_ptr u f d w 148 1 (by rw [ty_fl_148_1]; rfl) a, ty_fl_148_1]; rfl
theorem fd_148_2 {K : Fr → World → Prop} {u : World} {f : Fr} {d : Option Nat} {w : World} (a : Addr) : Val1 Try.prog K (Instr.fieldAt 148 (.pointer (some a)) 2) u f d w = K (updO f d (.pointer (some (a.add 2)))) w := by
  rw [fld_ptr u f d w 148 2 (by rw [ty_fl_148_2]; rfl) a, ty_fl_148_2]; rfl
theorem fd_148_3 {K : Fr → World → Prop} {u : World} {f : Fr} {d : Option Nat} {w : World} (a : Addr) : Val1 Try.prog K (Instr.fieldAt 148 (.pointer (some a)) 3) u f d w = K (updO f d (.pointer (some (a.add 3)))) w := by
  rw [fld_ptr u f d w 148 3 (by rw [ty_fl_148_3]; rfl) a, ty_fl_148_3]; rfl
theorem fd_148_4 {K : Fr → World → Prop} {u : World} {f : Fr} {d : Option Nat} {w : World} (a : Addr) : Val1 Try.prog K (Instr.fieldAt 148 (.pointer (some a)) 4) u f d w = K (updO f d (.pointer (some (a.add 4)))) w := by
  rw [fld_ptr u f d w 148 4 (by rw [ty_fl_148_4]; rfl) a, ty_fl_148_4]; rfl
theorem fd_148_5 {K : Fr → World → Prop} {u : World} {f : Fr} {d : Option Nat} {w : World} (a : Addr) : Val1 Try.prog K (Instr.fieldAt 148 (.pointer (some a)) 5) u f d w = K (updO f d (.pointer (some (a.add 5)))) w := by
  rw [fld_ptr u f d w 148 5 (by rw [ty_fl_148_5]; rfl) a, ty_fl_148_5]; rfl
theorem fd_148_6 {K : Fr → World → Prop} {u : World} {f : Fr} {d : Option Nat} {w : World} (a : Addr) : Val1 Try.prog K (Instr.fieldAt 148 (.pointer (some a)) 6) u f d w = K (updO f d (.pointer (some (a.add 6)))) w := by
  rw [fld_ptr u f d w 148 6 (by rw [ty_fl_148_6]; rfl) a, ty_fl_148_6]; rfl
theorem fd_148_7 {K : Fr → World → Prop} {u : World} {f : Fr} {d : Option Nat} {w : World} (a : Addr) : Val1 Try.prog K (Instr.fieldAt 148 (.pointer (some a)) 7) u f d w = K (updO f d (.pointer (some (a.add 7)))) w := by
  rw [fld_ptr u f d w 148 7 (by rw [ty_fl_148_7]; rfl) a, ty_fl_148_7]; rfl
theorem fd_148_8 {K : Fr → World → Prop} {u : World} {f : Fr} {d : Option Nat} {w : World} (a : Addr) : Val1 Try.prog K (Instr.fieldAt 148 (.pointer (some a)) 8) u f d w = K (updO f d (.pointer (some (a.add 8)))) w := by
  rw [fld_ptr u f d w 148 8 (by rw [ty_fl_148_8]; rfl) a, ty_fl_148_8]; rfl
theorem fd_148_9 {K : Fr → World → Prop} {u : World} {f : Fr} {d : Option Nat} {w : World} (a : Addr) : Val1 Try.prog K (Instr.fieldAt 148 (.pointer (some a)) 9) u f d w = K (updO f d (.pointer (some (a.add 9)))) w := by
  rw [fld_ptr u f d w 148 9 (by rw [ty_fl_148_9]; rfl) a, ty_fl_148_9]; rfl
theorem fd_148_10 {K : Fr → World → Prop} {u : World} {f : Fr} {d : Option Nat} {w : World} (a : Addr) : Val1 Try.prog K (Instr.fieldAt 148 (.pointer (some a)) 10) u f d w = K (updO f d (.pointer (some (a.add 10)))) w := by
  rw [fld_ptr u f d w 148 10 (by rw [ty_fl_148_10]; rfl) a, ty_fl_148_10]; rfl
theorem al_2 {K : Fr → World → Prop} {f : Fr} {d : Option Nat} {w : World} : Eff1 Try.prog K (Instr.alloc 2 true (.tuple #[])) f d w = K (updO f d (.pointer (some ⟨w.heap.size, 0, none⟩))) (w.alloc (.cells [.int .i64 0].toArray 2)) := alloc_eq 2 (.int .i64 0) (by kernel_rfl)
theorem al_3 {K : Fr → World → Prop} {f : Fr} {d : Option Nat} {w : World} : Eff1 Try.prog K (Instr.alloc 3 true (.tuple #[])) f d w = K (updO f d (.pointer (some ⟨w.heap.size, 0, none⟩))) (w.alloc (.cells [.int .i64 0].toArray 3)) := alloc_eq 3 (.int .i64 0) (by kernel_rfl)
theorem eqb_4 {K : Fr → World → Prop} {u : World} {f : Fr} {d : Option Nat} {w : World} (xo yo : Operand) (a b : Bool) : Val1 Try.prog K (binS .eql 4 xo yo (.bool a) (.bool b)) u f d w = K (updO f d (.bool (a == b))) w := bin_eqb u f d w 4 xo yo (by kernel_rfl) a b
theorem neb_4 {K : Fr → World → Prop} {u : World} {f : Fr} {d : Option Nat} {w : World} (xo yo : Operand) (a b : Bool) : Val1 Try.prog K (binS .neq 4 xo yo (.bool a) (.bool b)) u f d w = K (updO f d (.bool (a != b))) w := bin_neb u f d w 4 xo yo (by kernel_rfl) a b
theorem al_4 {K : Fr → World → Prop} {f : Fr} {d : Option Nat} {w : World} : Eff1 Try.prog K (Instr.alloc 4 true (.tuple #[])) f d w = K (updO f d (.pointer (some ⟨w.heap.size, 0, none⟩))) (w.alloc (.cells [.bool false].toArray 4)) := alloc_eq 4 (.bool false) (by kernel_rfl)
theorem al_5 {K : Fr → World → Prop} {f : Fr} {d : Option Nat} {w : World} : Eff1 Try.prog K (Instr.alloc 5 true (.tuple #[])) f d w = K (updO f d (.pointer (some ⟨w.heap.size, 0, none⟩))) (w.alloc (.cells [.int .u8 0].toArray 5)) := alloc_eq 5 (.int .u8 0) (by kernel_rfl)
theorem al_6 {K : Fr → World → Prop} {f : Fr} {d : Option Nat} {w : World} : Eff1 Try.prog K (Instr.alloc 6 true (.tuple #[])) f d w = K (updO f d (.pointer (some ⟨w.heap.size, 0, none⟩))) (w.alloc (.cells [.int .u8 0].toArray 6)) := alloc_eq 6 (.int .u8 0) (by kernel_rfl)
theorem al_7 {K : Fr → World → Prop} {f : Fr} {d : Option Nat} {w : World} : Eff1 Try.prog K (Instr.alloc 7 true (.tuple #[])) f d w = K (updO f d (.pointer (some ⟨w.heap.size, 0, none⟩))) (w.alloc (.cells [.int .i64 0, .int .i64 0, .bool false, .int .u8 0].toArray 7)) := alloc_eq 7 (.agg #[.int .i64 0, .int .i64 0, .bool false, .int .u8 0]) (by kernel_rfl)
theorem al_8 {K : Fr → World → Prop} {f : Fr} {d : Option Nat} {w : World} : Eff1 Try.prog K (Instr.alloc 8 true (.tuple #[])) f d w = K (updO f d (.pointer (some ⟨w.heap.size, 0, none⟩))) (w.alloc (.cells [.int .i64 0, .int .i64 0, .bool false, .int .u8 0].toArray 8)) := alloc_eq 8 (.agg #[.int .i64 0, .int .i64 0, .bool false, .int .u8 0]) (by kernel_rfl)
theorem al_12 {K : Fr → World → Prop} {f : Fr} {d : Option Nat} {w : World} : Eff1 Try.prog K (Instr.alloc 12 true (.tuple #[])) f d w = K (updO f d (.pointer (some ⟨w.heap.size, 0, none⟩))) (w.alloc (.cells [.int .u64 0].toArray 12)) := alloc_eq 12 (.int .u64 0) (by kernel_rfl)
theorem al_13 {K : Fr → World → Prop} {f : Fr} {d : Option Nat} {w : World} : Eff1 Try.prog K (Instr.alloc 13 true (.tuple #[])) f d w = K (updO f d (.pointer (some ⟨w.heap.size, 0, none⟩))) (w.alloc (.cells [.string ByteArray.empty, .int .u64 0].toArray 13)) := alloc_eq 13 (.agg #[.string ByteArray.empty, .int .u64 0]) (by kernel_rfl)
theorem al_14 {K : Fr → World → Prop} {f : Fr} {d : Option Nat} {w : World} : Eff1 Try.prog K (Instr.alloc 14 true (.tuple #[])) f d w = K (updO f d (.pointer (some ⟨w.heap.size, 0, none⟩))) (w.alloc (.cells [.string ByteArray.empty, .int .u64 0].toArray 14)) := alloc_eq 14 (.agg #[.string ByteArray.empty, .int .u64 0]) (by kernel_rfl)
theorem al_18 {K : Fr → World → Prop} {f : Fr} {d : Option Nat} {w : World} : Eff1 Try.prog K (Instr.alloc 18 true (.tuple #[])) f d w = K (updO f d (.pointer (some ⟨w.heap.size, 0, none⟩))) (w.alloc (.cells [.pointer none].toArray 18)) := alloc_eq 18 (.agg #[.pointer none]) (by kernel_rfl)
theorem al_19 {K : Fr → World → Prop} {f : Fr} {d : Option Nat} {w : World} : Eff1 Try.prog K (Instr.alloc 19 true (.tuple #[])) f d w = K (updO f d (.pointer (some ⟨w.heap.size, 0, none⟩))) (w.alloc (.cells [.pointer none].toArray 19)) := alloc_eq 19 (.agg #[.pointer none]) (by kernel_rfl)
theorem al_21 {K : Fr → World → Prop} {f : Fr} {d : Option Nat} {w : World} : Eff1 Try.prog K (Instr.alloc 21 true (.tuple #[])) f d w = K (updO f d (.pointer (some ⟨w.heap.size, 0, none⟩))) (w.alloc (.cells [.int .i32 0].toArray 21)) := alloc_eq 21 (.int .i32 0) (by kernel_rfl)
theorem slT_22 : SlT Try.prog 22 3 1 8 := ⟨by kernel_rfl, by kernel_rfl, by decide⟩
theorem bs_22 {K : Fr → World → Prop} {f : Fr} {d : Option Nat} {w : World} (n : Int) : Eff1 Try.prog K (Instr.buildSlice 22 1 #[(0, .int .i64 n)]) f d w = K (updO f d (.slice (some ⟨w.heap.size, 0, none⟩) 1 1)) (w.alloc (.cells [.int .i64 n].toArray 3)) := bsl1_eq slT_22 _ rfl (by decide)
theorem bs0_22 {K : Fr → World → Prop} {f : Fr} {d : Option Nat} {w : World} : Eff1 Try.prog K (Instr.buildSlice 22 0 #[]) f d w = K (updO f d (.slice (some ⟨w.heap.size, 0, none⟩) 0 0)) (w.alloc (.cells [].toArray 3)) := bsl0_eq slT_22
theorem al_22 {K : Fr → World → Prop} {f : Fr} {d : Option Nat} {w : World} : Eff1 Try.prog K (Instr.alloc 22 true (.tuple #[])) f d w = K (updO f d (.pointer (some ⟨w.heap.size, 0, none⟩))) (w.alloc (.cells [.slice none 0 0].toArray 22)) := alloc_eq 22 (.slice none 0 0) (by kernel_rfl)
theorem al_24 {K : Fr → World → Prop} {f : Fr} {d : Option Nat} {w : World} : Eff1 Try.prog K (Instr.alloc 24 true (.tuple #[])) f d w = K (updO f d (.pointer (some ⟨w.heap.size, 0, none⟩))) (w.alloc (.cells [.int .i64 0].toArray 24)) := alloc_eq 24 (.int .i64 0) (by kernel_rfl)
theorem slT_31 : SlT Try.prog 31 54 3 24 := ⟨by kernel_rfl, by kernel_rfl, by decide⟩
theorem bs_31 {K : Fr → World → Prop} {f : Fr} {d : Option Nat} {w : World} (x0 x1 x2 : Value) : Eff1 Try.prog K (Instr.buildSlice 31 1 #[(0, .agg #[x0, x1, x2])]) f d w = K (updO f d (.slice (some ⟨w.heap.size, 0, none⟩) 1 1)) (w.alloc (.cells [x0, x1, x2].toArray 54)) := bsl1_eq slT_31 _ rfl (by decide)
theorem bs0_31 {K : Fr → World → Prop} {f : Fr} {d : Option Nat} {w : World} : Eff1 Try.prog K (Instr.buildSlice 31 0 #[]) f d w = K (updO f d (.slice (some ⟨w.heap.size, 0, none⟩) 0 0)) (w.alloc (.cells [].toArray 54)) := bsl0_eq slT_31
theorem al_31 {K : Fr → World → Prop} {f : Fr} {d : Option Nat} {w : World} : Eff1 Try.prog K (Instr.alloc 31 true (.tuple #[])) f d w = K (updO f d (.pointer (some ⟨w.heap.size, 0, none⟩))) (w.alloc (.cells [.slice none 0 0].toArray 31)) := alloc_eq 31 (.slice none 0 0) (by kernel_rfl)
theorem al_32 {K : Fr → World → Prop} {f : Fr} {d : Option Nat} {w : World} : Eff1 Try.prog K (Instr.alloc 32 true (.tuple #[])) f d w = K (updO f d (.pointer (some ⟨w.heap.size, 0, none⟩))) (w.alloc (.cells [.int .i64 0, .int .i64 0, .slice none 0 0, .slice none 0 0, .slice none 0 0].toArray 32)) := alloc_eq 32 (.agg #[.int .i64 0, .int .i64 0, .slice none 0 0, .slice none 0 0, .slice none 0 0]) (by kernel_rfl)
theorem al_33 {K : Fr → World → Prop} {f : Fr} {d : Option Nat} {w : World} : Eff1 Try.prog K (Instr.alloc 33 true (.tuple #[])) f d w = K (updO f d (.pointer (some ⟨w.heap.size, 0, none⟩))) (w.alloc (.cells [.int .i64 0, .int .i64 0, .slice none 0 0, .slice none 0 0, .slice none 0 0].toArray 33)) := alloc_eq 33 (.agg #[.int .i64 0, .int .i64 0, .slice none 0 0, .slice none 0 0, .slice none 0 0]) (by kernel_rfl)
theorem al_47 {K : Fr → World → Prop} {f : Fr} {d : Option Nat} {w : World} : Eff1 Try.prog K (Instr.alloc 47 true (.tuple #[])) f d w = K (updO f d (.pointer (some ⟨w.heap.size, 0, none⟩))) (w.alloc (.cells [.int .i64 0, .int .i64 0, .slice none 0 0, .slice none 0 0, .slice none 0 0, .slice none 0 0, .slice none 0 0].toArray 47)) := alloc_eq 47 (.agg #[.int .i64 0, .int .i64 0, .slice none 0 0, .slice none 0 0, .slice none 0 0, .slice none 0 0, .slice none 0 0]) (by kernel_rfl)
theorem al_48 {K : Fr → World → Prop} {f : Fr} {d : Option Nat} {w : World} : Eff1 Try.prog K (Instr.alloc 48 true (.tuple #[])) f d w = K (updO f d (.pointer (some ⟨w.heap.size, 0, none⟩))) (w.alloc (.cells [.int .i64 0, .int .i64 0, .slice none 0 0, .slice none 0 0, .slice none 0 0, .slice none 0 0, .slice none 0 0].toArray 48)) := alloc_eq 48 (.agg #[.int .i64 0, .int .i64 0, .slice none 0 0, .slice none 0 0, .slice none 0 0, .slice none 0 0, .slice none 0 0]) (by kernel_rfl)
theorem al_53 {K : Fr → World → Prop} {f : Fr} {d : Option Nat} {w : World} : Eff1 Try.prog K (Instr.alloc 53 true (.tuple #[])) f d w = K (updO f d (.pointer (some ⟨w.heap.size, 0, none⟩))) (w.alloc (.cells [.int .i64 0, .int .i64 0, .int .i64 0].toArray 53)) := alloc_eq 53 (.agg #[.int .i64 0, .int .i64 0, .int .i64 0]) (by kernel_rfl)
theorem al_54 {K : Fr → World → Prop} {f : Fr} {d : Option Nat} {w : World} : Eff1 Try.prog K (Instr.alloc 54 true (.tuple #[])) f d w = K (updO f d (.pointer (some ⟨w.heap.size, 0, none⟩))) (w.alloc (.cells [.int .i64 0, .int .i64 0, .int .i64 0].toArray 54)) := alloc_eq 54 (.agg #[.int .i64 0, .int .i64 0, .int .i64 0]) (by kernel_rfl)
theorem al_58 {K : Fr → World → Prop} {f : Fr} {d : Option Nat} {w : World} : Eff1 Try.prog K (Instr.alloc 58 true (.tuple #[])) f d w = K (updO f d (.pointer (some ⟨w.heap.size, 0, none⟩))) (w.alloc (.cells [.int .u64 0].toArray 58)) := alloc_eq 58 (.int .u64 0) (by kernel_rfl)
theorem al_59 {K : Fr → World → Prop} {f : Fr} {d : Option Nat} {w : World} : Eff1 Try.prog K (Instr.alloc 59 true (.tuple #[])) f d w = K (updO f d (.pointer (some ⟨w.heap.size, 0, none⟩))) (w.alloc (.cells [.int .u64 0, .int .u64 0, .int .u64 0, .int .u64 0].toArray 59)) := alloc_eq 59 (.agg #[.int .u64 0, .int .u64 0, .int .u64 0, .int .u64 0]) (by kernel_rfl)
theorem al_60 {K : Fr → World → Prop} {f : Fr} {d : Option Nat} {w : World} : Eff1 Try.prog K (Instr.alloc 60 true (.tuple #[])) f d w = K (updO f d (.pointer (some ⟨w.heap.size, 0, none⟩))) (w.alloc (.cells [.int .u64 0, .int .u64 0, .int .u64 0, .int .u64 0].toArray 60)) := alloc_eq 60 (.agg #[.int .u64 0, .int .u64 0, .int .u64 0, .int .u64 0]) (by kernel_rfl)
theorem al_71 {K : Fr → World → Prop} {f : Fr} {d : Option Nat} {w : World} : Eff1 Try.prog K (Instr.alloc 71 true (.tuple #[])) f d w = K (updO f d (.pointer (some ⟨w.heap.size, 0, none⟩))) (w.alloc (.cells [.map none].toArray 71)) := alloc_eq 71 (.map none) (by kernel_rfl)
theorem al_72 {K : Fr → World → Prop} {f : Fr} {d : Option Nat} {w : World} : Eff1 Try.prog K (Instr.alloc 72 true (.tuple #[])) f d w = K (updO f d (.pointer (some ⟨w.heap.size, 0, none⟩))) (w.alloc (.cells [.slice none 0 0, .slice none 0 0, .slice none 0 0, .slice none 0 0, .slice none 0 0, .slice none 0 0, .slice none 0 0, .slice none 0 0].toArray 72)) := alloc_eq 72 (.agg #[.slice none 0 0, .slice none 0 0, .slice none 0 0, .slice none 0 0, .slice none 0 0, .slice none 0 0, .slice none 0 0, .slice none 0 0]) (by kernel_rfl)
theorem al_73 {K : Fr → World → Prop} {f : Fr} {d : Option Nat} {w : World} : Eff1 Try.prog K (Instr.alloc 73 true (.tuple #[])) f d w = K (updO f d (.pointer (some ⟨w.heap.size, 0, none⟩))) (w.alloc (.cells [.slice none 0 0, .slice none 0 0, .slice none 0 0, .slice none 0 0, .slice none 0 0, .slice none 0 0, .slice none 0 0, .slice none 0 0, .slice none 0 0, .slice none 0 0, .slice none 0 0, .slice none 0 0, .slice none 0 0, .slice none 0 0, .slice none 0 0, .slice none 0 0, .slice none 0 0, .slice none 0 0, .slice none 0 0, .slice none 0 0, .slice none 0 0, .slice none 0 0, .slice none 0 0, .slice none 0 0, .slice none 0 0, .slice none 0 0, .slice none 0 0, .slice none 0 0, .slice none 0 0, .slice none 0 0, .slice none 0 0, .slice none 0 0, .slice none 0 0, .slice none 0 0, .slice none 0 0, .slice none 0 0, .slice none 0 0, .slice none 0 0, .slice none 0 0, .slice none 0 0, .slice none 0 0, .slice none 0 0, .slice none 0 0, .slice none 0 0, .slice none 0 0, .slice none 0 0, .slice none 0 0, .slice none 0 0].toArray 73)) := alloc_eq 73 (.agg #[.slice none 0 0, .slice none 0 0, .slice none 0 0, .slice none 0 0, .slice none 0 0, .slice none 0 0, .slice none 0 0, .slice none 0 0, .slice none 0 0, .slice none 0 0, .slice none 0 0, .slice none 0 0, .slice none 0 0, .slice none 0 0, .slice none 0 0, .slice none 0 0, .slice none 0 0, .slice none 0 0, .slice none 0 0, .slice none 0 0, .slice none 0 0, .slice none 0 0, .slice none 0 0, .slice none 0 0, .slice none 0 0, .slice none 0 0, .slice none 0 0, .slice none 0 0, .slice none 0 0, .slice none 0 0, .slice none 0 0, .slice none 0 0, .slice none 0 0, .slice none 0 0, .slice none 0 0, .slice none 0 0, .slice none 0 0, .slice none 0 0, .slice none 0 0, .slice none 0 0, .slice none 0 0, .slice none 0 0, .slice none 0 0, .slice none 0 0, .slice none 0 0, .slice none 0 0, .slice none 0 0, .slice none 0 0]) (by kernel_rfl)
theorem slT_74 : SlT Try.prog 74 79 3 24 := ⟨by kernel_rfl, by kernel_rfl, by decide⟩
theorem bs_74 {K : Fr → World → Prop} {f : Fr} {d : Option Nat} {w : World} (x0 x1 x2 : Value) : Eff1 Try.prog K (Instr.buildSlice 74 1 #[(0, .agg #[x0, x1, x2])]) f d w = K (updO f d (.slice (some ⟨w.heap.size, 0, none⟩) 1 1)) (w.alloc (.cells [x0, x1, x2].toArray 79)) := bsl1_eq slT_74 _ rfl (by decide)
theorem bs0_74 {K : Fr → World → Prop} {f : Fr} {d : Option Nat} {w : World} : Eff1 Try.prog K (Instr.buildSlice 74 0 #[]) f d w = K (updO f d (.slice (some ⟨w.heap.size, 0, none⟩) 0 0)) (w.alloc (.cells [].toArray 79)) := bsl0_eq slT_74
theorem al_74 {K : Fr → World → Prop} {f : Fr} {d : Option Nat} {w : World} : Eff1 Try.prog K (Instr.alloc 74 true (.tuple #[])) f d w = K (updO f d (.pointer (some ⟨w.heap.size, 0, none⟩))) (w.alloc (.cells [.slice none 0 0].toArray 74)) := alloc_eq 74 (.slice none 0 0) (by kernel_rfl)
theorem al_75 {K : Fr → World → Prop} {f : Fr} {d : Option Nat} {w : World} : Eff1 Try.prog K (Instr.alloc 75 true (.tuple #[])) f d w = K (updO f d (.pointer (some ⟨w.heap.size, 0, none⟩))) (w.alloc (.cells [.int .i64 0, .int .i64 0, .slice none 0 0, .slice none 0 0, .slice none 0 0, .slice none 0 0, .slice none 0 0, .slice none 0 0, .slice none 0 0, .slice none 0 0, .slice none 0 0, .slice none 0 0, .slice none 0 0, .slice none 0 0, .slice none 0 0, .slice none 0 0, .slice none 0 0, .slice none 0 0, .slice none 0 0, .slice none 0 0, .slice none 0 0, .slice none 0 0, .slice none 0 0, .slice none 0 0, .slice none 0 0, .slice none 0 0, .slice none 0 0, .slice none 0 0, .slice none 0 0, .slice none 0 0, .slice none 0 0, .slice none 0 0, .slice none 0 0, .slice none 0 0, .slice none 0 0, .slice none 0 0, .slice none 0 0, .slice none 0 0, .slice none 0 0, .slice none 0 0, .slice none 0 0, .slice none 0 0, .slice none 0 0, .slice none 0 0, .slice none 0 0, .slice none 0 0, .slice none 0 0, .slice none 0 0, .slice none 0 0, .slice none 0 0, .slice none 0 0, .slice none 0 0, .slice none 0 0, .slice none 0 0, .slice none 0 0, .map none, .slice none 0 0].toArray 75)) := alloc_eq 75 (.agg #[.int .i64 0, .int .i64 0, .slice none 0 0, .slice none 0 0, .slice none 0 0, .slice none 0 0, .slice none 0 0, .slice none 0 0, .slice none 0 0, .slice none 0 0, .slice none 0 0, .slice none 0 0, .slice none 0 0, .slice none 0 0, .slice none 0 0, .slice none 0 0, .slice none 0 0, .slice none 0 0, .slice none 0 0, .slice none 0 0, .slice none 0 0, .slice none 0 0, .slice none 0 0, .slice none 0 0, .slice none 0 0, .slice none 0 0, .slice none 0 0, .slice none 0 0, .slice none 0 0, .slice none 0 0, .slice none 0 0, .slice none 0 0, .slice none 0 0, .slice none 0 0, .slice none 0 0, .slice none 0 0, .slice none 0 0, .slice none 0 0, .slice none 0 0, .slice none 0 0, .slice none 0 0, .slice none 0 0, .slice none 0 0, .slice none 0 0, .slice none 0 0, .slice none 0 0, .slice none 0 0, .slice none 0 0, .slice none 0 0, .slice none 0 0, .slice none 0 0, .slice none 0 0, .slice none 0 0, .slice none 0 0, .slice none 0 0, .map none, .slice none 0 0]) (by kernel_rfl)
theorem al_76 {K : Fr → World → Prop} {f : Fr} {d : Option Nat} {w : World} : Eff1 Try.prog K (Instr.alloc 76 true (.tuple #[])) f d w = K (updO f d (.pointer (some ⟨w.heap.size, 0, none⟩))) (w.alloc (.cells [.int .i64 0, .int .i64 0, .slice none 0 0, .slice none 0 0, .slice none 0 0, .slice none 0 0, .slice none 0 0, .slice none 0 0, .slice none 0 0, .slice none 0 0, .slice none 0 0, .slice none 0 0, .slice none 0 0, .slice none 0 0, .slice none 0 0, .slice none 0 0, .slice none 0 0, .slice none 0 0, .slice none 0 0, .slice none 0 0, .slice none 0 0, .slice none 0 0, .slice none 0 0, .slice none 0 0, .slice none 0 0, .slice none 0 0, .slice none 0 0, .slice none 0 0, .slice none 0 0, .slice none 0 0, .slice none 0 0, .slice none 0 0, .slice none 0 0, .slice none 0 0, .slice none 0 0, .slice none 0 0, .slice none 0 0, .slice none 0 0, .slice none 0 0, .slice none 0 0, .slice none 0 0, .slice none 0 0, .slice none 0 0, .slice none 0 0, .slice none 0 0, .slice none 0 0, .slice none 0 0, .slice none 0 0, .slice none 0 0, .slice none 0 0, .slice none 0 0, .slice none 0 0, .slice none 0 0, .slice none 0 0, .slice none 0 0, .map none, .slice none 0 0].toArray 76)) := alloc_eq 76 (.agg #[.int .i64 0, .int .i64 0, .slice none 0 0, .slice none 0 0, .slice none 0 0, .slice none 0 0, .slice none 0 0, .slice none 0 0, .slice none 0 0, .slice none 0 0, .slice none 0 0, .slice none 0 0, .slice none 0 0, .slice none 0 0, .slice none 0 0, .slice none 0 0, .slice none 0 0, .slice none 0 0, .slice none 0 0, .slice none 0 0, .slice none 0 0, .slice none 0 0, .slice none 0 0, .slice none 0 0, .slice none 0 0, .slice none 0 0, .slice none 0 0, .slice none 0 0, .slice none 0 0, .slice none 0 0, .slice none 0 0, .slice none 0 0, .slice none 0 0, .slice none 0 0, .slice none 0 0, .slice none 0 0, .slice none 0 0, .slice none 0 0, .slice none 0 0, .slice none 0 0, .slice none 0 0, .slice none 0 0, .slice none 0 0, .slice none 0 0, .slice none 0 0, .slice none 0 0, .slice none 0 0, .slice none 0 0, .slice none 0 0, .slice none 0 0, .slice none 0 0, .slice none 0 0, .slice none 0 0, .slice none 0 0, .slice none 0 0, .map none, .slice none 0 0]) (by kernel_rfl)
theorem al_78 {K : Fr → World → Prop} {f : Fr} {d : Option Nat} {w : World} : Eff1 Try.prog K (Instr.alloc 78 true (.tuple #[])) f d w = K (updO f d (.pointer (some ⟨w.heap.size, 0, none⟩))) (w.alloc (.cells [.int .i64 0, .int .i64 0, .bool false].toArray 78)) := alloc_eq 78 (.agg #[.int .i64 0, .int .i64 0, .bool false]) (by kernel_rfl)
theorem al_79 {K : Fr → World → Prop} {f : Fr} {d : Option Nat} {w : World} : Eff1 Try.prog K (Instr.alloc 79 true (.tuple #[])) f d w = K (updO f d (.pointer (some ⟨w.heap.size, 0, none⟩))) (w.alloc (.cells [.int .i64 0, .int .i64 0, .bool false].toArray 79)) := alloc_eq 79 (.agg #[.int .i64 0, .int .i64 0, .bool false]) (by kernel_rfl)
theorem slT_80 : SlT Try.prog 80 87 3 24 := ⟨by kernel_rfl, by kernel_rfl, by decide⟩
theorem bs_80 {K : Fr → World → Prop} {f : Fr} {d : Option Nat} {w : World} (x0 x1 x2 : Value) : Eff1 Try.prog K (Instr.buildSlice 80 1 #[(0, .agg #[x0, x1, x2])]) f d w = K (updO f d (.slice (some ⟨w.heap.size, 0, none⟩) 1 1)) (w.alloc (.cells [x0, x1, x2].toArray 87)) := bsl1_eq slT_80 _ rfl (by decide)
theorem bs0_80 {K : Fr → World → Prop} {f : Fr} {d : Option Nat} {w : World} : Eff1 Try.prog K (Instr.buildSlice 80 0 #[]) f d w = K (updO f d (.slice (some ⟨w.heap.size, 0, none⟩) 0 0)) (w.alloc (.cells [].toArray 87)) := bsl0_eq slT_80
theorem al_80 {K : Fr → World → Prop} {f : Fr} {d : Option Nat} {w : World} : Eff1 Try.prog K (Instr.alloc 80 true (.tuple #[])) f d w = K (updO f d (.pointer (some ⟨w.heap.size, 0, none⟩))) (w.alloc (.cells [.slice none 0 0].toArray 80)) := alloc_eq 80 (.slice none 0 0) (by kernel_rfl)
theorem slT_81 : SlT Try.prog 81 85 3 24 := ⟨by kernel_rfl, by kernel_rfl, by decide⟩
theorem bs_81 {K : Fr → World → Prop} {f : Fr} {d : Option Nat} {w : World} (x0 x1 x2 : Value) : Eff1 Try.prog K (Instr.buildSlice 81 1 #[(0, .agg #[x0, x1, x2])]) f d w = K (updO f d (.slice (some ⟨w.heap.size, 0, none⟩) 1 1)) (w.alloc (.cells [x0, x1, x2].toArray 85)) := bsl1_eq slT_81 _ rfl (by decide)
theorem bs0_81 {K : Fr → World → Prop} {f : Fr} {d : Option Nat} {w : World} : Eff1 Try.prog K (Instr.buildSlice 81 0 #[]) f d w = K (updO f d (.slice (some ⟨w.heap.size, 0, none⟩) 0 0)) (w.alloc (.cells [].toArray 85)) := bsl0_eq slT_81
theorem al_81 {K : Fr → World → Prop} {f : Fr} {d : Option Nat} {w : World} : Eff1 Try.prog K (Instr.alloc 81 true (.tuple #[])) f d w = K (updO f d (.pointer (some ⟨w.heap.size, 0, none⟩))) (w.alloc (.cells [.slice none 0 0].toArray 81)) := alloc_eq 81 (.slice none 0 0) (by kernel_rfl)
theorem al_84 {K : Fr → World → Prop} {f : Fr} {d : Option Nat} {w : World} : Eff1 Try.prog K (Instr.alloc 84 true (.tuple #[])) f d w = K (updO f d (.pointer (some ⟨w.heap.size, 0, none⟩))) (w.alloc (.cells [.int .i64 0, .int .i64 0, .bool false].toArray 84)) := alloc_eq 84 (.agg #[.int .i64 0, .int .i64 0, .bool false]) (by kernel_rfl)
theorem al_85 {K : Fr → World → Prop} {f : Fr} {d : Option Nat} {w : World} : Eff1 Try.prog K (Instr.alloc 85 true (.tuple #[])) f d w = K (updO f d (.pointer (some ⟨w.heap.size, 0, none⟩))) (w.alloc (.cells [.int .i64 0, .int .i64 0, .bool false].toArray 85)) := alloc_eq 85 (.agg #[.int .i64 0, .int .i64 0, .bool false]) (by kernel_rfl)
theorem al_86 {K : Fr → World → Prop} {f : Fr} {d : Option Nat} {w : World} : Eff1 Try.prog K (Instr.alloc 86 true (.tuple #[])) f d w = K (updO f d (.pointer (some ⟨w.heap.size, 0, none⟩))) (w.alloc (.cells [.int .i64 0, .int .i64 0, .int .i64 0].toArray 86)) := alloc_eq 86 (.agg #[.int .i64 0, .int .i64 0, .int .i64 0]) (by kernel_rfl)
theorem al_87 {K : Fr → World → Prop} {f : Fr} {d : Option Nat} {w : World} : Eff1 Try.prog K (Instr.alloc 87 true (.tuple #[])) f d w = K (updO f d (.pointer (some ⟨w.heap.size, 0, none⟩))) (w.alloc (.cells [.int .i64 0, .int .i64 0, .int .i64 0].toArray 87)) := alloc_eq 87 (.agg #[.int .i64 0, .int .i64 0, .int .i64 0]) (by kernel_rfl)
theorem al_92 {K : Fr → World → Prop} {f : Fr} {d : Option Nat} {w : World} : Eff1 Try.prog K (Instr.alloc 92 true (.tuple #[])) f d w = K (updO f d (.pointer (some ⟨w.heap.size, 0, none⟩))) (w.alloc (.cells [.int .u64 0, .int .u64 0, .int .u64 0, .int .u64 0, .int .u64 0, .int .u64 0, .int .u64 0, .int .u64 0].toArray 92)) := alloc_eq 92 (.agg #[.int .u64 0, .int .u64 0, .int .u64 0, .int .u64 0, .int .u64 0, .int .u64 0, .int .u64 0, .int .u64 0]) (by kernel_rfl)
theorem al_93 {K : Fr → World → Prop} {f : Fr} {d : Option Nat} {w : World} : Eff1 Try.prog K (Instr.alloc 93 true (.tuple #[])) f d w = K (updO f d (.pointer (some ⟨w.heap.size, 0, none⟩))) (w.alloc (.cells [.int .u64 0, .int .u64 0, .int .u64 0, .int .u64 0, .int .u64 0, .int .u64 0, .int .u64 0, .int .u64 0].toArray 93)) := alloc_eq 93 (.agg #[.int .u64 0, .int .u64 0, .int .u64 0, .int .u64 0, .int .u64 0, .int .u64 0, .int .u64 0, .int .u64 0]) (by kernel_rfl)
theorem slT_98 : SlT Try.prog 98 127 2 32 := ⟨by kernel_rfl, by kernel_rfl, by decide⟩
theorem bs_98 {K : Fr → World → Prop} {f : Fr} {d : Option Nat} {w : World} (x0 x1 : Value) : Eff1 Try.prog K (Instr.buildSlice 98 1 #[(0, .agg #[x0, x1])]) f d w = K (updO f d (.slice (some ⟨w.heap.size, 0, none⟩) 1 1)) (w.alloc (.cells [x0, x1].toArray 127)) := bsl1_eq slT_98 _ rfl (by decide)
theorem bs0_98 {K : Fr → World → Prop} {f : Fr} {d : Option Nat} {w : World} : Eff1 Try.prog K (Instr.buildSlice 98 0 #[]) f d w = K (updO f d (.slice (some ⟨w.heap.size, 0, none⟩) 0 0)) (w.alloc (.cells [].toArray 127)) := bsl0_eq slT_98
theorem al_98 {K : Fr → World → Prop} {f : Fr} {d : Option Nat} {w : World} : Eff1 Try.prog K (Instr.alloc 98 true (.tuple #[])) f d w = K (updO f d (.pointer (some ⟨w.heap.size, 0, none⟩))) (w.alloc (.cells [.slice none 0 0].toArray 98)) := alloc_eq 98 (.slice none 0 0) (by kernel_rfl)
theorem slT_100 : SlT Try.prog 100 98 1 24 := ⟨by kernel_rfl, by kernel_rfl, by decide⟩
theorem bs_100 {K : Fr → World → Prop} {f : Fr} {d : Option Nat} {w : World} (A : Option Addr) (n c : Nat) : Eff1 Try.prog K (Instr.buildSlice 100 1 #[(0, .slice A n c)]) f d w = K (updO f d (.slice (some ⟨w.heap.size, 0, none⟩) 1 1)) (w.alloc (.cells [.slice A n c].toArray 98)) := bsl1_eq slT_100 _ rfl (by decide)
theorem bs0_100 {K : Fr → World → Prop} {f : Fr} {d : Option Nat} {w : World} : Eff1 Try.prog K (Instr.buildSlice 100 0 #[]) f d w = K (updO f d (.slice (some ⟨w.heap.size, 0, none⟩) 0 0)) (w.alloc (.cells [].toArray 98)) := bsl0_eq slT_100
theorem al_100 {K : Fr → World → Prop} {f : Fr} {d : Option Nat} {w : World} : Eff1 Try.prog K (Instr.alloc 100 true (.tuple #[])) f d w = K (updO f d (.pointer (some ⟨w.heap.size, 0, none⟩))) (w.alloc (.cells [.slice none 0 0].toArray 100)) := alloc_eq 100 (.slice none 0 0) (by kernel_rfl)
theorem slT_101 : SlT Try.prog 101 22 1 24 := ⟨by kernel_rfl, by kernel_rfl, by decide⟩
theorem bs_101 {K : Fr → World → Prop} {f : Fr} {d : Option Nat} {w : World} (A : Option Addr) (n c : Nat) : Eff1 Try.prog K (Instr.buildSlice 101 1 #[(0, .slice A n c)]) f d w = K (updO f d (.slice (some ⟨w.heap.size, 0, none⟩) 1 1)) (w.alloc (.cells [.slice A n c].toArray 22)) := bsl1_eq slT_101 _ rfl (by decide)
theorem bs0_101 {K : Fr → World → Prop} {f : Fr} {d : Option Nat} {w : World} : Eff1 Try.prog K (Instr.buildSlice 101 0 #[]) f d w = K (updO f d (.slice (some ⟨w.heap.size, 0, none⟩) 0 0)) (w.alloc (.cells [].toArray 22)) := bsl0_eq slT_101
theorem al_101 {K : Fr → World → Prop} {f : Fr} {d : Option Nat} {w : World} : Eff1 Try.prog K (Instr.alloc 101 true (.tuple #[])) f d w = K (updO f d (.pointer (some ⟨w.heap.size, 0, none⟩))) (w.alloc (.cells [.slice none 0 0].toArray 101)) := alloc_eq 101 (.slice none 0 0) (by kernel_rfl)
theorem slT_110 : SlT Try.prog 110 113 3 72 := ⟨by kernel_rfl, by kernel_rfl, by decide⟩
theorem bs_110 {K : Fr → World → Prop} {f : Fr} {d : Option Nat} {w : World} (x0 x1 x2 : Value) : Eff1 Try.prog K (Instr.buildSlice 110 1 #[(0, .agg #[x0, x1, x2])]) f d w = K (updO f d (.slice (some ⟨w.heap.size, 0, none⟩) 1 1)) (w.alloc (.cells [x0, x1, x2].toArray 113)) := bsl1_eq slT_110 _ rfl (by decide)
theorem bs0_110 {K : Fr → World → Prop} {f : Fr} {d : Option Nat} {w : World} : Eff1 Try.prog K (Instr.buildSlice 110 0 #[]) f d w = K (updO f d (.slice (some ⟨w.heap.size, 0, none⟩) 0 0)) (w.alloc (.cells [].toArray 113)) := bsl0_eq slT_110
theorem al_110 {K : Fr → World → Prop} {f : Fr} {d : Option Nat} {w : World} : Eff1 Try.prog K (Instr.alloc 110 true (.tuple #[])) f d w = K (updO f d (.pointer (some ⟨w.heap.size, 0, none⟩))) (w.alloc (.cells [.slice none 0 0].toArray 110)) := alloc_eq 110 (.slice none 0 0) (by kernel_rfl)
theorem al_112 {K : Fr → World → Prop} {f : Fr} {d : Option Nat} {w : World} : Eff1 Try.prog K (Instr.alloc 112 true (.tuple #[])) f d w = K (updO f d (.pointer (some ⟨w.heap.size, 0, none⟩))) (w.alloc (.cells [.slice none 0 0, .slice none 0 0, .slice none 0 0].toArray 112)) := alloc_eq 112 (.agg #[.slice none 0 0, .slice none 0 0, .slice none 0 0]) (by kernel_rfl)
theorem al_113 {K : Fr → World → Prop} {f : Fr} {d : Option Nat} {w : World} : Eff1 Try.prog K (Instr.alloc 113 true (.tuple #[])) f d w = K (updO f d (.pointer (some ⟨w.heap.size, 0, none⟩))) (w.alloc (.cells [.slice none 0 0, .slice none 0 0, .slice none 0 0].toArray 113)) := alloc_eq 113 (.agg #[.slice none 0 0, .slice none 0 0, .slice none 0 0]) (by kernel_rfl)
theorem slT_115 : SlT Try.prog 115 4 1 1 := ⟨by kernel_rfl, by kernel_rfl, by decide⟩
theorem bs_115 {K : Fr → World → Prop} {f : Fr} {d : Option Nat} {w : World} (b : Bool) : Eff1 Try.prog K (Instr.buildSlice 115 1 #[(0, .bool b)]) f d w = K (updO f d (.slice (some ⟨w.heap.size, 0, none⟩) 1 1)) (w.alloc (.cells [.bool b].toArray 4)) := bsl1_eq slT_115 _ rfl (by decide)
theorem bs0_115 {K : Fr → World → Prop} {f : Fr} {d : Option Nat} {w : World} : Eff1 Try.prog K (Instr.buildSlice 115 0 #[]) f d w = K (updO f d (.slice (some ⟨w.heap.size, 0, none⟩) 0 0)) (w.alloc (.cells [].toArray 4)) := bsl0_eq slT_115
theorem al_115 {K : Fr → World → Prop} {f : Fr} {d : Option Nat} {w : World} : Eff1 Try.prog K (Instr.alloc 115 true (.tuple #[])) f d w = K (updO f d (.pointer (some ⟨w.heap.size, 0, none⟩))) (w.alloc (.cells [.slice none 0 0].toArray 115)) := alloc_eq 115 (.slice none 0 0) (by kernel_rfl)
theorem al_120 {K : Fr → World → Prop} {f : Fr} {d : Option Nat} {w : World} : Eff1 Try.prog K (Instr.alloc 120 true (.tuple #[])) f d w = K (updO f d (.pointer (some ⟨w.heap.size, 0, none⟩))) (w.alloc (.cells [.map none].toArray 120)) := alloc_eq 120 (.map none) (by kernel_rfl)
theorem al_121 {K : Fr → World → Prop} {f : Fr} {d : Option Nat} {w : World} : Eff1 Try.prog K (Instr.alloc 121 true (.tuple #[])) f d w = K (updO f d (.pointer (some ⟨w.heap.size, 0, none⟩))) (w.alloc (.cells [.int .u64 0, .int .u64 0, .int .u64 0, .int .u64 0, .int .u64 0, .int .u64 0, .int .u64 0, .int .u64 0, .int .i64 0, .int .i64 0].toArray 121)) := alloc_eq 121 (.agg #[.int .u64 0, .int .u64 0, .int .u64 0, .int .u64 0, .int .u64 0, .int .u64 0, .int .u64 0, .int .u64 0, .int .i64 0, .int .i64 0]) (by kernel_rfl)
theorem al_122 {K : Fr → World → Prop} {f : Fr} {d : Option Nat} {w : World} : Eff1 Try.prog K (Instr.alloc 122 true (.tuple #[])) f d w = K (updO f d (.pointer (some ⟨w.heap.size, 0, none⟩))) (w.alloc (.cells [.int .u64 0, .int .u64 0, .int .u64 0, .int .u64 0, .int .u64 0, .int .u64 0, .int .u64 0, .int .u64 0, .int .i64 0, .int .i64 0].toArray 122)) := alloc_eq 122 (.agg #[.int .u64 0, .int .u64 0, .int .u64 0, .int .u64 0, .int .u64 0, .int .u64 0, .int .u64 0, .int .u64 0, .int .i64 0, .int .i64 0]) (by kernel_rfl)
theorem slT_123 : SlT Try.prog 123 122 10 80 := ⟨by kernel_rfl, by kernel_rfl, by decide⟩
theorem bs_123 {K : Fr → World → Prop} {f : Fr} {d : Option Nat} {w : World} (x0 x1 x2 x3 x4 x5 x6 x7 x8 x9 : Value) : Eff1 Try.prog K (Instr.buildSlice 123 1 #[(0, .agg #[x0, x1, x2, x3, x4, x5, x6, x7, x8, x9])]) f d w = K (updO f d (.slice (some ⟨w.heap.size, 0, none⟩) 1 1)) (w.alloc (.cells [x0, x1, x2, x3, x4, x5, x6, x7, x8, x9].toArray 122)) := bsl1_eq slT_123 _ rfl (by decide)
theorem bs0_123 {K : Fr → World → Prop} {f : Fr} {d : Option Nat} {w : World} : Eff1 Try.prog K (Instr.buildSlice 123 0 #[]) f d w = K (updO f d (.slice (some ⟨w.heap.size, 0, none⟩) 0 0)) (w.alloc (.cells [].toArray 122)) := bsl0_eq slT_123
theorem al_123 {K : Fr → World → Prop} {f : Fr} {d : Option Nat} {w : World} : Eff1 Try.prog K (Instr.alloc 123 true (.tuple #[])) f d w = K (updO f d (.pointer (some ⟨w.heap.size, 0, none⟩))) (w.alloc (.cells [.slice none 0 0].toArray 123)) := alloc_eq 123 (.slice none 0 0) (by kernel_rfl)
theorem al_126 {K : Fr → World → Prop} {f : Fr} {d : Option Nat} {w : World} : Eff1 Try.prog K (Instr.alloc 126 true (.tuple #[])) f d w = K (updO f d (.pointer (some ⟨w.heap.size, 0, none⟩))) (w.alloc (.cells [.int .i64 0, .slice none 0 0].toArray 126)) := alloc_eq 126 (.agg #[.int .i64 0, .slice none 0 0]) (by kernel_rfl)
theorem al_127 {K : Fr → World → Prop} {f : Fr} {d : Option Nat} {w : World} : Eff1 Try.prog K (Instr.alloc 127 true (.tuple #[])) f d w = K (updO f d (.pointer (some ⟨w.heap.size, 0, none⟩))) (w.alloc (.cells [.int .i64 0, .slice none 0 0].toArray 127)) := alloc_eq 127 (.agg #[.int .i64 0, .slice none 0 0]) (by kernel_rfl)
theorem al_134 {K : Fr → World → Prop} {f : Fr} {d : Option Nat} {w : World} : Eff1 Try.prog K (Instr.alloc 134 true (.tuple #[])) f d w = K (updO f d (.pointer (some ⟨w.heap.size, 0, none⟩))) (w.alloc (.cells [.pointer none, .pointer none, .pointer none, .string ByteArray.empty].toArray 134)) := alloc_eq 134 (.agg #[.pointer none, .pointer none, .pointer none, .string ByteArray.empty]) (by kernel_rfl)
theorem al_135 {K : Fr → World → Prop} {f : Fr} {d : Option Nat} {w : World} : Eff1 Try.prog K (Instr.alloc 135 true (.tuple #[])) f d w = K (updO f d (.pointer (some ⟨w.heap.size, 0, none⟩))) (w.alloc (.cells [.pointer none, .pointer none, .pointer none, .string ByteArray.empty].toArray 135)) := alloc_eq 135 (.agg #[.pointer none, .pointer none, .pointer none, .string ByteArray.empty]) (by kernel_rfl)
theorem al_136 {K : Fr → World → Prop} {f : Fr} {d : Option Nat} {w : World} : Eff1 Try.prog K (Instr.alloc 136 true (.tuple #[])) f d w = K (updO f d (.pointer (some ⟨w.heap.size, 0, none⟩))) (w.alloc (.cells [].toArray 136)) := alloc_eq 136 (.agg #[]) (by kernel_rfl)
theorem al_137 {K : Fr → World → Prop} {f : Fr} {d : Option Nat} {w : World} : Eff1 Try.prog K (Instr.alloc 137 true (.tuple #[])) f d w = K (updO f d (.pointer (some ⟨w.heap.size, 0, none⟩))) (w.alloc (.cells [].toArray 137)) := alloc_eq 137 (.agg #[]) (by kernel_rfl)
theorem al_138 {K : Fr → World → Prop} {f : Fr} {d : Option Nat} {w : World} : Eff1 Try.prog K (Instr.alloc 138 true (.tuple #[])) f d w = K (updO f d (.pointer (some ⟨w.heap.size, 0, none⟩))) (w.alloc (.cells [].toArray 138)) := alloc_eq 138 (.agg #[]) (by kernel_rfl)
theorem al_140 {K : Fr → World → Prop} {f : Fr} {d : Option Nat} {w : World} : Eff1 Try.prog K (Instr.alloc 140 true (.tuple #[])) f d w = K (updO f d (.pointer (some ⟨w.heap.size, 0, none⟩))) (w.alloc (.cells [.int .u32 0].toArray 140)) := alloc_eq 140 (.int .u32 0) (by kernel_rfl)
theorem al_141 {K : Fr → World → Prop} {f : Fr} {d : Option Nat} {w : World} : Eff1 Try.prog K (Instr.alloc 141 true (.tuple #[])) f d w = K (updO f d (.pointer (some ⟨w.heap.size, 0, none⟩))) (w.alloc (.cells [.int .u8 0].toArray 141)) := alloc_eq 141 (.int .u8 0) (by kernel_rfl)
theorem al_142 {K : Fr → World → Prop} {f : Fr} {d : Option Nat} {w : World} : Eff1 Try.prog K (Instr.alloc 142 true (.tuple #[])) f d w = K (updO f d (.pointer (some ⟨w.heap.size, 0, none⟩))) (w.alloc (.cells [.int .u8 0].toArray 142)) := alloc_eq 142 (.int .u8 0) (by kernel_rfl)
theorem al_145 {K : Fr → World → Prop} {f : Fr} {d : Option Nat} {w : World} : Eff1 Try.prog K (Instr.alloc 145 true (.tuple #[])) f d w = K (updO f d (.pointer (some ⟨w.heap.size, 0, none⟩))) (w.alloc (.cells [.int .i32 0].toArray 145)) := alloc_eq 145 (.int .i32 0) (by kernel_rfl)
theorem al_146 {K : Fr → World → Prop} {f : Fr} {d : Option Nat} {w : World} : Eff1 Try.prog K (Instr.alloc 146 true (.tuple #[])) f d w = K (updO f d (.pointer (some ⟨w.heap.size, 0, none⟩))) (w.alloc (.cells [.int .i32 0].toArray 146)) := alloc_eq 146 (.int .i32 0) (by kernel_rfl)
theorem al_147 {K : Fr → World → Prop} {f : Fr} {d : Option Nat} {w : World} : Eff1 Try.prog K (Instr.alloc 147 true (.tuple #[])) f d w = K (updO f d (.pointer (some ⟨w.heap.size, 0, none⟩))) (w.alloc (.cells [.int .u64 0, .int .u64 0, .int .u32 0, .int .u8 0, .int .u8 0, .int .u8 0, .int .u8 0, .nilFunc, .pointer none, .int .i32 0, .int .i32 0].toArray 147)) := alloc_eq 147 (.agg #[.int .u64 0, .int .u64 0, .int .u32 0, .int .u8 0, .int .u8 0, .int .u8 0, .int .u8 0, .nilFunc, .pointer none, .int .i32 0, .int .i32 0]) (by kernel_rfl)
theorem al_148 {K : Fr → World → Prop} {f : Fr} {d : Option Nat} {w : World} : Eff1 Try.prog K (Instr.alloc 148 true (.tuple #[])) f d w = K (updO f d (.pointer (some ⟨w.heap.size, 0, none⟩))) (w.alloc (.cells [.int .u64 0, .int .u64 0, .int .u32 0, .int .u8 0, .int .u8 0, .int .u8 0, .int .u8 0, .nilFunc, .pointer none, .int .i32 0, .int .i32 0].toArray 148)) := alloc_eq 148 (.agg #[.int .u64 0, .int .u64 0, .int .u32 0, .int .u8 0, .int .u8 0, .int .u8 0, .int .u8 0, .nilFunc, .pointer none, .int .i32 0, .int .i32 0]) (by kernel_rfl)
attribute [push_cast] fd_7_0 fd_7_1 fd_7_2 fd_7_3 fd_8_0 fd_8_1 fd_8_2 fd_8_3 fd_13_0 fd_13_1 fd_14_0 fd_14_1 fd_18_0 fd_19_0 ix_22 ln_22 ix_31 ln_31 fd_32_0 fd_32_1 fd_32_2 fd_32_3 fd_32_4 fd_33_0 fd_33_1 fd_33_2 fd_33_3 fd_33_4 fd_47_0 fd_47_1 fd_47_2 fd_48_0 fd_48_1 fd_48_2 fd_53_0 fd_53_1 fd_53_2 fd_54_0 fd_54_1 fd_54_2 ix_59 ix_60 ix_72 ix_73 ix_74 ln_74 fd_75_0 fd_75_1 fd_75_2 fd_75_3 fd_75_4 fd_75_5 fd_76_0 fd_76_1 fd_76_2 fd_76_3 fd_76_4 fd_76_5 fd_78_0 fd_78_1 fd_78_2 fd_79_0 fd_79_1 fd_79_2 ix_80 ln_80 ix_81 ln_81 fd_84_0 fd_84_1 fd_84_2 fd_85_0 fd_85_1 fd_85_2 fd_86_0 fd_86_1 fd_86_2 fd_87_0 fd_87_1 fd_87_2 fd_92_0 fd_92_1 fd_93_0 fd_93_1 ix_98 ln_98 ix_100 ln_100 ix_101 ln_101 ix_110 ln_110 fd_112_0 fd_112_1 fd_112_2 fd_113_0 fd_113_1 fd_113_2 ix_115 ln_115 fd_121_0 fd_121_1 fd_121_2 fd_122_0 fd_122_1 fd_122_2 ix_123 ln_123 fd_126_0 fd_126_1 fd_127_0 fd_127_1 fd_134_0 fd_134_1 fd_134_2 fd_134_3 fd_135_0 fd_135_1 fd_135_2 fd_135_3 ix_136 fd_147_0 fd_147_1 fd_147_2 fd_147_3 fd_147_4 fd_147_5 fd_147_6 fd_147_7 fd_147_8 fd_147_9 fd_147_10 fd_148_0 fd_148_1 fd_148_2 fd_148_3 fd_148_4 fd_148_5 fd_148_6 fd_148_7 fd_148_8 fd_148_9 fd_148_10 eqb_4 neb_4 bs_22 bs0_22 bs_31 bs0_31 bs_74 bs0_74 bs_80 bs0_80 bs_81 bs0_81 bs_98 bs0_98 bs_100 bs0_100 bs_101 bs0_101 bs_110 bs0_110 bs_115 bs0_115 bs_123 bs0_123
end Go.Proofs.Ytkemapljhmoafaa
