/-
  Closed facts on the seat's types (by program: tygen.py).
-/
import Derived.Test.YtcjinmgieiebbaaProg
import Derived.Test.YtcjinmgieiebbaaZLaws
import Derived.KernelRfl
namespace Go.Proofs.Ytcjinmgieiebbaa
theorem ty_ag_3 : tyAgg Try.prog 3 = some false := by kernel_rfl
theorem ty_sz_int : tySize Try.prog 3 = some 1 := by kernel_rfl
theorem ty_fl_7_0 : tyFld Try.prog 7 0 = some 0 := by kernel_rfl
theorem ty_fl_7_1 : tyFld Try.prog 7 1 = some 1 := by kernel_rfl
theorem ty_fl_7_2 : tyFld Try.prog 7 2 = some 2 := by kernel_rfl
theorem ty_fl_7_3 : tyFld Try.prog 7 3 = some 3 := by kernel_rfl
theorem ty_fl_8_0 : tyFld Try.prog 8 0 = some 0 := by kernel_rfl
theorem ty_fl_8_1 : tyFld Try.prog 8 1 = some 1 := by kernel_rfl
theorem ty_fl_8_2 : tyFld Try.prog 8 2 = some 2 := by kernel_rfl
theorem ty_fl_8_3 : tyFld Try.prog 8 3 = some 3 := by kernel_rfl
theorem ty_fl_13_0 : tyFld Try.prog 13 0 = some 0 := by kernel_rfl
theorem ty_fl_13_1 : tyFld Try.prog 13 1 = some 1 := by kernel_rfl
theorem ty_fl_14_0 : tyFld Try.prog 14 0 = some 0 := by kernel_rfl
theorem ty_fl_14_1 : tyFld Try.prog 14 1 = some 1 := by kernel_rfl
theorem ty_fl_18_0 : tyFld Try.prog 18 0 = some 0 := by kernel_rfl
theorem ty_fl_19_0 : tyFld Try.prog 19 0 = some 0 := by kernel_rfl
theorem ty_ag_22 : tyAgg Try.prog 22 = some false := by kernel_rfl
theorem ty_sl_22 : tySl Try.prog 22 = some 1 := by kernel_rfl
theorem ty_ag_23 : tyAgg Try.prog 23 = some false := by kernel_rfl
theorem ty_sl_23 : tySl Try.prog 23 = some 3 := by kernel_rfl
theorem ty_fl_24_0 : tyFld Try.prog 24 0 = some 0 := by kernel_rfl
theorem ty_fl_24_1 : tyFld Try.prog 24 1 = some 1 := by kernel_rfl
theorem ty_fl_24_2 : tyFld Try.prog 24 2 = some 2 := by kernel_rfl
theorem ty_fl_24_3 : tyFld Try.prog 24 3 = some 3 := by kernel_rfl
theorem ty_fl_24_4 : tyFld Try.prog 24 4 = some 4 := by kernel_rfl
theorem ty_ag_25 : tyAgg Try.prog 25 = some true := by kernel_rfl
theorem ty_sz_25 : tySize Try.prog 25 = some 5 := by kernel_rfl
theorem ty_fl_25_0 : tyFld Try.prog 25 0 = some 0 := by kernel_rfl
theorem ty_fl_25_1 : tyFld Try.prog 25 1 = some 1 := by kernel_rfl
theorem ty_fl_25_2 : tyFld Try.prog 25 2 = some 2 := by kernel_rfl
theorem ty_fl_25_3 : tyFld Try.prog 25 3 = some 3 := by kernel_rfl
theorem ty_fl_25_4 : tyFld Try.prog 25 4 = some 4 := by kernel_rfl
theorem ty_fl_35_0 : tyFld Try.prog 35 0 = some 0 := by kernel_rfl
theorem ty_fl_35_1 : tyFld Try.prog 35 1 = some 5 := by kernel_rfl
theorem ty_fl_35_2 : tyFld Try.prog 35 2 = some 6 := by kernel_rfl
theorem ty_ag_36 : tyAgg Try.prog 36 = some true := by kernel_rfl
theorem ty_sz_36 : tySize Try.prog 36 = some 7 := by kernel_rfl
theorem ty_fl_36_0 : tyFld Try.prog 36 0 = some 0 := by kernel_rfl
theorem ty_fl_36_1 : tyFld Try.prog 36 1 = some 5 := by kernel_rfl
theorem ty_fl_36_2 : tyFld Try.prog 36 2 = some 6 := by kernel_rfl
theorem ty_ag_44 : tyAgg Try.prog 44 = some false := by kernel_rfl
theorem ty_ar_45 : tyArr Try.prog 45 = some (4, 1) := by kernel_rfl
theorem ty_ag_46 : tyAgg Try.prog 46 = some true := by kernel_rfl
theorem ty_sz_46 : tySize Try.prog 46 = some 4 := by kernel_rfl
theorem ty_ar_46 : tyArr Try.prog 46 = some (4, 1) := by kernel_rfl
theorem ty_fl_51_0 : tyFld Try.prog 51 0 = some 0 := by kernel_rfl
theorem ty_fl_51_1 : tyFld Try.prog 51 1 = some 4 := by kernel_rfl
theorem ty_ag_52 : tyAgg Try.prog 52 = some true := by kernel_rfl
theorem ty_sz_52 : tySize Try.prog 52 = some 8 := by kernel_rfl
theorem ty_fl_52_0 : tyFld Try.prog 52 0 = some 0 := by kernel_rfl
theorem ty_fl_52_1 : tyFld Try.prog 52 1 = some 4 := by kernel_rfl
theorem ty_fl_58_0 : tyFld Try.prog 58 0 = some 0 := by kernel_rfl
theorem ty_fl_58_1 : tyFld Try.prog 58 1 = some 1 := by kernel_rfl
theorem ty_fl_58_2 : tyFld Try.prog 58 2 = some 2 := by kernel_rfl
theorem ty_ag_59 : tyAgg Try.prog 59 = some true := by kernel_rfl
theorem ty_sz_59 : tySize Try.prog 59 = some 3 := by kernel_rfl
theorem ty_fl_59_0 : tyFld Try.prog 59 0 = some 0 := by kernel_rfl
theorem ty_fl_59_1 : tyFld Try.prog 59 1 = some 1 := by kernel_rfl
theorem ty_fl_59_2 : tyFld Try.prog 59 2 = some 2 := by kernel_rfl
theorem ty_ag_62 : tyAgg Try.prog 62 = some false := by kernel_rfl
theorem ty_sl_62 : tySl Try.prog 62 = some 2 := by kernel_rfl
theorem ty_sl_64 : tySl Try.prog 64 = some 1 := by kernel_rfl
theorem ty_sl_65 : tySl Try.prog 65 = some 1 := by kernel_rfl
theorem ty_sl_73 : tySl Try.prog 73 = some 5 := by kernel_rfl
theorem ty_fl_76_0 : tyFld Try.prog 76 0 = some 0 := by kernel_rfl
theorem ty_fl_76_1 : tyFld Try.prog 76 1 = some 4 := by kernel_rfl
theorem ty_fl_77_0 : tyFld Try.prog 77 0 = some 0 := by kernel_rfl
theorem ty_fl_77_1 : tyFld Try.prog 77 1 = some 4 := by kernel_rfl
theorem ty_sl_80 : tySl Try.prog 80 = some 2 := by kernel_rfl
theorem ty_fl_82_0 : tyFld Try.prog 82 0 = some 0 := by kernel_rfl
theorem ty_fl_82_1 : tyFld Try.prog 82 1 = some 1 := by kernel_rfl
theorem ty_fl_83_0 : tyFld Try.prog 83 0 = some 0 := by kernel_rfl
theorem ty_fl_83_1 : tyFld Try.prog 83 1 = some 1 := by kernel_rfl
theorem ty_fl_90_0 : tyFld Try.prog 90 0 = some 0 := by kernel_rfl
theorem ty_fl_90_1 : tyFld Try.prog 90 1 = some 8 := by kernel_rfl
theorem ty_fl_90_2 : tyFld Try.prog 90 2 = some 9 := by kernel_rfl
theorem ty_fl_91_0 : tyFld Try.prog 91 0 = some 0 := by kernel_rfl
theorem ty_fl_91_1 : tyFld Try.prog 91 1 = some 8 := by kernel_rfl
theorem ty_fl_91_2 : tyFld Try.prog 91 2 = some 9 := by kernel_rfl
theorem ty_sl_92 : tySl Try.prog 92 = some 10 := by kernel_rfl
theorem ty_fl_97_0 : tyFld Try.prog 97 0 = some 0 := by kernel_rfl
theorem ty_fl_97_1 : tyFld Try.prog 97 1 = some 1 := by kernel_rfl
theorem ty_ag_98 : tyAgg Try.prog 98 = some true := by kernel_rfl
theorem ty_sz_98 : tySize Try.prog 98 = some 2 := by kernel_rfl
theorem ty_fl_98_0 : tyFld Try.prog 98 0 = some 0 := by kernel_rfl
theorem ty_fl_98_1 : tyFld Try.prog 98 1 = some 1 := by kernel_rfl
theorem ty_fl_109_0 : tyFld Try.prog 109 0 = some 0 := by kernel_rfl
theorem ty_fl_109_1 : tyFld Try.prog 109 1 = some 1 := by kernel_rfl
theorem ty_fl_109_2 : tyFld Try.prog 109 2 = some 2 := by kernel_rfl
theorem ty_fl_109_3 : tyFld Try.prog 109 3 = some 3 := by kernel_rfl
theorem ty_fl_110_0 : tyFld Try.prog 110 0 = some 0 := by kernel_rfl
theorem ty_fl_110_1 : tyFld Try.prog 110 1 = some 1 := by kernel_rfl
theorem ty_fl_110_2 : tyFld Try.prog 110 2 = some 2 := by kernel_rfl
theorem ty_fl_110_3 : tyFld Try.prog 110 3 = some 3 := by kernel_rfl
theorem ty_ar_111 : tyArr Try.prog 111 = some (0, 1) := by kernel_rfl
theorem ty_fl_122_0 : tyFld Try.prog 122 0 = some 0 := by kernel_rfl
theorem ty_fl_122_1 : tyFld Try.prog 122 1 = some 1 := by kernel_rfl
theorem ty_fl_122_2 : tyFld Try.prog 122 2 = some 2 := by kernel_rfl
theorem ty_fl_122_3 : tyFld Try.prog 122 3 = some 3 := by kernel_rfl
theorem ty_fl_122_4 : tyFld Try.prog 122 4 = some 4 := by kernel_rfl
theorem ty_fl_122_5 : tyFld Try.prog 122 5 = some 5 := by kernel_rfl
theorem ty_fl_122_6 : tyFld Try.prog 122 6 = some 6 := by kernel_rfl
theorem ty_fl_122_7 : tyFld Try.prog 122 7 = some 7 := by kernel_rfl
theorem ty_fl_122_8 : tyFld Try.prog 122 8 = some 8 := by kernel_rfl
theorem ty_fl_122_9 : tyFld Try.prog 122 9 = some 9 := by kernel_rfl
theorem ty_fl_122_10 : tyFld Try.prog 122 10 = some 10 := by kernel_rfl
theorem ty_fl_123_0 : tyFld Try.prog 123 0 = some 0 := by kernel_rfl
theorem ty_fl_123_1 : tyFld Try.prog 123 1 = some 1 := by kernel_rfl
theorem ty_fl_123_2 : tyFld Try.prog 123 2 = some 2 := by kernel_rfl
theorem ty_fl_123_3 : tyFld Try.prog 123 3 = some 3 := by kernel_rfl
theorem ty_fl_123_4 : tyFld Try.prog 123 4 = some 4 := by kernel_rfl
theorem ty_fl_123_5 : tyFld Try.prog 123 5 = some 5 := by kernel_rfl
theorem ty_fl_123_6 : tyFld Try.prog 123 6 = some 6 := by kernel_rfl
theorem ty_fl_123_7 : tyFld Try.prog 123 7 = some 7 := by kernel_rfl
theorem ty_fl_123_8 : tyFld Try.prog 123 8 = some 8 := by kernel_rfl
theorem ty_fl_123_9 : tyFld Try.prog 123 9 = some 9 := by kernel_rfl
theorem ty_fl_123_10 : tyFld Try.prog 123 10 = some 10 := by kernel_rfl
theorem fd_7_0 {K : Fr → World → Prop} {u : World} {f : Fr} {d : Option Nat} {w : World} (a : Addr) : Val1 Try.prog K (Instr.fieldAt 7 (.pointer (some a)) 0) u f d w = K (updO f d (.pointer (some (a.add 0)))) w := by
  rw [fld_ptr u f d w 7 0 (by rw [ty_fl_7_0]; rfl) a, ty_fl_7_0]; rfl
theorem fd_7_1 {K : Fr → World → Prop} {u : World} {f : Fr} {d : Option Nat} {w : World} (a : Addr) : Val1 Try.prog K (Instr.fieldAt 7 (.pointer (some a)) 1) u f d w = K (updO f d (.pointer (some (a.add 1)))) w := by
  rw [fld_ptr u f d w 7 1 (by rw [ty_fl_7_1]; rfl) a, ty_fl_7_1]; rfl
theorem fd_7_2 {K : Fr → World → Prop} {u : World} {f : Fr} {d : Option Nat} {w : World} (a : Addr) : Val1 Try.prog K (Instr.fieldAt 7 (.pointer (some a)) 2) u f d w = K (updO f d (.pointer (some (a.add 2)))) w := by
  rw [fld_ptr u f d w 7 2 (by rw [ty_fl_7_2]; rfl) a, ty_fl_7_2]; rfl
theorem fd_7_3 {K : Fr → World → Prop} {u : World} {f : Fr} {d : Option Nat} {w : World} (a : Addr) : Val1 Try.prog K (Instr.fieldAt 7 (.pointer (some a)) 3) u f d w = K (updO f d (.pointer (some (a.add 3)))) w := by
  rw [fld_ptr u f d w 7 3 (by rw [ty_fl_7_3]; rfl) a, ty_fl_7_3]; rfl
theorem fd_8_0 {K : Fr → World → Prop} {u : World} {f : Fr} {d : Option Nat} {w : World} (a : Addr) : Val1 Try.prog K (Instr.fieldAt 8 (.pointer (some a)) 0) u f d w = K (updO f d (.pointer (some (a.add 0)))) w := by
  rw [fld_ptr u f d w 8 0 (by rw [ty_fl_8_0]; rfl) a, ty_fl_8_0]; rfl
theorem fd_8_1 {K : Fr → World → Prop} {u : World} {f : Fr} {d : Option Nat} {w : World} (a : Addr) : Val1 Try.prog K (Instr.fieldAt 8 (.pointer (some a)) 1) u f d w = K (updO f d (.pointer (some (a.add 1)))) w := by
  rw [fld_ptr u f d w 8 1 (by rw [ty_fl_8_1]; rfl) a, ty_fl_8_1]; rfl
theorem fd_8_2 {K : Fr → World → Prop} {u : World} {f : Fr} {d : Option Nat} {w : World} (a : Addr) : Val1 Try.prog K (Instr.fieldAt 8 (.pointer (some a)) 2) u f d w = K (updO f d (.pointer (some (a.add 2)))) w := by
  rw [fld_ptr u f d w 8 2 (by rw [ty_fl_8_2]; rfl) a, ty_fl_8_2]; rfl
theorem fd_8_3 {K : Fr → World → Prop} {u : World} {f : Fr} {d : Option Nat} {w : World} (a : Addr) : Val1 Try.prog K (Instr.fieldAt 8 (.pointer (some a)) 3) u f d w = K (updO f d (.pointer (some (a.add 3)))) w := by
  rw [fld_ptr u f d w 8 3 (by rw [ty_fl_8_3]; rfl) a, ty_fl_8_3]; rfl
theorem fd_13_0 {K : Fr → World → Prop} {u : World} {f : Fr} {d : Option Nat} {w : World} (a : Addr) : Val1 Try.prog K (Instr.fieldAt 13 (.pointer (some a)) 0) u f d w = K (updO f d (.pointer (some (a.add 0)))) w := by
  rw [fld_ptr u f d w 13 0 (by rw [ty_fl_13_0]; rfl) a, ty_fl_13_0]; rfl
theorem fd_13_1 {K : Fr → World → Prop} {u : World} {f : Fr} {d : Option Nat} {w : World} (a : Addr) : Val1 Try.prog K (Instr.fieldAt 13 (.pointer (some a)) 1) u f d w = K (updO f d (.pointer (some (a.add 1)))) w := by
  rw [fld_ptr u f d w 13 1 (by rw [ty_fl_13_1]; rfl) a, ty_fl_13_1]; rfl
theorem fd_14_0 {K : Fr → World → Prop} {u : World} {f : Fr} {d : Option Nat} {w : World} (a : Addr) : Val1 Try.prog K (Instr.fieldAt 14 (.pointer (some a)) 0) u f d w = K (updO f d (.pointer (some (a.add 0)))) w := by
  rw [fld_ptr u f d w 14 0 (by rw [ty_fl_14_0]; rfl) a, ty_fl_14_0]; rfl
theorem fd_14_1 {K : Fr → World → Prop} {u : World} {f : Fr} {d : Option Nat} {w : World} (a : Addr) : Val1 Try.prog K (Instr.fieldAt 14 (.pointer (some a)) 1) u f d w = K (updO f d (.pointer (some (a.add 1)))) w := by
  rw [fld_ptr u f d w 14 1 (by rw [ty_fl_14_1]; rfl) a, ty_fl_14_1]; rfl
theorem fd_18_0 {K : Fr → World → Prop} {u : World} {f : Fr} {d : Option Nat} {w : World} (a : Addr) : Val1 Try.prog K (Instr.fieldAt 18 (.pointer (some a)) 0) u f d w = K (updO f d (.pointer (some (a.add 0)))) w := by
  rw [fld_ptr u f d w 18 0 (by rw [ty_fl_18_0]; rfl) a, ty_fl_18_0]; rfl
theorem fd_19_0 {K : Fr → World → Prop} {u : World} {f : Fr} {d : Option Nat} {w : World} (a : Addr) : Val1 Try.prog K (Instr.fieldAt 19 (.pointer (some a)) 0) u f d w = K (updO f d (.pointer (some (a.add 0)))) w := by
  rw [fld_ptr u f d w 19 0 (by rw [ty_fl_19_0]; rfl) a, ty_fl_19_0]; rfl
theorem ix_22 {K : Fr → World → Prop} {u : World} {f : Fr} {d : Option Nat} {w : World} (A : Option Addr) (hA : A.isSome = true) (n c : Nat) (k : IntKind) (i : Int) (h0 : 0 ≤ i) (h1 : i < n) : Val1 Try.prog K (Instr.indexAt 22 (.slice A n c) (.int k i)) u f d w = K (updO f d (.pointer (some (eA A (i.toNat * 1))))) w := by
  rw [idx_sl u f d w 22 (by rw [ty_sl_22]; rfl) A hA n c k i h0 h1, ty_sl_22]; rfl
theorem ln_22 {K : Fr → World → Prop} {u : World} {f : Fr} {d : Option Nat} {w : World} (ty : TypeId) (A : Option Addr) (n c : Nat) : Val1 Try.prog K (Builtin.len_ #[22] ty #[.slice A n c]) u f d w = K (updO f d (.int .i64 n)) w := len_sl u f d w ty 22 (by rw [ty_sl_22]; rfl) A n c
theorem ix_23 {K : Fr → World → Prop} {u : World} {f : Fr} {d : Option Nat} {w : World} (A : Option Addr) (hA : A.isSome = true) (n c : Nat) (k : IntKind) (i : Int) (h0 : 0 ≤ i) (h1 : i < n) : Val1 Try.prog K (Instr.indexAt 23 (.slice A n c) (.int k i)) u f d w = K (updO f d (.pointer (some (eA A (i.toNat * 3))))) w := by
  rw [idx_sl u f d w 23 (by rw [ty_sl_23]; rfl) A hA n c k i h0 h1, ty_sl_23]; rfl
theorem ln_23 {K : Fr → World → Prop} {u : World} {f : Fr} {d : Option Nat} {w : World} (ty : TypeId) (A : Option Addr) (n c : Nat) : Val1 Try.prog K (Builtin.len_ #[23] ty #[.slice A n c]) u f d w = K (updO f d (.int .i64 n)) w := len_sl u f d w ty 23 (by rw [ty_sl_23]; rfl) A n c
theorem fd_24_0 {K : Fr → World → Prop} {u : World} {f : Fr} {d : Option Nat} {w : World} (a : Addr) : Val1 Try.prog K (Instr.fieldAt 24 (.pointer (some a)) 0) u f d w = K (updO f d (.pointer (some (a.add 0)))) w := by
  rw [fld_ptr u f d w 24 0 (by rw [ty_fl_24_0]; rfl) a, ty_fl_24_0]; rfl
theorem fd_24_1 {K : Fr → World → Prop} {u : World} {f : Fr} {d : Option Nat} {w : World} (a : Addr) : Val1 Try.prog K (Instr.fieldAt 24 (.pointer (some a)) 1) u f d w = K (updO f d (.pointer (some (a.add 1)))) w := by
  rw [fld_ptr u f d w 24 1 (by rw [ty_fl_24_1]; rfl) a, ty_fl_24_1]; rfl
theorem fd_24_2 {K : Fr → World → Prop} {u : World} {f : Fr} {d : Option Nat} {w : World} (a : Addr) : Val1 Try.prog K (Instr.fieldAt 24 (.pointer (some a)) 2) u f d w = K (updO f d (.pointer (some (a.add 2)))) w := by
  rw [fld_ptr u f d w 24 2 (by rw [ty_fl_24_2]; rfl) a, ty_fl_24_2]; rfl
theorem fd_24_3 {K : Fr → World → Prop} {u : World} {f : Fr} {d : Option Nat} {w : World} (a : Addr) : Val1 Try.prog K (Instr.fieldAt 24 (.pointer (some a)) 3) u f d w = K (updO f d (.pointer (some (a.add 3)))) w := by
  rw [fld_ptr u f d w 24 3 (by rw [ty_fl_24_3]; rfl) a, ty_fl_24_3]; rfl
theorem fd_24_4 {K : Fr → World → Prop} {u : World} {f : Fr} {d : Option Nat} {w : World} (a : Addr) : Val1 Try.prog K (Instr.fieldAt 24 (.pointer (some a)) 4) u f d w = K (updO f d (.pointer (some (a.add 4)))) w := by
  rw [fld_ptr u f d w 24 4 (by rw [ty_fl_24_4]; rfl) a, ty_fl_24_4]; rfl
theorem fd_25_0 {K : Fr → World → Prop} {u : World} {f : Fr} {d : Option Nat} {w : World} (a : Addr) : Val1 Try.prog K (Instr.fieldAt 25 (.pointer (some a)) 0) u f d w = K (updO f d (.pointer (some (a.add 0)))) w := by
  rw [fld_ptr u f d w 25 0 (by rw [ty_fl_25_0]; rfl) a, ty_fl_25_0]; rfl
theorem fd_25_1 {K : Fr → World → Prop} {u : World} {f : Fr} {d : Option Nat} {w : World} (a : Addr) : Val1 Try.prog K (Instr.fieldAt 25 (.pointer (some a)) 1) u f d w = K (updO f d (.pointer (some (a.add 1)))) w := by
  rw [fld_ptr u f d w 25 1 (by rw [ty_fl_25_1]; rfl) a, ty_fl_25_1]; rfl
theorem fd_25_2 {K : Fr → World → Prop} {u : World} {f : Fr} {d : Option Nat} {w : World} (a : Addr) : Val1 Try.prog K (Instr.fieldAt 25 (.pointer (some a)) 2) u f d w = K (updO f d (.pointer (some (a.add 2)))) w := by
  rw [fld_ptr u f d w 25 2 (by rw [ty_fl_25_2]; rfl) a, ty_fl_25_2]; rfl
theorem fd_25_3 {K : Fr → World → Prop} {u : World} {f : Fr} {d : Option Nat} {w : World} (a : Addr) : Val1 Try.prog K (Instr.fieldAt 25 (.pointer (some a)) 3) u f d w = K (updO f d (.pointer (some (a.add 3)))) w := by
  rw [fld_ptr u f d w 25 3 (by rw [ty_fl_25_3]; rfl) a, ty_fl_25_3]; rfl
theorem fd_25_4 {K : Fr → World → Prop} {u : World} {f : Fr} {d : Option Nat} {w : World} (a : Addr) : Val1 Try.prog K (Instr.fieldAt 25 (.pointer (some a)) 4) u f d w = K (updO f d (.pointer (some (a.add 4)))) w := by
  rw [fld_ptr u f d w 25 4 (by rw [ty_fl_25_4]; rfl) a, ty_fl_25_4]; rfl
theorem fd_35_0 {K : Fr → World → Prop} {u : World} {f : Fr} {d : Option Nat} {w : World} (a : Addr) : Val1 Try.prog K (Instr.fieldAt 35 (.pointer (some a)) 0) u f d w = K (updO f d (.pointer (some (a.add 0)))) w := by
  rw [fld_ptr u f d w 35 0 (by rw [ty_fl_35_0]; rfl) a, ty_fl_35_0]; rfl
theorem fd_35_1 {K : Fr → World → Prop} {u : World} {f : Fr} {d : Option Nat} {w : World} (a : Addr) : Val1 Try.prog K (Instr.fieldAt 35 (.pointer (some a)) 1) u f d w = K (updO f d (.pointer (some (a.add 5)))) w := by
  rw [fld_ptr u f d w 35 1 (by rw [ty_fl_35_1]; rfl) a, ty_fl_35_1]; rfl
theorem fd_35_2 {K : Fr → World → Prop} {u : World} {f : Fr} {d : Option Nat} {w : World} (a : Addr) : Val1 Try.prog K (Instr.fieldAt 35 (.pointer (some a)) 2) u f d w = K (updO f d (.pointer (some (a.add 6)))) w := by
  rw [fld_ptr u f d w 35 2 (by rw [ty_fl_35_2]; rfl) a, ty_fl_35_2]; rfl
theorem fd_36_0 {K : Fr → World → Prop} {u : World} {f : Fr} {d : Option Nat} {w : World} (a : Addr) : Val1 Try.prog K (Instr.fieldAt 36 (.pointer (some a)) 0) u f d w = K (updO f d (.pointer (some (a.add 0)))) w := by
  rw [fld_ptr u f d w 36 0 (by rw [ty_fl_36_0]; rfl) a, ty_fl_36_0]; rfl
theorem fd_36_1 {K : Fr → World → Prop} {u : World} {f : Fr} {d : Option Nat} {w : World} (a : Addr) : Val1 Try.prog K (Instr.fieldAt 36 (.pointer (some a)) 1) u f d w = K (updO f d (.pointer (some (a.add 5)))) w := by
  rw [fld_ptr u f d w 36 1 (by rw [ty_fl_36_1]; rfl) a, ty_fl_36_1]; rfl
theorem fd_36_2 {K : Fr → World → Prop} {u : World} {f : Fr} {d : Option Nat} {w : World} (a : Addr) : Val1 Try.prog K (Instr.fieldAt 36 (.pointer (some a)) 2) u f d w = K (updO f d (.pointer (some (a.add 6)))) w := by
  rw [fld_ptr u f d w 36 2 (by rw [ty_fl_36_2]; rfl) a, ty_fl_36_2]; rfl
theorem ix_45 {K : Fr → World → Prop} {u : World} {f : Fr} {d : Option Nat} {w : World} (a : Addr) (k : IntKind) (i : Int) (h0 : 0 ≤ i) (h1 : i < 4) : Val1 Try.prog K (Instr.indexAt 45 (.pointer (some a)) (.int k i)) u f d w = K (updO f d (.pointer (some (a.add (i.toNat * 1))))) w := by
  rw [idx_arr u f d w 45 (by rw [ty_ar_45]; rfl) a k i h0 (by rw [ty_ar_45]; exact h1), ty_ar_45]; rfl
theorem ix_46 {K : Fr → World → Prop} {u : World} {f : Fr} {d : Option Nat} {w : World} (a : Addr) (k : IntKind) (i : Int) (h0 : 0 ≤ i) (h1 : i < 4) : Val1 Try.prog K (Instr.indexAt 46 (.pointer (some a)) (.int k i)) u f d w = K (updO f d (.pointer (some (a.add (i.toNat * 1))))) w := by
  rw [idx_arr u f d w 46 (by rw [ty_ar_46]; rfl) a k i h0 (by rw [ty_ar_46]; exact h1), ty_ar_46]; rfl
theorem fd_51_0 {K : Fr → World → Prop} {u : World} {f : Fr} {d : Option Nat} {w : World} (a : Addr) : Val1 Try.prog K (Instr.fieldAt 51 (.pointer (some a)) 0) u f d w = K (updO f d (.pointer (some (a.add 0)))) w := by
  rw [fld_ptr u f d w 51 0 (by rw [ty_fl_51_0]; rfl) a, ty_fl_51_0]; rfl
theorem fd_51_1 {K : Fr → World → Prop} {u : World} {f : Fr} {d : Option Nat} {w : World} (a : Addr) : Val1 Try.prog K (Instr.fieldAt 51 (.pointer (some a)) 1) u f d w = K (updO f d (.pointer (some (a.add 4)))) w := by
  rw [fld_ptr u f d w 51 1 (by rw [ty_fl_51_1]; rfl) a, ty_fl_51_1]; rfl
theorem fd_52_0 {K : Fr → World → Prop} {u : World} {f : Fr} {d : Option Nat} {w : World} (a : Addr) : Val1 Try.prog K (Instr.fieldAt 52 (.pointer (some a)) 0) u f d w = K (updO f d (.pointer (some (a.add 0)))) w := by
  rw [fld_ptr u f d w 52 0 (by rw [ty_fl_52_0]; rfl) a, ty_fl_52_0]; rfl
theorem fd_52_1 {K : Fr → World → Prop} {u : World} {f : Fr} {d : Option Nat} {w : World} (a : Addr) : Val1 Try.prog K (Instr.fieldAt 52 (.pointer (some a)) 1) u f d w = K (updO f d (.pointer (some (a.add 4)))) w := by
  rw [fld_ptr u f d w 52 1 (by rw [ty_fl_52_1]; rfl) a, ty_fl_52_1]; rfl
theorem fd_58_0 {K : Fr → World → Prop} {u : World} {f : Fr} {d : Option Nat} {w : World} (a : Addr) : Val1 Try.prog K (Instr.fieldAt 58 (.pointer (some a)) 0) u f d w = K (updO f d (.pointer (some (a.add 0)))) w := by
  rw [fld_ptr u f d w 58 0 (by rw [ty_fl_58_0]; rfl) a, ty_fl_58_0]; rfl
theorem fd_58_1 {K : Fr → World → Prop} {u : World} {f : Fr} {d : Option Nat} {w : World} (a : Addr) : Val1 Try.prog K (Instr.fieldAt 58 (.pointer (some a)) 1) u f d w = K (updO f d (.pointer (some (a.add 1)))) w := by
  rw [fld_ptr u f d w 58 1 (by rw [ty_fl_58_1]; rfl) a, ty_fl_58_1]; rfl
theorem fd_58_2 {K : Fr → World → Prop} {u : World} {f : Fr} {d : Option Nat} {w : World} (a : Addr) : Val1 Try.prog K (Instr.fieldAt 58 (.pointer (some a)) 2) u f d w = K (updO f d (.pointer (some (a.add 2)))) w := by
  rw [fld_ptr u f d w 58 2 (by rw [ty_fl_58_2]; rfl) a, ty_fl_58_2]; rfl
theorem fd_59_0 {K : Fr → World → Prop} {u : World} {f : Fr} {d : Option Nat} {w : World} (a : Addr) : Val1 Try.prog K (Instr.fieldAt 59 (.pointer (some a)) 0) u f d w = K (updO f d (.pointer (some (a.add 0)))) w := by
  rw [fld_ptr u f d w 59 0 (by rw [ty_fl_59_0]; rfl) a, ty_fl_59_0]; rfl
theorem fd_59_1 {K : Fr → World → Prop} {u : World} {f : Fr} {d : Option Nat} {w : World} (a : Addr) : Val1 Try.prog K (Instr.fieldAt 59 (.pointer (some a)) 1) u f d w = K (updO f d (.pointer (some (a.add 1)))) w := by
  rw [fld_ptr u f d w 59 1 (by rw [ty_fl_59_1]; rfl) a, ty_fl_59_1]; rfl
theorem fd_59_2 {K : Fr → World → Prop} {u : World} {f : Fr} {d : Option Nat} {w : World} (a : Addr) : Val1 Try.prog K (Instr.fieldAt 59 (.pointer (some a)) 2) u f d w = K (updO f d (.pointer (some (a.add 2)))) w := by
  rw [fld_ptr u f d w 59 2 (by rw [ty_fl_59_2]; rfl) a, ty_fl_59_2]; rfl
theorem ix_62 {K : Fr → World → Prop} {u : World} {f : Fr} {d : Option Nat} {w : World} (A : Option Addr) (hA : A.isSome = true) (n c : Nat) (k : IntKind) (i : Int) (h0 : 0 ≤ i) (h1 : i < n) : Val1 Try.prog K (Instr.indexAt 62 (.slice A n c) (.int k i)) u f d w = K (updO f d (.pointer (some (eA A (i.toNat * 2))))) w := by
  rw [idx_sl u f d w 62 (by rw [ty_sl_62]; rfl) A hA n c k i h0 h1, ty_sl_62]; rfl
theorem ln_62 {K : Fr → World → Prop} {u : World} {f : Fr} {d : Option Nat} {w : World} (ty : TypeId) (A : Option Addr) (n c : Nat) : Val1 Try.prog K (Builtin.len_ #[62] ty #[.slice A n c]) u f d w = K (updO f d (.int .i64 n)) w := len_sl u f d w ty 62 (by rw [ty_sl_62]; rfl) A n c
theorem ix_64 {K : Fr → World → Prop} {u : World} {f : Fr} {d : Option Nat} {w : World} (A : Option Addr) (hA : A.isSome = true) (n c : Nat) (k : IntKind) (i : Int) (h0 : 0 ≤ i) (h1 : i < n) : Val1 Try.prog K (Instr.indexAt 64 (.slice A n c) (.int k i)) u f d w = K (updO f d (.pointer (some (eA A (i.toNat * 1))))) w := by
  rw [idx_sl u f d w 64 (by rw [ty_sl_64]; rfl) A hA n c k i h0 h1, ty_sl_64]; rfl
theorem ln_64 {K : Fr → World → Prop} {u : World} {f : Fr} {d : Option Nat} {w : World} (ty : TypeId) (A : Option Addr) (n c : Nat) : Val1 Try.prog K (Builtin.len_ #[64] ty #[.slice A n c]) u f d w = K (updO f d (.int .i64 n)) w := len_sl u f d w ty 64 (by rw [ty_sl_64]; rfl) A n c
theorem ix_65 {K : Fr → World → Prop} {u : World} {f : Fr} {d : Option Nat} {w : World} (A : Option Addr) (hA : A.isSome = true) (n c : Nat) (k : IntKind) (i : Int) (h0 : 0 ≤ i) (h1 : i < n) : Val1 Try.prog K (Instr.indexAt 65 (.slice A n c) (.int k i)) u f d w = K (updO f d (.pointer (some (eA A (i.toNat * 1))))) w := by
  rw [idx_sl u f d w 65 (by rw [ty_sl_65]; rfl) A hA n c k i h0 h1, ty_sl_65]; rfl
theorem ln_65 {K : Fr → World → Prop} {u : World} {f : Fr} {d : Option Nat} {w : World} (ty : TypeId) (A : Option Addr) (n c : Nat) : Val1 Try.prog K (Builtin.len_ #[65] ty #[.slice A n c]) u f d w = K (updO f d (.int .i64 n)) w := len_sl u f d w ty 65 (by rw [ty_sl_65]; rfl) A n c
theorem ix_73 {K : Fr → World → Prop} {u : World} {f : Fr} {d : Option Nat} {w : World} (A : Option Addr) (hA : A.isSome = true) (n c : Nat) (k : IntKind) (i : Int) (h0 : 0 ≤ i) (h1 : i < n) : Val1 Try.prog K (Instr.indexAt 73 (.slice A n c) (.int k i)) u f d w = K (updO f d (.pointer (some (eA A (i.toNat * 5))))) w := by
  rw [idx_sl u f d w 73 (by rw [ty_sl_73]; rfl) A hA n c k i h0 h1, ty_sl_73]; rfl
theorem ln_73 {K : Fr → World → Prop} {u : World} {f : Fr} {d : Option Nat} {w : World} (ty : TypeId) (A : Option Addr) (n c : Nat) : Val1 Try.prog K (Builtin.len_ #[73] ty #[.slice A n c]) u f d w = K (updO f d (.int .i64 n)) w := len_sl u f d w ty 73 (by rw [ty_sl_73]; rfl) A n c
theorem fd_76_0 {K : Fr → World → Prop} {u : World} {f : Fr} {d : Option Nat} {w : World} (a : Addr) : Val1 Try.prog K (Instr.fieldAt 76 (.pointer (some a)) 0) u f d w = K (updO f d (.pointer (some (a.add 0)))) w := by
  rw [fld_ptr u f d w 76 0 (by rw [ty_fl_76_0]; rfl) a, ty_fl_76_0]; rfl
theorem fd_76_1 {K : Fr → World → Prop} {u : World} {f : Fr} {d : Option Nat} {w : World} (a : Addr) : Val1 Try.prog K (Instr.fieldAt 76 (.pointer (some a)) 1) u f d w = K (updO f d (.pointer (some (a.add 4)))) w := by
  rw [fld_ptr u f d w 76 1 (by rw [ty_fl_76_1]; rfl) a, ty_fl_76_1]; rfl
theorem fd_77_0 {K : Fr → World → Prop} {u : World} {f : Fr} {d : Option Nat} {w : World} (a : Addr) : Val1 Try.prog K (Instr.fieldAt 77 (.pointer (some a)) 0) u f d w = K (updO f d (.pointer (some (a.add 0)))) w := by
  rw [fld_ptr u f d w 77 0 (by rw [ty_fl_77_0]; rfl) a, ty_fl_77_0]; rfl
theorem fd_77_1 {K : Fr → World → Prop} {u : World} {f : Fr} {d : Option Nat} {w : World} (a : Addr) : Val1 Try.prog K (Instr.fieldAt 77 (.pointer (some a)) 1) u f d w = K (updO f d (.pointer (some (a.add 4)))) w := by
  rw [fld_ptr u f d w 77 1 (by rw [ty_fl_77_1]; rfl) a, ty_fl_77_1]; rfl
theorem ix_80 {K : Fr → World → Prop} {u : World} {f : Fr} {d : Option Nat} {w : World} (A : Option Addr) (hA : A.isSome = true) (n c : Nat) (k : IntKind) (i : Int) (h0 : 0 ≤ i) (h1 : i < n) : Val1 Try.prog K (Instr.indexAt 80 (.slice A n c) (.int k i)) u f d w = K (updO f d (.pointer (some (eA A (i.toNat * 2))))) w := by
  rw [idx_sl u f d w 80 (by rw [ty_sl_80]; rfl) A hA n c k i h0 h1, ty_sl_80]; rfl
theorem ln_80 {K : Fr → World → Prop} {u : World} {f : Fr} {d : Option Nat} {w : World} (ty : TypeId) (A : Option Addr) (n c : Nat) : Val1 Try.prog K (Builtin.len_ #[80] ty #[.slice A n c]) u f d w = K (updO f d (.int .i64 n)) w := len_sl u f d w ty 80 (by rw [ty_sl_80]; rfl) A n c
theorem fd_82_0 {K : Fr → World → Prop} {u : World} {f : Fr} {d : Option Nat} {w : World} (a : Addr) : Val1 Try.prog K (Instr.fieldAt 82 (.pointer (some a)) 0) u f d w = K (updO f d (.pointer (some (a.add 0)))) w := by
  rw [fld_ptr u f d w 82 0 (by rw [ty_fl_82_0]; rfl) a, ty_fl_82_0]; rfl
theorem fd_82_1 {K : Fr → World → Prop} {u : World} {f : Fr} {d : Option Nat} {w : World} (a : Addr) : Val1 Try.prog K (Instr.fieldAt 82 (.pointer (some a)) 1) u f d w = K (updO f d (.pointer (some (a.add 1)))) w := by
  rw [fld_ptr u f d w 82 1 (by rw [ty_fl_82_1]; rfl) a, ty_fl_82_1]; rfl
theorem fd_83_0 {K : Fr → World → Prop} {u : World} {f : Fr} {d : Option Nat} {w : World} (a : Addr) : Val1 Try.prog K (Instr.fieldAt 83 (.pointer (some a)) 0) u f d w = K (updO f d (.pointer (some (a.add 0)))) w := by
  rw [fld_ptr u f d w 83 0 (by rw [ty_fl_83_0]; rfl) a, ty_fl_83_0]; rfl
theorem fd_83_1 {K : Fr → World → Prop} {u : World} {f : Fr} {d : Option Nat} {w : World} (a : Addr) : Val1 Try.prog K (Instr.fieldAt 83 (.pointer (some a)) 1) u f d w = K (updO f d (.pointer (some (a.add 1)))) w := by
  rw [fld_ptr u f d w 83 1 (by rw [ty_fl_83_1]; rfl) a, ty_fl_83_1]; rfl
theorem fd_90_0 {K : Fr → World → Prop} {u : World} {f : Fr} {d : Option Nat} {w : World} (a : Addr) : Val1 Try.prog K (Instr.fieldAt 90 (.pointer (some a)) 0) u f d w = K (updO f d (.pointer (some (a.add 0)))) w := by
  rw [fld_ptr u f d w 90 0 (by rw [ty_fl_90_0]; rfl) a, ty_fl_90_0]; rfl
theorem fd_90_1 {K : Fr → World → Prop} {u : World} {f : Fr} {d : Option Nat} {w : World} (a : Addr) : Val1 Try.prog K (Instr.fieldAt 90 (.pointer (some a)) 1) u f d w = K (updO f d (.pointer (some (a.add 8)))) w := by
  rw [fld_ptr u f d w 90 1 (by rw [ty_fl_90_1]; rfl) a, ty_fl_90_1]; rfl
theorem fd_90_2 {K : Fr → World → Prop} {u : World} {f : Fr} {d : Option Nat} {w : World} (a : Addr) : Val1 Try.prog K (Instr.fieldAt 90 (.pointer (some a)) 2) u f d w = K (updO f d (.pointer (some (a.add 9)))) w := by
  rw [fld_ptr u f d w 90 2 (by rw [ty_fl_90_2]; rfl) a, ty_fl_90_2]; rfl
theorem fd_91_0 {K : Fr → World → Prop} {u : World} {f : Fr} {d : Option Nat} {w : World} (a : Addr) : Val1 Try.prog K (Instr.fieldAt 91 (.pointer (some a)) 0) u f d w = K (updO f d (.pointer (some (a.add 0)))) w := by
  rw [fld_ptr u f d w 91 0 (by rw [ty_fl_91_0]; rfl) a, ty_fl_91_0]; rfl
theorem fd_91_1 {K : Fr → World → Prop} {u : World} {f : Fr} {d : Option Nat} {w : World} (a : Addr) : Val1 Try.prog K (Instr.fieldAt 91 (.pointer (some a)) 1) u f d w = K (updO f d (.pointer (some (a.add 8)))) w := by
  rw [fld_ptr u f d w 91 1 (by rw [ty_fl_91_1]; rfl) a, ty_fl_91_1]; rfl
theorem fd_91_2 {K : Fr → World → Prop} {u : World} {f : Fr} {d : Option Nat} {w : World} (a : Addr) : Val1 Try.prog K (Instr.fieldAt 91 (.pointer (some a)) 2) u f d w = K (updO f d (.pointer (some (a.add 9)))) w := by
  rw [fld_ptr u f d w 91 2 (by rw [ty_fl_91_2]; rfl) a, ty_fl_91_2]; rfl
theorem ix_92 {K : Fr → World → Prop} {u : World} {f : Fr} {d : Option Nat} {w : World} (A : Option Addr) (hA : A.isSome = true) (n c : Nat) (k : IntKind) (i : Int) (h0 : 0 ≤ i) (h1 : i < n) : Val1 Try.prog K (Instr.indexAt 92 (.slice A n c) (.int k i)) u f d w = K (updO f d (.pointer (some (eA A (i.toNat * 10))))) w := by
  rw [idx_sl u f d w 92 (by rw [ty_sl_92]; rfl) A hA n c k i h0 h1, ty_sl_92]; rfl
theorem ln_92 {K : Fr → World → Prop} {u : World} {f : Fr} {d : Option Nat} {w : World} (ty : TypeId) (A : Option Addr) (n c : Nat) : Val1 Try.prog K (Builtin.len_ #[92] ty #[.slice A n c]) u f d w = K (updO f d (.int .i64 n)) w := len_sl u f d w ty 92 (by rw [ty_sl_92]; rfl) A n c
theorem fd_97_0 {K : Fr → World → Prop} {u : World} {f : Fr} {d : Option Nat} {w : World} (a : Addr) : Val1 Try.prog K (Instr.fieldAt 97 (.pointer (some a)) 0) u f d w = K (updO f d (.pointer (some (a.add 0)))) w := by
  rw [fld_ptr u f d w 97 0 (by rw [ty_fl_97_0]; rfl) a, ty_fl_97_0]; rfl
theorem fd_97_1 {K : Fr → World → Prop} {u : World} {f : Fr} {d : Option Nat} {w : World} (a : Addr) : Val1 Try.prog K (Instr.fieldAt 97 (.pointer (some a)) 1) u f d w = K (updO f d (.pointer (some (a.add 1)))) w := by
  rw [fld_ptr u f d w 97 1 (by rw [ty_fl_97_1]; rfl) a, ty_fl_97_1]; rfl
theorem fd_98_0 {K : Fr → World → Prop} {u : World} {f : Fr} {d : Option Nat} {w : World} (a : Addr) : Val1 Try.prog K (Instr.fieldAt 98 (.pointer (some a)) 0) u f d w = K (updO f d (.pointer (some (a.add 0)))) w := by
  rw [fld_ptr u f d w 98 0 (by rw [ty_fl_98_0]; rfl) a, ty_fl_98_0]; rfl
theorem fd_98_1 {K : Fr → World → Prop} {u : World} {f : Fr} {d : Option Nat} {w : World} (a : Addr) : Val1 Try.prog K (Instr.fieldAt 98 (.pointer (some a)) 1) u f d w = K (updO f d (.pointer (some (a.add 1)))) w := by
  rw [fld_ptr u f d w 98 1 (by rw [ty_fl_98_1]; rfl) a, ty_fl_98_1]; rfl
theorem fd_109_0 {K : Fr → World → Prop} {u : World} {f : Fr} {d : Option Nat} {w : World} (a : Addr) : Val1 Try.prog K (Instr.fieldAt 109 (.pointer (some a)) 0) u f d w = K (updO f d (.pointer (some (a.add 0)))) w := by
  rw [fld_ptr u f d w 109 0 (by rw [ty_fl_109_0]; rfl) a, ty_fl_109_0]; rfl
theorem fd_109_1 {K : Fr → World → Prop} {u : World} {f : Fr} {d : Option Nat} {w : World} (a : Addr) : Val1 Try.prog K (Instr.fieldAt 109 (.pointer (some a)) 1) u f d w = K (updO f d (.pointer (some (a.add 1)))) w := by
  rw [fld_ptr u f d w 109 1 (by rw [ty_fl_109_1]; rfl) a, ty_fl_109_1]; rfl
theorem fd_109_2 {K : Fr → World → Prop} {u : World} {f : Fr} {d : Option Nat} {w : World} (a : Addr) : Val1 Try.prog K (Instr.fieldAt 109 (.pointer (some a)) 2) u f d w = K (updO f d (.pointer (some (a.add 2)))) w := by
  rw [fld_ptr u f d w 109 2 (by rw [ty_fl_109_2]; rfl) a, ty_fl_109_2]; rfl
theorem fd_109_3 {K : Fr → World → Prop} {u : World} {f : Fr} {d : Option Nat} {w : World} (a : Addr) : Val1 Try.prog K (Instr.fieldAt 109 (.pointer (some a)) 3) u f d w = K (updO f d (.pointer (some (a.add 3)))) w := by
  rw [fld_ptr u f d w 109 3 (by rw [ty_fl_109_3]; rfl) a, ty_fl_109_3]; rfl
theorem fd_110_0 {K : Fr → World → Prop} {u : World} {f : Fr} {d : Option Nat} {w : World} (a : Addr) : Val1 Try.prog K (Instr.fieldAt 110 (.pointer (some a)) 0) u f d w = K (updO f d (.pointer (some (a.add 0)))) w := by
  rw [fld_ptr u f d w 110 0 (by rw [ty_fl_110_0]; rfl) a, ty_fl_110_0]; rfl
theorem fd_110_1 {K : Fr → World → Prop} {u : World} {f : Fr} {d : Option Nat} {w : World} (a : Addr) : Val1 Try.prog K (Instr.fieldAt 110 (.pointer (some a)) 1) u f d w = K (updO f d (.pointer (some (a.add 1)))) w := by
  rw [fld_ptr u f d w 110 1 (by rw [ty_fl_110_1]; rfl) a, ty_fl_110_1]; rfl
theorem fd_110_2 {K : Fr → World → Prop} {u : World} {f : Fr} {d : Option Nat} {w : World} (a : Addr) : Val1 Try.prog K (Instr.fieldAt 110 (.pointer (some a)) 2) u f d w = K (updO f d (.pointer (some (a.add 2)))) w := by
  rw [fld_ptr u f d w 110 2 (by rw [ty_fl_110_2]; rfl) a, ty_fl_110_2]; rfl
theorem fd_110_3 {K : Fr → World → Prop} {u : World} {f : Fr} {d : Option Nat} {w : World} (a : Addr) : Val1 Try.prog K (Instr.fieldAt 110 (.pointer (some a)) 3) u f d w = K (updO f d (.pointer (some (a.add 3)))) w := by
  rw [fld_ptr u f d w 110 3 (by rw [ty_fl_110_3]; rfl) a, ty_fl_110_3]; rfl
theorem ix_111 {K : Fr → World → Prop} {u : World} {f : Fr} {d : Option Nat} {w : World} (a : Addr) (k : IntKind) (i : Int) (h0 : 0 ≤ i) (h1 : i < 0) : Val1 Try.prog K (Instr.indexAt 111 (.pointer (some a)) (.int k i)) u f d w = K (updO f d (.pointer (some (a.add (i.toNat * 1))))) w := by
  rw [idx_arr u f d w 111 (by rw [ty_ar_111]; rfl) a k i h0 (by rw [ty_ar_111]; exact h1), ty_ar_111]; rfl
theorem fd_122_0 {K : Fr → World → Prop} {u : World} {f : Fr} {d : Option Nat} {w : World} (a : Addr) : Val1 Try.prog K (Instr.fieldAt 122 (.pointer (some a)) 0) u f d w = K (updO f d (.pointer (some (a.add 0)))) w := by
  rw [fld_ptr u f d w 122 0 (by rw [ty_fl_122_0]; rfl) a, ty_fl_122_0]; rfl
theorem fd_122_1 {K : Fr → World → Prop} {u : World} {f : Fr} {d : Option Nat} {w : World} (a : Addr) : Val1 Try.prog K (Instr.fieldAt 122 (.pointer (some a)) 1) u f d w = K (updO f d (.pointer (some (a.add 1)))) w := by
  rw [fld_ptr u f d w 122 1 (by rw [ty_fl_122_1]; rfl) a, ty_fl_122_1]; rfl
theorem fd_122_2 {K : Fr → World → Prop} {u : World} {f : Fr} {d : Option Nat} {w : World} (a : Addr) : Val1 Try.prog K (Instr.fieldAt 122 (.pointer (some a)) 2) u f d w = K (updO f d (.pointer (some (a.add 2)))) w := by
  rw [fld_ptr u f d w 122 2 (by rw [ty_fl_122_2]; rfl) a, ty_fl_122_2]; rfl
theorem fd_122_3 {K : Fr → World → Prop} {u : World} {f : Fr} {d : Option Nat} {w : World} (a : Addr) : Val1 Try.prog K (Instr.fieldAt 122 (.pointer (some a)) 3) u f d w = K (updO f d (.pointer (some (a.add 3)))) w := by
  rw [fld_ptr u f d w 122 3 (by rw [ty_fl_122_3]; rfl) a, ty_fl_122_3]; rfl
theorem fd_122_4 {K : Fr → World → Prop} {u : World} {f : Fr} {d : Option Nat} {w : World} (a : Addr) : Val1 Try.prog K (Instr.fieldAt 122 (.pointer (some a)) 4) u f d w = K (updO f d (.pointer (some (a.add 4)))) w := by
  rw [fld_ptr u f d w 122 4 (by rw [ty_fl_122_4]; rfl) a, ty_fl_122_4]; rfl
theorem fd_122_5 {K : Fr → World → Prop} {u : World} {f : Fr} {d : Option Nat} {w : World} (a : Addr) : Val1 Try.prog K (Instr.fieldAt 122 (.pointer (some a)) 5) u f d w = K (updO f d (.pointer (some (a.add 5)))) w := by
  rw [fld_ptr u f d w 122 5 (by rw [ty_fl_122_5]; rfl) a, ty_fl_122_5]; rfl
theorem fd_122_6 {K : Fr → World → Prop} {u : World} {f : Fr} {d : Option Nat} {w : World} (a : Addr) : Val1 Try.prog K (Instr.fieldAt 122 (.pointer (some a)) 6) u f d w = K (updO f d (.pointer (some (a.add 6)))) w := by
  rw [fld_ptr u f d w 122 6 (by rw [ty_fl_122_6]; rfl) a, ty_fl_122_6]; rfl
theorem fd_122_7 {K : Fr → World → Prop} {u : World} {f : Fr} {d : Option Nat} {w : World} (a : Addr) : Val1 Try.prog K (Instr.fieldAt 122 (.pointer (some a)) 7) u f d w = K (updO f d (.pointer (some (a.add 7)))) w := by
  rw [fld_ptr u f d w 122 7 (by rw [ty_fl_122_7]; rfl) a, ty_fl_122_7]; rfl
theorem fd_122_8 {K : Fr → World → Prop} {u : World} {f : Fr} {d : Option Nat} {w : World} (a : Addr) : Val1 Try.prog K (Instr.fieldAt 122 (.pointer (some a)) 8) u f d w = K (updO f d (.pointer (some (a.add 8)))) w := by
  rw [fld_ptr u f d w 122 8 (by rw [ty_fl_122_8]; rfl) a, ty_fl_122_8]; rfl
theorem fd_122_9 {K : Fr → World → Prop} {u : World} {f : Fr} {d : Option Nat} {w : World} (a : Addr) : Val1 Try.prog K (Instr.fieldAt 122 (.pointer (some a)) 9) u f d w = K (updO f d (.pointer (some (a.add 9)))) w := by
  rw [fld_ptr u f d w 122 9 (by rw [ty_fl_122_9]; rfl) a, ty_fl_122_9]; rfl
theorem fd_122_10 {K : Fr → World → Prop} {u : World} {f : Fr} {d : Option Nat} {w : World} (a : Addr) : Val1 Try.prog K (Instr.fieldAt 122 (.pointer (some a)) 10) u f d w = K (updO f d (.pointer (some (a.add 10)))) w := by
  rw [fld_ptr u f d w 122 10 (by rw [ty_fl_122_10]; rfl) a, ty_fl_122_10]; rfl
theorem fd_123_0 {K : Fr → World → Prop} {u : World} {f : Fr} {d : Option Nat} {w : World} (a : Addr) : Val1 Try.prog K (Instr.fieldAt 123 (.pointer (some a)) 0) u f d w = K (updO f d (.pointer (some (a.add 0)))) w := by
  rw [fld_ptr u f d w 123 0 (by rw [ty_fl_123_0]; rfl) a, ty_fl_123_0]; rfl
theorem fd_123_1 {K : Fr → World → Prop} {u : World} {f : Fr} {d : Option Nat} {w : World} (a : Addr) : Val1 Try.prog K (Instr.fieldAt 123 (.pointer (some a)) 1) u f d w = K (updO f d (.pointer (some (a.add 1)))) w := by
  rw [fld_ptr u f d w 123 1 (by rw [ty_fl_123_1]; rfl) a, ty_fl_123_1]; rfl
theorem fd_123_2 {K : Fr → World → Prop} {u : World} {f : Fr} {d : Option Nat} {w : World} (a : Addr) : Val1 Try.prog K (Instr.fieldAt 123 (.pointer (some a)) 2) u f d w = K (updO f d (.pointer (some (a.add 2)))) w := by
  rw [fld_ptr u f d w 123 2 (by rw [ty_fl_123_2]; rfl) a, ty_fl_123_2]; rfl
theorem fd_123_3 {K : Fr → World → Prop} {u : World} {f : Fr} {d : Option Nat} {w : World} (a : Addr) : Val1 Try.prog K (Instr.fieldAt 123 (.pointer (some a)) 3) u f d w = K (updO f d (.pointer (some (a.add 3)))) w := by
  rw [fld_ptr u f d w 123 3 (by rw [ty_fl_123_3]; rfl) a, ty_fl_123_3]; rfl
theorem fd_123_4 {K : Fr → World → Prop} {u : World} {f : Fr} {d : Option Nat} {w : World} (a : Addr) : Val1 Try.prog K (Instr.fieldAt 123 (.pointer (some a)) 4) u f d w = K (updO f d (.pointer (some (a.add 4)))) w := by
  rw [fld_ptr u f d w 123 4 (by rw [ty_fl_123_4]; rfl) a, ty_fl_123_4]; rfl
theorem fd_123_5 {K : Fr → World → Prop} {u : World} {f : Fr} {d : Option Nat} {w : World} (a : Addr) : Val1 Try.prog K (Instr.fieldAt 123 (.pointer (some a)) 5) u f d w = K (updO f d (.pointer (some (a.add 5)))) w := by
  rw [fld_ptr u f d w 123 5 (by rw [ty_fl_123_5]; rfl) a, ty_fl_123_5]; rfl
theorem fd_123_6 {K : Fr → World → Prop} {u : World} {f : Fr} {d : Option Nat} {w : World} (a : Addr) : Val1 Try.prog K (Instr.fieldAt 123 (.pointer (some a)) 6) u f d w = K (updO f d (.pointer (some (a.add 6)))) w := by
  rw [fld_ptr u f d w 123 6 (by rw [ty_fl_123_6]; rfl) a, ty_fl_123_6]; rfl
theorem fd_123_7 {K : Fr → World → Prop} {u : World} {f : Fr} {d : Option Nat} {w : World} (a : Addr) : Val1 Try.prog K (Instr.fieldAt 123 (.pointer (some a)) 7) u f d w = K (updO f d (.pointer (some (a.add 7)))) w := by
  rw [fld_ptr u f d w 123 7 (by rw [ty_fl_123_7]; rfl) a, ty_fl_123_7]; rfl
theorem fd_123_8 {K : Fr → World → Prop} {u : World} {f : Fr} {d : Option Nat} {w : World} (a : Addr) : Val1 Try.prog K (Instr.fieldAt 123 (.pointer (some a)) 8) u f d w = K (updO f d (.pointer (some (a.add 8)))) w := by
  rw [fld_ptr u f d w 123 8 (by rw [ty_fl_123_8]; rfl) a, ty_fl_123_8]; rfl
theorem fd_123_9 {K : Fr → World → Prop} {u : World} {f : Fr} {d : Option Nat} {w : World} (a : Addr) : Val1 Try.prog K (Instr.fieldAt 123 (.pointer (some a)) 9) u f d w = K (updO f d (.pointer (some (a.add 9)))) w := by
  rw [fld_ptr u f d w 123 9 (by rw [ty_fl_123_9]; rfl) a, ty_fl_123_9]; rfl
theorem fd_123_10 {K : Fr → World → Prop} {u : World} {f : Fr} {d : Option Nat} {w : World} (a : Addr) : Val1 Try.prog K (Instr.fieldAt 123 (.pointer (some a)) 10) u f d w = K (updO f d (.pointer (some (a.add 10)))) w := by
  rw [fld_ptr u f d w 123 10 (by rw [ty_fl_123_10]; rfl) a, ty_fl_123_10]; rfl
theorem eqb_4 {K : Fr → World → Prop} {u : World} {f : Fr} {d : Option Nat} {w : World} (xo yo : Operand) (a b : Bool) : Val1 Try.prog K (binS .eql 4 xo yo (.bool a) (.bool b)) u f d w = K (updO f d (.bool (a == b))) w := bin_eqb u f d w 4 xo yo (by kernel_rfl) a b
theorem neb_4 {K : Fr → World → Prop} {u : World} {f : Fr} {d : Option Nat} {w : World} (xo yo : Operand) (a b : Bool) : Val1 Try.prog K (binS .neq 4 xo yo (.bool a) (.bool b)) u f d w = K (updO f d (.bool (a != b))) w := bin_neb u f d w 4 xo yo (by kernel_rfl) a b
theorem slT_22 : SlT Try.prog 22 3 1 8 := ⟨by kernel_rfl, by kernel_rfl, by decide⟩
theorem bs_22 {K : Fr → World → Prop} {f : Fr} {d : Option Nat} {w : World} (n : Int) : Eff1 Try.prog K (Instr.buildSlice 22 1 #[(0, .int .i64 n)]) f d w = K (updO f d (.slice (some ⟨w.heap.size, 0, none⟩) 1 1)) (w.alloc (.cells [.int .i64 n].toArray 3)) := bsl1_eq slT_22 _ rfl (by decide)
theorem bs0_22 {K : Fr → World → Prop} {f : Fr} {d : Option Nat} {w : World} : Eff1 Try.prog K (Instr.buildSlice 22 0 #[]) f d w = K (updO f d (.slice (some ⟨w.heap.size, 0, none⟩) 0 0)) (w.alloc (.cells [].toArray 3)) := bsl0_eq slT_22
theorem al_22 {K : Fr → World → Prop} {f : Fr} {d : Option Nat} {w : World} : Eff1 Try.prog K (Instr.alloc 22 true (.tuple #[])) f d w = K (updO f d (.pointer (some ⟨w.heap.size, 0, none⟩))) (w.alloc (.cells [.slice none 0 0].toArray 22)) := alloc_eq 22 (.slice none 0 0) (by kernel_rfl)
theorem slT_23 : SlT Try.prog 23 59 3 24 := ⟨by kernel_rfl, by kernel_rfl, by decide⟩
theorem bs_23 {K : Fr → World → Prop} {f : Fr} {d : Option Nat} {w : World} (x0 x1 x2 : Value) : Eff1 Try.prog K (Instr.buildSlice 23 1 #[(0, .agg #[x0, x1, x2])]) f d w = K (updO f d (.slice (some ⟨w.heap.size, 0, none⟩) 1 1)) (w.alloc (.cells [x0, x1, x2].toArray 59)) := bsl1_eq slT_23 _ rfl (by decide)
theorem bs0_23 {K : Fr → World → Prop} {f : Fr} {d : Option Nat} {w : World} : Eff1 Try.prog K (Instr.buildSlice 23 0 #[]) f d w = K (updO f d (.slice (some ⟨w.heap.size, 0, none⟩) 0 0)) (w.alloc (.cells [].toArray 59)) := bsl0_eq slT_23
theorem al_25 {K : Fr → World → Prop} {f : Fr} {d : Option Nat} {w : World} : Eff1 Try.prog K (Instr.alloc 25 true (.tuple #[])) f d w = K (updO f d (.pointer (some ⟨w.heap.size, 0, none⟩))) (w.alloc (.cells [.int .i64 0, .int .i64 0, .slice none 0 0, .slice none 0 0, .slice none 0 0].toArray 25)) := alloc_eq 25 (.agg #[.int .i64 0, .int .i64 0, .slice none 0 0, .slice none 0 0, .slice none 0 0]) (by kernel_rfl)
theorem al_36 {K : Fr → World → Prop} {f : Fr} {d : Option Nat} {w : World} : Eff1 Try.prog K (Instr.alloc 36 true (.tuple #[])) f d w = K (updO f d (.pointer (some ⟨w.heap.size, 0, none⟩))) (w.alloc (.cells [.int .i64 0, .int .i64 0, .slice none 0 0, .slice none 0 0, .slice none 0 0, .slice none 0 0, .slice none 0 0].toArray 36)) := alloc_eq 36 (.agg #[.int .i64 0, .int .i64 0, .slice none 0 0, .slice none 0 0, .slice none 0 0, .slice none 0 0, .slice none 0 0]) (by kernel_rfl)
theorem al_46 {K : Fr → World → Prop} {f : Fr} {d : Option Nat} {w : World} : Eff1 Try.prog K (Instr.alloc 46 true (.tuple #[])) f d w = K (updO f d (.pointer (some ⟨w.heap.size, 0, none⟩))) (w.alloc (.cells [.int .u64 0, .int .u64 0, .int .u64 0, .int .u64 0].toArray 46)) := alloc_eq 46 (.agg #[.int .u64 0, .int .u64 0, .int .u64 0, .int .u64 0]) (by kernel_rfl)
theorem al_52 {K : Fr → World → Prop} {f : Fr} {d : Option Nat} {w : World} : Eff1 Try.prog K (Instr.alloc 52 true (.tuple #[])) f d w = K (updO f d (.pointer (some ⟨w.heap.size, 0, none⟩))) (w.alloc (.cells [.int .u64 0, .int .u64 0, .int .u64 0, .int .u64 0, .int .u64 0, .int .u64 0, .int .u64 0, .int .u64 0].toArray 52)) := alloc_eq 52 (.agg #[.int .u64 0, .int .u64 0, .int .u64 0, .int .u64 0, .int .u64 0, .int .u64 0, .int .u64 0, .int .u64 0]) (by kernel_rfl)
theorem al_59 {K : Fr → World → Prop} {f : Fr} {d : Option Nat} {w : World} : Eff1 Try.prog K (Instr.alloc 59 true (.tuple #[])) f d w = K (updO f d (.pointer (some ⟨w.heap.size, 0, none⟩))) (w.alloc (.cells [.int .i64 0, .int .i64 0, .int .i64 0].toArray 59)) := alloc_eq 59 (.agg #[.int .i64 0, .int .i64 0, .int .i64 0]) (by kernel_rfl)
theorem slT_62 : SlT Try.prog 62 98 2 32 := ⟨by kernel_rfl, by kernel_rfl, by decide⟩
theorem bs_62 {K : Fr → World → Prop} {f : Fr} {d : Option Nat} {w : World} (x0 x1 : Value) : Eff1 Try.prog K (Instr.buildSlice 62 1 #[(0, .agg #[x0, x1])]) f d w = K (updO f d (.slice (some ⟨w.heap.size, 0, none⟩) 1 1)) (w.alloc (.cells [x0, x1].toArray 98)) := bsl1_eq slT_62 _ rfl (by decide)
theorem bs0_62 {K : Fr → World → Prop} {f : Fr} {d : Option Nat} {w : World} : Eff1 Try.prog K (Instr.buildSlice 62 0 #[]) f d w = K (updO f d (.slice (some ⟨w.heap.size, 0, none⟩) 0 0)) (w.alloc (.cells [].toArray 98)) := bsl0_eq slT_62
theorem slT_64 : SlT Try.prog 64 62 1 24 := ⟨by kernel_rfl, by kernel_rfl, by decide⟩
theorem bs_64 {K : Fr → World → Prop} {f : Fr} {d : Option Nat} {w : World} (A : Option Addr) (n c : Nat) : Eff1 Try.prog K (Instr.buildSlice 64 1 #[(0, .slice A n c)]) f d w = K (updO f d (.slice (some ⟨w.heap.size, 0, none⟩) 1 1)) (w.alloc (.cells [.slice A n c].toArray 62)) := bsl1_eq slT_64 _ rfl (by decide)
theorem bs0_64 {K : Fr → World → Prop} {f : Fr} {d : Option Nat} {w : World} : Eff1 Try.prog K (Instr.buildSlice 64 0 #[]) f d w = K (updO f d (.slice (some ⟨w.heap.size, 0, none⟩) 0 0)) (w.alloc (.cells [].toArray 62)) := bsl0_eq slT_64
theorem slT_65 : SlT Try.prog 65 22 1 24 := ⟨by kernel_rfl, by kernel_rfl, by decide⟩
theorem bs_65 {K : Fr → World → Prop} {f : Fr} {d : Option Nat} {w : World} (A : Option Addr) (n c : Nat) : Eff1 Try.prog K (Instr.buildSlice 65 1 #[(0, .slice A n c)]) f d w = K (updO f d (.slice (some ⟨w.heap.size, 0, none⟩) 1 1)) (w.alloc (.cells [.slice A n c].toArray 22)) := bsl1_eq slT_65 _ rfl (by decide)
theorem bs0_65 {K : Fr → World → Prop} {f : Fr} {d : Option Nat} {w : World} : Eff1 Try.prog K (Instr.buildSlice 65 0 #[]) f d w = K (updO f d (.slice (some ⟨w.heap.size, 0, none⟩) 0 0)) (w.alloc (.cells [].toArray 22)) := bsl0_eq slT_65
theorem slT_73 : SlT Try.prog 73 77 5 56 := ⟨by kernel_rfl, by kernel_rfl, by decide⟩
theorem bs_73 {K : Fr → World → Prop} {f : Fr} {d : Option Nat} {w : World} (x0 x1 x2 x3 x4 : Value) : Eff1 Try.prog K (Instr.buildSlice 73 1 #[(0, .agg #[x0, x1, x2, x3, x4])]) f d w = K (updO f d (.slice (some ⟨w.heap.size, 0, none⟩) 1 1)) (w.alloc (.cells [x0, x1, x2, x3, x4].toArray 77)) := bsl1_eq slT_73 _ rfl (by decide)
theorem bs0_73 {K : Fr → World → Prop} {f : Fr} {d : Option Nat} {w : World} : Eff1 Try.prog K (Instr.buildSlice 73 0 #[]) f d w = K (updO f d (.slice (some ⟨w.heap.size, 0, none⟩) 0 0)) (w.alloc (.cells [].toArray 77)) := bsl0_eq slT_73
theorem slT_80 : SlT Try.prog 80 83 2 48 := ⟨by kernel_rfl, by kernel_rfl, by decide⟩
theorem bs_80 {K : Fr → World → Prop} {f : Fr} {d : Option Nat} {w : World} (x0 x1 : Value) : Eff1 Try.prog K (Instr.buildSlice 80 1 #[(0, .agg #[x0, x1])]) f d w = K (updO f d (.slice (some ⟨w.heap.size, 0, none⟩) 1 1)) (w.alloc (.cells [x0, x1].toArray 83)) := bsl1_eq slT_80 _ rfl (by decide)
theorem bs0_80 {K : Fr → World → Prop} {f : Fr} {d : Option Nat} {w : World} : Eff1 Try.prog K (Instr.buildSlice 80 0 #[]) f d w = K (updO f d (.slice (some ⟨w.heap.size, 0, none⟩) 0 0)) (w.alloc (.cells [].toArray 83)) := bsl0_eq slT_80
theorem slT_92 : SlT Try.prog 92 91 10 80 := ⟨by kernel_rfl, by kernel_rfl, by decide⟩
theorem bs_92 {K : Fr → World → Prop} {f : Fr} {d : Option Nat} {w : World} (x0 x1 x2 x3 x4 x5 x6 x7 x8 x9 : Value) : Eff1 Try.prog K (Instr.buildSlice 92 1 #[(0, .agg #[x0, x1, x2, x3, x4, x5, x6, x7, x8, x9])]) f d w = K (updO f d (.slice (some ⟨w.heap.size, 0, none⟩) 1 1)) (w.alloc (.cells [x0, x1, x2, x3, x4, x5, x6, x7, x8, x9].toArray 91)) := bsl1_eq slT_92 _ rfl (by decide)
theorem bs0_92 {K : Fr → World → Prop} {f : Fr} {d : Option Nat} {w : World} : Eff1 Try.prog K (Instr.buildSlice 92 0 #[]) f d w = K (updO f d (.slice (some ⟨w.heap.size, 0, none⟩) 0 0)) (w.alloc (.cells [].toArray 91)) := bsl0_eq slT_92
theorem al_98 {K : Fr → World → Prop} {f : Fr} {d : Option Nat} {w : World} : Eff1 Try.prog K (Instr.alloc 98 true (.tuple #[])) f d w = K (updO f d (.pointer (some ⟨w.heap.size, 0, none⟩))) (w.alloc (.cells [.int .i64 0, .slice none 0 0].toArray 98)) := alloc_eq 98 (.agg #[.int .i64 0, .slice none 0 0]) (by kernel_rfl)
attribute [push_cast] fd_7_0 fd_7_1 fd_7_2 fd_7_3 fd_8_0 fd_8_1 fd_8_2 fd_8_3 fd_13_0 fd_13_1 fd_14_0 fd_14_1 fd_18_0 fd_19_0 ix_22 ln_22 ix_23 ln_23 fd_24_0 fd_24_1 fd_24_2 fd_24_3 fd_24_4 fd_25_0 fd_25_1 fd_25_2 fd_25_3 fd_25_4 fd_35_0 fd_35_1 fd_35_2 fd_36_0 fd_36_1 fd_36_2 ix_45 ix_46 fd_51_0 fd_51_1 fd_52_0 fd_52_1 fd_58_0 fd_58_1 fd_58_2 fd_59_0 fd_59_1 fd_59_2 ix_62 ln_62 ix_64 ln_64 ix_65 ln_65 ix_73 ln_73 fd_76_0 fd_76_1 fd_77_0 fd_77_1 ix_80 ln_80 fd_82_0 fd_82_1 fd_83_0 fd_83_1 fd_90_0 fd_90_1 fd_90_2 fd_91_0 fd_91_1 fd_91_2 ix_92 ln_92 fd_97_0 fd_97_1 fd_98_0 fd_98_1 fd_109_0 fd_109_1 fd_109_2 fd_109_3 fd_110_0 fd_110_1 fd_110_2 fd_110_3 ix_111 fd_122_0 fd_122_1 fd_122_2 fd_122_3 fd_122_4 fd_122_5 fd_122_6 fd_122_7 fd_122_8 fd_122_9 fd_122_10 fd_123_0 fd_123_1 fd_123_2 fd_123_3 fd_123_4 fd_123_5 fd_123_6 fd_123_7 fd_123_8 fd_123_9 fd_123_10 eqb_4 neb_4 bs_22 bs0_22 bs_23 bs0_23 bs_62 bs0_62 bs_64 bs0_64 bs_65 bs0_65 bs_73 bs0_73 bs_80 bs0_80 bs_92 bs0_92
end Go.Proofs.Ytcjinmgieiebbaa
