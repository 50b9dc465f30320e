/-
  Closed facts on the seat's types (by program: tygen.py).
-/
import Derived.Test.YtpinjiikiaakaaaProg
import Derived.Test.YtpinjiikiaakaaaZLaws
import Derived.KernelRfl
namespace Go.Proofs.Ytpinjiikiaakaaa
theorem ty_ag_3 : tyAgg Try.prog 3 = some false := by kernel_rfl
theorem ty_fl_7_0 : tyFld Try.prog 7 0 = some 0 := by kernel_rfl
theorem ty_fl_7_1 : tyFld Try.prog 7 1 = some 1 := by kernel_rfl
theorem ty_fl_7_2 : tyFld Try.prog 7 2 = some 2 := by kernel_rfl
theorem ty_fl_7_3 : tyFld Try.prog 7 3 = some 3 := by kernel_rfl
theorem ty_fl_8_0 : tyFld Try.prog 8 0 = some 0 := by kernel_rfl
theorem ty_fl_8_1 : tyFld Try.prog 8 1 = some 1 := by kernel_rfl
theorem ty_fl_8_2 : tyFld Try.prog 8 2 = some 2 := by kernel_rfl
theorem ty_fl_8_3 : tyFld Try.prog 8 3 = some 3 := by kernel_rfl
theorem ty_ag_9 : tyAgg Try.prog 9 = some false := by kernel_rfl
theorem ty_fl_13_0 : tyFld Try.prog 13 0 = some 0 := by kernel_rfl
theorem ty_fl_13_1 : tyFld Try.prog 13 1 = some 1 := by kernel_rfl
theorem ty_fl_14_0 : tyFld Try.prog 14 0 = some 0 := by kernel_rfl
theorem ty_fl_14_1 : tyFld Try.prog 14 1 = some 1 := by kernel_rfl
theorem ty_fl_18_0 : tyFld Try.prog 18 0 = some 0 := by kernel_rfl
theorem ty_fl_19_0 : tyFld Try.prog 19 0 = some 0 := by kernel_rfl
theorem ty_ag_22 : tyAgg Try.prog 22 = some false := by kernel_rfl
theorem ty_sl_22 : tySl Try.prog 22 = some 1 := by kernel_rfl
theorem ty_ag_23 : tyAgg Try.prog 23 = some false := by kernel_rfl
theorem ty_sl_23 : tySl Try.prog 23 = some 1 := by kernel_rfl
theorem ty_ag_24 : tyAgg Try.prog 24 = some false := by kernel_rfl
theorem ty_sl_24 : tySl Try.prog 24 = some 3 := by kernel_rfl
theorem ty_fl_25_0 : tyFld Try.prog 25 0 = some 0 := by kernel_rfl
theorem ty_fl_25_1 : tyFld Try.prog 25 1 = some 1 := by kernel_rfl
theorem ty_fl_25_2 : tyFld Try.prog 25 2 = some 2 := by kernel_rfl
theorem ty_fl_25_3 : tyFld Try.prog 25 3 = some 3 := by kernel_rfl
theorem ty_fl_25_4 : tyFld Try.prog 25 4 = some 4 := by kernel_rfl
theorem ty_ag_26 : tyAgg Try.prog 26 = some true := by kernel_rfl
theorem ty_sz_26 : tySize Try.prog 26 = some 5 := by kernel_rfl
theorem ty_fl_26_0 : tyFld Try.prog 26 0 = some 0 := by kernel_rfl
theorem ty_fl_26_1 : tyFld Try.prog 26 1 = some 1 := by kernel_rfl
theorem ty_fl_26_2 : tyFld Try.prog 26 2 = some 2 := by kernel_rfl
theorem ty_fl_26_3 : tyFld Try.prog 26 3 = some 3 := by kernel_rfl
theorem ty_fl_26_4 : tyFld Try.prog 26 4 = some 4 := by kernel_rfl
theorem ty_fl_27_0 : tyFld Try.prog 27 0 = some 0 := by kernel_rfl
theorem ty_fl_27_1 : tyFld Try.prog 27 1 = some 1 := by kernel_rfl
theorem ty_fl_27_2 : tyFld Try.prog 27 2 = some 2 := by kernel_rfl
theorem ty_fl_27_3 : tyFld Try.prog 27 3 = some 7 := by kernel_rfl
theorem ty_fl_27_4 : tyFld Try.prog 27 4 = some 8 := by kernel_rfl
theorem ty_fl_27_5 : tyFld Try.prog 27 5 = some 9 := by kernel_rfl
theorem ty_fl_27_6 : tyFld Try.prog 27 6 = some 10 := by kernel_rfl
theorem ty_ag_28 : tyAgg Try.prog 28 = some true := by kernel_rfl
theorem ty_sz_28 : tySize Try.prog 28 = some 11 := by kernel_rfl
theorem ty_fl_28_0 : tyFld Try.prog 28 0 = some 0 := by kernel_rfl
theorem ty_fl_28_1 : tyFld Try.prog 28 1 = some 1 := by kernel_rfl
theorem ty_fl_28_2 : tyFld Try.prog 28 2 = some 2 := by kernel_rfl
theorem ty_fl_28_3 : tyFld Try.prog 28 3 = some 7 := by kernel_rfl
theorem ty_fl_28_4 : tyFld Try.prog 28 4 = some 8 := by kernel_rfl
theorem ty_fl_28_5 : tyFld Try.prog 28 5 = some 9 := by kernel_rfl
theorem ty_fl_28_6 : tyFld Try.prog 28 6 = some 10 := by kernel_rfl
theorem ty_fl_35_0 : tyFld Try.prog 35 0 = some 0 := by kernel_rfl
theorem ty_fl_35_1 : tyFld Try.prog 35 1 = some 1 := by kernel_rfl
theorem ty_fl_35_2 : tyFld Try.prog 35 2 = some 2 := by kernel_rfl
theorem ty_ag_36 : tyAgg Try.prog 36 = some true := by kernel_rfl
theorem ty_sz_36 : tySize Try.prog 36 = some 3 := by kernel_rfl
theorem ty_fl_36_0 : tyFld Try.prog 36 0 = some 0 := by kernel_rfl
theorem ty_fl_36_1 : tyFld Try.prog 36 1 = some 1 := by kernel_rfl
theorem ty_fl_36_2 : tyFld Try.prog 36 2 = some 2 := by kernel_rfl
theorem ty_sl_43 : tySl Try.prog 43 = some 1 := by kernel_rfl
theorem ty_fl_44_0 : tyFld Try.prog 44 0 = some 0 := by kernel_rfl
theorem ty_fl_44_1 : tyFld Try.prog 44 1 = some 1 := by kernel_rfl
theorem ty_fl_45_0 : tyFld Try.prog 45 0 = some 0 := by kernel_rfl
theorem ty_fl_45_1 : tyFld Try.prog 45 1 = some 1 := by kernel_rfl
theorem ty_fl_67_0 : tyFld Try.prog 67 0 = some 0 := by kernel_rfl
theorem ty_fl_67_1 : tyFld Try.prog 67 1 = some 1 := by kernel_rfl
theorem ty_fl_67_2 : tyFld Try.prog 67 2 = some 2 := by kernel_rfl
theorem ty_fl_67_3 : tyFld Try.prog 67 3 = some 3 := by kernel_rfl
theorem ty_fl_68_0 : tyFld Try.prog 68 0 = some 0 := by kernel_rfl
theorem ty_fl_68_1 : tyFld Try.prog 68 1 = some 1 := by kernel_rfl
theorem ty_fl_68_2 : tyFld Try.prog 68 2 = some 2 := by kernel_rfl
theorem ty_fl_68_3 : tyFld Try.prog 68 3 = some 3 := by kernel_rfl
theorem ty_ar_69 : tyArr Try.prog 69 = some (0, 1) := by kernel_rfl
theorem ty_fl_79_0 : tyFld Try.prog 79 0 = some 0 := by kernel_rfl
theorem ty_fl_79_1 : tyFld Try.prog 79 1 = some 1 := by kernel_rfl
theorem ty_fl_79_2 : tyFld Try.prog 79 2 = some 2 := by kernel_rfl
theorem ty_fl_79_3 : tyFld Try.prog 79 3 = some 3 := by kernel_rfl
theorem ty_fl_79_4 : tyFld Try.prog 79 4 = some 4 := by kernel_rfl
theorem ty_fl_79_5 : tyFld Try.prog 79 5 = some 5 := by kernel_rfl
theorem ty_fl_79_6 : tyFld Try.prog 79 6 = some 6 := by kernel_rfl
theorem ty_fl_79_7 : tyFld Try.prog 79 7 = some 7 := by kernel_rfl
theorem ty_fl_79_8 : tyFld Try.prog 79 8 = some 8 := by kernel_rfl
theorem ty_fl_79_9 : tyFld Try.prog 79 9 = some 9 := by kernel_rfl
theorem ty_fl_79_10 : tyFld Try.prog 79 10 = some 10 := by kernel_rfl
theorem ty_fl_80_0 : tyFld Try.prog 80 0 = some 0 := by kernel_rfl
theorem ty_fl_80_1 : tyFld Try.prog 80 1 = some 1 := by kernel_rfl
theorem ty_fl_80_2 : tyFld Try.prog 80 2 = some 2 := by kernel_rfl
theorem ty_fl_80_3 : tyFld Try.prog 80 3 = some 3 := by kernel_rfl
theorem ty_fl_80_4 : tyFld Try.prog 80 4 = some 4 := by kernel_rfl
theorem ty_fl_80_5 : tyFld Try.prog 80 5 = some 5 := by kernel_rfl
theorem ty_fl_80_6 : tyFld Try.prog 80 6 = some 6 := by kernel_rfl
theorem ty_fl_80_7 : tyFld Try.prog 80 7 = some 7 := by kernel_rfl
theorem ty_fl_80_8 : tyFld Try.prog 80 8 = some 8 := by kernel_rfl
theorem ty_fl_80_9 : tyFld Try.prog 80 9 = some 9 := by kernel_rfl
theorem ty_fl_80_10 : tyFld Try.prog 80 10 = some 10 := by kernel_rfl
theorem fd_7_0 {K : Fr → World → Prop} {u : World} {f : Fr} {d : Option Nat} {w : World} (a : Addr) : Val1 Try.prog K (Instr.fieldAt 7 (.pointer (some a)) 0) u f d w = K (updO f d (.pointer (some (a.add 0)))) w := by
  rw [fld_ptr u f d w 7 0 (by rw [ty_fl_7_0]; rfl) a, ty_fl_7_0]; rfl
theorem fdA_7_0 {K : Fr → World → Prop} {f : Fr} {d : Option Nat} {w : World} (a : Addr) : ValA Try.prog K (Instr.fieldAt 7 (.pointer (some a)) 0) f d w = K (updO f d (.pointer (some (a.add 0)))) w := by
  rw [fld_ptrA f d w 7 0 (by rw [ty_fl_7_0]; rfl) a, ty_fl_7_0]; rfl
theorem fd_7_1 {K : Fr → World → Prop} {u : World} {f : Fr} {d : Option Nat} {w : World} (a : Addr) : Val1 Try.prog K (Instr.fieldAt 7 (.pointer (some a)) 1) u f d w = K (updO f d (.pointer (some (a.add 1)))) w := by
  rw [fld_ptr u f d w 7 1 (by rw [ty_fl_7_1]; rfl) a, ty_fl_7_1]; rfl
theorem fdA_7_1 {K : Fr → World → Prop} {f : Fr} {d : Option Nat} {w : World} (a : Addr) : ValA Try.prog K (Instr.fieldAt 7 (.pointer (some a)) 1) f d w = K (updO f d (.pointer (some (a.add 1)))) w := by
  rw [fld_ptrA f d w 7 1 (by rw [ty_fl_7_1]; rfl) a, ty_fl_7_1]; rfl
theorem fd_7_2 {K : Fr → World → Prop} {u : World} {f : Fr} {d : Option Nat} {w : World} (a : Addr) : Val1 Try.prog K (Instr.fieldAt 7 (.pointer (some a)) 2) u f d w = K (updO f d (.pointer (some (a.add 2)))) w := by
  rw [fld_ptr u f d w 7 2 (by rw [ty_fl_7_2]; rfl) a, ty_fl_7_2]; rfl
theorem fdA_7_2 {K : Fr → World → Prop} {f : Fr} {d : Option Nat} {w : World} (a : Addr) : ValA Try.prog K (Instr.fieldAt 7 (.pointer (some a)) 2) f d w = K (updO f d (.pointer (some (a.add 2)))) w := by
  rw [fld_ptrA f d w 7 2 (by rw [ty_fl_7_2]; rfl) a, ty_fl_7_2]; rfl
theorem fd_7_3 {K : Fr → World → Prop} {u : World} {f : Fr} {d : Option Nat} {w : World} (a : Addr) : Val1 Try.prog K (Instr.fieldAt 7 (.pointer (some a)) 3) u f d w = K (updO f d (.pointer (some (a.add 3)))) w := by
  rw [fld_ptr u f d w 7 3 (by rw [ty_fl_7_3]; rfl) a, ty_fl_7_3]; rfl
theorem fdA_7_3 {K : Fr → World → Prop} {f : Fr} {d : Option Nat} {w : World} (a : Addr) : ValA Try.prog K (Instr.fieldAt 7 (.pointer (some a)) 3) f d w = K (updO f d (.pointer (some (a.add 3)))) w := by
  rw [fld_ptrA f d w 7 3 (by rw [ty_fl_7_3]; rfl) a, ty_fl_7_3]; rfl
theorem fd_8_0 {K : Fr → World → Prop} {u : World} {f : Fr} {d : Option Nat} {w : World} (a : Addr) : Val1 Try.prog K (Instr.fieldAt 8 (.pointer (some a)) 0) u f d w = K (updO f d (.pointer (some (a.add 0)))) w := by
  rw [fld_ptr u f d w 8 0 (by rw [ty_fl_8_0]; rfl) a, ty_fl_8_0]; rfl
theorem fdA_8_0 {K : Fr → World → Prop} {f : Fr} {d : Option Nat} {w : World} (a : Addr) : ValA Try.prog K (Instr.fieldAt 8 (.pointer (some a)) 0) f d w = K (updO f d (.pointer (some (a.add 0)))) w := by
  rw [fld_ptrA f d w 8 0 (by rw [ty_fl_8_0]; rfl) a, ty_fl_8_0]; rfl
theorem fd_8_1 {K : Fr → World → Prop} {u : World} {f : Fr} {d : Option Nat} {w : World} (a : Addr) : Val1 Try.prog K (Instr.fieldAt 8 (.pointer (some a)) 1) u f d w = K (updO f d (.pointer (some (a.add 1)))) w := by
  rw [fld_ptr u f d w 8 1 (by rw [ty_fl_8_1]; rfl) a, ty_fl_8_1]; rfl
theorem fdA_8_1 {K : Fr → World → Prop} {f : Fr} {d : Option Nat} {w : World} (a : Addr) : ValA Try.prog K (Instr.fieldAt 8 (.pointer (some a)) 1) f d w = K (updO f d (.pointer (some (a.add 1)))) w := by
  rw [fld_ptrA f d w 8 1 (by rw [ty_fl_8_1]; rfl) a, ty_fl_8_1]; rfl
theorem fd_8_2 {K : Fr → World → Prop} {u : World} {f : Fr} {d : Option Nat} {w : World} (a : Addr) : Val1 Try.prog K (Instr.fieldAt 8 (.pointer (some a)) 2) u f d w = K (updO f d (.pointer (some (a.add 2)))) w := by
  rw [fld_ptr u f d w 8 2 (by rw [ty_fl_8_2]; rfl) a, ty_fl_8_2]; rfl
theorem fdA_8_2 {K : Fr → World → Prop} {f : Fr} {d : Option Nat} {w : World} (a : Addr) : ValA Try.prog K (Instr.fieldAt 8 (.pointer (some a)) 2) f d w = K (updO f d (.pointer (some (a.add 2)))) w := by
  rw [fld_ptrA f d w 8 2 (by rw [ty_fl_8_2]; rfl) a, ty_fl_8_2]; rfl
theorem fd_8_3 {K : Fr → World → Prop} {u : World} {f : Fr} {d : Option Nat} {w : World} (a : Addr) : Val1 Try.prog K (Instr.fieldAt 8 (.pointer (some a)) 3) u f d w = K (updO f d (.pointer (some (a.add 3)))) w := by
  rw [fld_ptr u f d w 8 3 (by rw [ty_fl_8_3]; rfl) a, ty_fl_8_3]; rfl
theorem fdA_8_3 {K : Fr → World → Prop} {f : Fr} {d : Option Nat} {w : World} (a : Addr) : ValA Try.prog K (Instr.fieldAt 8 (.pointer (some a)) 3) f d w = K (updO f d (.pointer (some (a.add 3)))) w := by
  rw [fld_ptrA f d w 8 3 (by rw [ty_fl_8_3]; rfl) a, ty_fl_8_3]; rfl
theorem fd_13_0 {K : Fr → World → Prop} {u : World} {f : Fr} {d : Option Nat} {w : World} (a : Addr) : Val1 Try.prog K (Instr.fieldAt 13 (.pointer (some a)) 0) u f d w = K (updO f d (.pointer (some (a.add 0)))) w := by
  rw [fld_ptr u f d w 13 0 (by rw [ty_fl_13_0]; rfl) a, ty_fl_13_0]; rfl
theorem fdA_13_0 {K : Fr → World → Prop} {f : Fr} {d : Option Nat} {w : World} (a : Addr) : ValA Try.prog K (Instr.fieldAt 13 (.pointer (some a)) 0) f d w = K (updO f d (.pointer (some (a.add 0)))) w := by
  rw [fld_ptrA f d w 13 0 (by rw [ty_fl_13_0]; rfl) a, ty_fl_13_0]; rfl
theorem fd_13_1 {K : Fr → World → Prop} {u : World} {f : Fr} {d : Option Nat} {w : World} (a : Addr) : Val1 Try.prog K (Instr.fieldAt 13 (.pointer (some a)) 1) u f d w = K (updO f d (.pointer (some (a.add 1)))) w := by
  rw [fld_ptr u f d w 13 1 (by rw [ty_fl_13_1]; rfl) a, ty_fl_13_1]; rfl
theorem fdA_13_1 {K : Fr → World → Prop} {f : Fr} {d : Option Nat} {w : World} (a : Addr) : ValA Try.prog K (Instr.fieldAt 13 (.pointer (some a)) 1) f d w = K (updO f d (.pointer (some (a.add 1)))) w := by
  rw [fld_ptrA f d w 13 1 (by rw [ty_fl_13_1]; rfl) a, ty_fl_13_1]; rfl
theorem fd_14_0 {K : Fr → World → Prop} {u : World} {f : Fr} {d : Option Nat} {w : World} (a : Addr) : Val1 Try.prog K (Instr.fieldAt 14 (.pointer (some a)) 0) u f d w = K (updO f d (.pointer (some (a.add 0)))) w := by
  rw [fld_ptr u f d w 14 0 (by rw [ty_fl_14_0]; rfl) a, ty_fl_14_0]; rfl
theorem fdA_14_0 {K : Fr → World → Prop} {f : Fr} {d : Option Nat} {w : World} (a : Addr) : ValA Try.prog K (Instr.fieldAt 14 (.pointer (some a)) 0) f d w = K (updO f d (.pointer (some (a.add 0)))) w := by
  rw [fld_ptrA f d w 14 0 (by rw [ty_fl_14_0]; rfl) a, ty_fl_14_0]; rfl
theorem fd_14_1 {K : Fr → World → Prop} {u : World} {f : Fr} {d : Option Nat} {w : World} (a : Addr) : Val1 Try.prog K (Instr.fieldAt 14 (.pointer (some a)) 1) u f d w = K (updO f d (.pointer (some (a.add 1)))) w := by
  rw [fld_ptr u f d w 14 1 (by rw [ty_fl_14_1]; rfl) a, ty_fl_14_1]; rfl
theorem fdA_14_1 {K : Fr → World → Prop} {f : Fr} {d : Option Nat} {w : World} (a : Addr) : ValA Try.prog K (Instr.fieldAt 14 (.pointer (some a)) 1) f d w = K (updO f d (.pointer (some (a.add 1)))) w := by
  rw [fld_ptrA f d w 14 1 (by rw [ty_fl_14_1]; rfl) a, ty_fl_14_1]; rfl
theorem fd_18_0 {K : Fr → World → Prop} {u : World} {f : Fr} {d : Option Nat} {w : World} (a : Addr) : Val1 Try.prog K (Instr.fieldAt 18 (.pointer (some a)) 0) u f d w = K (updO f d (.pointer (some (a.add 0)))) w := by
  rw [fld_ptr u f d w 18 0 (by rw [ty_fl_18_0]; rfl) a, ty_fl_18_0]; rfl
theorem fdA_18_0 {K : Fr → World → Prop} {f : Fr} {d : Option Nat} {w : World} (a : Addr) : ValA Try.prog K (Instr.fieldAt 18 (.pointer (some a)) 0) f d w = K (updO f d (.pointer (some (a.add 0)))) w := by
  rw [fld_ptrA f d w 18 0 (by rw [ty_fl_18_0]; rfl) a, ty_fl_18_0]; rfl
theorem fd_19_0 {K : Fr → World → Prop} {u : World} {f : Fr} {d : Option Nat} {w : World} (a : Addr) : Val1 Try.prog K (Instr.fieldAt 19 (.pointer (some a)) 0) u f d w = K (updO f d (.pointer (some (a.add 0)))) w := by
  rw [fld_ptr u f d w 19 0 (by rw [ty_fl_19_0]; rfl) a, ty_fl_19_0]; rfl
theorem fdA_19_0 {K : Fr → World → Prop} {f : Fr} {d : Option Nat} {w : World} (a : Addr) : ValA Try.prog K (Instr.fieldAt 19 (.pointer (some a)) 0) f d w = K (updO f d (.pointer (some (a.add 0)))) w := by
  rw [fld_ptrA f d w 19 0 (by rw [ty_fl_19_0]; rfl) a, ty_fl_19_0]; rfl
theorem ix_22 {K : Fr → World → Prop} {u : World} {f : Fr} {d : Option Nat} {w : World} (A : Option Addr) (hA : A.isSome = true) (n c : Nat) (k : IntKind) (i : Int) (h0 : 0 ≤ i) (h1 : i < n) : Val1 Try.prog K (Instr.indexAt 22 (.slice A n c) (.int k i)) u f d w = K (updO f d (.pointer (some (eA A (i.toNat * 1))))) w := by
  rw [idx_sl u f d w 22 (by rw [ty_sl_22]; rfl) A hA n c k i h0 h1, ty_sl_22]; rfl
theorem ln_22 {K : Fr → World → Prop} {u : World} {f : Fr} {d : Option Nat} {w : World} (ty : TypeId) (A : Option Addr) (n c : Nat) : Val1 Try.prog K (Builtin.len_ #[22] ty #[.slice A n c]) u f d w = K (updO f d (.int .i64 n)) w := len_sl u f d w ty 22 (by rw [ty_sl_22]; rfl) A n c
theorem ixA_22 {K : Fr → World → Prop} {f : Fr} {d : Option Nat} {w : World} (A : Option Addr) (hA : A.isSome = true) (n c : Nat) (k : IntKind) (i : Int) (h0 : 0 ≤ i) (h1 : i < n) : ValA Try.prog K (Instr.indexAt 22 (.slice A n c) (.int k i)) f d w = K (updO f d (.pointer (some (eA A (i.toNat * 1))))) w := by
  rw [idx_slA f d w 22 (by rw [ty_sl_22]; rfl) A hA n c k i h0 h1, ty_sl_22]; rfl
theorem ix_23 {K : Fr → World → Prop} {u : World} {f : Fr} {d : Option Nat} {w : World} (A : Option Addr) (hA : A.isSome = true) (n c : Nat) (k : IntKind) (i : Int) (h0 : 0 ≤ i) (h1 : i < n) : Val1 Try.prog K (Instr.indexAt 23 (.slice A n c) (.int k i)) u f d w = K (updO f d (.pointer (some (eA A (i.toNat * 1))))) w := by
  rw [idx_sl u f d w 23 (by rw [ty_sl_23]; rfl) A hA n c k i h0 h1, ty_sl_23]; rfl
theorem ln_23 {K : Fr → World → Prop} {u : World} {f : Fr} {d : Option Nat} {w : World} (ty : TypeId) (A : Option Addr) (n c : Nat) : Val1 Try.prog K (Builtin.len_ #[23] ty #[.slice A n c]) u f d w = K (updO f d (.int .i64 n)) w := len_sl u f d w ty 23 (by rw [ty_sl_23]; rfl) A n c
theorem ixA_23 {K : Fr → World → Prop} {f : Fr} {d : Option Nat} {w : World} (A : Option Addr) (hA : A.isSome = true) (n c : Nat) (k : IntKind) (i : Int) (h0 : 0 ≤ i) (h1 : i < n) : ValA Try.prog K (Instr.indexAt 23 (.slice A n c) (.int k i)) f d w = K (updO f d (.pointer (some (eA A (i.toNat * 1))))) w := by
  rw [idx_slA f d w 23 (by rw [ty_sl_23]; rfl) A hA n c k i h0 h1, ty_sl_23]; rfl
theorem ix_24 {K : Fr → World → Prop} {u : World} {f : Fr} {d : Option Nat} {w : World} (A : Option Addr) (hA : A.isSome = true) (n c : Nat) (k : IntKind) (i : Int) (h0 : 0 ≤ i) (h1 : i < n) : Val1 Try.prog K (Instr.indexAt 24 (.slice A n c) (.int k i)) u f d w = K (updO f d (.pointer (some (eA A (i.toNat * 3))))) w := by
  rw [idx_sl u f d w 24 (by rw [ty_sl_24]; rfl) A hA n c k i h0 h1, ty_sl_24]; rfl
theorem ln_24 {K : Fr → World → Prop} {u : World} {f : Fr} {d : Option Nat} {w : World} (ty : TypeId) (A : Option Addr) (n c : Nat) : Val1 Try.prog K (Builtin.len_ #[24] ty #[.slice A n c]) u f d w = K (updO f d (.int .i64 n)) w := len_sl u f d w ty 24 (by rw [ty_sl_24]; rfl) A n c
theorem ixA_24 {K : Fr → World → Prop} {f : Fr} {d : Option Nat} {w : World} (A : Option Addr) (hA : A.isSome = true) (n c : Nat) (k : IntKind) (i : Int) (h0 : 0 ≤ i) (h1 : i < n) : ValA Try.prog K (Instr.indexAt 24 (.slice A n c) (.int k i)) f d w = K (updO f d (.pointer (some (eA A (i.toNat * 3))))) w := by
  rw [idx_slA f d w 24 (by rw [ty_sl_24]; rfl) A hA n c k i h0 h1, ty_sl_24]; rfl
theorem fd_25_0 {K : Fr → World → Prop} {u : World} {f : Fr} {d : Option Nat} {w : World} (a : Addr) : Val1 Try.prog K (Instr.fieldAt 25 (.pointer (some a)) 0) u f d w = K (updO f d (.pointer (some (a.add 0)))) w := by
  rw [fld_ptr u f d w 25 0 (by rw [ty_fl_25_0]; rfl) a, ty_fl_25_0]; rfl
theorem fdA_25_0 {K : Fr → World → Prop} {f : Fr} {d : Option Nat} {w : World} (a : Addr) : ValA Try.prog K (Instr.fieldAt 25 (.pointer (some a)) 0) f d w = K (updO f d (.pointer (some (a.add 0)))) w := by
  rw [fld_ptrA f d w 25 0 (by rw [ty_fl_25_0]; rfl) a, ty_fl_25_0]; rfl
theorem fd_25_1 {K : Fr → World → Prop} {u : World} {f : Fr} {d : Option Nat} {w : World} (a : Addr) : Val1 Try.prog K (Instr.fieldAt 25 (.pointer (some a)) 1) u f d w = K (updO f d (.pointer (some (a.add 1)))) w := by
  rw [fld_ptr u f d w 25 1 (by rw [ty_fl_25_1]; rfl) a, ty_fl_25_1]; rfl
theorem fdA_25_1 {K : Fr → World → Prop} {f : Fr} {d : Option Nat} {w : World} (a : Addr) : ValA Try.prog K (Instr.fieldAt 25 (.pointer (some a)) 1) f d w = K (updO f d (.pointer (some (a.add 1)))) w := by
  rw [fld_ptrA f d w 25 1 (by rw [ty_fl_25_1]; rfl) a, ty_fl_25_1]; rfl
theorem fd_25_2 {K : Fr → World → Prop} {u : World} {f : Fr} {d : Option Nat} {w : World} (a : Addr) : Val1 Try.prog K (Instr.fieldAt 25 (.pointer (some a)) 2) u f d w = K (updO f d (.pointer (some (a.add 2)))) w := by
  rw [fld_ptr u f d w 25 2 (by rw [ty_fl_25_2]; rfl) a, ty_fl_25_2]; rfl
theorem fdA_25_2 {K : Fr → World → Prop} {f : Fr} {d : Option Nat} {w : World} (a : Addr) : ValA Try.prog K (Instr.fieldAt 25 (.pointer (some a)) 2) f d w = K (updO f d (.pointer (some (a.add 2)))) w := by
  rw [fld_ptrA f d w 25 2 (by rw [ty_fl_25_2]; rfl) a, ty_fl_25_2]; rfl
theorem fd_25_3 {K : Fr → World → Prop} {u : World} {f : Fr} {d : Option Nat} {w : World} (a : Addr) : Val1 Try.prog K (Instr.fieldAt 25 (.pointer (some a)) 3) u f d w = K (updO f d (.pointer (some (a.add 3)))) w := by
  rw [fld_ptr u f d w 25 3 (by rw [ty_fl_25_3]; rfl) a, ty_fl_25_3]; rfl
theorem fdA_25_3 {K : Fr → World → Prop} {f : Fr} {d : Option Nat} {w : World} (a : Addr) : ValA Try.prog K (Instr.fieldAt 25 (.pointer (some a)) 3) f d w = K (updO f d (.pointer (some (a.add 3)))) w := by
  rw [fld_ptrA f d w 25 3 (by rw [ty_fl_25_3]; rfl) a, ty_fl_25_3]; rfl
theorem fd_25_4 {K : Fr → World → Prop} {u : World} {f : Fr} {d : Option Nat} {w : World} (a : Addr) : Val1 Try.prog K (Instr.fieldAt 25 (.pointer (some a)) 4) u f d w = K (updO f d (.pointer (some (a.add 4)))) w := by
  rw [fld_ptr u f d w 25 4 (by rw [ty_fl_25_4]; rfl) a, ty_fl_25_4]; rfl
theorem fdA_25_4 {K : Fr → World → Prop} {f : Fr} {d : Option Nat} {w : World} (a : Addr) : ValA Try.prog K (Instr.fieldAt 25 (.pointer (some a)) 4) f d w = K (updO f d (.pointer (some (a.add 4)))) w := by
  rw [fld_ptrA f d w 25 4 (by rw [ty_fl_25_4]; rfl) a, ty_fl_25_4]; rfl
theorem fd_26_0 {K : Fr → World → Prop} {u : World} {f : Fr} {d : Option Nat} {w : World} (a : Addr) : Val1 Try.prog K (Instr.fieldAt 26 (.pointer (some a)) 0) u f d w = K (updO f d (.pointer (some (a.add 0)))) w := by
  rw [fld_ptr u f d w 26 0 (by rw [ty_fl_26_0]; rfl) a, ty_fl_26_0]; rfl
theorem fdA_26_0 {K : Fr → World → Prop} {f : Fr} {d : Option Nat} {w : World} (a : Addr) : ValA Try.prog K (Instr.fieldAt 26 (.pointer (some a)) 0) f d w = K (updO f d (.pointer (some (a.add 0)))) w := by
  rw [fld_ptrA f d w 26 0 (by rw [ty_fl_26_0]; rfl) a, ty_fl_26_0]; rfl
theorem fd_26_1 {K : Fr → World → Prop} {u : World} {f : Fr} {d : Option Nat} {w : World} (a : Addr) : Val1 Try.prog K (Instr.fieldAt 26 (.pointer (some a)) 1) u f d w = K (updO f d (.pointer (some (a.add 1)))) w := by
  rw [fld_ptr u f d w 26 1 (by rw [ty_fl_26_1]; rfl) a, ty_fl_26_1]; rfl
theorem fdA_26_1 {K : Fr → World → Prop} {f : Fr} {d : Option Nat} {w : World} (a : Addr) : ValA Try.prog K (Instr.fieldAt 26 (.pointer (some a)) 1) f d w = K (updO f d (.pointer (some (a.add 1)))) w := by
  rw [fld_ptrA f d w 26 1 (by rw [ty_fl_26_1]; rfl) a, ty_fl_26_1]; rfl
theorem fd_26_2 {K : Fr → World → Prop} {u : World} {f : Fr} {d : Option Nat} {w : World} (a : Addr) : Val1 Try.prog K (Instr.fieldAt 26 (.pointer (some a)) 2) u f d w = K (updO f d (.pointer (some (a.add 2)))) w := by
  rw [fld_ptr u f d w 26 2 (by rw [ty_fl_26_2]; rfl) a, ty_fl_26_2]; rfl
theorem fdA_26_2 {K : Fr → World → Prop} {f : Fr} {d : Option Nat} {w : World} (a : Addr) : ValA Try.prog K (Instr.fieldAt 26 (.pointer (some a)) 2) f d w = K (updO f d (.pointer (some (a.add 2)))) w := by
  rw [fld_ptrA f d w 26 2 (by rw [ty_fl_26_2]; rfl) a, ty_fl_26_2]; rfl
theorem fd_26_3 {K : Fr → World → Prop} {u : World} {f : Fr} {d : Option Nat} {w : World} (a : Addr) : Val1 Try.prog K (Instr.fieldAt 26 (.pointer (some a)) 3) u f d w = K (updO f d (.pointer (some (a.add 3)))) w := by
  rw [fld_ptr u f d w 26 3 (by rw [ty_fl_26_3]; rfl) a, ty_fl_26_3]; rfl
theorem fdA_26_3 {K : Fr → World → Prop} {f : Fr} {d : Option Nat} {w : World} (a : Addr) : ValA Try.prog K (Instr.fieldAt 26 (.pointer (some a)) 3) f d w = K (updO f d (.pointer (some (a.add 3)))) w := by
  rw [fld_ptrA f d w 26 3 (by rw [ty_fl_26_3]; rfl) a, ty_fl_26_3]; rfl
theorem fd_26_4 {K : Fr → World → Prop} {u : World} {f : Fr} {d : Option Nat} {w : World} (a : Addr) : Val1 Try.prog K (Instr.fieldAt 26 (.pointer (some a)) 4) u f d w = K (updO f d (.pointer (some (a.add 4)))) w := by
  rw [fld_ptr u f d w 26 4 (by rw [ty_fl_26_4]; rfl) a, ty_fl_26_4]; rfl
theorem fdA_26_4 {K : Fr → World → Prop} {f : Fr} {d : Option Nat} {w : World} (a : Addr) : ValA Try.prog K (Instr.fieldAt 26 (.pointer (some a)) 4) f d w = K (updO f d (.pointer (some (a.add 4)))) w := by
  rw [fld_ptrA f d w 26 4 (by rw [ty_fl_26_4]; rfl) a, ty_fl_26_4]; rfl
theorem fd_27_0 {K : Fr → World → Prop} {u : World} {f : Fr} {d : Option Nat} {w : World} (a : Addr) : Val1 Try.prog K (Instr.fieldAt 27 (.pointer (some a)) 0) u f d w = K (updO f d (.pointer (some (a.add 0)))) w := by
  rw [fld_ptr u f d w 27 0 (by rw [ty_fl_27_0]; rfl) a, ty_fl_27_0]; rfl
theorem fdA_27_0 {K : Fr → World → Prop} {f : Fr} {d : Option Nat} {w : World} (a : Addr) : ValA Try.prog K (Instr.fieldAt 27 (.pointer (some a)) 0) f d w = K (updO f d (.pointer (some (a.add 0)))) w := by
  rw [fld_ptrA f d w 27 0 (by rw [ty_fl_27_0]; rfl) a, ty_fl_27_0]; rfl
theorem fd_27_1 {K : Fr → World → Prop} {u : World} {f : Fr} {d : Option Nat} {w : World} (a : Addr) : Val1 Try.prog K (Instr.fieldAt 27 (.pointer (some a)) 1) u f d w = K (updO f d (.pointer (some (a.add 1)))) w := by
  rw [fld_ptr u f d w 27 1 (by rw [ty_fl_27_1]; rfl) a, ty_fl_27_1]; rfl
theorem fdA_27_1 {K : Fr → World → Prop} {f : Fr} {d : Option Nat} {w : World} (a : Addr) : ValA Try.prog K (Instr.fieldAt 27 (.pointer (some a)) 1) f d w = K (updO f d (.pointer (some (a.add 1)))) w := by
  rw [fld_ptrA f d w 27 1 (by rw [ty_fl_27_1]; rfl) a, ty_fl_27_1]; rfl
theorem fd_27_2 {K : Fr → World → Prop} {u : World} {f : Fr} {d : Option Nat} {w : World} (a : Addr) : Val1 Try.prog K (Instr.fieldAt 27 (.pointer (some a)) 2) u f d w = K (updO f d (.pointer (some (a.add 2)))) w := by
  rw [fld_ptr u f d w 27 2 (by rw [ty_fl_27_2]; rfl) a, ty_fl_27_2]; rfl
theorem fdA_27_2 {K : Fr → World → Prop} {f : Fr} {d : Option Nat} {w : World} (a : Addr) : ValA Try.prog K (Instr.fieldAt 27 (.pointer (some a)) 2) f d w = K (updO f d (.pointer (some (a.add 2)))) w := by
  rw [fld_ptrA f d w 27 2 (by rw [ty_fl_27_2]; rfl) a, ty_fl_27_2]; rfl
theorem fd_27_3 {K : Fr → World → Prop} {u : World} {f : Fr} {d : Option Nat} {w : World} (a : Addr) : Val1 Try.prog K (Instr.fieldAt 27 (.pointer (some a)) 3) u f d w = K (updO f d (.pointer (some (a.add 7)))) w := by
  rw [fld_ptr u f d w 27 3 (by rw [ty_fl_27_3]; rfl) a, ty_fl_27_3]; rfl
theorem fdA_27_3 {K : Fr → World → Prop} {f : Fr} {d : Option Nat} {w : World} (a : Addr) : ValA Try.prog K (Instr.fieldAt 27 (.pointer (some a)) 3) f d w = K (updO f d (.pointer (some (a.add 7)))) w := by
  rw [fld_ptrA f d w 27 3 (by rw [ty_fl_27_3]; rfl) a, ty_fl_27_3]; rfl
theorem fd_27_4 {K : Fr → World → Prop} {u : World} {f : Fr} {d : Option Nat} {w : World} (a : Addr) : Val1 Try.prog K (Instr.fieldAt 27 (.pointer (some a)) 4) u f d w = K (updO f d (.pointer (some (a.add 8)))) w := by
  rw [fld_ptr u f d w 27 4 (by rw [ty_fl_27_4]; rfl) a, ty_fl_27_4]; rfl
theorem fdA_27_4 {K : Fr → World → Prop} {f : Fr} {d : Option Nat} {w : World} (a : Addr) : ValA Try.prog K (Instr.fieldAt 27 (.pointer (some a)) 4) f d w = K (updO f d (.pointer (some (a.add 8)))) w := by
  rw [fld_ptrA f d w 27 4 (by rw [ty_fl_27_4]; rfl) a, ty_fl_27_4]; rfl
theorem fd_27_5 {K : Fr → World → Prop} {u : World} {f : Fr} {d : Option Nat} {w : World} (a : Addr) : Val1 Try.prog K (Instr.fieldAt 27 (.pointer (some a)) 5) u f d w = K (updO f d (.pointer (some (a.add 9)))) w := by
  rw [fld_ptr u f d w 27 5 (by rw [ty_fl_27_5]; rfl) a, ty_fl_27_5]; rfl
theorem fdA_27_5 {K : Fr → World → Prop} {f : Fr} {d : Option Nat} {w : World} (a : Addr) : ValA Try.prog K (Instr.fieldAt 27 (.pointer (some a)) 5) f d w = K (updO f d (.pointer (some (a.add 9)))) w := by
  rw [fld_ptrA f d w 27 5 (by rw [ty_fl_27_5]; rfl) a, ty_fl_27_5]; rfl
theorem fd_27_6 {K : Fr → World → Prop} {u : World} {f : Fr} {d : Option Nat} {w : World} (a : Addr) : Val1 Try.prog K (Instr.fieldAt 27 (.pointer (some a)) 6) u f d w = K (updO f d (.pointer (some (a.add 10)))) w := by
  rw [fld_ptr u f d w 27 6 (by rw [ty_fl_27_6]; rfl) a, ty_fl_27_6]; rfl
theorem fdA_27_6 {K : Fr → World → Prop} {f : Fr} {d : Option Nat} {w : World} (a : Addr) : ValA Try.prog K (Instr.fieldAt 27 (.pointer (some a)) 6) f d w = K (updO f d (.pointer (some (a.add 10)))) w := by
  rw [fld_ptrA f d w 27 6 (by rw [ty_fl_27_6]; rfl) a, ty_fl_27_6]; rfl
theorem fd_28_0 {K : Fr → World → Prop} {u : World} {f : Fr} {d : Option Nat} {w : World} (a : Addr) : Val1 Try.prog K (Instr.fieldAt 28 (.pointer (some a)) 0) u f d w = K (updO f d (.pointer (some (a.add 0)))) w := by
  rw [fld_ptr u f d w 28 0 (by rw [ty_fl_28_0]; rfl) a, ty_fl_28_0]; rfl
theorem fdA_28_0 {K : Fr → World → Prop} {f : Fr} {d : Option Nat} {w : World} (a : Addr) : ValA Try.prog K (Instr.fieldAt 28 (.pointer (some a)) 0) f d w = K (updO f d (.pointer (some (a.add 0)))) w := by
  rw [fld_ptrA f d w 28 0 (by rw [ty_fl_28_0]; rfl) a, ty_fl_28_0]; rfl
theorem fd_28_1 {K : Fr → World → Prop} {u : World} {f : Fr} {d : Option Nat} {w : World} (a : Addr) : Val1 Try.prog K (Instr.fieldAt 28 (.pointer (some a)) 1) u f d w = K (updO f d (.pointer (some (a.add 1)))) w := by
  rw [fld_ptr u f d w 28 1 (by rw [ty_fl_28_1]; rfl) a, ty_fl_28_1]; rfl
theorem fdA_28_1 {K : Fr → World → Prop} {f : Fr} {d : Option Nat} {w : World} (a : Addr) : ValA Try.prog K (Instr.fieldAt 28 (.pointer (some a)) 1) f d w = K (updO f d (.pointer (some (a.add 1)))) w := by
  rw [fld_ptrA f d w 28 1 (by rw [ty_fl_28_1]; rfl) a, ty_fl_28_1]; rfl
theorem fd_28_2 {K : Fr → World → Prop} {u : World} {f : Fr} {d : Option Nat} {w : World} (a : Addr) : Val1 Try.prog K (Instr.fieldAt 28 (.pointer (some a)) 2) u f d w = K (updO f d (.pointer (some (a.add 2)))) w := by
  rw [fld_ptr u f d w 28 2 (by rw [ty_fl_28_2]; rfl) a, ty_fl_28_2]; rfl
theorem fdA_28_2 {K : Fr → World → Prop} {f : Fr} {d : Option Nat} {w : World} (a : Addr) : ValA Try.prog K (Instr.fieldAt 28 (.pointer (some a)) 2) f d w = K (updO f d (.pointer (some (a.add 2)))) w := by
  rw [fld_ptrA f d w 28 2 (by rw [ty_fl_28_2]; rfl) a, ty_fl_28_2]; rfl
theorem fd_28_3 {K : Fr → World → Prop} {u : World} {f : Fr} {d : Option Nat} {w : World} (a : Addr) : Val1 Try.prog K (Instr.fieldAt 28 (.pointer (some a)) 3) u f d w = K (updO f d (.pointer (some (a.add 7)))) w := by
  rw [fld_ptr u f d w 28 3 (by rw [ty_fl_28_3]; rfl) a, ty_fl_28_3]; rfl
theorem fdA_28_3 {K : Fr → World → Prop} {f : Fr} {d : Option Nat} {w : World} (a : Addr) : ValA Try.prog K (Instr.fieldAt 28 (.pointer (some a)) 3) f d w = K (updO f d (.pointer (some (a.add 7)))) w := by
  rw [fld_ptrA f d w 28 3 (by rw [ty_fl_28_3]; rfl) a, ty_fl_28_3]; rfl
theorem fd_28_4 {K : Fr → World → Prop} {u : World} {f : Fr} {d : Option Nat} {w : World} (a : Addr) : Val1 Try.prog K (Instr.fieldAt 28 (.pointer (some a)) 4) u f d w = K (updO f d (.pointer (some (a.add 8)))) w := by
  rw [fld_ptr u f d w 28 4 (by rw [ty_fl_28_4]; rfl) a, ty_fl_28_4]; rfl
theorem fdA_28_4 {K : Fr → World → Prop} {f : Fr} {d : Option Nat} {w : World} (a : Addr) : ValA Try.prog K (Instr.fieldAt 28 (.pointer (some a)) 4) f d w = K (updO f d (.pointer (some (a.add 8)))) w := by
  rw [fld_ptrA f d w 28 4 (by rw [ty_fl_28_4]; rfl) a, ty_fl_28_4]; rfl
theorem fd_28_5 {K : Fr → World → Prop} {u : World} {f : Fr} {d : Option Nat} {w : World} (a : Addr) : Val1 Try.prog K (Instr.fieldAt 28 (.pointer (some a)) 5) u f d w = K (updO f d (.pointer (some (a.add 9)))) w := by
  rw [fld_ptr u f d w 28 5 (by rw [ty_fl_28_5]; rfl) a, ty_fl_28_5]; rfl
theorem fdA_28_5 {K : Fr → World → Prop} {f : Fr} {d : Option Nat} {w : World} (a : Addr) : ValA Try.prog K (Instr.fieldAt 28 (.pointer (some a)) 5) f d w = K (updO f d (.pointer (some (a.add 9)))) w := by
  rw [fld_ptrA f d w 28 5 (by rw [ty_fl_28_5]; rfl) a, ty_fl_28_5]; rfl
theorem fd_28_6 {K : Fr → World → Prop} {u : World} {f : Fr} {d : Option Nat} {w : World} (a : Addr) : Val1 Try.prog K (Instr.fieldAt 28 (.pointer (some a)) 6) u f d w = K (updO f d (.pointer (some (a.add 10)))) w := by
  rw [fld_ptr u f d w 28 6 (by rw [ty_fl_28_6]; rfl) a, ty_fl_28_6]; rfl
theorem fdA_28_6 {K : Fr → World → Prop} {f : Fr} {d : Option Nat} {w : World} (a : Addr) : ValA Try.prog K (Instr.fieldAt 28 (.pointer (some a)) 6) f d w = K (updO f d (.pointer (some (a.add 10)))) w := by
  rw [fld_ptrA f d w 28 6 (by rw [ty_fl_28_6]; rfl) a, ty_fl_28_6]; rfl
theorem fd_35_0 {K : Fr → World → Prop} {u : World} {f : Fr} {d : Option Nat} {w : World} (a : Addr) : Val1 Try.prog K (Instr.fieldAt 35 (.pointer (some a)) 0) u f d w = K (updO f d (.pointer (some (a.add 0)))) w := by
  rw [fld_ptr u f d w 35 0 (by rw [ty_fl_35_0]; rfl) a, ty_fl_35_0]; rfl
theorem fdA_35_0 {K : Fr → World → Prop} {f : Fr} {d : Option Nat} {w : World} (a : Addr) : ValA Try.prog K (Instr.fieldAt 35 (.pointer (some a)) 0) f d w = K (updO f d (.pointer (some (a.add 0)))) w := by
  rw [fld_ptrA f d w 35 0 (by rw [ty_fl_35_0]; rfl) a, ty_fl_35_0]; rfl
theorem fd_35_1 {K : Fr → World → Prop} {u : World} {f : Fr} {d : Option Nat} {w : World} (a : Addr) : Val1 Try.prog K (Instr.fieldAt 35 (.pointer (some a)) 1) u f d w = K (updO f d (.pointer (some (a.add 1)))) w := by
  rw [fld_ptr u f d w 35 1 (by rw [ty_fl_35_1]; rfl) a, ty_fl_35_1]; rfl
theorem fdA_35_1 {K : Fr → World → Prop} {f : Fr} {d : Option Nat} {w : World} (a : Addr) : ValA Try.prog K (Instr.fieldAt 35 (.pointer (some a)) 1) f d w = K (updO f d (.pointer (some (a.add 1)))) w := by
  rw [fld_ptrA f d w 35 1 (by rw [ty_fl_35_1]; rfl) a, ty_fl_35_1]; rfl
theorem fd_35_2 {K : Fr → World → Prop} {u : World} {f : Fr} {d : Option Nat} {w : World} (a : Addr) : Val1 Try.prog K (Instr.fieldAt 35 (.pointer (some a)) 2) u f d w = K (updO f d (.pointer (some (a.add 2)))) w := by
  rw [fld_ptr u f d w 35 2 (by rw [ty_fl_35_2]; rfl) a, ty_fl_35_2]; rfl
theorem fdA_35_2 {K : Fr → World → Prop} {f : Fr} {d : Option Nat} {w : World} (a : Addr) : ValA Try.prog K (Instr.fieldAt 35 (.pointer (some a)) 2) f d w = K (updO f d (.pointer (some (a.add 2)))) w := by
  rw [fld_ptrA f d w 35 2 (by rw [ty_fl_35_2]; rfl) a, ty_fl_35_2]; rfl
theorem fd_36_0 {K : Fr → World → Prop} {u : World} {f : Fr} {d : Option Nat} {w : World} (a : Addr) : Val1 Try.prog K (Instr.fieldAt 36 (.pointer (some a)) 0) u f d w = K (updO f d (.pointer (some (a.add 0)))) w := by
  rw [fld_ptr u f d w 36 0 (by rw [ty_fl_36_0]; rfl) a, ty_fl_36_0]; rfl
theorem fdA_36_0 {K : Fr → World → Prop} {f : Fr} {d : Option Nat} {w : World} (a : Addr) : ValA Try.prog K (Instr.fieldAt 36 (.pointer (some a)) 0) f d w = K (updO f d (.pointer (some (a.add 0)))) w := by
  rw [fld_ptrA f d w 36 0 (by rw [ty_fl_36_0]; rfl) a, ty_fl_36_0]; rfl
theorem fd_36_1 {K : Fr → World → Prop} {u : World} {f : Fr} {d : Option Nat} {w : World} (a : Addr) : Val1 Try.prog K (Instr.fieldAt 36 (.pointer (some a)) 1) u f d w = K (updO f d (.pointer (some (a.add 1)))) w := by
  rw [fld_ptr u f d w 36 1 (by rw [ty_fl_36_1]; rfl) a, ty_fl_36_1]; rfl
theorem fdA_36_1 {K : Fr → World → Prop} {f : Fr} {d : Option Nat} {w : World} (a : Addr) : ValA Try.prog K (Instr.fieldAt 36 (.pointer (some a)) 1) f d w = K (updO f d (.pointer (some (a.add 1)))) w := by
  rw [fld_ptrA f d w 36 1 (by rw [ty_fl_36_1]; rfl) a, ty_fl_36_1]; rfl
theorem fd_36_2 {K : Fr → World → Prop} {u : World} {f : Fr} {d : Option Nat} {w : World} (a : Addr) : Val1 Try.prog K (Instr.fieldAt 36 (.pointer (some a)) 2) u f d w = K (updO f d (.pointer (some (a.add 2)))) w := by
  rw [fld_ptr u f d w 36 2 (by rw [ty_fl_36_2]; rfl) a, ty_fl_36_2]; rfl
theorem fdA_36_2 {K : Fr → World → Prop} {f : Fr} {d : Option Nat} {w : World} (a : Addr) : ValA Try.prog K (Instr.fieldAt 36 (.pointer (some a)) 2) f d w = K (updO f d (.pointer (some (a.add 2)))) w := by
  rw [fld_ptrA f d w 36 2 (by rw [ty_fl_36_2]; rfl) a, ty_fl_36_2]; rfl
theorem ix_43 {K : Fr → World → Prop} {u : World} {f : Fr} {d : Option Nat} {w : World} (A : Option Addr) (hA : A.isSome = true) (n c : Nat) (k : IntKind) (i : Int) (h0 : 0 ≤ i) (h1 : i < n) : Val1 Try.prog K (Instr.indexAt 43 (.slice A n c) (.int k i)) u f d w = K (updO f d (.pointer (some (eA A (i.toNat * 1))))) w := by
  rw [idx_sl u f d w 43 (by rw [ty_sl_43]; rfl) A hA n c k i h0 h1, ty_sl_43]; rfl
theorem ln_43 {K : Fr → World → Prop} {u : World} {f : Fr} {d : Option Nat} {w : World} (ty : TypeId) (A : Option Addr) (n c : Nat) : Val1 Try.prog K (Builtin.len_ #[43] ty #[.slice A n c]) u f d w = K (updO f d (.int .i64 n)) w := len_sl u f d w ty 43 (by rw [ty_sl_43]; rfl) A n c
theorem ixA_43 {K : Fr → World → Prop} {f : Fr} {d : Option Nat} {w : World} (A : Option Addr) (hA : A.isSome = true) (n c : Nat) (k : IntKind) (i : Int) (h0 : 0 ≤ i) (h1 : i < n) : ValA Try.prog K (Instr.indexAt 43 (.slice A n c) (.int k i)) f d w = K (updO f d (.pointer (some (eA A (i.toNat * 1))))) w := by
  rw [idx_slA f d w 43 (by rw [ty_sl_43]; rfl) A hA n c k i h0 h1, ty_sl_43]; rfl
theorem fd_44_0 {K : Fr → World → Prop} {u : World} {f : Fr} {d : Option Nat} {w : World} (a : Addr) : Val1 Try.prog K (Instr.fieldAt 44 (.pointer (some a)) 0) u f d w = K (updO f d (.pointer (some (a.add 0)))) w := by
  rw [fld_ptr u f d w 44 0 (by rw [ty_fl_44_0]; rfl) a, ty_fl_44_0]; rfl
theorem fdA_44_0 {K : Fr → World → Prop} {f : Fr} {d : Option Nat} {w : World} (a : Addr) : ValA Try.prog K (Instr.fieldAt 44 (.pointer (some a)) 0) f d w = K (updO f d (.pointer (some (a.add 0)))) w := by
  rw [fld_ptrA f d w 44 0 (by rw [ty_fl_44_0]; rfl) a, ty_fl_44_0]; rfl
theorem fd_44_1 {K : Fr → World → Prop} {u : World} {f : Fr} {d : Option Nat} {w : World} (a : Addr) : Val1 Try.prog K (Instr.fieldAt 44 (.pointer (some a)) 1) u f d w = K (updO f d (.pointer (some (a.add 1)))) w := by
  rw [fld_ptr u f d w 44 1 (by rw [ty_fl_44_1]; rfl) a, ty_fl_44_1]; rfl
theorem fdA_44_1 {K : Fr → World → Prop} {f : Fr} {d : Option Nat} {w : World} (a : Addr) : ValA Try.prog K (Instr.fieldAt 44 (.pointer (some a)) 1) f d w = K (updO f d (.pointer (some (a.add 1)))) w := by
  rw [fld_ptrA f d w 44 1 (by rw [ty_fl_44_1]; rfl) a, ty_fl_44_1]; rfl
theorem fd_45_0 {K : Fr → World → Prop} {u : World} {f : Fr} {d : Option Nat} {w : World} (a : Addr) : Val1 Try.prog K (Instr.fieldAt 45 (.pointer (some a)) 0) u f d w = K (updO f d (.pointer (some (a.add 0)))) w := by
  rw [fld_ptr u f d w 45 0 (by rw [ty_fl_45_0]; rfl) a, ty_fl_45_0]; rfl
theorem fdA_45_0 {K : Fr → World → Prop} {f : Fr} {d : Option Nat} {w : World} (a : Addr) : ValA Try.prog K (Instr.fieldAt 45 (.pointer (some a)) 0) f d w = K (updO f d (.pointer (some (a.add 0)))) w := by
  rw [fld_ptrA f d w 45 0 (by rw [ty_fl_45_0]; rfl) a, ty_fl_45_0]; rfl
theorem fd_45_1 {K : Fr → World → Prop} {u : World} {f : Fr} {d : Option Nat} {w : World} (a : Addr) : Val1 Try.prog K (Instr.fieldAt 45 (.pointer (some a)) 1) u f d w = K (updO f d (.pointer (some (a.add 1)))) w := by
  rw [fld_ptr u f d w 45 1 (by rw [ty_fl_45_1]; rfl) a, ty_fl_45_1]; rfl
theorem fdA_45_1 {K : Fr → World → Prop} {f : Fr} {d : Option Nat} {w : World} (a : Addr) : ValA Try.prog K (Instr.fieldAt 45 (.pointer (some a)) 1) f d w = K (updO f d (.pointer (some (a.add 1)))) w := by
  rw [fld_ptrA f d w 45 1 (by rw [ty_fl_45_1]; rfl) a, ty_fl_45_1]; rfl
theorem fd_67_0 {K : Fr → World → Prop} {u : World} {f : Fr} {d : Option Nat} {w : World} (a : Addr) : Val1 Try.prog K (Instr.fieldAt 67 (.pointer (some a)) 0) u f d w = K (updO f d (.pointer (some (a.add 0)))) w := by
  rw [fld_ptr u f d w 67 0 (by rw [ty_fl_67_0]; rfl) a, ty_fl_67_0]; rfl
theorem fdA_67_0 {K : Fr → World → Prop} {f : Fr} {d : Option Nat} {w : World} (a : Addr) : ValA Try.prog K (Instr.fieldAt 67 (.pointer (some a)) 0) f d w = K (updO f d (.pointer (some (a.add 0)))) w := by
  rw [fld_ptrA f d w 67 0 (by rw [ty_fl_67_0]; rfl) a, ty_fl_67_0]; rfl
theorem fd_67_1 {K : Fr → World → Prop} {u : World} {f : Fr} {d : Option Nat} {w : World} (a : Addr) : Val1 Try.prog K (Instr.fieldAt 67 (.pointer (some a)) 1) u f d w = K (updO f d (.pointer (some (a.add 1)))) w := by
  rw [fld_ptr u f d w 67 1 (by rw [ty_fl_67_1]; rfl) a, ty_fl_67_1]; rfl
theorem fdA_67_1 {K : Fr → World → Prop} {f : Fr} {d : Option Nat} {w : World} (a : Addr) : ValA Try.prog K (Instr.fieldAt 67 (.pointer (some a)) 1) f d w = K (updO f d (.pointer (some (a.add 1)))) w := by
  rw [fld_ptrA f d w 67 1 (by rw [ty_fl_67_1]; rfl) a, ty_fl_67_1]; rfl
theorem fd_67_2 {K : Fr → World → Prop} {u : World} {f : Fr} {d : Option Nat} {w : World} (a : Addr) : Val1 Try.prog K (Instr.fieldAt 67 (.pointer (some a)) 2) u f d w = K (updO f d (.pointer (some (a.add 2)))) w := by
  rw [fld_ptr u f d w 67 2 (by rw [ty_fl_67_2]; rfl) a, ty_fl_67_2]; rfl
theorem fdA_67_2 {K : Fr → World → Prop} {f : Fr} {d : Option Nat} {w : World} (a : Addr) : ValA Try.prog K (Instr.fieldAt 67 (.pointer (some a)) 2) f d w = K (updO f d (.pointer (some (a.add 2)))) w := by
  rw [fld_ptrA f d w 67 2 (by rw [ty_fl_67_2]; rfl) a, ty_fl_67_2]; rfl
theorem fd_67_3 {K : Fr → World → Prop} {u : World} {f : Fr} {d : Option Nat} {w : World} (a : Addr) : Val1 Try.prog K (Instr.fieldAt 67 (.pointer (some a)) 3) u f d w = K (updO f d (.pointer (some (a.add 3)))) w := by
  rw [fld_ptr u f d w 67 3 (by rw [ty_fl_67_3]; rfl) a, ty_fl_67_3]; rfl
theorem fdA_67_3 {K : Fr → World → Prop} {f : Fr} {d : Option Nat} {w : World} (a : Addr) : ValA Try.prog K (Instr.fieldAt 67 (.pointer (some a)) 3) f d w = K (updO f d (.pointer (some (a.add 3)))) w := by
  rw [fld_ptrA f d w 67 3 (by rw [ty_fl_67_3]; rfl) a, ty_fl_67_3]; rfl
theorem fd_68_0 {K : Fr → World → Prop} {u : World} {f : Fr} {d : Option Nat} {w : World} (a : Addr) : Val1 Try.prog K (Instr.fieldAt 68 (.pointer (some a)) 0) u f d w = K (updO f d (.pointer (some (a.add 0)))) w := by
  rw [fld_ptr u f d w 68 0 (by rw [ty_fl_68_0]; rfl) a, ty_fl_68_0]; rfl
theorem fdA_68_0 {K : Fr → World → Prop} {f : Fr} {d : Option Nat} {w : World} (a : Addr) : ValA Try.prog K (Instr.fieldAt 68 (.pointer (some a)) 0) f d w = K (updO f d (.pointer (some (a.add 0)))) w := by
  rw [fld_ptrA f d w 68 0 (by rw [ty_fl_68_0]; rfl) a, ty_fl_68_0]; rfl
theorem fd_68_1 {K : Fr → World → Prop} {u : World} {f : Fr} {d : Option Nat} {w : World} (a : Addr) : Val1 Try.prog K (Instr.fieldAt 68 (.pointer (some a)) 1) u f d w = K (updO f d (.pointer (some (a.add 1)))) w := by
  rw [fld_ptr u f d w 68 1 (by rw [ty_fl_68_1]; rfl) a, ty_fl_68_1]; rfl
theorem fdA_68_1 {K : Fr → World → Prop} {f : Fr} {d : Option Nat} {w : World} (a : Addr) : ValA Try.prog K (Instr.fieldAt 68 (.pointer (some a)) 1) f d w = K (updO f d (.pointer (some (a.add 1)))) w := by
  rw [fld_ptrA f d w 68 1 (by rw [ty_fl_68_1]; rfl) a, ty_fl_68_1]; rfl
theorem fd_68_2 {K : Fr → World → Prop} {u : World} {f : Fr} {d : Option Nat} {w : World} (a : Addr) : Val1 Try.prog K (Instr.fieldAt 68 (.pointer (some a)) 2) u f d w = K (updO f d (.pointer (some (a.add 2)))) w := by
  rw [fld_ptr u f d w 68 2 (by rw [ty_fl_68_2]; rfl) a, ty_fl_68_2]; rfl
theorem fdA_68_2 {K : Fr → World → Prop} {f : Fr} {d : Option Nat} {w : World} (a : Addr) : ValA Try.prog K (Instr.fieldAt 68 (.pointer (some a)) 2) f d w = K (updO f d (.pointer (some (a.add 2)))) w := by
  rw [fld_ptrA f d w 68 2 (by rw [ty_fl_68_2]; rfl) a, ty_fl_68_2]; rfl
theorem fd_68_3 {K : Fr → World → Prop} {u : World} {f : Fr} {d : Option Nat} {w : World} (a : Addr) : Val1 Try.prog K (Instr.fieldAt 68 (.pointer (some a)) 3) u f d w = K (updO f d (.pointer (some (a.add 3)))) w := by
  rw [fld_ptr u f d w 68 3 (by rw [ty_fl_68_3]; rfl) a, ty_fl_68_3]; rfl
theorem fdA_68_3 {K : Fr → World → Prop} {f : Fr} {d : Option Nat} {w : World} (a : Addr) : ValA Try.prog K (Instr.fieldAt 68 (.pointer (some a)) 3) f d w = K (updO f d (.pointer (some (a.add 3)))) w := by
  rw [fld_ptrA f d w 68 3 (by rw [ty_fl_68_3]; rfl) a, ty_fl_68_3]; rfl
theorem ix_69 {K : Fr → World → Prop} {u : World} {f : Fr} {d : Option Nat} {w : World} (a : Addr) (k : IntKind) (i : Int) (h0 : 0 ≤ i) (h1 : i < 0) : Val1 Try.prog K (Instr.indexAt 69 (.pointer (some a)) (.int k i)) u f d w = K (updO f d (.pointer (some (a.add (i.toNat * 1))))) w := by
  rw [idx_arr u f d w 69 (by rw [ty_ar_69]; rfl) a k i h0 (by rw [ty_ar_69]; exact h1), ty_ar_69]; rfl
theorem ixA_69 {K : Fr → World → Prop} {f : Fr} {d : Option Nat} {w : World} (a : Addr) (k : IntKind) (i : Int) (h0 : 0 ≤ i) (h1 : i < 0) : ValA Try.prog K (Instr.indexAt 69 (.pointer (some a)) (.int k i)) f d w = K (updO f d (.pointer (some (a.add (i.toNat * 1))))) w := by
  rw [idx_arrA f d w 69 (by rw [ty_ar_69]; rfl) a k i h0 (by rw [ty_ar_69]; exact h1), ty_ar_69]; rfl
theorem fd_79_0 {K : Fr → World → Prop} {u : World} {f : Fr} {d : Option Nat} {w : World} (a : Addr) : Val1 Try.prog K (Instr.fieldAt 79 (.pointer (some a)) 0) u f d w = K (updO f d (.pointer (some (a.add 0)))) w := by
  rw [fld_ptr u f d w 79 0 (by rw [ty_fl_79_0]; rfl) a, ty_fl_79_0]; rfl
theorem fdA_79_0 {K : Fr → World → Prop} {f : Fr} {d : Option Nat} {w : World} (a : Addr) : ValA Try.prog K (Instr.fieldAt 79 (.pointer (some a)) 0) f d w = K (updO f d (.pointer (some (a.add 0)))) w := by
  rw [fld_ptrA f d w 79 0 (by rw [ty_fl_79_0]; rfl) a, ty_fl_79_0]; rfl
theorem fd_79_1 {K : Fr → World → Prop} {u : World} {f : Fr} {d : Option Nat} {w : World} (a : Addr) : Val1 Try.prog K (Instr.fieldAt 79 (.pointer (some a)) 1) u f d w = K (updO f d (.pointer (some (a.add 1)))) w := by
  rw [fld_ptr u f d w 79 1 (by rw [ty_fl_79_1]; rfl) a, ty_fl_79_1]; rfl
theorem fdA_79_1 {K : Fr → World → Prop} {f : Fr} {d : Option Nat} {w : World} (a : Addr) : ValA Try.prog K (Instr.fieldAt 79 (.pointer (some a)) 1) f d w = K (updO f d (.pointer (some (a.add 1)))) w := by
  rw [fld_ptrA f d w 79 1 (by rw [ty_fl_79_1]; rfl) a, ty_fl_79_1]; rfl
theorem fd_79_2 {K : Fr → World → Prop} {u : World} {f : Fr} {d : Option Nat} {w : World} (a : Addr) : Val1 Try.prog K (Instr.fieldAt 79 (.pointer (some a)) 2) u f d w = K (updO f d (.pointer (some (a.add 2)))) w := by
  rw [fld_ptr u f d w 79 2 (by rw [ty_fl_79_2]; rfl) a, ty_fl_79_2]; rfl
theorem fdA_79_2 {K : Fr → World → Prop} {f : Fr} {d : Option Nat} {w : World} (a : Addr) : ValA Try.prog K (Instr.fieldAt 79 (.pointer (some a)) 2) f d w = K (updO f d (.pointer (some (a.add 2)))) w := by
  rw [fld_ptrA f d w 79 2 (by rw [ty_fl_79_2]; rfl) a, ty_fl_79_2]; rfl
theorem fd_79_3 {K : Fr → World → Prop} {u : World} {f : Fr} {d : Option Nat} {w : World} (a : Addr) : Val1 Try.prog K (Instr.fieldAt 79 (.pointer (some a)) 3) u f d w = K (updO f d (.pointer (some (a.add 3)))) w := by
  rw [fld_ptr u f d w 79 3 (by rw [ty_fl_79_3]; rfl) a, ty_fl_79_3]; rfl
theorem fdA_79_3 {K : Fr → World → Prop} {f : Fr} {d : Option Nat} {w : World} (a : Addr) : ValA Try.prog K (Instr.fieldAt 79 (.pointer (some a)) 3) f d w = K (updO f d (.pointer (some (a.add 3)))) w := by
  rw [fld_ptrA f d w 79 3 (by rw [ty_fl_79_3]; rfl) a, ty_fl_79_3]; rfl
theorem fd_79_4 {K : Fr → World → Prop} {u : World} {f : Fr} {d : Option Nat} {w : World} (a : Addr) : Val1 Try.prog K (Instr.fieldAt 79 (.pointer (some a)) 4) u f d w = K (updO f d (.pointer (some (a.add 4)))) w := by
  rw [fld_ptr u f d w 79 4 (by rw [ty_fl_79_4]; rfl) a, ty_fl_79_4]; rfl
theorem fdA_79_4 {K : Fr → World → Prop} {f : Fr} {d : Option Nat} {w : World} (a : Addr) : ValA Try.prog K (Instr.fieldAt 79 (.pointer (some a)) 4) f d w = K (updO f d (.pointer (some (a.add 4)))) w := by
  rw [fld_ptrA f d w 79 4 (by rw [ty_fl_79_4]; rfl) a, ty_fl_79_4]; rfl
theorem fd_79_5 {K : Fr → World → Prop} {u : World} {f : Fr} {d : Option Nat} {w : World} (a : Addr) : Val1 Try.prog K (Instr.fieldAt 79 (.pointer (some a)) 5) u f d w = K (updO f d (.pointer (some (a.add 5)))) w := by
  rw [fld_ptr u f d w 79 5 (by rw [ty_fl_79_5]; rfl) a, ty_fl_79_5]; rfl
theorem fdA_79_5 {K : Fr → World → Prop} {f : Fr} {d : Option Nat} {w : World} (a : Addr) : ValA Try.prog K (Instr.fieldAt 79 (.pointer (some a)) 5) f d w = K (updO f d (.pointer (some (a.add 5)))) w := by
  rw [fld_ptrA f d w 79 5 (by rw [ty_fl_79_5]; rfl) a, ty_fl_79_5]; rfl
theorem fd_79_6 {K : Fr → World → Prop} {u : World} {f : Fr} {d : Option Nat} {w : World} (a : Addr) : Val1 Try.prog K (Instr.fieldAt 79 (.pointer (some a)) 6) u f d w = K (updO f d (.pointer (some (a.add 6)))) w := by
  rw [fld_ptr u f d w 79 6 (by rw [ty_fl_79_6]; rfl) a, ty_fl_79_6]; rfl
theorem fdA_79_6 {K : Fr → World → Prop} {f : Fr} {d : Option Nat} {w : World} (a : Addr) : ValA Try.prog K (Instr.fieldAt 79 (.pointer (some a)) 6) f d w = K (updO f d (.pointer (some (a.add 6)))) w := by
  rw [fld_ptrA f d w 79 6 (by rw [ty_fl_79_6]; rfl) a, ty_fl_79_6]; rfl
theorem fd_79_7 {K : Fr → World → Prop} {u : World} {f : Fr} {d : Option Nat} {w : World} (a : Addr) : Val1 Try.prog K (Instr.fieldAt 79 (.pointer (some a)) 7) u f d w = K (updO f d (.pointer (some (a.add 7)))) w := by
  rw [fld_ptr u f d w 79 7 (by rw [ty_fl_79_7]; rfl) a, ty_fl_79_7]; rfl
theorem fdA_79_7 {K : Fr → World → Prop} {f : Fr} {d : Option Nat} {w : World} (a : Addr) : ValA Try.prog K (Instr.fieldAt 79 (.pointer (some a)) 7) f d w = K (updO f d (.pointer (some (a.add 7)))) w := by
  rw [fld_ptrA f d w 79 7 (by rw [ty_fl_79_7]; rfl) a, ty_fl_79_7]; rfl
theorem fd_79_8 {K : Fr → World → Prop} {u : World} {f : Fr} {d : Option Nat} {w : World} (a : Addr) : Val1 Try.prog K (Instr.fieldAt 79 (.pointer (some a)) 8) u f d w = K (updO f d (.pointer (some (a.add 8)))) w := by
  rw [fld_ptr u f d w 79 8 (by rw [ty_fl_79_8]; rfl) a, ty_fl_79_8]; rfl
theorem fdA_79_8 {K : Fr → World → Prop} {f : Fr} {d : Option Nat} {w : World} (a : Addr) : ValA Try.prog K (Instr.fieldAt 79 (.pointer (some a)) 8) f d w = K (updO f d (.pointer (some (a.add 8)))) w := by
  rw [fld_ptrA f d w 79 8 (by rw [ty_fl_79_8]; rfl) a, ty_fl_79_8]; rfl
theorem fd_79_9 {K : Fr → World → Prop} {u : World} {f : Fr} {d : Option Nat} {w : World} (a : Addr) : Val1 Try.prog K (Instr.fieldAt 79 (.pointer (some a)) 9) u f d w = K (updO f d (.pointer (some (a.add 9)))) w := by
  rw [fld_ptr u f d w 79 9 (by rw [ty_fl_79_9]; rfl) a, ty_fl_79_9]; rfl
theorem fdA_79_9 {K : Fr → World → Prop} {f : Fr} {d : Option Nat} {w : World} (a : Addr) : ValA Try.prog K (Instr.fieldAt 79 (.pointer (some a)) 9) f d w = K (updO f d (.pointer (some (a.add 9)))) w := by
  rw [fld_ptrA f d w 79 9 (by rw [ty_fl_79_9]; rfl) a, ty_fl_79_9]; rfl
theorem fd_79_10 {K : Fr → World → Prop} {u : World} {f : Fr} {d : Option Nat} {w : World} (a : Addr) : Val1 Try.prog K (Instr.fieldAt 79 (.pointer (some a)) 10) u f d w = K (updO f d (.pointer (some (a.add 10)))) w := by
  rw [fld_ptr u f d w 79 10 (by rw [ty_fl_79_10]; rfl) a, ty_fl_79_10]; rfl
theorem fdA_79_10 {K : Fr → World → Prop} {f : Fr} {d : Option Nat} {w : World} (a : Addr) : ValA Try.prog K (Instr.fieldAt 79 (.pointer (some a)) 10) f d w = K (updO f d (.pointer (some (a.add 10)))) w := by
  rw [fld_ptrA f d w 79 10 (by rw [ty_fl_79_10]; rfl) a, ty_fl_79_10]; rfl
theorem fd_80_0 {K : Fr → World → Prop} {u : World} {f : Fr} {d : Option Nat} {w : World} (a : Addr) : Val1 Try.prog K (Instr.fieldAt 80 (.pointer (some a)) 0) u f d w = K (updO f d (.pointer (some (a.add 0)))) w := by
  rw [fld_ptr u f d w 80 0 (by rw [ty_fl_80_0]; rfl) a, ty_fl_80_0]; rfl
theorem fdA_80_0 {K : Fr → World → Prop} {f : Fr} {d : Option Nat} {w : World} (a : Addr) : ValA Try.prog K (Instr.fieldAt 80 (.pointer (some a)) 0) f d w = K (updO f d (.pointer (some (a.add 0)))) w := by
  rw [fld_ptrA f d w 80 0 (by rw [ty_fl_80_0]; rfl) a, ty_fl_80_0]; rfl
theorem fd_80_1 {K : Fr → World → Prop} {u : World} {f : Fr} {d : Option Nat} {w : World} (a : Addr) : Val1 Try.prog K (Instr.fieldAt 80 (.pointer (some a)) 1) u f d w = K (updO f d (.pointer (some (a.add 1)))) w := by
  rw [fld_ptr u f d w 80 1 (by rw [ty_fl_80_1]; rfl) a, ty_fl_80_1]; rfl
theorem fdA_80_1 {K : Fr → World → Prop} {f : Fr} {d : Option Nat} {w : World} (a : Addr) : ValA Try.prog K (Instr.fieldAt 80 (.pointer (some a)) 1) f d w = K (updO f d (.pointer (some (a.add 1)))) w := by
  rw [fld_ptrA f d w 80 1 (by rw [ty_fl_80_1]; rfl) a, ty_fl_80_1]; rfl
theorem fd_80_2 {K : Fr → World → Prop} {u : World} {f : Fr} {d : Option Nat} {w : World} (a : Addr) : Val1 Try.prog K (Instr.fieldAt 80 (.pointer (some a)) 2) u f d w = K (updO f d (.pointer (some (a.add 2)))) w := by
  rw [fld_ptr u f d w 80 2 (by rw [ty_fl_80_2]; rfl) a, ty_fl_80_2]; rfl
theorem fdA_80_2 {K : Fr → World → Prop} {f : Fr} {d : Option Nat} {w : World} (a : Addr) : ValA Try.prog K (Instr.fieldAt 80 (.pointer (some a)) 2) f d w = K (updO f d (.pointer (some (a.add 2)))) w := by
  rw [fld_ptrA f d w 80 2 (by rw [ty_fl_80_2]; rfl) a, ty_fl_80_2]; rfl
theorem fd_80_3 {K : Fr → World → Prop} {u : World} {f : Fr} {d : Option Nat} {w : World} (a : Addr) : Val1 Try.prog K (Instr.fieldAt 80 (.pointer (some a)) 3) u f d w = K (updO f d (.pointer (some (a.add 3)))) w := by
  rw [fld_ptr u f d w 80 3 (by rw [ty_fl_80_3]; rfl) a, ty_fl_80_3]; rfl
theorem fdA_80_3 {K : Fr → World → Prop} {f : Fr} {d : Option Nat} {w : World} (a : Addr) : ValA Try.prog K (Instr.fieldAt 80 (.pointer (some a)) 3) f d w = K (updO f d (.pointer (some (a.add 3)))) w := by
  rw [fld_ptrA f d w 80 3 (by rw [ty_fl_80_3]; rfl) a, ty_fl_80_3]; rfl
theorem fd_80_4 {K : Fr → World → Prop} {u : World} {f : Fr} {d : Option Nat} {w : World} (a : Addr) : Val1 Try.prog K (Instr.fieldAt 80 (.pointer (some a)) 4) u f d w = K (updO f d (.pointer (some (a.add 4)))) w := by
  rw [fld_ptr u f d w 80 4 (by rw [ty_fl_80_4]; rfl) a, ty_fl_80_4]; rfl
theorem fdA_80_4 {K : Fr → World → Prop} {f : Fr} {d : Option Nat} {w : World} (a : Addr) : ValA Try.prog K (Instr.fieldAt 80 (.pointer (some a)) 4) f d w = K (updO f d (.pointer (some (a.add 4)))) w := by
  rw [fld_ptrA f d w 80 4 (by rw [ty_fl_80_4]; rfl) a, ty_fl_80_4]; rfl
theorem fd_80_5 {K : Fr → World → Prop} {u : World} {f : Fr} {d : Option Nat} {w : World} (a : Addr) : Val1 Try.prog K (Instr.fieldAt 80 (.pointer (some a)) 5) u f d w = K (updO f d (.pointer (some (a.add 5)))) w := by
  rw [fld_ptr u f d w 80 5 (by rw [ty_fl_80_5]; rfl) a, ty_fl_80_5]; rfl
theorem fdA_80_5 {K : Fr → World → Prop} {f : Fr} {d : Option Nat} {w : World} (a : Addr) : ValA Try.prog K (Instr.fieldAt 80 (.pointer (some a)) 5) f d w = K (updO f d (.pointer (some (a.add 5)))) w := by
  rw [fld_ptrA f d w 80 5 (by rw [ty_fl_80_5]; rfl) a, ty_fl_80_5]; rfl
theorem fd_80_6 {K : Fr → World → Prop} {u : World} {f : Fr} {d : Option Nat} {w : World} (a : Addr) : Val1 Try.prog K (Instr.fieldAt 80 (.pointer (some a)) 6) u f d w = K (updO f d (.pointer (some (a.add 6)))) w := by
  rw [fld_ptr u f d w 80 6 (by rw [ty_fl_80_6]; rfl) a, ty_fl_80_6]; rfl
theorem fdA_80_6 {K : Fr → World → Prop} {f : Fr} {d : Option Nat} {w : World} (a : Addr) : ValA Try.prog K (Instr.fieldAt 80 (.pointer (some a)) 6) f d w = K (updO f d (.pointer (some (a.add 6)))) w := by
  rw [fld_ptrA f d w 80 6 (by rw [ty_fl_80_6]; rfl) a, ty_fl_80_6]; rfl
theorem fd_80_7 {K : Fr → World → Prop} {u : World} {f : Fr} {d : Option Nat} {w : World} (a : Addr) : Val1 Try.prog K (Instr.fieldAt 80 (.pointer (some a)) 7) u f d w = K (updO f d (.pointer (some (a.add 7)))) w := by
  rw [fld_ptr u f d w 80 7 (by rw [ty_fl_80_7]; rfl) a, ty_fl_80_7]; rfl
theorem fdA_80_7 {K : Fr → World → Prop} {f : Fr} {d : Option Nat} {w : World} (a : Addr) : ValA Try.prog K (Instr.fieldAt 80 (.pointer (some a)) 7) f d w = K (updO f d (.pointer (some (a.add 7)))) w := by
  rw [fld_ptrA f d w 80 7 (by rw [ty_fl_80_7]; rfl) a, ty_fl_80_7]; rfl
theorem fd_80_8 {K : Fr → World → Prop} {u : World} {f : Fr} {d : Option Nat} {w : World} (a : Addr) : Val1 Try.prog K (Instr.fieldAt 80 (.pointer (some a)) 8) u f d w = K (updO f d (.pointer (some (a.add 8)))) w := by
  rw [fld_ptr u f d w 80 8 (by rw [ty_fl_80_8]; rfl) a, ty_fl_80_8]; rfl
theorem fdA_80_8 {K : Fr → World → Prop} {f : Fr} {d : Option Nat} {w : World} (a : Addr) : ValA Try.prog K (Instr.fieldAt 80 (.pointer (some a)) 8) f d w = K (updO f d (.pointer (some (a.add 8)))) w := by
  rw [fld_ptrA f d w 80 8 (by rw [ty_fl_80_8]; rfl) a, ty_fl_80_8]; rfl
theorem fd_80_9 {K : Fr → World → Prop} {u : World} {f : Fr} {d : Option Nat} {w : World} (a : Addr) : Val1 Try.prog K (Instr.fieldAt 80 (.pointer (some a)) 9) u f d w = K (updO f d (.pointer (some (a.add 9)))) w := by
  rw [fld_ptr u f d w 80 9 (by rw [ty_fl_80_9]; rfl) a, ty_fl_80_9]; rfl
theorem fdA_80_9 {K : Fr → World → Prop} {f : Fr} {d : Option Nat} {w : World} (a : Addr) : ValA Try.prog K (Instr.fieldAt 80 (.pointer (some a)) 9) f d w = K (updO f d (.pointer (some (a.add 9)))) w := by
  rw [fld_ptrA f d w 80 9 (by rw [ty_fl_80_9]; rfl) a, ty_fl_80_9]; rfl
theorem fd_80_10 {K : Fr → World → Prop} {u : World} {f : Fr} {d : Option Nat} {w : World} (a : Addr) : Val1 Try.prog K (Instr.fieldAt 80 (.pointer (some a)) 10) u f d w = K (updO f d (.pointer (some (a.add 10)))) w := by
  rw [fld_ptr u f d w 80 10 (by rw [ty_fl_80_10]; rfl) a, ty_fl_80_10]; rfl
theorem fdA_80_10 {K : Fr → World → Prop} {f : Fr} {d : Option Nat} {w : World} (a : Addr) : ValA Try.prog K (Instr.fieldAt 80 (.pointer (some a)) 10) f d w = K (updO f d (.pointer (some (a.add 10)))) w := by
  rw [fld_ptrA f d w 80 10 (by rw [ty_fl_80_10]; rfl) a, ty_fl_80_10]; rfl
theorem eqb_4 {K : Fr → World → Prop} {u : World} {f : Fr} {d : Option Nat} {w : World} (xo yo : Operand) (a b : Bool) : Val1 Try.prog K (binS .eql 4 xo yo (.bool a) (.bool b)) u f d w = K (updO f d (.bool (a == b))) w := bin_eqb u f d w 4 xo yo (by kernel_rfl) a b
theorem neb_4 {K : Fr → World → Prop} {u : World} {f : Fr} {d : Option Nat} {w : World} (xo yo : Operand) (a b : Bool) : Val1 Try.prog K (binS .neq 4 xo yo (.bool a) (.bool b)) u f d w = K (updO f d (.bool (a != b))) w := bin_neb u f d w 4 xo yo (by kernel_rfl) a b
theorem slT_22 : SlT Try.prog 22 9 1 16 := ⟨by kernel_rfl, by kernel_rfl, by decide⟩
theorem bs_22 {K : Fr → World → Prop} {f : Fr} {d : Option Nat} {w : World} (s : ByteArray) : Eff1 Try.prog K (Instr.buildSlice 22 1 #[(0, .string s)]) f d w = K (updO f d (.slice (some ⟨w.heap.size, 0, none⟩) 1 1)) (w.alloc (.cells [.string s].toArray 9)) := bsl1_eq slT_22 _ rfl (by decide)
theorem bs0_22 {K : Fr → World → Prop} {f : Fr} {d : Option Nat} {w : World} : Eff1 Try.prog K (Instr.buildSlice 22 0 #[]) f d w = K (updO f d (.slice (some ⟨w.heap.size, 0, none⟩) 0 0)) (w.alloc (.cells [].toArray 9)) := bsl0_eq slT_22
theorem al_22 {K : Fr → World → Prop} {f : Fr} {d : Option Nat} {w : World} : Eff1 Try.prog K (Instr.alloc 22 true (.tuple #[])) f d w = K (updO f d (.pointer (some ⟨w.heap.size, 0, none⟩))) (w.alloc (.cells [.slice none 0 0].toArray 22)) := alloc_eq 22 (.slice none 0 0) (by kernel_rfl)
theorem slT_23 : SlT Try.prog 23 3 1 8 := ⟨by kernel_rfl, by kernel_rfl, by decide⟩
theorem bs_23 {K : Fr → World → Prop} {f : Fr} {d : Option Nat} {w : World} (n : Int) : Eff1 Try.prog K (Instr.buildSlice 23 1 #[(0, .int .i64 n)]) f d w = K (updO f d (.slice (some ⟨w.heap.size, 0, none⟩) 1 1)) (w.alloc (.cells [.int .i64 n].toArray 3)) := bsl1_eq slT_23 _ rfl (by decide)
theorem bs0_23 {K : Fr → World → Prop} {f : Fr} {d : Option Nat} {w : World} : Eff1 Try.prog K (Instr.buildSlice 23 0 #[]) f d w = K (updO f d (.slice (some ⟨w.heap.size, 0, none⟩) 0 0)) (w.alloc (.cells [].toArray 3)) := bsl0_eq slT_23
theorem slT_24 : SlT Try.prog 24 36 3 24 := ⟨by kernel_rfl, by kernel_rfl, by decide⟩
theorem bs_24 {K : Fr → World → Prop} {f : Fr} {d : Option Nat} {w : World} (x0 x1 x2 : Value) : Eff1 Try.prog K (Instr.buildSlice 24 1 #[(0, .agg #[x0, x1, x2])]) f d w = K (updO f d (.slice (some ⟨w.heap.size, 0, none⟩) 1 1)) (w.alloc (.cells [x0, x1, x2].toArray 36)) := bsl1_eq slT_24 _ rfl (by decide)
theorem bs0_24 {K : Fr → World → Prop} {f : Fr} {d : Option Nat} {w : World} : Eff1 Try.prog K (Instr.buildSlice 24 0 #[]) f d w = K (updO f d (.slice (some ⟨w.heap.size, 0, none⟩) 0 0)) (w.alloc (.cells [].toArray 36)) := bsl0_eq slT_24
theorem al_26 {K : Fr → World → Prop} {f : Fr} {d : Option Nat} {w : World} : Eff1 Try.prog K (Instr.alloc 26 true (.tuple #[])) f d w = K (updO f d (.pointer (some ⟨w.heap.size, 0, none⟩))) (w.alloc (.cells [.int .i64 0, .int .i64 0, .slice none 0 0, .slice none 0 0, .slice none 0 0].toArray 26)) := alloc_eq 26 (.agg #[.int .i64 0, .int .i64 0, .slice none 0 0, .slice none 0 0, .slice none 0 0]) (by kernel_rfl)
theorem al_36 {K : Fr → World → Prop} {f : Fr} {d : Option Nat} {w : World} : Eff1 Try.prog K (Instr.alloc 36 true (.tuple #[])) f d w = K (updO f d (.pointer (some ⟨w.heap.size, 0, none⟩))) (w.alloc (.cells [.int .i64 0, .int .i64 0, .int .i64 0].toArray 36)) := alloc_eq 36 (.agg #[.int .i64 0, .int .i64 0, .int .i64 0]) (by kernel_rfl)
theorem slT_43 : SlT Try.prog 43 5 1 1 := ⟨by kernel_rfl, by kernel_rfl, by decide⟩
theorem bs_43 {K : Fr → World → Prop} {f : Fr} {d : Option Nat} {w : World} (n : Int) : Eff1 Try.prog K (Instr.buildSlice 43 1 #[(0, .int .u8 n)]) f d w = K (updO f d (.slice (some ⟨w.heap.size, 0, none⟩) 1 1)) (w.alloc (.cells [.int .u8 n].toArray 5)) := bsl1_eq slT_43 _ rfl (by decide)
theorem bs0_43 {K : Fr → World → Prop} {f : Fr} {d : Option Nat} {w : World} : Eff1 Try.prog K (Instr.buildSlice 43 0 #[]) f d w = K (updO f d (.slice (some ⟨w.heap.size, 0, none⟩) 0 0)) (w.alloc (.cells [].toArray 5)) := bsl0_eq slT_43
attribute [push_cast] fd_7_0 fdA_7_0 fd_7_1 fdA_7_1 fd_7_2 fdA_7_2 fd_7_3 fdA_7_3 fd_8_0 fdA_8_0 fd_8_1 fdA_8_1 fd_8_2 fdA_8_2 fd_8_3 fdA_8_3 fd_13_0 fdA_13_0 fd_13_1 fdA_13_1 fd_14_0 fdA_14_0 fd_14_1 fdA_14_1 fd_18_0 fdA_18_0 fd_19_0 fdA_19_0 ix_22 ln_22 ixA_22 ix_23 ln_23 ixA_23 ix_24 ln_24 ixA_24 fd_25_0 fdA_25_0 fd_25_1 fdA_25_1 fd_25_2 fdA_25_2 fd_25_3 fdA_25_3 fd_25_4 fdA_25_4 fd_26_0 fdA_26_0 fd_26_1 fdA_26_1 fd_26_2 fdA_26_2 fd_26_3 fdA_26_3 fd_26_4 fdA_26_4 fd_27_0 fdA_27_0 fd_27_1 fdA_27_1 fd_27_2 fdA_27_2 fd_27_3 fdA_27_3 fd_27_4 fdA_27_4 fd_27_5 fdA_27_5 fd_27_6 fdA_27_6 fd_28_0 fdA_28_0 fd_28_1 fdA_28_1 fd_28_2 fdA_28_2 fd_28_3 fdA_28_3 fd_28_4 fdA_28_4 fd_28_5 fdA_28_5 fd_28_6 fdA_28_6 fd_35_0 fdA_35_0 fd_35_1 fdA_35_1 fd_35_2 fdA_35_2 fd_36_0 fdA_36_0 fd_36_1 fdA_36_1 fd_36_2 fdA_36_2 ix_43 ln_43 ixA_43 fd_44_0 fdA_44_0 fd_44_1 fdA_44_1 fd_45_0 fdA_45_0 fd_45_1 fdA_45_1 fd_67_0 fdA_67_0 fd_67_1 fdA_67_1 fd_67_2 fdA_67_2 fd_67_3 fdA_67_3 fd_68_0 fdA_68_0 fd_68_1 fdA_68_1 fd_68_2 fdA_68_2 fd_68_3 fdA_68_3 ix_69 ixA_69 fd_79_0 fdA_79_0 fd_79_1 fdA_79_1 fd_79_2 fdA_79_2 fd_79_3 fdA_79_3 fd_79_4 fdA_79_4 fd_79_5 fdA_79_5 fd_79_6 fdA_79_6 fd_79_7 fdA_79_7 fd_79_8 fdA_79_8 fd_79_9 fdA_79_9 fd_79_10 fdA_79_10 fd_80_0 fdA_80_0 fd_80_1 fdA_80_1 fd_80_2 fdA_80_2 fd_80_3 fdA_80_3 fd_80_4 fdA_80_4 fd_80_5 fdA_80_5 fd_80_6 fdA_80_6 fd_80_7 fdA_80_7 fd_80_8 fdA_80_8 fd_80_9 fdA_80_9 fd_80_10 fdA_80_10 eqb_4 neb_4 bs_22 bs0_22 bs_23 bs0_23 bs_24 bs0_24 bs_43 bs0_43
end Go.Proofs.Ytpinjiikiaakaaa
