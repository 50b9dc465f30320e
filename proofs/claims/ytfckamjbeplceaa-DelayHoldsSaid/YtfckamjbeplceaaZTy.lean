/-
  Closed facts on the seat's types (by program: tygen.py).
-/
import Derived.Test.YtfckamjbeplceaaProg
import Derived.Test.YtfckamjbeplceaaZLaws
import Derived.KernelRfl
namespace Go.Proofs.Ytfckamjbeplceaa
theorem ty_ag_3 : tyAgg Try.prog 3 = some false := by kernel_rfl
theorem ty_sz_int : tySize Try.prog 3 = some 1 := by kernel_rfl
theorem ty_ag_4 : tyAgg Try.prog 4 = some false := by kernel_rfl
theorem ty_fl_7_0 : tyFld Try.prog 7 0 = some 0 := by kernel_rfl
theorem ty_fl_7_1 : tyFld Try.prog 7 1 = some 1 := by kernel_rfl
theorem ty_fl_7_2 : tyFld Try.prog 7 2 = some 2 := by kernel_rfl
theorem ty_fl_7_3 : tyFld Try.prog 7 3 = some 3 := by kernel_rfl
theorem ty_fl_8_0 : tyFld Try.prog 8 0 = some 0 := by kernel_rfl
theorem ty_fl_8_1 : tyFld Try.prog 8 1 = some 1 := by kernel_rfl
theorem ty_fl_8_2 : tyFld Try.prog 8 2 = some 2 := by kernel_rfl
theorem ty_fl_8_3 : tyFld Try.prog 8 3 = some 3 := by kernel_rfl
theorem ty_fl_13_0 : tyFld Try.prog 13 0 = some 0 := by kernel_rfl
theorem ty_fl_13_1 : tyFld Try.prog 13 1 = some 1 := by kernel_rfl
theorem ty_fl_14_0 : tyFld Try.prog 14 0 = some 0 := by kernel_rfl
theorem ty_fl_14_1 : tyFld Try.prog 14 1 = some 1 := by kernel_rfl
theorem ty_fl_18_0 : tyFld Try.prog 18 0 = some 0 := by kernel_rfl
theorem ty_fl_19_0 : tyFld Try.prog 19 0 = some 0 := by kernel_rfl
theorem ty_ag_22 : tyAgg Try.prog 22 = some false := by kernel_rfl
theorem ty_sl_22 : tySl Try.prog 22 = some 1 := by kernel_rfl
theorem ty_ag_23 : tyAgg Try.prog 23 = some false := by kernel_rfl
theorem ty_sl_23 : tySl Try.prog 23 = some 3 := by kernel_rfl
theorem ty_fl_24_0 : tyFld Try.prog 24 0 = some 0 := by kernel_rfl
theorem ty_fl_24_1 : tyFld Try.prog 24 1 = some 1 := by kernel_rfl
theorem ty_fl_24_2 : tyFld Try.prog 24 2 = some 2 := by kernel_rfl
theorem ty_fl_24_3 : tyFld Try.prog 24 3 = some 3 := by kernel_rfl
theorem ty_fl_24_4 : tyFld Try.prog 24 4 = some 4 := by kernel_rfl
theorem ty_ag_25 : tyAgg Try.prog 25 = some true := by kernel_rfl
theorem ty_sz_25 : tySize Try.prog 25 = some 5 := by kernel_rfl
theorem ty_fl_25_0 : tyFld Try.prog 25 0 = some 0 := by kernel_rfl
theorem ty_fl_25_1 : tyFld Try.prog 25 1 = some 1 := by kernel_rfl
theorem ty_fl_25_2 : tyFld Try.prog 25 2 = some 2 := by kernel_rfl
theorem ty_fl_25_3 : tyFld Try.prog 25 3 = some 3 := by kernel_rfl
theorem ty_fl_25_4 : tyFld Try.prog 25 4 = some 4 := by kernel_rfl
theorem ty_fl_36_0 : tyFld Try.prog 36 0 = some 0 := by kernel_rfl
theorem ty_fl_36_1 : tyFld Try.prog 36 1 = some 5 := by kernel_rfl
theorem ty_fl_36_2 : tyFld Try.prog 36 2 = some 6 := by kernel_rfl
theorem ty_ag_37 : tyAgg Try.prog 37 = some true := by kernel_rfl
theorem ty_sz_37 : tySize Try.prog 37 = some 7 := by kernel_rfl
theorem ty_fl_37_0 : tyFld Try.prog 37 0 = some 0 := by kernel_rfl
theorem ty_fl_37_1 : tyFld Try.prog 37 1 = some 5 := by kernel_rfl
theorem ty_fl_37_2 : tyFld Try.prog 37 2 = some 6 := by kernel_rfl
theorem ty_fl_41_0 : tyFld Try.prog 41 0 = some 0 := by kernel_rfl
theorem ty_fl_41_1 : tyFld Try.prog 41 1 = some 1 := by kernel_rfl
theorem ty_fl_41_2 : tyFld Try.prog 41 2 = some 2 := by kernel_rfl
theorem ty_ag_42 : tyAgg Try.prog 42 = some true := by kernel_rfl
theorem ty_sz_42 : tySize Try.prog 42 = some 3 := by kernel_rfl
theorem ty_fl_42_0 : tyFld Try.prog 42 0 = some 0 := by kernel_rfl
theorem ty_fl_42_1 : tyFld Try.prog 42 1 = some 1 := by kernel_rfl
theorem ty_fl_42_2 : tyFld Try.prog 42 2 = some 2 := by kernel_rfl
theorem ty_ar_45 : tyArr Try.prog 45 = some (8, 1) := by kernel_rfl
theorem ty_ar_46 : tyArr Try.prog 46 = some (6, 8) := by kernel_rfl
theorem ty_ag_47 : tyAgg Try.prog 47 = some false := by kernel_rfl
theorem ty_sl_47 : tySl Try.prog 47 = some 3 := by kernel_rfl
theorem ty_fl_48_0 : tyFld Try.prog 48 0 = some 0 := by kernel_rfl
theorem ty_fl_48_1 : tyFld Try.prog 48 1 = some 5 := by kernel_rfl
theorem ty_fl_48_2 : tyFld Try.prog 48 2 = some 6 := by kernel_rfl
theorem ty_fl_48_3 : tyFld Try.prog 48 3 = some 7 := by kernel_rfl
theorem ty_fl_48_4 : tyFld Try.prog 48 4 = some 55 := by kernel_rfl
theorem ty_fl_48_5 : tyFld Try.prog 48 5 = some 56 := by kernel_rfl
theorem ty_fl_49_0 : tyFld Try.prog 49 0 = some 0 := by kernel_rfl
theorem ty_fl_49_1 : tyFld Try.prog 49 1 = some 5 := by kernel_rfl
theorem ty_fl_49_2 : tyFld Try.prog 49 2 = some 6 := by kernel_rfl
theorem ty_fl_49_3 : tyFld Try.prog 49 3 = some 7 := by kernel_rfl
theorem ty_fl_49_4 : tyFld Try.prog 49 4 = some 55 := by kernel_rfl
theorem ty_fl_49_5 : tyFld Try.prog 49 5 = some 56 := by kernel_rfl
theorem ty_fl_51_0 : tyFld Try.prog 51 0 = some 0 := by kernel_rfl
theorem ty_fl_51_1 : tyFld Try.prog 51 1 = some 1 := by kernel_rfl
theorem ty_fl_51_2 : tyFld Try.prog 51 2 = some 2 := by kernel_rfl
theorem ty_ag_52 : tyAgg Try.prog 52 = some true := by kernel_rfl
theorem ty_sz_52 : tySize Try.prog 52 = some 3 := by kernel_rfl
theorem ty_fl_52_0 : tyFld Try.prog 52 0 = some 0 := by kernel_rfl
theorem ty_fl_52_1 : tyFld Try.prog 52 1 = some 1 := by kernel_rfl
theorem ty_fl_52_2 : tyFld Try.prog 52 2 = some 2 := by kernel_rfl
theorem ty_sl_54 : tySl Try.prog 54 = some 3 := by kernel_rfl
theorem ty_sl_55 : tySl Try.prog 55 = some 3 := by kernel_rfl
theorem ty_fl_58_0 : tyFld Try.prog 58 0 = some 0 := by kernel_rfl
theorem ty_fl_58_1 : tyFld Try.prog 58 1 = some 1 := by kernel_rfl
theorem ty_fl_58_2 : tyFld Try.prog 58 2 = some 2 := by kernel_rfl
theorem ty_fl_59_0 : tyFld Try.prog 59 0 = some 0 := by kernel_rfl
theorem ty_fl_59_1 : tyFld Try.prog 59 1 = some 1 := by kernel_rfl
theorem ty_fl_59_2 : tyFld Try.prog 59 2 = some 2 := by kernel_rfl
theorem ty_fl_60_0 : tyFld Try.prog 60 0 = some 0 := by kernel_rfl
theorem ty_fl_60_1 : tyFld Try.prog 60 1 = some 1 := by kernel_rfl
theorem ty_fl_60_2 : tyFld Try.prog 60 2 = some 2 := by kernel_rfl
theorem ty_fl_61_0 : tyFld Try.prog 61 0 = some 0 := by kernel_rfl
theorem ty_fl_61_1 : tyFld Try.prog 61 1 = some 1 := by kernel_rfl
theorem ty_fl_61_2 : tyFld Try.prog 61 2 = some 2 := by kernel_rfl
theorem ty_sl_69 : tySl Try.prog 69 = some 1 := by kernel_rfl
theorem ty_fl_79_0 : tyFld Try.prog 79 0 = some 0 := by kernel_rfl
theorem ty_fl_79_1 : tyFld Try.prog 79 1 = some 1 := by kernel_rfl
theorem ty_fl_79_2 : tyFld Try.prog 79 2 = some 2 := by kernel_rfl
theorem ty_fl_79_3 : tyFld Try.prog 79 3 = some 3 := by kernel_rfl
theorem ty_fl_80_0 : tyFld Try.prog 80 0 = some 0 := by kernel_rfl
theorem ty_fl_80_1 : tyFld Try.prog 80 1 = some 1 := by kernel_rfl
theorem ty_fl_80_2 : tyFld Try.prog 80 2 = some 2 := by kernel_rfl
theorem ty_fl_80_3 : tyFld Try.prog 80 3 = some 3 := by kernel_rfl
theorem ty_ar_81 : tyArr Try.prog 81 = some (0, 1) := by kernel_rfl
theorem ty_fl_92_0 : tyFld Try.prog 92 0 = some 0 := by kernel_rfl
theorem ty_fl_92_1 : tyFld Try.prog 92 1 = some 1 := by kernel_rfl
theorem ty_fl_92_2 : tyFld Try.prog 92 2 = some 2 := by kernel_rfl
theorem ty_fl_92_3 : tyFld Try.prog 92 3 = some 3 := by kernel_rfl
theorem ty_fl_92_4 : tyFld Try.prog 92 4 = some 4 := by kernel_rfl
theorem ty_fl_92_5 : tyFld Try.prog 92 5 = some 5 := by kernel_rfl
theorem ty_fl_92_6 : tyFld Try.prog 92 6 = some 6 := by kernel_rfl
theorem ty_fl_92_7 : tyFld Try.prog 92 7 = some 7 := by kernel_rfl
theorem ty_fl_92_8 : tyFld Try.prog 92 8 = some 8 := by kernel_rfl
theorem ty_fl_92_9 : tyFld Try.prog 92 9 = some 9 := by kernel_rfl
theorem ty_fl_92_10 : tyFld Try.prog 92 10 = some 10 := by kernel_rfl
theorem ty_fl_93_0 : tyFld Try.prog 93 0 = some 0 := by kernel_rfl
theorem ty_fl_93_1 : tyFld Try.prog 93 1 = some 1 := by kernel_rfl
theorem ty_fl_93_2 : tyFld Try.prog 93 2 = some 2 := by kernel_rfl
theorem ty_fl_93_3 : tyFld Try.prog 93 3 = some 3 := by kernel_rfl
theorem ty_fl_93_4 : tyFld Try.prog 93 4 = some 4 := by kernel_rfl
theorem ty_fl_93_5 : tyFld Try.prog 93 5 = some 5 := by kernel_rfl
theorem ty_fl_93_6 : tyFld Try.prog 93 6 = some 6 := by kernel_rfl
theorem ty_fl_93_7 : tyFld Try.prog 93 7 = some 7 := by kernel_rfl
theorem ty_fl_93_8 : tyFld Try.prog 93 8 = some 8 := by kernel_rfl
theorem ty_fl_93_9 : tyFld Try.prog 93 9 = some 9 := by kernel_rfl
theorem ty_fl_93_10 : tyFld Try.prog 93 10 = some 10 := by kernel_rfl
theorem fd_7_0 {K : Fr → World → Prop} {u : World} {f : Fr} {d : Option Nat} {w : World} (a : Addr) : Val1 Try.prog K (Instr.fieldAt 7 (.pointer (some a)) 0) u f d w = K (updO f d (.pointer (some (a.add 0)))) w := by
  rw [fld_ptr u f d w 7 0 (by rw [ty_fl_7_0]; rfl) a, ty_fl_7_0]; rfl
theorem fdA_7_0 {K : Fr → World → Prop} {f : Fr} {d : Option Nat} {w : World} (a : Addr) : ValA Try.prog K (Instr.fieldAt 7 (.pointer (some a)) 0) f d w = K (updO f d (.pointer (some (a.add 0)))) w := by
  rw [fld_ptrA f d w 7 0 (by rw [ty_fl_7_0]; rfl) a, ty_fl_7_0]; rfl
theorem fd_7_1 {K : Fr → World → Prop} {u : World} {f : Fr} {d : Option Nat} {w : World} (a : Addr) : Val1 Try.prog K (Instr.fieldAt 7 (.pointer (some a)) 1) u f d w = K (updO f d (.pointer (some (a.add 1)))) w := by
  rw [fld_ptr u f d w 7 1 (by rw [ty_fl_7_1]; rfl) a, ty_fl_7_1]; rfl
theorem fdA_7_1 {K : Fr → World → Prop} {f : Fr} {d : Option Nat} {w : World} (a : Addr) : ValA Try.prog K (Instr.fieldAt 7 (.pointer (some a)) 1) f d w = K (updO f d (.pointer (some (a.add 1)))) w := by
  rw [fld_ptrA f d w 7 1 (by rw [ty_fl_7_1]; rfl) a, ty_fl_7_1]; rfl
theorem fd_7_2 {K : Fr → World → Prop} {u : World} {f : Fr} {d : Option Nat} {w : World} (a : Addr) : Val1 Try.prog K (Instr.fieldAt 7 (.pointer (some a)) 2) u f d w = K (updO f d (.pointer (some (a.add 2)))) w := by
  rw [fld_ptr u f d w 7 2 (by rw [ty_fl_7_2]; rfl) a, ty_fl_7_2]; rfl
theorem fdA_7_2 {K : Fr → World → Prop} {f : Fr} {d : Option Nat} {w : World} (a : Addr) : ValA Try.prog K (Instr.fieldAt 7 (.pointer (some a)) 2) f d w = K (updO f d (.pointer (some (a.add 2)))) w := by
  rw [fld_ptrA f d w 7 2 (by rw [ty_fl_7_2]; rfl) a, ty_fl_7_2]; rfl
theorem fd_7_3 {K : Fr → World → Prop} {u : World} {f : Fr} {d : Option Nat} {w : World} (a : Addr) : Val1 Try.prog K (Instr.fieldAt 7 (.pointer (some a)) 3) u f d w = K (updO f d (.pointer (some (a.add 3)))) w := by
  rw [fld_ptr u f d w 7 3 (by rw [ty_fl_7_3]; rfl) a, ty_fl_7_3]; rfl
theorem fdA_7_3 {K : Fr → World → Prop} {f : Fr} {d : Option Nat} {w : World} (a : Addr) : ValA Try.prog K (Instr.fieldAt 7 (.pointer (some a)) 3) f d w = K (updO f d (.pointer (some (a.add 3)))) w := by
  rw [fld_ptrA f d w 7 3 (by rw [ty_fl_7_3]; rfl) a, ty_fl_7_3]; rfl
theorem fd_8_0 {K : Fr → World → Prop} {u : World} {f : Fr} {d : Option Nat} {w : World} (a : Addr) : Val1 Try.prog K (Instr.fieldAt 8 (.pointer (some a)) 0) u f d w = K (updO f d (.pointer (some (a.add 0)))) w := by
  rw [fld_ptr u f d w 8 0 (by rw [ty_fl_8_0]; rfl) a, ty_fl_8_0]; rfl
theorem fdA_8_0 {K : Fr → World → Prop} {f : Fr} {d : Option Nat} {w : World} (a : Addr) : ValA Try.prog K (Instr.fieldAt 8 (.pointer (some a)) 0) f d w = K (updO f d (.pointer (some (a.add 0)))) w := by
  rw [fld_ptrA f d w 8 0 (by rw [ty_fl_8_0]; rfl) a, ty_fl_8_0]; rfl
theorem fd_8_1 {K : Fr → World → Prop} {u : World} {f : Fr} {d : Option Nat} {w : World} (a : Addr) : Val1 Try.prog K (Instr.fieldAt 8 (.pointer (some a)) 1) u f d w = K (updO f d (.pointer (some (a.add 1)))) w := by
  rw [fld_ptr u f d w 8 1 (by rw [ty_fl_8_1]; rfl) a, ty_fl_8_1]; rfl
theorem fdA_8_1 {K : Fr → World → Prop} {f : Fr} {d : Option Nat} {w : World} (a : Addr) : ValA Try.prog K (Instr.fieldAt 8 (.pointer (some a)) 1) f d w = K (updO f d (.pointer (some (a.add 1)))) w := by
  rw [fld_ptrA f d w 8 1 (by rw [ty_fl_8_1]; rfl) a, ty_fl_8_1]; rfl
theorem fd_8_2 {K : Fr → World → Prop} {u : World} {f : Fr} {d : Option Nat} {w : World} (a : Addr) : Val1 Try.prog K (Instr.fieldAt 8 (.pointer (some a)) 2) u f d w = K (updO f d (.pointer (some (a.add 2)))) w := by
  rw [fld_ptr u f d w 8 2 (by rw [ty_fl_8_2]; rfl) a, ty_fl_8_2]; rfl
theorem fdA_8_2 {K : Fr → World → Prop} {f : Fr} {d : Option Nat} {w : World} (a : Addr) : ValA Try.prog K (Instr.fieldAt 8 (.pointer (some a)) 2) f d w = K (updO f d (.pointer (some (a.add 2)))) w := by
  rw [fld_ptrA f d w 8 2 (by rw [ty_fl_8_2]; rfl) a, ty_fl_8_2]; rfl
theorem fd_8_3 {K : Fr → World → Prop} {u : World} {f : Fr} {d : Option Nat} {w : World} (a : Addr) : Val1 Try.prog K (Instr.fieldAt 8 (.pointer (some a)) 3) u f d w = K (updO f d (.pointer (some (a.add 3)))) w := by
  rw [fld_ptr u f d w 8 3 (by rw [ty_fl_8_3]; rfl) a, ty_fl_8_3]; rfl
theorem fdA_8_3 {K : Fr → World → Prop} {f : Fr} {d : Option Nat} {w : World} (a : Addr) : ValA Try.prog K (Instr.fieldAt 8 (.pointer (some a)) 3) f d w = K (updO f d (.pointer (some (a.add 3)))) w := by
  rw [fld_ptrA f d w 8 3 (by rw [ty_fl_8_3]; rfl) a, ty_fl_8_3]; rfl
theorem fd_13_0 {K : Fr → World → Prop} {u : World} {f : Fr} {d : Option Nat} {w : World} (a : Addr) : Val1 Try.prog K (Instr.fieldAt 13 (.pointer (some a)) 0) u f d w = K (updO f d (.pointer (some (a.add 0)))) w := by
  rw [fld_ptr u f d w 13 0 (by rw [ty_fl_13_0]; rfl) a, ty_fl_13_0]; rfl
theorem fdA_13_0 {K : Fr → World → Prop} {f : Fr} {d : Option Nat} {w : World} (a : Addr) : ValA Try.prog K (Instr.fieldAt 13 (.pointer (some a)) 0) f d w = K (updO f d (.pointer (some (a.add 0)))) w := by
  rw [fld_ptrA f d w 13 0 (by rw [ty_fl_13_0]; rfl) a, ty_fl_13_0]; rfl
theorem fd_13_1 {K : Fr → World → Prop} {u : World} {f : Fr} {d : Option Nat} {w : World} (a : Addr) : Val1 Try.prog K (Instr.fieldAt 13 (.pointer (some a)) 1) u f d w = K (updO f d (.pointer (some (a.add 1)))) w := by
  rw [fld_ptr u f d w 13 1 (by rw [ty_fl_13_1]; rfl) a, ty_fl_13_1]; rfl
theorem fdA_13_1 {K : Fr → World → Prop} {f : Fr} {d : Option Nat} {w : World} (a : Addr) : ValA Try.prog K (Instr.fieldAt 13 (.pointer (some a)) 1) f d w = K (updO f d (.pointer (some (a.add 1)))) w := by
  rw [fld_ptrA f d w 13 1 (by rw [ty_fl_13_1]; rfl) a, ty_fl_13_1]; rfl
theorem fd_14_0 {K : Fr → World → Prop} {u : World} {f : Fr} {d : Option Nat} {w : World} (a : Addr) : Val1 Try.prog K (Instr.fieldAt 14 (.pointer (some a)) 0) u f d w = K (updO f d (.pointer (some (a.add 0)))) w := by
  rw [fld_ptr u f d w 14 0 (by rw [ty_fl_14_0]; rfl) a, ty_fl_14_0]; rfl
theorem fdA_14_0 {K : Fr → World → Prop} {f : Fr} {d : Option Nat} {w : World} (a : Addr) : ValA Try.prog K (Instr.fieldAt 14 (.pointer (some a)) 0) f d w = K (updO f d (.pointer (some (a.add 0)))) w := by
  rw [fld_ptrA f d w 14 0 (by rw [ty_fl_14_0]; rfl) a, ty_fl_14_0]; rfl
theorem fd_14_1 {K : Fr → World → Prop} {u : World} {f : Fr} {d : Option Nat} {w : World} (a : Addr) : Val1 Try.prog K (Instr.fieldAt 14 (.pointer (some a)) 1) u f d w = K (updO f d (.pointer (some (a.add 1)))) w := by
  rw [fld_ptr u f d w 14 1 (by rw [ty_fl_14_1]; rfl) a, ty_fl_14_1]; rfl
theorem fdA_14_1 {K : Fr → World → Prop} {f : Fr} {d : Option Nat} {w : World} (a : Addr) : ValA Try.prog K (Instr.fieldAt 14 (.pointer (some a)) 1) f d w = K (updO f d (.pointer (some (a.add 1)))) w := by
  rw [fld_ptrA f d w 14 1 (by rw [ty_fl_14_1]; rfl) a, ty_fl_14_1]; rfl
theorem fd_18_0 {K : Fr → World → Prop} {u : World} {f : Fr} {d : Option Nat} {w : World} (a : Addr) : Val1 Try.prog K (Instr.fieldAt 18 (.pointer (some a)) 0) u f d w = K (updO f d (.pointer (some (a.add 0)))) w := by
  rw [fld_ptr u f d w 18 0 (by rw [ty_fl_18_0]; rfl) a, ty_fl_18_0]; rfl
theorem fdA_18_0 {K : Fr → World → Prop} {f : Fr} {d : Option Nat} {w : World} (a : Addr) : ValA Try.prog K (Instr.fieldAt 18 (.pointer (some a)) 0) f d w = K (updO f d (.pointer (some (a.add 0)))) w := by
  rw [fld_ptrA f d w 18 0 (by rw [ty_fl_18_0]; rfl) a, ty_fl_18_0]; rfl
theorem fd_19_0 {K : Fr → World → Prop} {u : World} {f : Fr} {d : Option Nat} {w : World} (a : Addr) : Val1 Try.prog K (Instr.fieldAt 19 (.pointer (some a)) 0) u f d w = K (updO f d (.pointer (some (a.add 0)))) w := by
  rw [fld_ptr u f d w 19 0 (by rw [ty_fl_19_0]; rfl) a, ty_fl_19_0]; rfl
theorem fdA_19_0 {K : Fr → World → Prop} {f : Fr} {d : Option Nat} {w : World} (a : Addr) : ValA Try.prog K (Instr.fieldAt 19 (.pointer (some a)) 0) f d w = K (updO f d (.pointer (some (a.add 0)))) w := by
  rw [fld_ptrA f d w 19 0 (by rw [ty_fl_19_0]; rfl) a, ty_fl_19_0]; rfl
theorem ix_22 {K : Fr → World → Prop} {u : World} {f : Fr} {d : Option Nat} {w : World} (A : Option Addr) (hA : A.isSome = true) (n c : Nat) (k : IntKind) (i : Int) (h0 : 0 ≤ i) (h1 : i < n) : Val1 Try.prog K (Instr.indexAt 22 (.slice A n c) (.int k i)) u f d w = K (updO f d (.pointer (some (eA A (i.toNat * 1))))) w := by
  rw [idx_sl u f d w 22 (by rw [ty_sl_22]; rfl) A hA n c k i h0 h1, ty_sl_22]; rfl
theorem ln_22 {K : Fr → World → Prop} {u : World} {f : Fr} {d : Option Nat} {w : World} (ty : TypeId) (A : Option Addr) (n c : Nat) : Val1 Try.prog K (Builtin.len_ #[22] ty #[.slice A n c]) u f d w = K (updO f d (.int .i64 n)) w := len_sl u f d w ty 22 (by rw [ty_sl_22]; rfl) A n c
theorem ixA_22 {K : Fr → World → Prop} {f : Fr} {d : Option Nat} {w : World} (A : Option Addr) (hA : A.isSome = true) (n c : Nat) (k : IntKind) (i : Int) (h0 : 0 ≤ i) (h1 : i < n) : ValA Try.prog K (Instr.indexAt 22 (.slice A n c) (.int k i)) f d w = K (updO f d (.pointer (some (eA A (i.toNat * 1))))) w := by
  rw [idx_slA f d w 22 (by rw [ty_sl_22]; rfl) A hA n c k i h0 h1, ty_sl_22]; rfl
theorem ix_23 {K : Fr → World → Prop} {u : World} {f : Fr} {d : Option Nat} {w : World} (A : Option Addr) (hA : A.isSome = true) (n c : Nat) (k : IntKind) (i : Int) (h0 : 0 ≤ i) (h1 : i < n) : Val1 Try.prog K (Instr.indexAt 23 (.slice A n c) (.int k i)) u f d w = K (updO f d (.pointer (some (eA A (i.toNat * 3))))) w := by
  rw [idx_sl u f d w 23 (by rw [ty_sl_23]; rfl) A hA n c k i h0 h1, ty_sl_23]; rfl
theorem ln_23 {K : Fr → World → Prop} {u : World} {f : Fr} {d : Option Nat} {w : World} (ty : TypeId) (A : Option Addr) (n c : Nat) : Val1 Try.prog K (Builtin.len_ #[23] ty #[.slice A n c]) u f d w = K (updO f d (.int .i64 n)) w := len_sl u f d w ty 23 (by rw [ty_sl_23]; rfl) A n c
theorem ixA_23 {K : Fr → World → Prop} {f : Fr} {d : Option Nat} {w : World} (A : Option Addr) (hA : A.isSome = true) (n c : Nat) (k : IntKind) (i : Int) (h0 : 0 ≤ i) (h1 : i < n) : ValA Try.prog K (Instr.indexAt 23 (.slice A n c) (.int k i)) f d w = K (updO f d (.pointer (some (eA A (i.toNat * 3))))) w := by
  rw [idx_slA f d w 23 (by rw [ty_sl_23]; rfl) A hA n c k i h0 h1, ty_sl_23]; rfl
theorem fd_24_0 {K : Fr → World → Prop} {u : World} {f : Fr} {d : Option Nat} {w : World} (a : Addr) : Val1 Try.prog K (Instr.fieldAt 24 (.pointer (some a)) 0) u f d w = K (updO f d (.pointer (some (a.add 0)))) w := by
  rw [fld_ptr u f d w 24 0 (by rw [ty_fl_24_0]; rfl) a, ty_fl_24_0]; rfl
theorem fdA_24_0 {K : Fr → World → Prop} {f : Fr} {d : Option Nat} {w : World} (a : Addr) : ValA Try.prog K (Instr.fieldAt 24 (.pointer (some a)) 0) f d w = K (updO f d (.pointer (some (a.add 0)))) w := by
  rw [fld_ptrA f d w 24 0 (by rw [ty_fl_24_0]; rfl) a, ty_fl_24_0]; rfl
theorem fd_24_1 {K : Fr → World → Prop} {u : World} {f : Fr} {d : Option Nat} {w : World} (a : Addr) : Val1 Try.prog K (Instr.fieldAt 24 (.pointer (some a)) 1) u f d w = K (updO f d (.pointer (some (a.add 1)))) w := by
  rw [fld_ptr u f d w 24 1 (by rw [ty_fl_24_1]; rfl) a, ty_fl_24_1]; rfl
theorem fdA_24_1 {K : Fr → World → Prop} {f : Fr} {d : Option Nat} {w : World} (a : Addr) : ValA Try.prog K (Instr.fieldAt 24 (.pointer (some a)) 1) f d w = K (updO f d (.pointer (some (a.add 1)))) w := by
  rw [fld_ptrA f d w 24 1 (by rw [ty_fl_24_1]; rfl) a, ty_fl_24_1]; rfl
theorem fd_24_2 {K : Fr → World → Prop} {u : World} {f : Fr} {d : Option Nat} {w : World} (a : Addr) : Val1 Try.prog K (Instr.fieldAt 24 (.pointer (some a)) 2) u f d w = K (updO f d (.pointer (some (a.add 2)))) w := by
  rw [fld_ptr u f d w 24 2 (by rw [ty_fl_24_2]; rfl) a, ty_fl_24_2]; rfl
theorem fdA_24_2 {K : Fr → World → Prop} {f : Fr} {d : Option Nat} {w : World} (a : Addr) : ValA Try.prog K (Instr.fieldAt 24 (.pointer (some a)) 2) f d w = K (updO f d (.pointer (some (a.add 2)))) w := by
  rw [fld_ptrA f d w 24 2 (by rw [ty_fl_24_2]; rfl) a, ty_fl_24_2]; rfl
theorem fd_24_3 {K : Fr → World → Prop} {u : World} {f : Fr} {d : Option Nat} {w : World} (a : Addr) : Val1 Try.prog K (Instr.fieldAt 24 (.pointer (some a)) 3) u f d w = K (updO f d (.pointer (some (a.add 3)))) w := by
  rw [fld_ptr u f d w 24 3 (by rw [ty_fl_24_3]; rfl) a, ty_fl_24_3]; rfl
theorem fdA_24_3 {K : Fr → World → Prop} {f : Fr} {d : Option Nat} {w : World} (a : Addr) : ValA Try.prog K (Instr.fieldAt 24 (.pointer (some a)) 3) f d w = K (updO f d (.pointer (some (a.add 3)))) w := by
  rw [fld_ptrA f d w 24 3 (by rw [ty_fl_24_3]; rfl) a, ty_fl_24_3]; rfl
theorem fd_24_4 {K : Fr → World → Prop} {u : World} {f : Fr} {d : Option Nat} {w : World} (a : Addr) : Val1 Try.prog K (Instr.fieldAt 24 (.pointer (some a)) 4) u f d w = K (updO f d (.pointer (some (a.add 4)))) w := by
  rw [fld_ptr u f d w 24 4 (by rw [ty_fl_24_4]; rfl) a, ty_fl_24_4]; rfl
theorem fdA_24_4 {K : Fr → World → Prop} {f : Fr} {d : Option Nat} {w : World} (a : Addr) : ValA Try.prog K (Instr.fieldAt 24 (.pointer (some a)) 4) f d w = K (updO f d (.pointer (some (a.add 4)))) w := by
  rw [fld_ptrA f d w 24 4 (by rw [ty_fl_24_4]; rfl) a, ty_fl_24_4]; rfl
theorem fd_25_0 {K : Fr → World → Prop} {u : World} {f : Fr} {d : Option Nat} {w : World} (a : Addr) : Val1 Try.prog K (Instr.fieldAt 25 (.pointer (some a)) 0) u f d w = K (updO f d (.pointer (some (a.add 0)))) w := by
  rw [fld_ptr u f d w 25 0 (by rw [ty_fl_25_0]; rfl) a, ty_fl_25_0]; rfl
theorem fdA_25_0 {K : Fr → World → Prop} {f : Fr} {d : Option Nat} {w : World} (a : Addr) : ValA Try.prog K (Instr.fieldAt 25 (.pointer (some a)) 0) f d w = K (updO f d (.pointer (some (a.add 0)))) w := by
  rw [fld_ptrA f d w 25 0 (by rw [ty_fl_25_0]; rfl) a, ty_fl_25_0]; rfl
theorem fd_25_1 {K : Fr → World → Prop} {u : World} {f : Fr} {d : Option Nat} {w : World} (a : Addr) : Val1 Try.prog K (Instr.fieldAt 25 (.pointer (some a)) 1) u f d w = K (updO f d (.pointer (some (a.add 1)))) w := by
  rw [fld_ptr u f d w 25 1 (by rw [ty_fl_25_1]; rfl) a, ty_fl_25_1]; rfl
theorem fdA_25_1 {K : Fr → World → Prop} {f : Fr} {d : Option Nat} {w : World} (a : Addr) : ValA Try.prog K (Instr.fieldAt 25 (.pointer (some a)) 1) f d w = K (updO f d (.pointer (some (a.add 1)))) w := by
  rw [fld_ptrA f d w 25 1 (by rw [ty_fl_25_1]; rfl) a, ty_fl_25_1]; rfl
theorem fd_25_2 {K : Fr → World → Prop} {u : World} {f : Fr} {d : Option Nat} {w : World} (a : Addr) : Val1 Try.prog K (Instr.fieldAt 25 (.pointer (some a)) 2) u f d w = K (updO f d (.pointer (some (a.add 2)))) w := by
  rw [fld_ptr u f d w 25 2 (by rw [ty_fl_25_2]; rfl) a, ty_fl_25_2]; rfl
theorem fdA_25_2 {K : Fr → World → Prop} {f : Fr} {d : Option Nat} {w : World} (a : Addr) : ValA Try.prog K (Instr.fieldAt 25 (.pointer (some a)) 2) f d w = K (updO f d (.pointer (some (a.add 2)))) w := by
  rw [fld_ptrA f d w 25 2 (by rw [ty_fl_25_2]; rfl) a, ty_fl_25_2]; rfl
theorem fd_25_3 {K : Fr → World → Prop} {u : World} {f : Fr} {d : Option Nat} {w : World} (a : Addr) : Val1 Try.prog K (Instr.fieldAt 25 (.pointer (some a)) 3) u f d w = K (updO f d (.pointer (some (a.add 3)))) w := by
  rw [fld_ptr u f d w 25 3 (by rw [ty_fl_25_3]; rfl) a, ty_fl_25_3]; rfl
theorem fdA_25_3 {K : Fr → World → Prop} {f : Fr} {d : Option Nat} {w : World} (a : Addr) : ValA Try.prog K (Instr.fieldAt 25 (.pointer (some a)) 3) f d w = K (updO f d (.pointer (some (a.add 3)))) w := by
  rw [fld_ptrA f d w 25 3 (by rw [ty_fl_25_3]; rfl) a, ty_fl_25_3]; rfl
theorem fd_25_4 {K : Fr → World → Prop} {u : World} {f : Fr} {d : Option Nat} {w : World} (a : Addr) : Val1 Try.prog K (Instr.fieldAt 25 (.pointer (some a)) 4) u f d w = K (updO f d (.pointer (some (a.add 4)))) w := by
  rw [fld_ptr u f d w 25 4 (by rw [ty_fl_25_4]; rfl) a, ty_fl_25_4]; rfl
theorem fdA_25_4 {K : Fr → World → Prop} {f : Fr} {d : Option Nat} {w : World} (a : Addr) : ValA Try.prog K (Instr.fieldAt 25 (.pointer (some a)) 4) f d w = K (updO f d (.pointer (some (a.add 4)))) w := by
  rw [fld_ptrA f d w 25 4 (by rw [ty_fl_25_4]; rfl) a, ty_fl_25_4]; rfl
theorem fd_36_0 {K : Fr → World → Prop} {u : World} {f : Fr} {d : Option Nat} {w : World} (a : Addr) : Val1 Try.prog K (Instr.fieldAt 36 (.pointer (some a)) 0) u f d w = K (updO f d (.pointer (some (a.add 0)))) w := by
  rw [fld_ptr u f d w 36 0 (by rw [ty_fl_36_0]; rfl) a, ty_fl_36_0]; rfl
theorem fdA_36_0 {K : Fr → World → Prop} {f : Fr} {d : Option Nat} {w : World} (a : Addr) : ValA Try.prog K (Instr.fieldAt 36 (.pointer (some a)) 0) f d w = K (updO f d (.pointer (some (a.add 0)))) w := by
  rw [fld_ptrA f d w 36 0 (by rw [ty_fl_36_0]; rfl) a, ty_fl_36_0]; rfl
theorem fd_36_1 {K : Fr → World → Prop} {u : World} {f : Fr} {d : Option Nat} {w : World} (a : Addr) : Val1 Try.prog K (Instr.fieldAt 36 (.pointer (some a)) 1) u f d w = K (updO f d (.pointer (some (a.add 5)))) w := by
  rw [fld_ptr u f d w 36 1 (by rw [ty_fl_36_1]; rfl) a, ty_fl_36_1]; rfl
theorem fdA_36_1 {K : Fr → World → Prop} {f : Fr} {d : Option Nat} {w : World} (a : Addr) : ValA Try.prog K (Instr.fieldAt 36 (.pointer (some a)) 1) f d w = K (updO f d (.pointer (some (a.add 5)))) w := by
  rw [fld_ptrA f d w 36 1 (by rw [ty_fl_36_1]; rfl) a, ty_fl_36_1]; rfl
theorem fd_36_2 {K : Fr → World → Prop} {u : World} {f : Fr} {d : Option Nat} {w : World} (a : Addr) : Val1 Try.prog K (Instr.fieldAt 36 (.pointer (some a)) 2) u f d w = K (updO f d (.pointer (some (a.add 6)))) w := by
  rw [fld_ptr u f d w 36 2 (by rw [ty_fl_36_2]; rfl) a, ty_fl_36_2]; rfl
theorem fdA_36_2 {K : Fr → World → Prop} {f : Fr} {d : Option Nat} {w : World} (a : Addr) : ValA Try.prog K (Instr.fieldAt 36 (.pointer (some a)) 2) f d w = K (updO f d (.pointer (some (a.add 6)))) w := by
  rw [fld_ptrA f d w 36 2 (by rw [ty_fl_36_2]; rfl) a, ty_fl_36_2]; rfl
theorem fd_37_0 {K : Fr → World → Prop} {u : World} {f : Fr} {d : Option Nat} {w : World} (a : Addr) : Val1 Try.prog K (Instr.fieldAt 37 (.pointer (some a)) 0) u f d w = K (updO f d (.pointer (some (a.add 0)))) w := by
  rw [fld_ptr u f d w 37 0 (by rw [ty_fl_37_0]; rfl) a, ty_fl_37_0]; rfl
theorem fdA_37_0 {K : Fr → World → Prop} {f : Fr} {d : Option Nat} {w : World} (a : Addr) : ValA Try.prog K (Instr.fieldAt 37 (.pointer (some a)) 0) f d w = K (updO f d (.pointer (some (a.add 0)))) w := by
  rw [fld_ptrA f d w 37 0 (by rw [ty_fl_37_0]; rfl) a, ty_fl_37_0]; rfl
theorem fd_37_1 {K : Fr → World → Prop} {u : World} {f : Fr} {d : Option Nat} {w : World} (a : Addr) : Val1 Try.prog K (Instr.fieldAt 37 (.pointer (some a)) 1) u f d w = K (updO f d (.pointer (some (a.add 5)))) w := by
  rw [fld_ptr u f d w 37 1 (by rw [ty_fl_37_1]; rfl) a, ty_fl_37_1]; rfl
theorem fdA_37_1 {K : Fr → World → Prop} {f : Fr} {d : Option Nat} {w : World} (a : Addr) : ValA Try.prog K (Instr.fieldAt 37 (.pointer (some a)) 1) f d w = K (updO f d (.pointer (some (a.add 5)))) w := by
  rw [fld_ptrA f d w 37 1 (by rw [ty_fl_37_1]; rfl) a, ty_fl_37_1]; rfl
theorem fd_37_2 {K : Fr → World → Prop} {u : World} {f : Fr} {d : Option Nat} {w : World} (a : Addr) : Val1 Try.prog K (Instr.fieldAt 37 (.pointer (some a)) 2) u f d w = K (updO f d (.pointer (some (a.add 6)))) w := by
  rw [fld_ptr u f d w 37 2 (by rw [ty_fl_37_2]; rfl) a, ty_fl_37_2]; rfl
theorem fdA_37_2 {K : Fr → World → Prop} {f : Fr} {d : Option Nat} {w : World} (a : Addr) : ValA Try.prog K (Instr.fieldAt 37 (.pointer (some a)) 2) f d w = K (updO f d (.pointer (some (a.add 6)))) w := by
  rw [fld_ptrA f d w 37 2 (by rw [ty_fl_37_2]; rfl) a, ty_fl_37_2]; rfl
theorem fd_41_0 {K : Fr → World → Prop} {u : World} {f : Fr} {d : Option Nat} {w : World} (a : Addr) : Val1 Try.prog K (Instr.fieldAt 41 (.pointer (some a)) 0) u f d w = K (updO f d (.pointer (some (a.add 0)))) w := by
  rw [fld_ptr u f d w 41 0 (by rw [ty_fl_41_0]; rfl) a, ty_fl_41_0]; rfl
theorem fdA_41_0 {K : Fr → World → Prop} {f : Fr} {d : Option Nat} {w : World} (a : Addr) : ValA Try.prog K (Instr.fieldAt 41 (.pointer (some a)) 0) f d w = K (updO f d (.pointer (some (a.add 0)))) w := by
  rw [fld_ptrA f d w 41 0 (by rw [ty_fl_41_0]; rfl) a, ty_fl_41_0]; rfl
theorem fd_41_1 {K : Fr → World → Prop} {u : World} {f : Fr} {d : Option Nat} {w : World} (a : Addr) : Val1 Try.prog K (Instr.fieldAt 41 (.pointer (some a)) 1) u f d w = K (updO f d (.pointer (some (a.add 1)))) w := by
  rw [fld_ptr u f d w 41 1 (by rw [ty_fl_41_1]; rfl) a, ty_fl_41_1]; rfl
theorem fdA_41_1 {K : Fr → World → Prop} {f : Fr} {d : Option Nat} {w : World} (a : Addr) : ValA Try.prog K (Instr.fieldAt 41 (.pointer (some a)) 1) f d w = K (updO f d (.pointer (some (a.add 1)))) w := by
  rw [fld_ptrA f d w 41 1 (by rw [ty_fl_41_1]; rfl) a, ty_fl_41_1]; rfl
theorem fd_41_2 {K : Fr → World → Prop} {u : World} {f : Fr} {d : Option Nat} {w : World} (a : Addr) : Val1 Try.prog K (Instr.fieldAt 41 (.pointer (some a)) 2) u f d w = K (updO f d (.pointer (some (a.add 2)))) w := by
  rw [fld_ptr u f d w 41 2 (by rw [ty_fl_41_2]; rfl) a, ty_fl_41_2]; rfl
theorem fdA_41_2 {K : Fr → World → Prop} {f : Fr} {d : Option Nat} {w : World} (a : Addr) : ValA Try.prog K (Instr.fieldAt 41 (.pointer (some a)) 2) f d w = K (updO f d (.pointer (some (a.add 2)))) w := by
  rw [fld_ptrA f d w 41 2 (by rw [ty_fl_41_2]; rfl) a, ty_fl_41_2]; rfl
theorem fd_42_0 {K : Fr → World → Prop} {u : World} {f : Fr} {d : Option Nat} {w : World} (a : Addr) : Val1 Try.prog K (Instr.fieldAt 42 (.pointer (some a)) 0) u f d w = K (updO f d (.pointer (some (a.add 0)))) w := by
  rw [fld_ptr u f d w 42 0 (by rw [ty_fl_42_0]; rfl) a, ty_fl_42_0]; rfl
theorem fdA_42_0 {K : Fr → World → Prop} {f : Fr} {d : Option Nat} {w : World} (a : Addr) : ValA Try.prog K (Instr.fieldAt 42 (.pointer (some a)) 0) f d w = K (updO f d (.pointer (some (a.add 0)))) w := by
  rw [fld_ptrA f d w 42 0 (by rw [ty_fl_42_0]; rfl) a, ty_fl_42_0]; rfl
theorem fd_42_1 {K : Fr → World → Prop} {u : World} {f : Fr} {d : Option Nat} {w : World} (a : Addr) : Val1 Try.prog K (Instr.fieldAt 42 (.pointer (some a)) 1) u f d w = K (updO f d (.pointer (some (a.add 1)))) w := by
  rw [fld_ptr u f d w 42 1 (by rw [ty_fl_42_1]; rfl) a, ty_fl_42_1]; rfl
theorem fdA_42_1 {K : Fr → World → Prop} {f : Fr} {d : Option Nat} {w : World} (a : Addr) : ValA Try.prog K (Instr.fieldAt 42 (.pointer (some a)) 1) f d w = K (updO f d (.pointer (some (a.add 1)))) w := by
  rw [fld_ptrA f d w 42 1 (by rw [ty_fl_42_1]; rfl) a, ty_fl_42_1]; rfl
theorem fd_42_2 {K : Fr → World → Prop} {u : World} {f : Fr} {d : Option Nat} {w : World} (a : Addr) : Val1 Try.prog K (Instr.fieldAt 42 (.pointer (some a)) 2) u f d w = K (updO f d (.pointer (some (a.add 2)))) w := by
  rw [fld_ptr u f d w 42 2 (by rw [ty_fl_42_2]; rfl) a, ty_fl_42_2]; rfl
theorem fdA_42_2 {K : Fr → World → Prop} {f : Fr} {d : Option Nat} {w : World} (a : Addr) : ValA Try.prog K (Instr.fieldAt 42 (.pointer (some a)) 2) f d w = K (updO f d (.pointer (some (a.add 2)))) w := by
  rw [fld_ptrA f d w 42 2 (by rw [ty_fl_42_2]; rfl) a, ty_fl_42_2]; rfl
theorem ix_45 {K : Fr → World → Prop} {u : World} {f : Fr} {d : Option Nat} {w : World} (a : Addr) (k : IntKind) (i : Int) (h0 : 0 ≤ i) (h1 : i < 8) : Val1 Try.prog K (Instr.indexAt 45 (.pointer (some a)) (.int k i)) u f d w = K (updO f d (.pointer (some (a.add (i.toNat * 1))))) w := by
  rw [idx_arr u f d w 45 (by rw [ty_ar_45]; rfl) a k i h0 (by rw [ty_ar_45]; exact h1), ty_ar_45]; rfl
theorem ixA_45 {K : Fr → World → Prop} {f : Fr} {d : Option Nat} {w : World} (a : Addr) (k : IntKind) (i : Int) (h0 : 0 ≤ i) (h1 : i < 8) : ValA Try.prog K (Instr.indexAt 45 (.pointer (some a)) (.int k i)) f d w = K (updO f d (.pointer (some (a.add (i.toNat * 1))))) w := by
  rw [idx_arrA f d w 45 (by rw [ty_ar_45]; rfl) a k i h0 (by rw [ty_ar_45]; exact h1), ty_ar_45]; rfl
theorem ix_46 {K : Fr → World → Prop} {u : World} {f : Fr} {d : Option Nat} {w : World} (a : Addr) (k : IntKind) (i : Int) (h0 : 0 ≤ i) (h1 : i < 6) : Val1 Try.prog K (Instr.indexAt 46 (.pointer (some a)) (.int k i)) u f d w = K (updO f d (.pointer (some (a.add (i.toNat * 8))))) w := by
  rw [idx_arr u f d w 46 (by rw [ty_ar_46]; rfl) a k i h0 (by rw [ty_ar_46]; exact h1), ty_ar_46]; rfl
theorem ixA_46 {K : Fr → World → Prop} {f : Fr} {d : Option Nat} {w : World} (a : Addr) (k : IntKind) (i : Int) (h0 : 0 ≤ i) (h1 : i < 6) : ValA Try.prog K (Instr.indexAt 46 (.pointer (some a)) (.int k i)) f d w = K (updO f d (.pointer (some (a.add (i.toNat * 8))))) w := by
  rw [idx_arrA f d w 46 (by rw [ty_ar_46]; rfl) a k i h0 (by rw [ty_ar_46]; exact h1), ty_ar_46]; rfl
theorem ix_47 {K : Fr → World → Prop} {u : World} {f : Fr} {d : Option Nat} {w : World} (A : Option Addr) (hA : A.isSome = true) (n c : Nat) (k : IntKind) (i : Int) (h0 : 0 ≤ i) (h1 : i < n) : Val1 Try.prog K (Instr.indexAt 47 (.slice A n c) (.int k i)) u f d w = K (updO f d (.pointer (some (eA A (i.toNat * 3))))) w := by
  rw [idx_sl u f d w 47 (by rw [ty_sl_47]; rfl) A hA n c k i h0 h1, ty_sl_47]; rfl
theorem ln_47 {K : Fr → World → Prop} {u : World} {f : Fr} {d : Option Nat} {w : World} (ty : TypeId) (A : Option Addr) (n c : Nat) : Val1 Try.prog K (Builtin.len_ #[47] ty #[.slice A n c]) u f d w = K (updO f d (.int .i64 n)) w := len_sl u f d w ty 47 (by rw [ty_sl_47]; rfl) A n c
theorem ixA_47 {K : Fr → World → Prop} {f : Fr} {d : Option Nat} {w : World} (A : Option Addr) (hA : A.isSome = true) (n c : Nat) (k : IntKind) (i : Int) (h0 : 0 ≤ i) (h1 : i < n) : ValA Try.prog K (Instr.indexAt 47 (.slice A n c) (.int k i)) f d w = K (updO f d (.pointer (some (eA A (i.toNat * 3))))) w := by
  rw [idx_slA f d w 47 (by rw [ty_sl_47]; rfl) A hA n c k i h0 h1, ty_sl_47]; rfl
theorem fd_48_0 {K : Fr → World → Prop} {u : World} {f : Fr} {d : Option Nat} {w : World} (a : Addr) : Val1 Try.prog K (Instr.fieldAt 48 (.pointer (some a)) 0) u f d w = K (updO f d (.pointer (some (a.add 0)))) w := by
  rw [fld_ptr u f d w 48 0 (by rw [ty_fl_48_0]; rfl) a, ty_fl_48_0]; rfl
theorem fdA_48_0 {K : Fr → World → Prop} {f : Fr} {d : Option Nat} {w : World} (a : Addr) : ValA Try.prog K (Instr.fieldAt 48 (.pointer (some a)) 0) f d w = K (updO f d (.pointer (some (a.add 0)))) w := by
  rw [fld_ptrA f d w 48 0 (by rw [ty_fl_48_0]; rfl) a, ty_fl_48_0]; rfl
theorem fd_48_1 {K : Fr → World → Prop} {u : World} {f : Fr} {d : Option Nat} {w : World} (a : Addr) : Val1 Try.prog K (Instr.fieldAt 48 (.pointer (some a)) 1) u f d w = K (updO f d (.pointer (some (a.add 5)))) w := by
  rw [fld_ptr u f d w 48 1 (by rw [ty_fl_48_1]; rfl) a, ty_fl_48_1]; rfl
theorem fdA_48_1 {K : Fr → World → Prop} {f : Fr} {d : Option Nat} {w : World} (a : Addr) : ValA Try.prog K (Instr.fieldAt 48 (.pointer (some a)) 1) f d w = K (updO f d (.pointer (some (a.add 5)))) w := by
  rw [fld_ptrA f d w 48 1 (by rw [ty_fl_48_1]; rfl) a, ty_fl_48_1]; rfl
theorem fd_48_2 {K : Fr → World → Prop} {u : World} {f : Fr} {d : Option Nat} {w : World} (a : Addr) : Val1 Try.prog K (Instr.fieldAt 48 (.pointer (some a)) 2) u f d w = K (updO f d (.pointer (some (a.add 6)))) w := by
  rw [fld_ptr u f d w 48 2 (by rw [ty_fl_48_2]; rfl) a, ty_fl_48_2]; rfl
theorem fdA_48_2 {K : Fr → World → Prop} {f : Fr} {d : Option Nat} {w : World} (a : Addr) : ValA Try.prog K (Instr.fieldAt 48 (.pointer (some a)) 2) f d w = K (updO f d (.pointer (some (a.add 6)))) w := by
  rw [fld_ptrA f d w 48 2 (by rw [ty_fl_48_2]; rfl) a, ty_fl_48_2]; rfl
theorem fd_48_3 {K : Fr → World → Prop} {u : World} {f : Fr} {d : Option Nat} {w : World} (a : Addr) : Val1 Try.prog K (Instr.fieldAt 48 (.pointer (some a)) 3) u f d w = K (updO f d (.pointer (some (a.add 7)))) w := by
  rw [fld_ptr u f d w 48 3 (by rw [ty_fl_48_3]; rfl) a, ty_fl_48_3]; rfl
theorem fdA_48_3 {K : Fr → World → Prop} {f : Fr} {d : Option Nat} {w : World} (a : Addr) : ValA Try.prog K (Instr.fieldAt 48 (.pointer (some a)) 3) f d w = K (updO f d (.pointer (some (a.add 7)))) w := by
  rw [fld_ptrA f d w 48 3 (by rw [ty_fl_48_3]; rfl) a, ty_fl_48_3]; rfl
theorem fd_48_4 {K : Fr → World → Prop} {u : World} {f : Fr} {d : Option Nat} {w : World} (a : Addr) : Val1 Try.prog K (Instr.fieldAt 48 (.pointer (some a)) 4) u f d w = K (updO f d (.pointer (some (a.add 55)))) w := by
  rw [fld_ptr u f d w 48 4 (by rw [ty_fl_48_4]; rfl) a, ty_fl_48_4]; rfl
theorem fdA_48_4 {K : Fr → World → Prop} {f : Fr} {d : Option Nat} {w : World} (a : Addr) : ValA Try.prog K (Instr.fieldAt 48 (.pointer (some a)) 4) f d w = K (updO f d (.pointer (some (a.add 55)))) w := by
  rw [fld_ptrA f d w 48 4 (by rw [ty_fl_48_4]; rfl) a, ty_fl_48_4]; rfl
theorem fd_48_5 {K : Fr → World → Prop} {u : World} {f : Fr} {d : Option Nat} {w : World} (a : Addr) : Val1 Try.prog K (Instr.fieldAt 48 (.pointer (some a)) 5) u f d w = K (updO f d (.pointer (some (a.add 56)))) w := by
  rw [fld_ptr u f d w 48 5 (by rw [ty_fl_48_5]; rfl) a, ty_fl_48_5]; rfl
theorem fdA_48_5 {K : Fr → World → Prop} {f : Fr} {d : Option Nat} {w : World} (a : Addr) : ValA Try.prog K (Instr.fieldAt 48 (.pointer (some a)) 5) f d w = K (updO f d (.pointer (some (a.add 56)))) w := by
  rw [fld_ptrA f d w 48 5 (by rw [ty_fl_48_5]; rfl) a, ty_fl_48_5]; rfl
theorem fd_49_0 {K : Fr → World → Prop} {u : World} {f : Fr} {d : Option Nat} {w : World} (a : Addr) : Val1 Try.prog K (Instr.fieldAt 49 (.pointer (some a)) 0) u f d w = K (updO f d (.pointer (some (a.add 0)))) w := by
  rw [fld_ptr u f d w 49 0 (by rw [ty_fl_49_0]; rfl) a, ty_fl_49_0]; rfl
theorem fdA_49_0 {K : Fr → World → Prop} {f : Fr} {d : Option Nat} {w : World} (a : Addr) : ValA Try.prog K (Instr.fieldAt 49 (.pointer (some a)) 0) f d w = K (updO f d (.pointer (some (a.add 0)))) w := by
  rw [fld_ptrA f d w 49 0 (by rw [ty_fl_49_0]; rfl) a, ty_fl_49_0]; rfl
theorem fd_49_1 {K : Fr → World → Prop} {u : World} {f : Fr} {d : Option Nat} {w : World} (a : Addr) : Val1 Try.prog K (Instr.fieldAt 49 (.pointer (some a)) 1) u f d w = K (updO f d (.pointer (some (a.add 5)))) w := by
  rw [fld_ptr u f d w 49 1 (by rw [ty_fl_49_1]; rfl) a, ty_fl_49_1]; rfl
theorem fdA_49_1 {K : Fr → World → Prop} {f : Fr} {d : Option Nat} {w : World} (a : Addr) : ValA Try.prog K (Instr.fieldAt 49 (.pointer (some a)) 1) f d w = K (updO f d (.pointer (some (a.add 5)))) w := by
  rw [fld_ptrA f d w 49 1 (by rw [ty_fl_49_1]; rfl) a, ty_fl_49_1]; rfl
theorem fd_49_2 {K : Fr → World → Prop} {u : World} {f : Fr} {d : Option Nat} {w : World} (a : Addr) : Val1 Try.prog K (Instr.fieldAt 49 (.pointer (some a)) 2) u f d w = K (updO f d (.pointer (some (a.add 6)))) w := by
  rw [fld_ptr u f d w 49 2 (by rw [ty_fl_49_2]; rfl) a, ty_fl_49_2]; rfl
theorem fdA_49_2 {K : Fr → World → Prop} {f : Fr} {d : Option Nat} {w : World} (a : Addr) : ValA Try.prog K (Instr.fieldAt 49 (.pointer (some a)) 2) f d w = K (updO f d (.pointer (some (a.add 6)))) w := by
  rw [fld_ptrA f d w 49 2 (by rw [ty_fl_49_2]; rfl) a, ty_fl_49_2]; rfl
theorem fd_49_3 {K : Fr → World → Prop} {u : World} {f : Fr} {d : Option Nat} {w : World} (a : Addr) : Val1 Try.prog K (Instr.fieldAt 49 (.pointer (some a)) 3) u f d w = K (updO f d (.pointer (some (a.add 7)))) w := by
  rw [fld_ptr u f d w 49 3 (by rw [ty_fl_49_3]; rfl) a, ty_fl_49_3]; rfl
theorem fdA_49_3 {K : Fr → World → Prop} {f : Fr} {d : Option Nat} {w : World} (a : Addr) : ValA Try.prog K (Instr.fieldAt 49 (.pointer (some a)) 3) f d w = K (updO f d (.pointer (some (a.add 7)))) w := by
  rw [fld_ptrA f d w 49 3 (by rw [ty_fl_49_3]; rfl) a, ty_fl_49_3]; rfl
theorem fd_49_4 {K : Fr → World → Prop} {u : World} {f : Fr} {d : Option Nat} {w : World} (a : Addr) : Val1 Try.prog K (Instr.fieldAt 49 (.pointer (some a)) 4) u f d w = K (updO f d (.pointer (some (a.add 55)))) w := by
  rw [fld_ptr u f d w 49 4 (by rw [ty_fl_49_4]; rfl) a, ty_fl_49_4]; rfl
theorem fdA_49_4 {K : Fr → World → Prop} {f : Fr} {d : Option Nat} {w : World} (a : Addr) : ValA Try.prog K (Instr.fieldAt 49 (.pointer (some a)) 4) f d w = K (updO f d (.pointer (some (a.add 55)))) w := by
  rw [fld_ptrA f d w 49 4 (by rw [ty_fl_49_4]; rfl) a, ty_fl_49_4]; rfl
theorem fd_49_5 {K : Fr → World → Prop} {u : World} {f : Fr} {d : Option Nat} {w : World} (a : Addr) : Val1 Try.prog K (Instr.fieldAt 49 (.pointer (some a)) 5) u f d w = K (updO f d (.pointer (some (a.add 56)))) w := by
  rw [fld_ptr u f d w 49 5 (by rw [ty_fl_49_5]; rfl) a, ty_fl_49_5]; rfl
theorem fdA_49_5 {K : Fr → World → Prop} {f : Fr} {d : Option Nat} {w : World} (a : Addr) : ValA Try.prog K (Instr.fieldAt 49 (.pointer (some a)) 5) f d w = K (updO f d (.pointer (some (a.add 56)))) w := by
  rw [fld_ptrA f d w 49 5 (by rw [ty_fl_49_5]; rfl) a, ty_fl_49_5]; rfl
theorem fd_51_0 {K : Fr → World → Prop} {u : World} {f : Fr} {d : Option Nat} {w : World} (a : Addr) : Val1 Try.prog K (Instr.fieldAt 51 (.pointer (some a)) 0) u f d w = K (updO f d (.pointer (some (a.add 0)))) w := by
  rw [fld_ptr u f d w 51 0 (by rw [ty_fl_51_0]; rfl) a, ty_fl_51_0]; rfl
theorem fdA_51_0 {K : Fr → World → Prop} {f : Fr} {d : Option Nat} {w : World} (a : Addr) : ValA Try.prog K (Instr.fieldAt 51 (.pointer (some a)) 0) f d w = K (updO f d (.pointer (some (a.add 0)))) w := by
  rw [fld_ptrA f d w 51 0 (by rw [ty_fl_51_0]; rfl) a, ty_fl_51_0]; rfl
theorem fd_51_1 {K : Fr → World → Prop} {u : World} {f : Fr} {d : Option Nat} {w : World} (a : Addr) : Val1 Try.prog K (Instr.fieldAt 51 (.pointer (some a)) 1) u f d w = K (updO f d (.pointer (some (a.add 1)))) w := by
  rw [fld_ptr u f d w 51 1 (by rw [ty_fl_51_1]; rfl) a, ty_fl_51_1]; rfl
theorem fdA_51_1 {K : Fr → World → Prop} {f : Fr} {d : Option Nat} {w : World} (a : Addr) : ValA Try.prog K (Instr.fieldAt 51 (.pointer (some a)) 1) f d w = K (updO f d (.pointer (some (a.add 1)))) w := by
  rw [fld_ptrA f d w 51 1 (by rw [ty_fl_51_1]; rfl) a, ty_fl_51_1]; rfl
theorem fd_51_2 {K : Fr → World → Prop} {u : World} {f : Fr} {d : Option Nat} {w : World} (a : Addr) : Val1 Try.prog K (Instr.fieldAt 51 (.pointer (some a)) 2) u f d w = K (updO f d (.pointer (some (a.add 2)))) w := by
  rw [fld_ptr u f d w 51 2 (by rw [ty_fl_51_2]; rfl) a, ty_fl_51_2]; rfl
theorem fdA_51_2 {K : Fr → World → Prop} {f : Fr} {d : Option Nat} {w : World} (a : Addr) : ValA Try.prog K (Instr.fieldAt 51 (.pointer (some a)) 2) f d w = K (updO f d (.pointer (some (a.add 2)))) w := by
  rw [fld_ptrA f d w 51 2 (by rw [ty_fl_51_2]; rfl) a, ty_fl_51_2]; rfl
theorem fd_52_0 {K : Fr → World → Prop} {u : World} {f : Fr} {d : Option Nat} {w : World} (a : Addr) : Val1 Try.prog K (Instr.fieldAt 52 (.pointer (some a)) 0) u f d w = K (updO f d (.pointer (some (a.add 0)))) w := by
  rw [fld_ptr u f d w 52 0 (by rw [ty_fl_52_0]; rfl) a, ty_fl_52_0]; rfl
theorem fdA_52_0 {K : Fr → World → Prop} {f : Fr} {d : Option Nat} {w : World} (a : Addr) : ValA Try.prog K (Instr.fieldAt 52 (.pointer (some a)) 0) f d w = K (updO f d (.pointer (some (a.add 0)))) w := by
  rw [fld_ptrA f d w 52 0 (by rw [ty_fl_52_0]; rfl) a, ty_fl_52_0]; rfl
theorem fd_52_1 {K : Fr → World → Prop} {u : World} {f : Fr} {d : Option Nat} {w : World} (a : Addr) : Val1 Try.prog K (Instr.fieldAt 52 (.pointer (some a)) 1) u f d w = K (updO f d (.pointer (some (a.add 1)))) w := by
  rw [fld_ptr u f d w 52 1 (by rw [ty_fl_52_1]; rfl) a, ty_fl_52_1]; rfl
theorem fdA_52_1 {K : Fr → World → Prop} {f : Fr} {d : Option Nat} {w : World} (a : Addr) : ValA Try.prog K (Instr.fieldAt 52 (.pointer (some a)) 1) f d w = K (updO f d (.pointer (some (a.add 1)))) w := by
  rw [fld_ptrA f d w 52 1 (by rw [ty_fl_52_1]; rfl) a, ty_fl_52_1]; rfl
theorem fd_52_2 {K : Fr → World → Prop} {u : World} {f : Fr} {d : Option Nat} {w : World} (a : Addr) : Val1 Try.prog K (Instr.fieldAt 52 (.pointer (some a)) 2) u f d w = K (updO f d (.pointer (some (a.add 2)))) w := by
  rw [fld_ptr u f d w 52 2 (by rw [ty_fl_52_2]; rfl) a, ty_fl_52_2]; rfl
theorem fdA_52_2 {K : Fr → World → Prop} {f : Fr} {d : Option Nat} {w : World} (a : Addr) : ValA Try.prog K (Instr.fieldAt 52 (.pointer (some a)) 2) f d w = K (updO f d (.pointer (some (a.add 2)))) w := by
  rw [fld_ptrA f d w 52 2 (by rw [ty_fl_52_2]; rfl) a, ty_fl_52_2]; rfl
theorem ix_54 {K : Fr → World → Prop} {u : World} {f : Fr} {d : Option Nat} {w : World} (A : Option Addr) (hA : A.isSome = true) (n c : Nat) (k : IntKind) (i : Int) (h0 : 0 ≤ i) (h1 : i < n) : Val1 Try.prog K (Instr.indexAt 54 (.slice A n c) (.int k i)) u f d w = K (updO f d (.pointer (some (eA A (i.toNat * 3))))) w := by
  rw [idx_sl u f d w 54 (by rw [ty_sl_54]; rfl) A hA n c k i h0 h1, ty_sl_54]; rfl
theorem ln_54 {K : Fr → World → Prop} {u : World} {f : Fr} {d : Option Nat} {w : World} (ty : TypeId) (A : Option Addr) (n c : Nat) : Val1 Try.prog K (Builtin.len_ #[54] ty #[.slice A n c]) u f d w = K (updO f d (.int .i64 n)) w := len_sl u f d w ty 54 (by rw [ty_sl_54]; rfl) A n c
theorem ixA_54 {K : Fr → World → Prop} {f : Fr} {d : Option Nat} {w : World} (A : Option Addr) (hA : A.isSome = true) (n c : Nat) (k : IntKind) (i : Int) (h0 : 0 ≤ i) (h1 : i < n) : ValA Try.prog K (Instr.indexAt 54 (.slice A n c) (.int k i)) f d w = K (updO f d (.pointer (some (eA A (i.toNat * 3))))) w := by
  rw [idx_slA f d w 54 (by rw [ty_sl_54]; rfl) A hA n c k i h0 h1, ty_sl_54]; rfl
theorem ix_55 {K : Fr → World → Prop} {u : World} {f : Fr} {d : Option Nat} {w : World} (A : Option Addr) (hA : A.isSome = true) (n c : Nat) (k : IntKind) (i : Int) (h0 : 0 ≤ i) (h1 : i < n) : Val1 Try.prog K (Instr.indexAt 55 (.slice A n c) (.int k i)) u f d w = K (updO f d (.pointer (some (eA A (i.toNat * 3))))) w := by
  rw [idx_sl u f d w 55 (by rw [ty_sl_55]; rfl) A hA n c k i h0 h1, ty_sl_55]; rfl
theorem ln_55 {K : Fr → World → Prop} {u : World} {f : Fr} {d : Option Nat} {w : World} (ty : TypeId) (A : Option Addr) (n c : Nat) : Val1 Try.prog K (Builtin.len_ #[55] ty #[.slice A n c]) u f d w = K (updO f d (.int .i64 n)) w := len_sl u f d w ty 55 (by rw [ty_sl_55]; rfl) A n c
theorem ixA_55 {K : Fr → World → Prop} {f : Fr} {d : Option Nat} {w : World} (A : Option Addr) (hA : A.isSome = true) (n c : Nat) (k : IntKind) (i : Int) (h0 : 0 ≤ i) (h1 : i < n) : ValA Try.prog K (Instr.indexAt 55 (.slice A n c) (.int k i)) f d w = K (updO f d (.pointer (some (eA A (i.toNat * 3))))) w := by
  rw [idx_slA f d w 55 (by rw [ty_sl_55]; rfl) A hA n c k i h0 h1, ty_sl_55]; rfl
theorem fd_58_0 {K : Fr → World → Prop} {u : World} {f : Fr} {d : Option Nat} {w : World} (a : Addr) : Val1 Try.prog K (Instr.fieldAt 58 (.pointer (some a)) 0) u f d w = K (updO f d (.pointer (some (a.add 0)))) w := by
  rw [fld_ptr u f d w 58 0 (by rw [ty_fl_58_0]; rfl) a, ty_fl_58_0]; rfl
theorem fdA_58_0 {K : Fr → World → Prop} {f : Fr} {d : Option Nat} {w : World} (a : Addr) : ValA Try.prog K (Instr.fieldAt 58 (.pointer (some a)) 0) f d w = K (updO f d (.pointer (some (a.add 0)))) w := by
  rw [fld_ptrA f d w 58 0 (by rw [ty_fl_58_0]; rfl) a, ty_fl_58_0]; rfl
theorem fd_58_1 {K : Fr → World → Prop} {u : World} {f : Fr} {d : Option Nat} {w : World} (a : Addr) : Val1 Try.prog K (Instr.fieldAt 58 (.pointer (some a)) 1) u f d w = K (updO f d (.pointer (some (a.add 1)))) w := by
  rw [fld_ptr u f d w 58 1 (by rw [ty_fl_58_1]; rfl) a, ty_fl_58_1]; rfl
theorem fdA_58_1 {K : Fr → World → Prop} {f : Fr} {d : Option Nat} {w : World} (a : Addr) : ValA Try.prog K (Instr.fieldAt 58 (.pointer (some a)) 1) f d w = K (updO f d (.pointer (some (a.add 1)))) w := by
  rw [fld_ptrA f d w 58 1 (by rw [ty_fl_58_1]; rfl) a, ty_fl_58_1]; rfl
theorem fd_58_2 {K : Fr → World → Prop} {u : World} {f : Fr} {d : Option Nat} {w : World} (a : Addr) : Val1 Try.prog K (Instr.fieldAt 58 (.pointer (some a)) 2) u f d w = K (updO f d (.pointer (some (a.add 2)))) w := by
  rw [fld_ptr u f d w 58 2 (by rw [ty_fl_58_2]; rfl) a, ty_fl_58_2]; rfl
theorem fdA_58_2 {K : Fr → World → Prop} {f : Fr} {d : Option Nat} {w : World} (a : Addr) : ValA Try.prog K (Instr.fieldAt 58 (.pointer (some a)) 2) f d w = K (updO f d (.pointer (some (a.add 2)))) w := by
  rw [fld_ptrA f d w 58 2 (by rw [ty_fl_58_2]; rfl) a, ty_fl_58_2]; rfl
theorem fd_59_0 {K : Fr → World → Prop} {u : World} {f : Fr} {d : Option Nat} {w : World} (a : Addr) : Val1 Try.prog K (Instr.fieldAt 59 (.pointer (some a)) 0) u f d w = K (updO f d (.pointer (some (a.add 0)))) w := by
  rw [fld_ptr u f d w 59 0 (by rw [ty_fl_59_0]; rfl) a, ty_fl_59_0]; rfl
theorem fdA_59_0 {K : Fr → World → Prop} {f : Fr} {d : Option Nat} {w : World} (a : Addr) : ValA Try.prog K (Instr.fieldAt 59 (.pointer (some a)) 0) f d w = K (updO f d (.pointer (some (a.add 0)))) w := by
  rw [fld_ptrA f d w 59 0 (by rw [ty_fl_59_0]; rfl) a, ty_fl_59_0]; rfl
theorem fd_59_1 {K : Fr → World → Prop} {u : World} {f : Fr} {d : Option Nat} {w : World} (a : Addr) : Val1 Try.prog K (Instr.fieldAt 59 (.pointer (some a)) 1) u f d w = K (updO f d (.pointer (some (a.add 1)))) w := by
  rw [fld_ptr u f d w 59 1 (by rw [ty_fl_59_1]; rfl) a, ty_fl_59_1]; rfl
theorem fdA_59_1 {K : Fr → World → Prop} {f : Fr} {d : Option Nat} {w : World} (a : Addr) : ValA Try.prog K (Instr.fieldAt 59 (.pointer (some a)) 1) f d w = K (updO f d (.pointer (some (a.add 1)))) w := by
  rw [fld_ptrA f d w 59 1 (by rw [ty_fl_59_1]; rfl) a, ty_fl_59_1]; rfl
theorem fd_59_2 {K : Fr → World → Prop} {u : World} {f : Fr} {d : Option Nat} {w : World} (a : Addr) : Val1 Try.prog K (Instr.fieldAt 59 (.pointer (some a)) 2) u f d w = K (updO f d (.pointer (some (a.add 2)))) w := by
  rw [fld_ptr u f d w 59 2 (by rw [ty_fl_59_2]; rfl) a, ty_fl_59_2]; rfl
theorem fdA_59_2 {K : Fr → World → Prop} {f : Fr} {d : Option Nat} {w : World} (a : Addr) : ValA Try.prog K (Instr.fieldAt 59 (.pointer (some a)) 2) f d w = K (updO f d (.pointer (some (a.add 2)))) w := by
  rw [fld_ptrA f d w 59 2 (by rw [ty_fl_59_2]; rfl) a, ty_fl_59_2]; rfl
theorem fd_60_0 {K : Fr → World → Prop} {u : World} {f : Fr} {d : Option Nat} {w : World} (a : Addr) : Val1 Try.prog K (Instr.fieldAt 60 (.pointer (some a)) 0) u f d w = K (updO f d (.pointer (some (a.add 0)))) w := by
  rw [fld_ptr u f d w 60 0 (by rw [ty_fl_60_0]; rfl) a, ty_fl_60_0]; rfl
theorem fdA_60_0 {K : Fr → World → Prop} {f : Fr} {d : Option Nat} {w : World} (a : Addr) : ValA Try.prog K (Instr.fieldAt 60 (.pointer (some a)) 0) f d w = K (updO f d (.pointer (some (a.add 0)))) w := by
  rw [fld_ptrA f d w 60 0 (by rw [ty_fl_60_0]; rfl) a, ty_fl_60_0]; rfl
theorem fd_60_1 {K : Fr → World → Prop} {u : World} {f : Fr} {d : Option Nat} {w : World} (a : Addr) : Val1 Try.prog K (Instr.fieldAt 60 (.pointer (some a)) 1) u f d w = K (updO f d (.pointer (some (a.add 1)))) w := by
  rw [fld_ptr u f d w 60 1 (by rw [ty_fl_60_1]; rfl) a, ty_fl_60_1]; rfl
theorem fdA_60_1 {K : Fr → World → Prop} {f : Fr} {d : Option Nat} {w : World} (a : Addr) : ValA Try.prog K (Instr.fieldAt 60 (.pointer (some a)) 1) f d w = K (updO f d (.pointer (some (a.add 1)))) w := by
  rw [fld_ptrA f d w 60 1 (by rw [ty_fl_60_1]; rfl) a, ty_fl_60_1]; rfl
theorem fd_60_2 {K : Fr → World → Prop} {u : World} {f : Fr} {d : Option Nat} {w : World} (a : Addr) : Val1 Try.prog K (Instr.fieldAt 60 (.pointer (some a)) 2) u f d w = K (updO f d (.pointer (some (a.add 2)))) w := by
  rw [fld_ptr u f d w 60 2 (by rw [ty_fl_60_2]; rfl) a, ty_fl_60_2]; rfl
theorem fdA_60_2 {K : Fr → World → Prop} {f : Fr} {d : Option Nat} {w : World} (a : Addr) : ValA Try.prog K (Instr.fieldAt 60 (.pointer (some a)) 2) f d w = K (updO f d (.pointer (some (a.add 2)))) w := by
  rw [fld_ptrA f d w 60 2 (by rw [ty_fl_60_2]; rfl) a, ty_fl_60_2]; rfl
theorem fd_61_0 {K : Fr → World → Prop} {u : World} {f : Fr} {d : Option Nat} {w : World} (a : Addr) : Val1 Try.prog K (Instr.fieldAt 61 (.pointer (some a)) 0) u f d w = K (updO f d (.pointer (some (a.add 0)))) w := by
  rw [fld_ptr u f d w 61 0 (by rw [ty_fl_61_0]; rfl) a, ty_fl_61_0]; rfl
theorem fdA_61_0 {K : Fr → World → Prop} {f : Fr} {d : Option Nat} {w : World} (a : Addr) : ValA Try.prog K (Instr.fieldAt 61 (.pointer (some a)) 0) f d w = K (updO f d (.pointer (some (a.add 0)))) w := by
  rw [fld_ptrA f d w 61 0 (by rw [ty_fl_61_0]; rfl) a, ty_fl_61_0]; rfl
theorem fd_61_1 {K : Fr → World → Prop} {u : World} {f : Fr} {d : Option Nat} {w : World} (a : Addr) : Val1 Try.prog K (Instr.fieldAt 61 (.pointer (some a)) 1) u f d w = K (updO f d (.pointer (some (a.add 1)))) w := by
  rw [fld_ptr u f d w 61 1 (by rw [ty_fl_61_1]; rfl) a, ty_fl_61_1]; rfl
theorem fdA_61_1 {K : Fr → World → Prop} {f : Fr} {d : Option Nat} {w : World} (a : Addr) : ValA Try.prog K (Instr.fieldAt 61 (.pointer (some a)) 1) f d w = K (updO f d (.pointer (some (a.add 1)))) w := by
  rw [fld_ptrA f d w 61 1 (by rw [ty_fl_61_1]; rfl) a, ty_fl_61_1]; rfl
theorem fd_61_2 {K : Fr → World → Prop} {u : World} {f : Fr} {d : Option Nat} {w : World} (a : Addr) : Val1 Try.prog K (Instr.fieldAt 61 (.pointer (some a)) 2) u f d w = K (updO f d (.pointer (some (a.add 2)))) w := by
  rw [fld_ptr u f d w 61 2 (by rw [ty_fl_61_2]; rfl) a, ty_fl_61_2]; rfl
theorem fdA_61_2 {K : Fr → World → Prop} {f : Fr} {d : Option Nat} {w : World} (a : Addr) : ValA Try.prog K (Instr.fieldAt 61 (.pointer (some a)) 2) f d w = K (updO f d (.pointer (some (a.add 2)))) w := by
  rw [fld_ptrA f d w 61 2 (by rw [ty_fl_61_2]; rfl) a, ty_fl_61_2]; rfl
theorem ix_69 {K : Fr → World → Prop} {u : World} {f : Fr} {d : Option Nat} {w : World} (A : Option Addr) (hA : A.isSome = true) (n c : Nat) (k : IntKind) (i : Int) (h0 : 0 ≤ i) (h1 : i < n) : Val1 Try.prog K (Instr.indexAt 69 (.slice A n c) (.int k i)) u f d w = K (updO f d (.pointer (some (eA A (i.toNat * 1))))) w := by
  rw [idx_sl u f d w 69 (by rw [ty_sl_69]; rfl) A hA n c k i h0 h1, ty_sl_69]; rfl
theorem ln_69 {K : Fr → World → Prop} {u : World} {f : Fr} {d : Option Nat} {w : World} (ty : TypeId) (A : Option Addr) (n c : Nat) : Val1 Try.prog K (Builtin.len_ #[69] ty #[.slice A n c]) u f d w = K (updO f d (.int .i64 n)) w := len_sl u f d w ty 69 (by rw [ty_sl_69]; rfl) A n c
theorem ixA_69 {K : Fr → World → Prop} {f : Fr} {d : Option Nat} {w : World} (A : Option Addr) (hA : A.isSome = true) (n c : Nat) (k : IntKind) (i : Int) (h0 : 0 ≤ i) (h1 : i < n) : ValA Try.prog K (Instr.indexAt 69 (.slice A n c) (.int k i)) f d w = K (updO f d (.pointer (some (eA A (i.toNat * 1))))) w := by
  rw [idx_slA f d w 69 (by rw [ty_sl_69]; rfl) A hA n c k i h0 h1, ty_sl_69]; rfl
theorem fd_79_0 {K : Fr → World → Prop} {u : World} {f : Fr} {d : Option Nat} {w : World} (a : Addr) : Val1 Try.prog K (Instr.fieldAt 79 (.pointer (some a)) 0) u f d w = K (updO f d (.pointer (some (a.add 0)))) w := by
  rw [fld_ptr u f d w 79 0 (by rw [ty_fl_79_0]; rfl) a, ty_fl_79_0]; rfl
theorem fdA_79_0 {K : Fr → World → Prop} {f : Fr} {d : Option Nat} {w : World} (a : Addr) : ValA Try.prog K (Instr.fieldAt 79 (.pointer (some a)) 0) f d w = K (updO f d (.pointer (some (a.add 0)))) w := by
  rw [fld_ptrA f d w 79 0 (by rw [ty_fl_79_0]; rfl) a, ty_fl_79_0]; rfl
theorem fd_79_1 {K : Fr → World → Prop} {u : World} {f : Fr} {d : Option Nat} {w : World} (a : Addr) : Val1 Try.prog K (Instr.fieldAt 79 (.pointer (some a)) 1) u f d w = K (updO f d (.pointer (some (a.add 1)))) w := by
  rw [fld_ptr u f d w 79 1 (by rw [ty_fl_79_1]; rfl) a, ty_fl_79_1]; rfl
theorem fdA_79_1 {K : Fr → World → Prop} {f : Fr} {d : Option Nat} {w : World} (a : Addr) : ValA Try.prog K (Instr.fieldAt 79 (.pointer (some a)) 1) f d w = K (updO f d (.pointer (some (a.add 1)))) w := by
  rw [fld_ptrA f d w 79 1 (by rw [ty_fl_79_1]; rfl) a, ty_fl_79_1]; rfl
theorem fd_79_2 {K : Fr → World → Prop} {u : World} {f : Fr} {d : Option Nat} {w : World} (a : Addr) : Val1 Try.prog K (Instr.fieldAt 79 (.pointer (some a)) 2) u f d w = K (updO f d (.pointer (some (a.add 2)))) w := by
  rw [fld_ptr u f d w 79 2 (by rw [ty_fl_79_2]; rfl) a, ty_fl_79_2]; rfl
theorem fdA_79_2 {K : Fr → World → Prop} {f : Fr} {d : Option Nat} {w : World} (a : Addr) : ValA Try.prog K (Instr.fieldAt 79 (.pointer (some a)) 2) f d w = K (updO f d (.pointer (some (a.add 2)))) w := by
  rw [fld_ptrA f d w 79 2 (by rw [ty_fl_79_2]; rfl) a, ty_fl_79_2]; rfl
theorem fd_79_3 {K : Fr → World → Prop} {u : World} {f : Fr} {d : Option Nat} {w : World} (a : Addr) : Val1 Try.prog K (Instr.fieldAt 79 (.pointer (some a)) 3) u f d w = K (updO f d (.pointer (some (a.add 3)))) w := by
  rw [fld_ptr u f d w 79 3 (by rw [ty_fl_79_3]; rfl) a, ty_fl_79_3]; rfl
theorem fdA_79_3 {K : Fr → World → Prop} {f : Fr} {d : Option Nat} {w : World} (a : Addr) : ValA Try.prog K (Instr.fieldAt 79 (.pointer (some a)) 3) f d w = K (updO f d (.pointer (some (a.add 3)))) w := by
  rw [fld_ptrA f d w 79 3 (by rw [ty_fl_79_3]; rfl) a, ty_fl_79_3]; rfl
theorem fd_80_0 {K : Fr → World → Prop} {u : World} {f : Fr} {d : Option Nat} {w : World} (a : Addr) : Val1 Try.prog K (Instr.fieldAt 80 (.pointer (some a)) 0) u f d w = K (updO f d (.pointer (some (a.add 0)))) w := by
  rw [fld_ptr u f d w 80 0 (by rw [ty_fl_80_0]; rfl) a, ty_fl_80_0]; rfl
theorem fdA_80_0 {K : Fr → World → Prop} {f : Fr} {d : Option Nat} {w : World} (a : Addr) : ValA Try.prog K (Instr.fieldAt 80 (.pointer (some a)) 0) f d w = K (updO f d (.pointer (some (a.add 0)))) w := by
  rw [fld_ptrA f d w 80 0 (by rw [ty_fl_80_0]; rfl) a, ty_fl_80_0]; rfl
theorem fd_80_1 {K : Fr → World → Prop} {u : World} {f : Fr} {d : Option Nat} {w : World} (a : Addr) : Val1 Try.prog K (Instr.fieldAt 80 (.pointer (some a)) 1) u f d w = K (updO f d (.pointer (some (a.add 1)))) w := by
  rw [fld_ptr u f d w 80 1 (by rw [ty_fl_80_1]; rfl) a, ty_fl_80_1]; rfl
theorem fdA_80_1 {K : Fr → World → Prop} {f : Fr} {d : Option Nat} {w : World} (a : Addr) : ValA Try.prog K (Instr.fieldAt 80 (.pointer (some a)) 1) f d w = K (updO f d (.pointer (some (a.add 1)))) w := by
  rw [fld_ptrA f d w 80 1 (by rw [ty_fl_80_1]; rfl) a, ty_fl_80_1]; rfl
theorem fd_80_2 {K : Fr → World → Prop} {u : World} {f : Fr} {d : Option Nat} {w : World} (a : Addr) : Val1 Try.prog K (Instr.fieldAt 80 (.pointer (some a)) 2) u f d w = K (updO f d (.pointer (some (a.add 2)))) w := by
  rw [fld_ptr u f d w 80 2 (by rw [ty_fl_80_2]; rfl) a, ty_fl_80_2]; rfl
theorem fdA_80_2 {K : Fr → World → Prop} {f : Fr} {d : Option Nat} {w : World} (a : Addr) : ValA Try.prog K (Instr.fieldAt 80 (.pointer (some a)) 2) f d w = K (updO f d (.pointer (some (a.add 2)))) w := by
  rw [fld_ptrA f d w 80 2 (by rw [ty_fl_80_2]; rfl) a, ty_fl_80_2]; rfl
theorem fd_80_3 {K : Fr → World → Prop} {u : World} {f : Fr} {d : Option Nat} {w : World} (a : Addr) : Val1 Try.prog K (Instr.fieldAt 80 (.pointer (some a)) 3) u f d w = K (updO f d (.pointer (some (a.add 3)))) w := by
  rw [fld_ptr u f d w 80 3 (by rw [ty_fl_80_3]; rfl) a, ty_fl_80_3]; rfl
theorem fdA_80_3 {K : Fr → World → Prop} {f : Fr} {d : Option Nat} {w : World} (a : Addr) : ValA Try.prog K (Instr.fieldAt 80 (.pointer (some a)) 3) f d w = K (updO f d (.pointer (some (a.add 3)))) w := by
  rw [fld_ptrA f d w 80 3 (by rw [ty_fl_80_3]; rfl) a, ty_fl_80_3]; rfl
theorem ix_81 {K : Fr → World → Prop} {u : World} {f : Fr} {d : Option Nat} {w : World} (a : Addr) (k : IntKind) (i : Int) (h0 : 0 ≤ i) (h1 : i < 0) : Val1 Try.prog K (Instr.indexAt 81 (.pointer (some a)) (.int k i)) u f d w = K (updO f d (.pointer (some (a.add (i.toNat * 1))))) w := by
  rw [idx_arr u f d w 81 (by rw [ty_ar_81]; rfl) a k i h0 (by rw [ty_ar_81]; exact h1), ty_ar_81]; rfl
theorem ixA_81 {K : Fr → World → Prop} {f : Fr} {d : Option Nat} {w : World} (a : Addr) (k : IntKind) (i : Int) (h0 : 0 ≤ i) (h1 : i < 0) : ValA Try.prog K (Instr.indexAt 81 (.pointer (some a)) (.int k i)) f d w = K (updO f d (.pointer (some (a.add (i.toNat * 1))))) w := by
  rw [idx_arrA f d w 81 (by rw [ty_ar_81]; rfl) a k i h0 (by rw [ty_ar_81]; exact h1), ty_ar_81]; rfl
theorem fd_92_0 {K : Fr → World → Prop} {u : World} {f : Fr} {d : Option Nat} {w : World} (a : Addr) : Val1 Try.prog K (Instr.fieldAt 92 (.pointer (some a)) 0) u f d w = K (updO f d (.pointer (some (a.add 0)))) w := by
  rw [fld_ptr u f d w 92 0 (by rw [ty_fl_92_0]; rfl) a, ty_fl_92_0]; rfl
theorem fdA_92_0 {K : Fr → World → Prop} {f : Fr} {d : Option Nat} {w : World} (a : Addr) : ValA Try.prog K (Instr.fieldAt 92 (.pointer (some a)) 0) f d w = K (updO f d (.pointer (some (a.add 0)))) w := by
  rw [fld_ptrA f d w 92 0 (by rw [ty_fl_92_0]; rfl) a, ty_fl_92_0]; rfl
theorem fd_92_1 {K : Fr → World → Prop} {u : World} {f : Fr} {d : Option Nat} {w : World} (a : Addr) : Val1 Try.prog K (Instr.fieldAt 92 (.pointer (some a)) 1) u f d w = K (updO f d (.pointer (some (a.add 1)))) w := by
  rw [fld_ptr u f d w 92 1 (by rw [ty_fl_92_1]; rfl) a, ty_fl_92_1]; rfl
theorem fdA_92_1 {K : Fr → World → Prop} {f : Fr} {d : Option Nat} {w : World} (a : Addr) : ValA Try.prog K (Instr.fieldAt 92 (.pointer (some a)) 1) f d w = K (updO f d (.pointer (some (a.add 1)))) w := by
  rw [fld_ptrA f d w 92 1 (by rw [ty_fl_92_1]; rfl) a, ty_fl_92_1]; rfl
theorem fd_92_2 {K : Fr → World → Prop} {u : World} {f : Fr} {d : Option Nat} {w : World} (a : Addr) : Val1 Try.prog K (Instr.fieldAt 92 (.pointer (some a)) 2) u f d w = K (updO f d (.pointer (some (a.add 2)))) w := by
  rw [fld_ptr u f d w 92 2 (by rw [ty_fl_92_2]; rfl) a, ty_fl_92_2]; rfl
theorem fdA_92_2 {K : Fr → World → Prop} {f : Fr} {d : Option Nat} {w : World} (a : Addr) : ValA Try.prog K (Instr.fieldAt 92 (.pointer (some a)) 2) f d w = K (updO f d (.pointer (some (a.add 2)))) w := by
  rw [fld_ptrA f d w 92 2 (by rw [ty_fl_92_2]; rfl) a, ty_fl_92_2]; rfl
theorem fd_92_3 {K : Fr → World → Prop} {u : World} {f : Fr} {d : Option Nat} {w : World} (a : Addr) : Val1 Try.prog K (Instr.fieldAt 92 (.pointer (some a)) 3) u f d w = K (updO f d (.pointer (some (a.add 3)))) w := by
  rw [fld_ptr u f d w 92 3 (by rw [ty_fl_92_3]; rfl) a, ty_fl_92_3]; rfl
theorem fdA_92_3 {K : Fr → World → Prop} {f : Fr} {d : Option Nat} {w : World} (a : Addr) : ValA Try.prog K (Instr.fieldAt 92 (.pointer (some a)) 3) f d w = K (updO f d (.pointer (some (a.add 3)))) w := by
  rw [fld_ptrA f d w 92 3 (by rw [ty_fl_92_3]; rfl) a, ty_fl_92_3]; rfl
theorem fd_92_4 {K : Fr → World → Prop} {u : World} {f : Fr} {d : Option Nat} {w : World} (a : Addr) : Val1 Try.prog K (Instr.fieldAt 92 (.pointer (some a)) 4) u f d w = K (updO f d (.pointer (some (a.add 4)))) w := by
  rw [fld_ptr u f d w 92 4 (by rw [ty_fl_92_4]; rfl) a, ty_fl_92_4]; rfl
theorem fdA_92_4 {K : Fr → World → Prop} {f : Fr} {d : Option Nat} {w : World} (a : Addr) : ValA Try.prog K (Instr.fieldAt 92 (.pointer (some a)) 4) f d w = K (updO f d (.pointer (some (a.add 4)))) w := by
  rw [fld_ptrA f d w 92 4 (by rw [ty_fl_92_4]; rfl) a, ty_fl_92_4]; rfl
theorem fd_92_5 {K : Fr → World → Prop} {u : World} {f : Fr} {d : Option Nat} {w : World} (a : Addr) : Val1 Try.prog K (Instr.fieldAt 92 (.pointer (some a)) 5) u f d w = K (updO f d (.pointer (some (a.add 5)))) w := by
  rw [fld_ptr u f d w 92 5 (by rw [ty_fl_92_5]; rfl) a, ty_fl_92_5]; rfl
theorem fdA_92_5 {K : Fr → World → Prop} {f : Fr} {d : Option Nat} {w : World} (a : Addr) : ValA Try.prog K (Instr.fieldAt 92 (.pointer (some a)) 5) f d w = K (updO f d (.pointer (some (a.add 5)))) w := by
  rw [fld_ptrA f d w 92 5 (by rw [ty_fl_92_5]; rfl) a, ty_fl_92_5]; rfl
theorem fd_92_6 {K : Fr → World → Prop} {u : World} {f : Fr} {d : Option Nat} {w : World} (a : Addr) : Val1 Try.prog K (Instr.fieldAt 92 (.pointer (some a)) 6) u f d w = K (updO f d (.pointer (some (a.add 6)))) w := by
  rw [fld_ptr u f d w 92 6 (by rw [ty_fl_92_6]; rfl) a, ty_fl_92_6]; rfl
theorem fdA_92_6 {K : Fr → World → Prop} {f : Fr} {d : Option Nat} {w : World} (a : Addr) : ValA Try.prog K (Instr.fieldAt 92 (.pointer (some a)) 6) f d w = K (updO f d (.pointer (some (a.add 6)))) w := by
  rw [fld_ptrA f d w 92 6 (by rw [ty_fl_92_6]; rfl) a, ty_fl_92_6]; rfl
theorem fd_92_7 {K : Fr → World → Prop} {u : World} {f : Fr} {d : Option Nat} {w : World} (a : Addr) : Val1 Try.prog K (Instr.fieldAt 92 (.pointer (some a)) 7) u f d w = K (updO f d (.pointer (some (a.add 7)))) w := by
  rw [fld_ptr u f d w 92 7 (by rw [ty_fl_92_7]; rfl) a, ty_fl_92_7]; rfl
theorem fdA_92_7 {K : Fr → World → Prop} {f : Fr} {d : Option Nat} {w : World} (a : Addr) : ValA Try.prog K (Instr.fieldAt 92 (.pointer (some a)) 7) f d w = K (updO f d (.pointer (some (a.add 7)))) w := by
  rw [fld_ptrA f d w 92 7 (by rw [ty_fl_92_7]; rfl) a, ty_fl_92_7]; rfl
theorem fd_92_8 {K : Fr → World → Prop} {u : World} {f : Fr} {d : Option Nat} {w : World} (a : Addr) : Val1 Try.prog K (Instr.fieldAt 92 (.pointer (some a)) 8) u f d w = K (updO f d (.pointer (some (a.add 8)))) w := by
  rw [fld_ptr u f d w 92 8 (by rw [ty_fl_92_8]; rfl) a, ty_fl_92_8]; rfl
theorem fdA_92_8 {K : Fr → World → Prop} {f : Fr} {d : Option Nat} {w : World} (a : Addr) : ValA Try.prog K (Instr.fieldAt 92 (.pointer (some a)) 8) f d w = K (updO f d (.pointer (some (a.add 8)))) w := by
  rw [fld_ptrA f d w 92 8 (by rw [ty_fl_92_8]; rfl) a, ty_fl_92_8]; rfl
theorem fd_92_9 {K : Fr → World → Prop} {u : World} {f : Fr} {d : Option Nat} {w : World} (a : Addr) : Val1 Try.prog K (Instr.fieldAt 92 (.pointer (some a)) 9) u f d w = K (updO f d (.pointer (some (a.add 9)))) w := by
  rw [fld_ptr u f d w 92 9 (by rw [ty_fl_92_9]; rfl) a, ty_fl_92_9]; rfl
theorem fdA_92_9 {K : Fr → World → Prop} {f : Fr} {d : Option Nat} {w : World} (a : Addr) : ValA Try.prog K (Instr.fieldAt 92 (.pointer (some a)) 9) f d w = K (updO f d (.pointer (some (a.add 9)))) w := by
  rw [fld_ptrA f d w 92 9 (by rw [ty_fl_92_9]; rfl) a, ty_fl_92_9]; rfl
theorem fd_92_10 {K : Fr → World → Prop} {u : World} {f : Fr} {d : Option Nat} {w : World} (a : Addr) : Val1 Try.prog K (Instr.fieldAt 92 (.pointer (some a)) 10) u f d w = K (updO f d (.pointer (some (a.add 10)))) w := by
  rw [fld_ptr u f d w 92 10 (by rw [ty_fl_92_10]; rfl) a, ty_fl_92_10]; rfl
theorem fdA_92_10 {K : Fr → World → Prop} {f : Fr} {d : Option Nat} {w : World} (a : Addr) : ValA Try.prog K (Instr.fieldAt 92 (.pointer (some a)) 10) f d w = K (updO f d (.pointer (some (a.add 10)))) w := by
  rw [fld_ptrA f d w 92 10 (by rw [ty_fl_92_10]; rfl) a, ty_fl_92_10]; rfl
theorem fd_93_0 {K : Fr → World → Prop} {u : World} {f : Fr} {d : Option Nat} {w : World} (a : Addr) : Val1 Try.prog K (Instr.fieldAt 93 (.pointer (some a)) 0) u f d w = K (updO f d (.pointer (some (a.add 0)))) w := by
  rw [fld_ptr u f d w 93 0 (by rw [ty_fl_93_0]; rfl) a, ty_fl_93_0]; rfl
theorem fdA_93_0 {K : Fr → World → Prop} {f : Fr} {d : Option Nat} {w : World} (a : Addr) : ValA Try.prog K (Instr.fieldAt 93 (.pointer (some a)) 0) f d w = K (updO f d (.pointer (some (a.add 0)))) w := by
  rw [fld_ptrA f d w 93 0 (by rw [ty_fl_93_0]; rfl) a, ty_fl_93_0]; rfl
theorem fd_93_1 {K : Fr → World → Prop} {u : World} {f : Fr} {d : Option Nat} {w : World} (a : Addr) : Val1 Try.prog K (Instr.fieldAt 93 (.pointer (some a)) 1) u f d w = K (updO f d (.pointer (some (a.add 1)))) w := by
  rw [fld_ptr u f d w 93 1 (by rw [ty_fl_93_1]; rfl) a, ty_fl_93_1]; rfl
theorem fdA_93_1 {K : Fr → World → Prop} {f : Fr} {d : Option Nat} {w : World} (a : Addr) : ValA Try.prog K (Instr.fieldAt 93 (.pointer (some a)) 1) f d w = K (updO f d (.pointer (some (a.add 1)))) w := by
  rw [fld_ptrA f d w 93 1 (by rw [ty_fl_93_1]; rfl) a, ty_fl_93_1]; rfl
theorem fd_93_2 {K : Fr → World → Prop} {u : World} {f : Fr} {d : Option Nat} {w : World} (a : Addr) : Val1 Try.prog K (Instr.fieldAt 93 (.pointer (some a)) 2) u f d w = K (updO f d (.pointer (some (a.add 2)))) w := by
  rw [fld_ptr u f d w 93 2 (by rw [ty_fl_93_2]; rfl) a, ty_fl_93_2]; rfl
theorem fdA_93_2 {K : Fr → World → Prop} {f : Fr} {d : Option Nat} {w : World} (a : Addr) : ValA Try.prog K (Instr.fieldAt 93 (.pointer (some a)) 2) f d w = K (updO f d (.pointer (some (a.add 2)))) w := by
  rw [fld_ptrA f d w 93 2 (by rw [ty_fl_93_2]; rfl) a, ty_fl_93_2]; rfl
theorem fd_93_3 {K : Fr → World → Prop} {u : World} {f : Fr} {d : Option Nat} {w : World} (a : Addr) : Val1 Try.prog K (Instr.fieldAt 93 (.pointer (some a)) 3) u f d w = K (updO f d (.pointer (some (a.add 3)))) w := by
  rw [fld_ptr u f d w 93 3 (by rw [ty_fl_93_3]; rfl) a, ty_fl_93_3]; rfl
theorem fdA_93_3 {K : Fr → World → Prop} {f : Fr} {d : Option Nat} {w : World} (a : Addr) : ValA Try.prog K (Instr.fieldAt 93 (.pointer (some a)) 3) f d w = K (updO f d (.pointer (some (a.add 3)))) w := by
  rw [fld_ptrA f d w 93 3 (by rw [ty_fl_93_3]; rfl) a, ty_fl_93_3]; rfl
theorem fd_93_4 {K : Fr → World → Prop} {u : World} {f : Fr} {d : Option Nat} {w : World} (a : Addr) : Val1 Try.prog K (Instr.fieldAt 93 (.pointer (some a)) 4) u f d w = K (updO f d (.pointer (some (a.add 4)))) w := by
  rw [fld_ptr u f d w 93 4 (by rw [ty_fl_93_4]; rfl) a, ty_fl_93_4]; rfl
theorem fdA_93_4 {K : Fr → World → Prop} {f : Fr} {d : Option Nat} {w : World} (a : Addr) : ValA Try.prog K (Instr.fieldAt 93 (.pointer (some a)) 4) f d w = K (updO f d (.pointer (some (a.add 4)))) w := by
  rw [fld_ptrA f d w 93 4 (by rw [ty_fl_93_4]; rfl) a, ty_fl_93_4]; rfl
theorem fd_93_5 {K : Fr → World → Prop} {u : World} {f : Fr} {d : Option Nat} {w : World} (a : Addr) : Val1 Try.prog K (Instr.fieldAt 93 (.pointer (some a)) 5) u f d w = K (updO f d (.pointer (some (a.add 5)))) w := by
  rw [fld_ptr u f d w 93 5 (by rw [ty_fl_93_5]; rfl) a, ty_fl_93_5]; rfl
theorem fdA_93_5 {K : Fr → World → Prop} {f : Fr} {d : Option Nat} {w : World} (a : Addr) : ValA Try.prog K (Instr.fieldAt 93 (.pointer (some a)) 5) f d w = K (updO f d (.pointer (some (a.add 5)))) w := by
  rw [fld_ptrA f d w 93 5 (by rw [ty_fl_93_5]; rfl) a, ty_fl_93_5]; rfl
theorem fd_93_6 {K : Fr → World → Prop} {u : World} {f : Fr} {d : Option Nat} {w : World} (a : Addr) : Val1 Try.prog K (Instr.fieldAt 93 (.pointer (some a)) 6) u f d w = K (updO f d (.pointer (some (a.add 6)))) w := by
  rw [fld_ptr u f d w 93 6 (by rw [ty_fl_93_6]; rfl) a, ty_fl_93_6]; rfl
theorem fdA_93_6 {K : Fr → World → Prop} {f : Fr} {d : Option Nat} {w : World} (a : Addr) : ValA Try.prog K (Instr.fieldAt 93 (.pointer (some a)) 6) f d w = K (updO f d (.pointer (some (a.add 6)))) w := by
  rw [fld_ptrA f d w 93 6 (by rw [ty_fl_93_6]; rfl) a, ty_fl_93_6]; rfl
theorem fd_93_7 {K : Fr → World → Prop} {u : World} {f : Fr} {d : Option Nat} {w : World} (a : Addr) : Val1 Try.prog K (Instr.fieldAt 93 (.pointer (some a)) 7) u f d w = K (updO f d (.pointer (some (a.add 7)))) w := by
  rw [fld_ptr u f d w 93 7 (by rw [ty_fl_93_7]; rfl) a, ty_fl_93_7]; rfl
theorem fdA_93_7 {K : Fr → World → Prop} {f : Fr} {d : Option Nat} {w : World} (a : Addr) : ValA Try.prog K (Instr.fieldAt 93 (.pointer (some a)) 7) f d w = K (updO f d (.pointer (some (a.add 7)))) w := by
  rw [fld_ptrA f d w 93 7 (by rw [ty_fl_93_7]; rfl) a, ty_fl_93_7]; rfl
theorem fd_93_8 {K : Fr → World → Prop} {u : World} {f : Fr} {d : Option Nat} {w : World} (a : Addr) : Val1 Try.prog K (Instr.fieldAt 93 (.pointer (some a)) 8) u f d w = K (updO f d (.pointer (some (a.add 8)))) w := by
  rw [fld_ptr u f d w 93 8 (by rw [ty_fl_93_8]; rfl) a, ty_fl_93_8]; rfl
theorem fdA_93_8 {K : Fr → World → Prop} {f : Fr} {d : Option Nat} {w : World} (a : Addr) : ValA Try.prog K (Instr.fieldAt 93 (.pointer (some a)) 8) f d w = K (updO f d (.pointer (some (a.add 8)))) w := by
  rw [fld_ptrA f d w 93 8 (by rw [ty_fl_93_8]; rfl) a, ty_fl_93_8]; rfl
theorem fd_93_9 {K : Fr → World → Prop} {u : World} {f : Fr} {d : Option Nat} {w : World} (a : Addr) : Val1 Try.prog K (Instr.fieldAt 93 (.pointer (some a)) 9) u f d w = K (updO f d (.pointer (some (a.add 9)))) w := by
  rw [fld_ptr u f d w 93 9 (by rw [ty_fl_93_9]; rfl) a, ty_fl_93_9]; rfl
theorem fdA_93_9 {K : Fr → World → Prop} {f : Fr} {d : Option Nat} {w : World} (a : Addr) : ValA Try.prog K (Instr.fieldAt 93 (.pointer (some a)) 9) f d w = K (updO f d (.pointer (some (a.add 9)))) w := by
  rw [fld_ptrA f d w 93 9 (by rw [ty_fl_93_9]; rfl) a, ty_fl_93_9]; rfl
theorem fd_93_10 {K : Fr → World → Prop} {u : World} {f : Fr} {d : Option Nat} {w : World} (a : Addr) : Val1 Try.prog K (Instr.fieldAt 93 (.pointer (some a)) 10) u f d w = K (updO f d (.pointer (some (a.add 10)))) w := by
  rw [fld_ptr u f d w 93 10 (by rw [ty_fl_93_10]; rfl) a, ty_fl_93_10]; rfl
theorem fdA_93_10 {K : Fr → World → Prop} {f : Fr} {d : Option Nat} {w : World} (a : Addr) : ValA Try.prog K (Instr.fieldAt 93 (.pointer (some a)) 10) f d w = K (updO f d (.pointer (some (a.add 10)))) w := by
  rw [fld_ptrA f d w 93 10 (by rw [ty_fl_93_10]; rfl) a, ty_fl_93_10]; rfl
theorem eqb_4 {K : Fr → World → Prop} {u : World} {f : Fr} {d : Option Nat} {w : World} (xo yo : Operand) (a b : Bool) : Val1 Try.prog K (binS .eql 4 xo yo (.bool a) (.bool b)) u f d w = K (updO f d (.bool (a == b))) w := bin_eqb u f d w 4 xo yo (by kernel_rfl) a b
theorem neb_4 {K : Fr → World → Prop} {u : World} {f : Fr} {d : Option Nat} {w : World} (xo yo : Operand) (a b : Bool) : Val1 Try.prog K (binS .neq 4 xo yo (.bool a) (.bool b)) u f d w = K (updO f d (.bool (a != b))) w := bin_neb u f d w 4 xo yo (by kernel_rfl) a b
theorem slT_22 : SlT Try.prog 22 3 1 8 := ⟨by kernel_rfl, by kernel_rfl, by decide⟩
theorem bs_22 {K : Fr → World → Prop} {f : Fr} {d : Option Nat} {w : World} (n : Int) : Eff1 Try.prog K (Instr.buildSlice 22 1 #[(0, .int .i64 n)]) f d w = K (updO f d (.slice (some ⟨w.heap.size, 0, none⟩) 1 1)) (w.alloc (.cells [.int .i64 n].toArray 3)) := bsl1_eq slT_22 _ rfl (by decide)
theorem bs0_22 {K : Fr → World → Prop} {f : Fr} {d : Option Nat} {w : World} : Eff1 Try.prog K (Instr.buildSlice 22 0 #[]) f d w = K (updO f d (.slice (some ⟨w.heap.size, 0, none⟩) 0 0)) (w.alloc (.cells [].toArray 3)) := bsl0_eq slT_22
theorem slT_23 : SlT Try.prog 23 42 3 24 := ⟨by kernel_rfl, by kernel_rfl, by decide⟩
theorem bs_23 {K : Fr → World → Prop} {f : Fr} {d : Option Nat} {w : World} (x0 x1 x2 : Value) : Eff1 Try.prog K (Instr.buildSlice 23 1 #[(0, .agg #[x0, x1, x2])]) f d w = K (updO f d (.slice (some ⟨w.heap.size, 0, none⟩) 1 1)) (w.alloc (.cells [x0, x1, x2].toArray 42)) := bsl1_eq slT_23 _ rfl (by decide)
theorem bs0_23 {K : Fr → World → Prop} {f : Fr} {d : Option Nat} {w : World} : Eff1 Try.prog K (Instr.buildSlice 23 0 #[]) f d w = K (updO f d (.slice (some ⟨w.heap.size, 0, none⟩) 0 0)) (w.alloc (.cells [].toArray 42)) := bsl0_eq slT_23
theorem al_25 {K : Fr → World → Prop} {f : Fr} {d : Option Nat} {w : World} : Eff1 Try.prog K (Instr.alloc 25 true (.tuple #[])) f d w = K (updO f d (.pointer (some ⟨w.heap.size, 0, none⟩))) (w.alloc (.cells [.int .i64 0, .int .i64 0, .slice none 0 0, .slice none 0 0, .slice none 0 0].toArray 25)) := alloc_eq 25 (.agg #[.int .i64 0, .int .i64 0, .slice none 0 0, .slice none 0 0, .slice none 0 0]) (by kernel_rfl)
theorem al_37 {K : Fr → World → Prop} {f : Fr} {d : Option Nat} {w : World} : Eff1 Try.prog K (Instr.alloc 37 true (.tuple #[])) f d w = K (updO f d (.pointer (some ⟨w.heap.size, 0, none⟩))) (w.alloc (.cells [.int .i64 0, .int .i64 0, .slice none 0 0, .slice none 0 0, .slice none 0 0, .slice none 0 0, .slice none 0 0].toArray 37)) := alloc_eq 37 (.agg #[.int .i64 0, .int .i64 0, .slice none 0 0, .slice none 0 0, .slice none 0 0, .slice none 0 0, .slice none 0 0]) (by kernel_rfl)
theorem al_42 {K : Fr → World → Prop} {f : Fr} {d : Option Nat} {w : World} : Eff1 Try.prog K (Instr.alloc 42 true (.tuple #[])) f d w = K (updO f d (.pointer (some ⟨w.heap.size, 0, none⟩))) (w.alloc (.cells [.int .i64 0, .int .i64 0, .int .i64 0].toArray 42)) := alloc_eq 42 (.agg #[.int .i64 0, .int .i64 0, .int .i64 0]) (by kernel_rfl)
theorem slT_47 : SlT Try.prog 47 52 3 24 := ⟨by kernel_rfl, by kernel_rfl, by decide⟩
theorem bs_47 {K : Fr → World → Prop} {f : Fr} {d : Option Nat} {w : World} (x0 x1 x2 : Value) : Eff1 Try.prog K (Instr.buildSlice 47 1 #[(0, .agg #[x0, x1, x2])]) f d w = K (updO f d (.slice (some ⟨w.heap.size, 0, none⟩) 1 1)) (w.alloc (.cells [x0, x1, x2].toArray 52)) := bsl1_eq slT_47 _ rfl (by decide)
theorem bs0_47 {K : Fr → World → Prop} {f : Fr} {d : Option Nat} {w : World} : Eff1 Try.prog K (Instr.buildSlice 47 0 #[]) f d w = K (updO f d (.slice (some ⟨w.heap.size, 0, none⟩) 0 0)) (w.alloc (.cells [].toArray 52)) := bsl0_eq slT_47
theorem al_52 {K : Fr → World → Prop} {f : Fr} {d : Option Nat} {w : World} : Eff1 Try.prog K (Instr.alloc 52 true (.tuple #[])) f d w = K (updO f d (.pointer (some ⟨w.heap.size, 0, none⟩))) (w.alloc (.cells [.int .i64 0, .int .i64 0, .bool false].toArray 52)) := alloc_eq 52 (.agg #[.int .i64 0, .int .i64 0, .bool false]) (by kernel_rfl)
theorem slT_54 : SlT Try.prog 54 61 3 24 := ⟨by kernel_rfl, by kernel_rfl, by decide⟩
theorem bs_54 {K : Fr → World → Prop} {f : Fr} {d : Option Nat} {w : World} (x0 x1 x2 : Value) : Eff1 Try.prog K (Instr.buildSlice 54 1 #[(0, .agg #[x0, x1, x2])]) f d w = K (updO f d (.slice (some ⟨w.heap.size, 0, none⟩) 1 1)) (w.alloc (.cells [x0, x1, x2].toArray 61)) := bsl1_eq slT_54 _ rfl (by decide)
theorem bs0_54 {K : Fr → World → Prop} {f : Fr} {d : Option Nat} {w : World} : Eff1 Try.prog K (Instr.buildSlice 54 0 #[]) f d w = K (updO f d (.slice (some ⟨w.heap.size, 0, none⟩) 0 0)) (w.alloc (.cells [].toArray 61)) := bsl0_eq slT_54
theorem slT_55 : SlT Try.prog 55 59 3 24 := ⟨by kernel_rfl, by kernel_rfl, by decide⟩
theorem bs_55 {K : Fr → World → Prop} {f : Fr} {d : Option Nat} {w : World} (x0 x1 x2 : Value) : Eff1 Try.prog K (Instr.buildSlice 55 1 #[(0, .agg #[x0, x1, x2])]) f d w = K (updO f d (.slice (some ⟨w.heap.size, 0, none⟩) 1 1)) (w.alloc (.cells [x0, x1, x2].toArray 59)) := bsl1_eq slT_55 _ rfl (by decide)
theorem bs0_55 {K : Fr → World → Prop} {f : Fr} {d : Option Nat} {w : World} : Eff1 Try.prog K (Instr.buildSlice 55 0 #[]) f d w = K (updO f d (.slice (some ⟨w.heap.size, 0, none⟩) 0 0)) (w.alloc (.cells [].toArray 59)) := bsl0_eq slT_55
theorem slT_69 : SlT Try.prog 69 4 1 1 := ⟨by kernel_rfl, by kernel_rfl, by decide⟩
theorem bs_69 {K : Fr → World → Prop} {f : Fr} {d : Option Nat} {w : World} (b : Bool) : Eff1 Try.prog K (Instr.buildSlice 69 1 #[(0, .bool b)]) f d w = K (updO f d (.slice (some ⟨w.heap.size, 0, none⟩) 1 1)) (w.alloc (.cells [.bool b].toArray 4)) := bsl1_eq slT_69 _ rfl (by decide)
theorem bs0_69 {K : Fr → World → Prop} {f : Fr} {d : Option Nat} {w : World} : Eff1 Try.prog K (Instr.buildSlice 69 0 #[]) f d w = K (updO f d (.slice (some ⟨w.heap.size, 0, none⟩) 0 0)) (w.alloc (.cells [].toArray 4)) := bsl0_eq slT_69
attribute [push_cast] fd_7_0 fdA_7_0 fd_7_1 fdA_7_1 fd_7_2 fdA_7_2 fd_7_3 fdA_7_3 fd_8_0 fdA_8_0 fd_8_1 fdA_8_1 fd_8_2 fdA_8_2 fd_8_3 fdA_8_3 fd_13_0 fdA_13_0 fd_13_1 fdA_13_1 fd_14_0 fdA_14_0 fd_14_1 fdA_14_1 fd_18_0 fdA_18_0 fd_19_0 fdA_19_0 ix_22 ln_22 ixA_22 ix_23 ln_23 ixA_23 fd_24_0 fdA_24_0 fd_24_1 fdA_24_1 fd_24_2 fdA_24_2 fd_24_3 fdA_24_3 fd_24_4 fdA_24_4 fd_25_0 fdA_25_0 fd_25_1 fdA_25_1 fd_25_2 fdA_25_2 fd_25_3 fdA_25_3 fd_25_4 fdA_25_4 fd_36_0 fdA_36_0 fd_36_1 fdA_36_1 fd_36_2 fdA_36_2 fd_37_0 fdA_37_0 fd_37_1 fdA_37_1 fd_37_2 fdA_37_2 fd_41_0 fdA_41_0 fd_41_1 fdA_41_1 fd_41_2 fdA_41_2 fd_42_0 fdA_42_0 fd_42_1 fdA_42_1 fd_42_2 fdA_42_2 ix_45 ixA_45 ix_46 ixA_46 ix_47 ln_47 ixA_47 fd_48_0 fdA_48_0 fd_48_1 fdA_48_1 fd_48_2 fdA_48_2 fd_48_3 fdA_48_3 fd_48_4 fdA_48_4 fd_48_5 fdA_48_5 fd_49_0 fdA_49_0 fd_49_1 fdA_49_1 fd_49_2 fdA_49_2 fd_49_3 fdA_49_3 fd_49_4 fdA_49_4 fd_49_5 fdA_49_5 fd_51_0 fdA_51_0 fd_51_1 fdA_51_1 fd_51_2 fdA_51_2 fd_52_0 fdA_52_0 fd_52_1 fdA_52_1 fd_52_2 fdA_52_2 ix_54 ln_54 ixA_54 ix_55 ln_55 ixA_55 fd_58_0 fdA_58_0 fd_58_1 fdA_58_1 fd_58_2 fdA_58_2 fd_59_0 fdA_59_0 fd_59_1 fdA_59_1 fd_59_2 fdA_59_2 fd_60_0 fdA_60_0 fd_60_1 fdA_60_1 fd_60_2 fdA_60_2 fd_61_0 fdA_61_0 fd_61_1 fdA_61_1 fd_61_2 fdA_61_2 ix_69 ln_69 ixA_69 fd_79_0 fdA_79_0 fd_79_1 fdA_79_1 fd_79_2 fdA_79_2 fd_79_3 fdA_79_3 fd_80_0 fdA_80_0 fd_80_1 fdA_80_1 fd_80_2 fdA_80_2 fd_80_3 fdA_80_3 ix_81 ixA_81 fd_92_0 fdA_92_0 fd_92_1 fdA_92_1 fd_92_2 fdA_92_2 fd_92_3 fdA_92_3 fd_92_4 fdA_92_4 fd_92_5 fdA_92_5 fd_92_6 fdA_92_6 fd_92_7 fdA_92_7 fd_92_8 fdA_92_8 fd_92_9 fdA_92_9 fd_92_10 fdA_92_10 fd_93_0 fdA_93_0 fd_93_1 fdA_93_1 fd_93_2 fdA_93_2 fd_93_3 fdA_93_3 fd_93_4 fdA_93_4 fd_93_5 fdA_93_5 fd_93_6 fdA_93_6 fd_93_7 fdA_93_7 fd_93_8 fdA_93_8 fd_93_9 fdA_93_9 fd_93_10 fdA_93_10 eqb_4 neb_4 bs_22 bs0_22 bs_23 bs0_23 bs_47 bs0_47 bs_54 bs0_54 bs_55 bs0_55 bs_69 bs0_69
end Go.Proofs.Ytfckamjbeplceaa
