/-
  Chapter 6: the reference's Is, Find: by their contracts.
  Chapter 6: the reference's Make, by its contract; the law DetermineMakes.
-/
import Derived.Test.YtcjedgiglimipaaDoorZDetP
import Derived.Test.YtcjedgiglimipaaDoorZSame
import Derived.Test.YtcjedgiglimipaaDoorZCtlA
import Derived.Test.YtcjedgiglimipaaDoorZRef7
namespace Go.Proofs.YtcjedgiglimipaaDoor
set_option linter.unusedSimpArgs false
set_option linter.unusedVariables false
set_option linter.unusedSectionVars false
section
open Go.RowKit

end

section
open Go.RowKit

theorem bl_mach12 {K : Fr → World → Prop} {u : World} {f : Fr} {d : Option Nat} {w : World} (y : Int) (A : Option Addr) (n c : Nat) :
    Val1 Tryd.prog K (Instr.build 25 #[(1, .int .i64 y), (2, .slice A n c)]) u f d w = K (updO f d (.agg [.int .i64 0, .int .i64 y, .slice A n c, .slice none 0 0, .slice none 0 0].toArray)) w := by
  refine bld_of ?_
  rw [built_of blt_mach]
  rw [fill_cons (off := 1) (size := 1) rfl rfl (by decide), fill_cons (off := 2) (size := 1) rfl rfl (by simp [putL, Value.cells]), fill_nil]
  simp [putL, Value.cells]
end
end Go.Proofs.YtcjedgiglimipaaDoor
