/-
  No cell of these rows narrows 'for every input' (looked for: loops, veiled, ifaces, maps, wideKeys, modest, calm, conditions, laid).
  DERIVED. THE GIVEN ROWS OF THIS SEAT. 10 by the template 'for every input the law returns true; each argument reads behind the call as it read before'; 0 by the template 'total and deterministic' (their statements: YtkemapljhmoafaaTotals.lean).
  GIVEN WITH THE SEED: the statements are not yours to turn. If you find one false, say at which input.
  Laid BY PROGRAM, IN A SANDBOX (cutbox-rows.mjs): the forced cells as the released guide's own fill.sh prints them over the translation 2ae0d1dfb2d26811… (all of the seat's roots in one cut). By AI agents, Wed Nov 11 2026. No macro, syntax, notation, axiom, sorry.
-/
import Derived.Test.YtkemapljhmoafaaChecked
import GoSem.Claim
import GoSem.ClaimJoined
import GoSem.ClaimMapViews
import Derived.JoinedTies
import Derived.KernelRfl
namespace Go.Proofs.Ytkemapljhmoafaa
/- THE CELL 'sum', in the pinned program and in every row, IS THE sha256 OF THE DUMP (.gsa) THAT YtkemapljhmoafaaProg.lean LOADS. Nothing in Lean hashes anything: it is a label: what it is worth is what the hold of that sum in a sandbox is worth. -/
noncomputable def Try.pinned : Pinned := { name := "ytkemapljhmoafaa", sum := "2ae0d1dfb2d26811959d779b79fb23dea2e210c700470dad6f668dc8715fb4de", checked := Try.checked }
namespace Rows
def none {H : Type} : Left H := { results := [], args := [] }

/-- 'jalousielaw.RowTells': WHATEVER THE INPUT: true; the input reads as it did. -/
def rowTellsSpec : ChangeSpec := { name := "rowTells", fn := fun _ => fun
  | [d1, d2] => { results := [.lit (.bool true)], args := [d1, d2] }
  | _ => none }
def rowTellsRow : OpenClaim := { program := "ytkemapljhmoafaa", sum := "2ae0d1dfb2d26811959d779b79fb23dea2e210c700470dad6f668dc8715fb4de", func := "jalousie/jalousielaw.RowTells", spec := "rowTells", plainKeys := false, apart := false }
def RowTellsSaid : Prop := rowTellsRow.holds Try.pinned (OpenSpec.ofChange rowTellsSpec)

/-- ITS FALSE NEIGHBOUR: 'it returns false'. Refute it at one input. -/
def rowTellsWrong : ChangeSpec := { name := "rowTells", fn := fun _ => fun
  | [d1, d2] => { results := [.lit (.bool false)], args := [d1, d2] }
  | _ => none }
def RowTellsWrongFalsely : Prop := rowTellsRow.holds Try.pinned (OpenSpec.ofChange rowTellsWrong)

/-- 'jalousielaw.RowJoins': WHATEVER THE INPUT: true; the input reads as it did. -/
def rowJoinsSpec : ChangeSpec := { name := "rowJoins", fn := fun _ => fun
  | [d1, d2] => { results := [.lit (.bool true)], args := [d1, d2] }
  | _ => none }
def rowJoinsRow : OpenClaim := { program := "ytkemapljhmoafaa", sum := "2ae0d1dfb2d26811959d779b79fb23dea2e210c700470dad6f668dc8715fb4de", func := "jalousie/jalousielaw.RowJoins", spec := "rowJoins", unfollowed := true, recurses := true, plainKeys := false, apart := false }
def RowJoinsSaid : Prop := rowJoinsRow.holds Try.pinned (OpenSpec.ofChange rowJoinsSpec)

/-- ITS FALSE NEIGHBOUR: 'it returns false'. Refute it at one input. -/
def rowJoinsWrong : ChangeSpec := { name := "rowJoins", fn := fun _ => fun
  | [d1, d2] => { results := [.lit (.bool false)], args := [d1, d2] }
  | _ => none }
def RowJoinsWrongFalsely : Prop := rowJoinsRow.holds Try.pinned (OpenSpec.ofChange rowJoinsWrong)

/-- 'jalousiekeep.RowSets': WHATEVER THE INPUT: true; the input reads as it did. -/
def rowSetsSpec : ChangeSpec := { name := "rowSets", fn := fun _ => fun
  | [d1, d2, d3] => { results := [.lit (.bool true)], args := [d1, d2, d3] }
  | _ => none }
def rowSetsRow : OpenClaim := { program := "ytkemapljhmoafaa", sum := "2ae0d1dfb2d26811959d779b79fb23dea2e210c700470dad6f668dc8715fb4de", func := "jalousie/jalousiekeep.RowSets", spec := "rowSets", unfollowed := true, recurses := true, plainKeys := false, apart := false }
def RowSetsSaid : Prop := rowSetsRow.holds Try.pinned (OpenSpec.ofChange rowSetsSpec)

/-- ITS FALSE NEIGHBOUR: 'it returns false'. Refute it at one input. -/
def rowSetsWrong : ChangeSpec := { name := "rowSets", fn := fun _ => fun
  | [d1, d2, d3] => { results := [.lit (.bool false)], args := [d1, d2, d3] }
  | _ => none }
def RowSetsWrongFalsely : Prop := rowSetsRow.holds Try.pinned (OpenSpec.ofChange rowSetsWrong)

/-- 'jalousielaw.ControlTells': WHATEVER THE INPUT: true; the input reads as it did. -/
def controlTellsSpec : ChangeSpec := { name := "controlTells", fn := fun _ => fun
  | [d1, d2, d3] => { results := [.lit (.bool true)], args := [d1, d2, d3] }
  | _ => none }
def controlTellsRow : OpenClaim := { program := "ytkemapljhmoafaa", sum := "2ae0d1dfb2d26811959d779b79fb23dea2e210c700470dad6f668dc8715fb4de", func := "jalousie/jalousielaw.ControlTells", spec := "controlTells", unfollowed := true, recurses := true, plainKeys := false, apart := false }
def ControlTellsSaid : Prop := controlTellsRow.holds Try.pinned (OpenSpec.ofChange controlTellsSpec)

/-- ITS FALSE NEIGHBOUR: 'it returns false'. Refute it at one input. -/
def controlTellsWrong : ChangeSpec := { name := "controlTells", fn := fun _ => fun
  | [d1, d2, d3] => { results := [.lit (.bool false)], args := [d1, d2, d3] }
  | _ => none }
def ControlTellsWrongFalsely : Prop := controlTellsRow.holds Try.pinned (OpenSpec.ofChange controlTellsWrong)

/-- 'jalousielaw.ControlMost': WHATEVER THE INPUT: true; the input reads as it did. -/
def controlMostSpec : ChangeSpec := { name := "controlMost", fn := fun _ => fun
  | [d1, d2, d3, d4] => { results := [.lit (.bool true)], args := [d1, d2, d3, d4] }
  | _ => none }
def controlMostRow : OpenClaim := { program := "ytkemapljhmoafaa", sum := "2ae0d1dfb2d26811959d779b79fb23dea2e210c700470dad6f668dc8715fb4de", func := "jalousie/jalousielaw.ControlMost", spec := "controlMost", unfollowed := true, recurses := true, plainKeys := false, apart := false }
def ControlMostSaid : Prop := controlMostRow.holds Try.pinned (OpenSpec.ofChange controlMostSpec)

/-- ITS FALSE NEIGHBOUR: 'it returns false'. Refute it at one input. -/
def controlMostWrong : ChangeSpec := { name := "controlMost", fn := fun _ => fun
  | [d1, d2, d3, d4] => { results := [.lit (.bool false)], args := [d1, d2, d3, d4] }
  | _ => none }
def ControlMostWrongFalsely : Prop := controlMostRow.holds Try.pinned (OpenSpec.ofChange controlMostWrong)

/-- 'jalousielaw.WithinTells': WHATEVER THE INPUT: true; the input reads as it did. -/
def withinTellsSpec : ChangeSpec := { name := "withinTells", fn := fun _ => fun
  | [d1, d2] => { results := [.lit (.bool true)], args := [d1, d2] }
  | _ => none }
def withinTellsRow : OpenClaim := { program := "ytkemapljhmoafaa", sum := "2ae0d1dfb2d26811959d779b79fb23dea2e210c700470dad6f668dc8715fb4de", func := "jalousie/jalousielaw.WithinTells", spec := "withinTells", unfollowed := true, recurses := true, plainKeys := false, apart := false }
def WithinTellsSaid : Prop := withinTellsRow.holds Try.pinned (OpenSpec.ofChange withinTellsSpec)

/-- ITS FALSE NEIGHBOUR: 'it returns false'. Refute it at one input. -/
def withinTellsWrong : ChangeSpec := { name := "withinTells", fn := fun _ => fun
  | [d1, d2] => { results := [.lit (.bool false)], args := [d1, d2] }
  | _ => none }
def WithinTellsWrongFalsely : Prop := withinTellsRow.holds Try.pinned (OpenSpec.ofChange withinTellsWrong)

/-- 'jalousielaw.DelayTells': WHATEVER THE INPUT: true; the input reads as it did. -/
def delayTellsSpec : ChangeSpec := { name := "delayTells", fn := fun _ => fun
  | [d1, d2, d3] => { results := [.lit (.bool true)], args := [d1, d2, d3] }
  | _ => none }
def delayTellsRow : OpenClaim := { program := "ytkemapljhmoafaa", sum := "2ae0d1dfb2d26811959d779b79fb23dea2e210c700470dad6f668dc8715fb4de", func := "jalousie/jalousielaw.DelayTells", spec := "delayTells", unfollowed := true, recurses := true, plainKeys := false, apart := false }
def DelayTellsSaid : Prop := delayTellsRow.holds Try.pinned (OpenSpec.ofChange delayTellsSpec)

/-- ITS FALSE NEIGHBOUR: 'it returns false'. Refute it at one input. -/
def delayTellsWrong : ChangeSpec := { name := "delayTells", fn := fun _ => fun
  | [d1, d2, d3] => { results := [.lit (.bool false)], args := [d1, d2, d3] }
  | _ => none }
def DelayTellsWrongFalsely : Prop := delayTellsRow.holds Try.pinned (OpenSpec.ofChange delayTellsWrong)

/-- 'jalousielaw.DelayHolds': WHATEVER THE INPUT: true; the input reads as it did. -/
def delayHoldsSpec : ChangeSpec := { name := "delayHolds", fn := fun _ => fun
  | [d1, d2, d3, d4] => { results := [.lit (.bool true)], args := [d1, d2, d3, d4] }
  | _ => none }
def delayHoldsRow : OpenClaim := { program := "ytkemapljhmoafaa", sum := "2ae0d1dfb2d26811959d779b79fb23dea2e210c700470dad6f668dc8715fb4de", func := "jalousie/jalousielaw.DelayHolds", spec := "delayHolds", unfollowed := true, recurses := true, plainKeys := false, apart := false }
def DelayHoldsSaid : Prop := delayHoldsRow.holds Try.pinned (OpenSpec.ofChange delayHoldsSpec)

/-- ITS FALSE NEIGHBOUR: 'it returns false'. Refute it at one input. -/
def delayHoldsWrong : ChangeSpec := { name := "delayHolds", fn := fun _ => fun
  | [d1, d2, d3, d4] => { results := [.lit (.bool false)], args := [d1, d2, d3, d4] }
  | _ => none }
def DelayHoldsWrongFalsely : Prop := delayHoldsRow.holds Try.pinned (OpenSpec.ofChange delayHoldsWrong)

/-- 'jalousielaw.ToldTells': WHATEVER THE INPUT: true; the input reads as it did. -/
def toldTellsSpec : ChangeSpec := { name := "toldTells", fn := fun _ => fun
  | [d1, d2] => { results := [.lit (.bool true)], args := [d1, d2] }
  | _ => none }
def toldTellsRow : OpenClaim := { program := "ytkemapljhmoafaa", sum := "2ae0d1dfb2d26811959d779b79fb23dea2e210c700470dad6f668dc8715fb4de", func := "jalousie/jalousielaw.ToldTells", spec := "toldTells", unfollowed := true, recurses := true, plainKeys := false, apart := false }
def ToldTellsSaid : Prop := toldTellsRow.holds Try.pinned (OpenSpec.ofChange toldTellsSpec)

/-- ITS FALSE NEIGHBOUR: 'it returns false'. Refute it at one input. -/
def toldTellsWrong : ChangeSpec := { name := "toldTells", fn := fun _ => fun
  | [d1, d2] => { results := [.lit (.bool false)], args := [d1, d2] }
  | _ => none }
def ToldTellsWrongFalsely : Prop := toldTellsRow.holds Try.pinned (OpenSpec.ofChange toldTellsWrong)

/-- 'jalousietop.TopFound': WHATEVER THE INPUT: true; the input reads as it did. -/
def topFoundSpec : ChangeSpec := { name := "topFound", fn := fun _ => fun
  | [d1, d2, d3, d4] => { results := [.lit (.bool true)], args := [d1, d2, d3, d4] }
  | _ => none }
def topFoundRow : OpenClaim := { program := "ytkemapljhmoafaa", sum := "2ae0d1dfb2d26811959d779b79fb23dea2e210c700470dad6f668dc8715fb4de", func := "jalousie/jalousietop.TopFound", spec := "topFound", unfollowed := true, recurses := true, plainKeys := false, apart := false }
def TopFoundSaid : Prop := topFoundRow.holds Try.pinned (OpenSpec.ofChange topFoundSpec)

/-- ITS FALSE NEIGHBOUR: 'it returns false'. Refute it at one input. -/
def topFoundWrong : ChangeSpec := { name := "topFound", fn := fun _ => fun
  | [d1, d2, d3, d4] => { results := [.lit (.bool false)], args := [d1, d2, d3, d4] }
  | _ => none }
def TopFoundWrongFalsely : Prop := topFoundRow.holds Try.pinned (OpenSpec.ofChange topFoundWrong)

/- THE SECOND FORM. 'bulk': how many values and letters a reading holds, each counted each time it is reached (what is shared counts as often as it is met; a slice's spare places count too). A statement '..UptoSaid' is the law's where the arguments, and the package variables that the reading takes, are together of bulk at most 1048576: NARROWER than '..Said'. Prove '..Said' where nothing that the law and all that it calls make is longer than what came in: it says more and counts as full. Else prove '..UptoSaid'. A law counts once. -/
mutual
def uptoBulk {H : Type} : DataW H → Nat
  | .lit (.string bytes) => bytes.length + 1
  | .lit _ => 1
  | .nil => 1
  | .ptr d => uptoBulk d + 1
  | .slice elems spare => uptoBulkAll elems + uptoBulkAll spare + 1
  | .agg parts => uptoBulkAll parts + 1
  | .iface _ d => uptoBulk d + 1
  | .map entries => uptoBulkEntries entries + 1
  | .held _ => 1
def uptoBulkAll {H : Type} : List (DataW H) → Nat
  | [] => 0
  | d :: r => uptoBulk d + uptoBulkAll r
def uptoBulkEntries {H : Type} : List (Lit × DataW H) → Nat
  | [] => 0
  | x :: r => uptoBulkEntry x + uptoBulkEntries r
def uptoBulkEntry {H : Type} : Lit × DataW H → Nat
  | (.string bytes, d) => bytes.length + uptoBulk d + 1
  | (_, d) => uptoBulk d + 1
 end
def uptoSmall : (H : Type) → List (DataW H) → Bool := fun _ ds => decide (uptoBulkAll ds ≤ 1048576)
def OpenSpec.upto (s : _root_.Go.ChangeSpec) : _root_.Go.OpenSpec := { _root_.Go.OpenSpec.ofChange s with cond := some uptoSmall }

/-- 'jalousielaw.RowTells', WHERE WHAT IT READS IS OF BULK AT MOST 1048576: true; the input reads as it did. -/
def rowTellsUptoRow : OpenClaim := { program := "ytkemapljhmoafaa", sum := "2ae0d1dfb2d26811959d779b79fb23dea2e210c700470dad6f668dc8715fb4de", func := "jalousie/jalousielaw.RowTells", spec := "rowTells", plainKeys := false, apart := false, narrowed := true }
def RowTellsUptoSaid : Prop := rowTellsUptoRow.holds Try.pinned (OpenSpec.upto rowTellsSpec)

/-- 'jalousielaw.RowJoins', WHERE WHAT IT READS IS OF BULK AT MOST 1048576: true; the input reads as it did. -/
def rowJoinsUptoRow : OpenClaim := { program := "ytkemapljhmoafaa", sum := "2ae0d1dfb2d26811959d779b79fb23dea2e210c700470dad6f668dc8715fb4de", func := "jalousie/jalousielaw.RowJoins", spec := "rowJoins", unfollowed := true, recurses := true, plainKeys := false, apart := false, narrowed := true }
def RowJoinsUptoSaid : Prop := rowJoinsUptoRow.holds Try.pinned (OpenSpec.upto rowJoinsSpec)

/-- 'jalousiekeep.RowSets', WHERE WHAT IT READS IS OF BULK AT MOST 1048576: true; the input reads as it did. -/
def rowSetsUptoRow : OpenClaim := { program := "ytkemapljhmoafaa", sum := "2ae0d1dfb2d26811959d779b79fb23dea2e210c700470dad6f668dc8715fb4de", func := "jalousie/jalousiekeep.RowSets", spec := "rowSets", unfollowed := true, recurses := true, plainKeys := false, apart := false, narrowed := true }
def RowSetsUptoSaid : Prop := rowSetsUptoRow.holds Try.pinned (OpenSpec.upto rowSetsSpec)

/-- 'jalousielaw.ControlTells', WHERE WHAT IT READS IS OF BULK AT MOST 1048576: true; the input reads as it did. -/
def controlTellsUptoRow : OpenClaim := { program := "ytkemapljhmoafaa", sum := "2ae0d1dfb2d26811959d779b79fb23dea2e210c700470dad6f668dc8715fb4de", func := "jalousie/jalousielaw.ControlTells", spec := "controlTells", unfollowed := true, recurses := true, plainKeys := false, apart := false, narrowed := true }
def ControlTellsUptoSaid : Prop := controlTellsUptoRow.holds Try.pinned (OpenSpec.upto controlTellsSpec)

/-- 'jalousielaw.ControlMost', WHERE WHAT IT READS IS OF BULK AT MOST 1048576: true; the input reads as it did. -/
def controlMostUptoRow : OpenClaim := { program := "ytkemapljhmoafaa", sum := "2ae0d1dfb2d26811959d779b79fb23dea2e210c700470dad6f668dc8715fb4de", func := "jalousie/jalousielaw.ControlMost", spec := "controlMost", unfollowed := true, recurses := true, plainKeys := false, apart := false, narrowed := true }
def ControlMostUptoSaid : Prop := controlMostUptoRow.holds Try.pinned (OpenSpec.upto controlMostSpec)

/-- 'jalousielaw.WithinTells', WHERE WHAT IT READS IS OF BULK AT MOST 1048576: true; the input reads as it did. -/
def withinTellsUptoRow : OpenClaim := { program := "ytkemapljhmoafaa", sum := "2ae0d1dfb2d26811959d779b79fb23dea2e210c700470dad6f668dc8715fb4de", func := "jalousie/jalousielaw.WithinTells", spec := "withinTells", unfollowed := true, recurses := true, plainKeys := false, apart := false, narrowed := true }
def WithinTellsUptoSaid : Prop := withinTellsUptoRow.holds Try.pinned (OpenSpec.upto withinTellsSpec)

/-- 'jalousielaw.DelayTells', WHERE WHAT IT READS IS OF BULK AT MOST 1048576: true; the input reads as it did. -/
def delayTellsUptoRow : OpenClaim := { program := "ytkemapljhmoafaa", sum := "2ae0d1dfb2d26811959d779b79fb23dea2e210c700470dad6f668dc8715fb4de", func := "jalousie/jalousielaw.DelayTells", spec := "delayTells", unfollowed := true, recurses := true, plainKeys := false, apart := false, narrowed := true }
def DelayTellsUptoSaid : Prop := delayTellsUptoRow.holds Try.pinned (OpenSpec.upto delayTellsSpec)

/-- 'jalousielaw.DelayHolds', WHERE WHAT IT READS IS OF BULK AT MOST 1048576: true; the input reads as it did. -/
def delayHoldsUptoRow : OpenClaim := { program := "ytkemapljhmoafaa", sum := "2ae0d1dfb2d26811959d779b79fb23dea2e210c700470dad6f668dc8715fb4de", func := "jalousie/jalousielaw.DelayHolds", spec := "delayHolds", unfollowed := true, recurses := true, plainKeys := false, apart := false, narrowed := true }
def DelayHoldsUptoSaid : Prop := delayHoldsUptoRow.holds Try.pinned (OpenSpec.upto delayHoldsSpec)

/-- 'jalousielaw.ToldTells', WHERE WHAT IT READS IS OF BULK AT MOST 1048576: true; the input reads as it did. -/
def toldTellsUptoRow : OpenClaim := { program := "ytkemapljhmoafaa", sum := "2ae0d1dfb2d26811959d779b79fb23dea2e210c700470dad6f668dc8715fb4de", func := "jalousie/jalousielaw.ToldTells", spec := "toldTells", unfollowed := true, recurses := true, plainKeys := false, apart := false, narrowed := true }
def ToldTellsUptoSaid : Prop := toldTellsUptoRow.holds Try.pinned (OpenSpec.upto toldTellsSpec)

/-- 'jalousietop.TopFound', WHERE WHAT IT READS IS OF BULK AT MOST 1048576: true; the input reads as it did. -/
def topFoundUptoRow : OpenClaim := { program := "ytkemapljhmoafaa", sum := "2ae0d1dfb2d26811959d779b79fb23dea2e210c700470dad6f668dc8715fb4de", func := "jalousie/jalousietop.TopFound", spec := "topFound", unfollowed := true, recurses := true, plainKeys := false, apart := false, narrowed := true }
def TopFoundUptoSaid : Prop := topFoundUptoRow.holds Try.pinned (OpenSpec.upto topFoundSpec)

end Rows
end Go.Proofs.Ytkemapljhmoafaa
