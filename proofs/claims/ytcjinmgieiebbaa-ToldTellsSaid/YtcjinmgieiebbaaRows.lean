/-
  No cell of these rows narrows 'for every input' (looked for: loops, veiled, ifaces, maps, wideKeys, modest, calm, conditions, laid).
  DERIVED. THE GIVEN ROWS OF THIS SEAT. 3 by the template 'for every input the law returns true; each argument reads behind the call as it read before'; 0 by the template 'total and deterministic' (their statements: YtcjinmgieiebbaaTotals.lean).
  GIVEN WITH THE SEED: the statements are not yours to turn. If you find one false, say at which input.
  Laid BY PROGRAM, IN A SANDBOX (cutbox-rows.mjs): the forced cells as the released guide's own fill.sh prints them over the translation 2f53ebebc9c20fa5… (all of the seat's roots in one cut). By AI agents, Wed Nov 11 2026. No macro, syntax, notation, axiom, sorry.
-/
import Derived.Test.YtcjinmgieiebbaaChecked
import GoSem.Claim
import GoSem.ClaimJoined
import GoSem.ClaimMapViews
import Derived.JoinedTies
import Derived.KernelRfl
namespace Go.Proofs.Ytcjinmgieiebbaa
/- THE CELL 'sum', in the pinned program and in every row, IS THE sha256 OF THE DUMP (.gsa) THAT YtcjinmgieiebbaaProg.lean LOADS. Nothing in Lean hashes anything: it is a label: what it is worth is what the hold of that sum in a sandbox is worth. -/
noncomputable def Try.pinned : Pinned := { name := "ytcjinmgieiebbaa", sum := "2f53ebebc9c20fa584b6c3959ac8f264f27a0f51f31db4d373b1d4db89f527a7", checked := Try.checked }
namespace Rows
def none {H : Type} : Left H := { results := [], args := [] }

/-- 'jalousielaw.ToldTells': WHATEVER THE INPUT: true; the input reads as it did. -/
def toldTellsSpec : ChangeSpec := { name := "toldTells", fn := fun _ => fun
  | [d1, d2] => { results := [.lit (.bool true)], args := [d1, d2] }
  | _ => none }
def toldTellsRow : OpenClaim := { program := "ytcjinmgieiebbaa", sum := "2f53ebebc9c20fa584b6c3959ac8f264f27a0f51f31db4d373b1d4db89f527a7", func := "jalousie/jalousielaw.ToldTells", spec := "toldTells", unfollowed := true, recurses := true, plainKeys := false, apart := false }
def ToldTellsSaid : Prop := toldTellsRow.holds Try.pinned (OpenSpec.ofChange toldTellsSpec)

/-- ITS FALSE NEIGHBOUR: 'it returns false'. Refute it at one input. -/
def toldTellsWrong : ChangeSpec := { name := "toldTells", fn := fun _ => fun
  | [d1, d2] => { results := [.lit (.bool false)], args := [d1, d2] }
  | _ => none }
def ToldTellsWrongFalsely : Prop := toldTellsRow.holds Try.pinned (OpenSpec.ofChange toldTellsWrong)

/-- 'jalousietop.TopSeen': WHATEVER THE INPUT: true; the input reads as it did. -/
def topSeenSpec : ChangeSpec := { name := "topSeen", fn := fun _ => fun
  | [d1, d2] => { results := [.lit (.bool true)], args := [d1, d2] }
  | _ => none }
def topSeenRow : OpenClaim := { program := "ytcjinmgieiebbaa", sum := "2f53ebebc9c20fa584b6c3959ac8f264f27a0f51f31db4d373b1d4db89f527a7", func := "jalousie/jalousietop.TopSeen", spec := "topSeen", unfollowed := true, recurses := true, plainKeys := false, apart := false }
def TopSeenSaid : Prop := topSeenRow.holds Try.pinned (OpenSpec.ofChange topSeenSpec)

/-- ITS FALSE NEIGHBOUR: 'it returns false'. Refute it at one input. -/
def topSeenWrong : ChangeSpec := { name := "topSeen", fn := fun _ => fun
  | [d1, d2] => { results := [.lit (.bool false)], args := [d1, d2] }
  | _ => none }
def TopSeenWrongFalsely : Prop := topSeenRow.holds Try.pinned (OpenSpec.ofChange topSeenWrong)

/-- 'jalousiekeep.StepsMore': WHATEVER THE INPUT: true; the input reads as it did. -/
def stepsMoreSpec : ChangeSpec := { name := "stepsMore", fn := fun _ => fun
  | [d1, d2, d3] => { results := [.lit (.bool true)], args := [d1, d2, d3] }
  | _ => none }
def stepsMoreRow : OpenClaim := { program := "ytcjinmgieiebbaa", sum := "2f53ebebc9c20fa584b6c3959ac8f264f27a0f51f31db4d373b1d4db89f527a7", func := "jalousie/jalousiekeep.StepsMore", spec := "stepsMore", unfollowed := true, recurses := true, plainKeys := false, apart := false }
def StepsMoreSaid : Prop := stepsMoreRow.holds Try.pinned (OpenSpec.ofChange stepsMoreSpec)

/-- ITS FALSE NEIGHBOUR: 'it returns false'. Refute it at one input. -/
def stepsMoreWrong : ChangeSpec := { name := "stepsMore", fn := fun _ => fun
  | [d1, d2, d3] => { results := [.lit (.bool false)], args := [d1, d2, d3] }
  | _ => none }
def StepsMoreWrongFalsely : Prop := stepsMoreRow.holds Try.pinned (OpenSpec.ofChange stepsMoreWrong)

/- THE SECOND FORM. 'bulk': how many values and letters a reading holds, each counted each time it is reached (what is shared counts as often as it is met; a slice's spare places count too). A statement '..UptoSaid' is the law's where the arguments, and the package variables that the reading takes, are together of bulk at most 1048576: NARROWER than '..Said'. Prove '..Said' where nothing that the law and all that it calls make is longer than what came in: it says more and counts as full. Else prove '..UptoSaid'. A law counts once. -/
mutual
def uptoBulk {H : Type} : DataW H → Nat
  | .lit (.string bytes) => bytes.length + 1
  | .lit _ => 1
  | .nil => 1
  | .ptr d => uptoBulk d + 1
  | .slice elems spare => uptoBulkAll elems + uptoBulkAll spare + 1
  | .agg parts => uptoBulkAll parts + 1
  | .iface _ d => uptoBulk d + 1
  | .map entries => uptoBulkEntries entries + 1
  | .held _ => 1
def uptoBulkAll {H : Type} : List (DataW H) → Nat
  | [] => 0
  | d :: r => uptoBulk d + uptoBulkAll r
def uptoBulkEntries {H : Type} : List (Lit × DataW H) → Nat
  | [] => 0
  | x :: r => uptoBulkEntry x + uptoBulkEntries r
def uptoBulkEntry {H : Type} : Lit × DataW H → Nat
  | (.string bytes, d) => bytes.length + uptoBulk d + 1
  | (_, d) => uptoBulk d + 1
 end
def uptoSmall : (H : Type) → List (DataW H) → Bool := fun _ ds => decide (uptoBulkAll ds ≤ 1048576)
def OpenSpec.upto (s : _root_.Go.ChangeSpec) : _root_.Go.OpenSpec := { _root_.Go.OpenSpec.ofChange s with cond := some uptoSmall }

/-- 'jalousielaw.ToldTells', WHERE WHAT IT READS IS OF BULK AT MOST 1048576: true; the input reads as it did. -/
def toldTellsUptoRow : OpenClaim := { program := "ytcjinmgieiebbaa", sum := "2f53ebebc9c20fa584b6c3959ac8f264f27a0f51f31db4d373b1d4db89f527a7", func := "jalousie/jalousielaw.ToldTells", spec := "toldTells", unfollowed := true, recurses := true, plainKeys := false, apart := false, narrowed := true }
def ToldTellsUptoSaid : Prop := toldTellsUptoRow.holds Try.pinned (OpenSpec.upto toldTellsSpec)

/-- 'jalousietop.TopSeen', WHERE WHAT IT READS IS OF BULK AT MOST 1048576: true; the input reads as it did. -/
def topSeenUptoRow : OpenClaim := { program := "ytcjinmgieiebbaa", sum := "2f53ebebc9c20fa584b6c3959ac8f264f27a0f51f31db4d373b1d4db89f527a7", func := "jalousie/jalousietop.TopSeen", spec := "topSeen", unfollowed := true, recurses := true, plainKeys := false, apart := false, narrowed := true }
def TopSeenUptoSaid : Prop := topSeenUptoRow.holds Try.pinned (OpenSpec.upto topSeenSpec)

/-- 'jalousiekeep.StepsMore', WHERE WHAT IT READS IS OF BULK AT MOST 1048576: true; the input reads as it did. -/
def stepsMoreUptoRow : OpenClaim := { program := "ytcjinmgieiebbaa", sum := "2f53ebebc9c20fa584b6c3959ac8f264f27a0f51f31db4d373b1d4db89f527a7", func := "jalousie/jalousiekeep.StepsMore", spec := "stepsMore", unfollowed := true, recurses := true, plainKeys := false, apart := false, narrowed := true }
def StepsMoreUptoSaid : Prop := stepsMoreUptoRow.holds Try.pinned (OpenSpec.upto stepsMoreSpec)

end Rows
end Go.Proofs.Ytcjinmgieiebbaa
