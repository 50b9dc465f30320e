/-
  NARROWER THAN 'FOR EVERY INPUT', by the rows' own cells (each row's printed sentence says how): CurrentTells: laid · CurrentKeeps: laid · SecretTells: laid · SecretKeeps: laid · InitialTells: laid · InitialKeeps: laid · StepsTells: laid · StepsKeeps: laid · TopOne: laid.
  DERIVED. THE GIVEN ROWS OF THIS SEAT. 9 by the template 'for every input the law returns true; each argument reads behind the call as it read before'; 0 by the template 'total and deterministic' (their statements: YtcjinmgieiebbaaDoorTotals.lean).
  GIVEN WITH THE SEED: the statements are not yours to turn. If you find one false, say at which input.
  Laid BY PROGRAM, IN A SANDBOX (cutbox-rows.mjs): the forced cells as the released guide's own fill.sh prints them over the translation 15bec0038951b22e… (all of the seat's roots in one cut). By AI agents, Wed Nov 11 2026. No macro, syntax, notation, axiom, sorry.
-/
import Derived.Test.YtcjinmgieiebbaaDoorChecked
import GoSem.Claim
import GoSem.ClaimJoined
import GoSem.ClaimMapViews
import Derived.JoinedTies
import Derived.KernelRfl
namespace Go.Proofs.YtcjinmgieiebbaaDoor
/- THE CELL 'sum', in the pinned program and in every row, IS THE sha256 OF THE DUMP (.gsa) THAT YtcjinmgieiebbaaDoorProg.lean LOADS. Nothing in Lean hashes anything: it is a label: what it is worth is what the hold of that sum in a sandbox is worth. -/
noncomputable def Tryd.pinned : Pinned := { name := "ytcjinmgieiebbaadoor", sum := "15bec0038951b22ec56b8e656dc2a4e3796d7317b9d0ee2c2402b0b80abbfce2", checked := Tryd.checked }
namespace Rows
def none {H : Type} : Left H := { results := [], args := [] }

/- WHAT THE LISTED PACKAGE-LEVEL VARIABLES READ AS WHEN THE CALL BEGINS. Each datum BY PROGRAM (the guide's laid-datum.mjs) off the statement by which the dump's own 'gosem.cut.vars' lays the variable. In a bare row this is a premise. The card (YtcjinmgieiebbaaDoorCards.lean) ties it to the program's text. -/
def laid_math_bits_deBruijn64tab {H : Type} : DataW H := .agg [.lit (.int .u8 0), .lit (.int .u8 1), .lit (.int .u8 56), .lit (.int .u8 2), .lit (.int .u8 57), .lit (.int .u8 49), .lit (.int .u8 28), .lit (.int .u8 3), .lit (.int .u8 61), .lit (.int .u8 58), .lit (.int .u8 42), .lit (.int .u8 50), .lit (.int .u8 38), .lit (.int .u8 29), .lit (.int .u8 17), .lit (.int .u8 4), .lit (.int .u8 62), .lit (.int .u8 47), .lit (.int .u8 59), .lit (.int .u8 36), .lit (.int .u8 45), .lit (.int .u8 43), .lit (.int .u8 51), .lit (.int .u8 22), .lit (.int .u8 53), .lit (.int .u8 39), .lit (.int .u8 33), .lit (.int .u8 30), .lit (.int .u8 24), .lit (.int .u8 18), .lit (.int .u8 12), .lit (.int .u8 5), .lit (.int .u8 63), .lit (.int .u8 55), .lit (.int .u8 48), .lit (.int .u8 27), .lit (.int .u8 60), .lit (.int .u8 41), .lit (.int .u8 37), .lit (.int .u8 16), .lit (.int .u8 46), .lit (.int .u8 35), .lit (.int .u8 44), .lit (.int .u8 21), .lit (.int .u8 52), .lit (.int .u8 32), .lit (.int .u8 23), .lit (.int .u8 11), .lit (.int .u8 54), .lit (.int .u8 26), .lit (.int .u8 40), .lit (.int .u8 15), .lit (.int .u8 34), .lit (.int .u8 20), .lit (.int .u8 31), .lit (.int .u8 10), .lit (.int .u8 25), .lit (.int .u8 14), .lit (.int .u8 19), .lit (.int .u8 9), .lit (.int .u8 13), .lit (.int .u8 8), .lit (.int .u8 7), .lit (.int .u8 6)]

/-- 'jalousielaw.CurrentTells': WHATEVER THE INPUT: true; the input reads as it did. -/
def currentTellsSpec : ChangeSpec := { name := "currentTells", fn := fun _ => fun
  | [d1, d2] => { results := [.lit (.bool true)], args := [d1, d2] }
  | _ => none }
def currentTellsRow : OpenClaim := { program := "ytcjinmgieiebbaadoor", sum := "15bec0038951b22ec56b8e656dc2a4e3796d7317b9d0ee2c2402b0b80abbfce2", func := "jalousie/jalousielaw.CurrentTells", spec := "currentTells", unfollowed := true, recurses := true, named := ["math/bits.deBruijn64tab"], plainKeys := false, apart := false, laid := [("math/bits.deBruijn64tab", laid_math_bits_deBruijn64tab)] }
def CurrentTellsSaid : Prop := currentTellsRow.holds Tryd.pinned (OpenSpec.ofChange currentTellsSpec)

/-- ITS FALSE NEIGHBOUR: 'it returns false'. Refute it at one input. -/
def currentTellsWrong : ChangeSpec := { name := "currentTells", fn := fun _ => fun
  | [d1, d2] => { results := [.lit (.bool false)], args := [d1, d2] }
  | _ => none }
def CurrentTellsWrongFalsely : Prop := currentTellsRow.holds Tryd.pinned (OpenSpec.ofChange currentTellsWrong)

/-- 'jalousiekeep.CurrentKeeps': WHATEVER THE INPUT: true; the input reads as it did. -/
def currentKeepsSpec : ChangeSpec := { name := "currentKeeps", fn := fun _ => fun
  | [d1, d2] => { results := [.lit (.bool true)], args := [d1, d2] }
  | _ => none }
def currentKeepsRow : OpenClaim := { program := "ytcjinmgieiebbaadoor", sum := "15bec0038951b22ec56b8e656dc2a4e3796d7317b9d0ee2c2402b0b80abbfce2", func := "jalousie/jalousiekeep.CurrentKeeps", spec := "currentKeeps", unfollowed := true, recurses := true, named := ["math/bits.deBruijn64tab"], plainKeys := false, apart := false, laid := [("math/bits.deBruijn64tab", laid_math_bits_deBruijn64tab)] }
def CurrentKeepsSaid : Prop := currentKeepsRow.holds Tryd.pinned (OpenSpec.ofChange currentKeepsSpec)

/-- ITS FALSE NEIGHBOUR: 'it returns false'. Refute it at one input. -/
def currentKeepsWrong : ChangeSpec := { name := "currentKeeps", fn := fun _ => fun
  | [d1, d2] => { results := [.lit (.bool false)], args := [d1, d2] }
  | _ => none }
def CurrentKeepsWrongFalsely : Prop := currentKeepsRow.holds Tryd.pinned (OpenSpec.ofChange currentKeepsWrong)

/-- 'jalousielaw.SecretTells': WHATEVER THE INPUT: true; the input reads as it did. -/
def secretTellsSpec : ChangeSpec := { name := "secretTells", fn := fun _ => fun
  | [d1, d2, d3] => { results := [.lit (.bool true)], args := [d1, d2, d3] }
  | _ => none }
def secretTellsRow : OpenClaim := { program := "ytcjinmgieiebbaadoor", sum := "15bec0038951b22ec56b8e656dc2a4e3796d7317b9d0ee2c2402b0b80abbfce2", func := "jalousie/jalousielaw.SecretTells", spec := "secretTells", unfollowed := true, recurses := true, named := ["math/bits.deBruijn64tab"], plainKeys := false, apart := false, laid := [("math/bits.deBruijn64tab", laid_math_bits_deBruijn64tab)] }
def SecretTellsSaid : Prop := secretTellsRow.holds Tryd.pinned (OpenSpec.ofChange secretTellsSpec)

/-- ITS FALSE NEIGHBOUR: 'it returns false'. Refute it at one input. -/
def secretTellsWrong : ChangeSpec := { name := "secretTells", fn := fun _ => fun
  | [d1, d2, d3] => { results := [.lit (.bool false)], args := [d1, d2, d3] }
  | _ => none }
def SecretTellsWrongFalsely : Prop := secretTellsRow.holds Tryd.pinned (OpenSpec.ofChange secretTellsWrong)

/-- 'jalousielaw.SecretKeeps': WHATEVER THE INPUT: true; the input reads as it did. -/
def secretKeepsSpec : ChangeSpec := { name := "secretKeeps", fn := fun _ => fun
  | [d1, d2, d3, d4] => { results := [.lit (.bool true)], args := [d1, d2, d3, d4] }
  | _ => none }
def secretKeepsRow : OpenClaim := { program := "ytcjinmgieiebbaadoor", sum := "15bec0038951b22ec56b8e656dc2a4e3796d7317b9d0ee2c2402b0b80abbfce2", func := "jalousie/jalousielaw.SecretKeeps", spec := "secretKeeps", unfollowed := true, recurses := true, named := ["math/bits.deBruijn64tab"], plainKeys := false, apart := false, laid := [("math/bits.deBruijn64tab", laid_math_bits_deBruijn64tab)] }
def SecretKeepsSaid : Prop := secretKeepsRow.holds Tryd.pinned (OpenSpec.ofChange secretKeepsSpec)

/-- ITS FALSE NEIGHBOUR: 'it returns false'. Refute it at one input. -/
def secretKeepsWrong : ChangeSpec := { name := "secretKeeps", fn := fun _ => fun
  | [d1, d2, d3, d4] => { results := [.lit (.bool false)], args := [d1, d2, d3, d4] }
  | _ => none }
def SecretKeepsWrongFalsely : Prop := secretKeepsRow.holds Tryd.pinned (OpenSpec.ofChange secretKeepsWrong)

/-- 'jalousielaw.InitialTells': WHATEVER THE INPUT: true; the input reads as it did. -/
def initialTellsSpec : ChangeSpec := { name := "initialTells", fn := fun _ => fun
  | [d1, d2] => { results := [.lit (.bool true)], args := [d1, d2] }
  | _ => none }
def initialTellsRow : OpenClaim := { program := "ytcjinmgieiebbaadoor", sum := "15bec0038951b22ec56b8e656dc2a4e3796d7317b9d0ee2c2402b0b80abbfce2", func := "jalousie/jalousielaw.InitialTells", spec := "initialTells", unfollowed := true, recurses := true, named := ["math/bits.deBruijn64tab"], plainKeys := false, apart := false, laid := [("math/bits.deBruijn64tab", laid_math_bits_deBruijn64tab)] }
def InitialTellsSaid : Prop := initialTellsRow.holds Tryd.pinned (OpenSpec.ofChange initialTellsSpec)

/-- ITS FALSE NEIGHBOUR: 'it returns false'. Refute it at one input. -/
def initialTellsWrong : ChangeSpec := { name := "initialTells", fn := fun _ => fun
  | [d1, d2] => { results := [.lit (.bool false)], args := [d1, d2] }
  | _ => none }
def InitialTellsWrongFalsely : Prop := initialTellsRow.holds Tryd.pinned (OpenSpec.ofChange initialTellsWrong)

/-- 'jalousiekeep.InitialKeeps': WHATEVER THE INPUT: true; the input reads as it did. -/
def initialKeepsSpec : ChangeSpec := { name := "initialKeeps", fn := fun _ => fun
  | [d1, d2] => { results := [.lit (.bool true)], args := [d1, d2] }
  | _ => none }
def initialKeepsRow : OpenClaim := { program := "ytcjinmgieiebbaadoor", sum := "15bec0038951b22ec56b8e656dc2a4e3796d7317b9d0ee2c2402b0b80abbfce2", func := "jalousie/jalousiekeep.InitialKeeps", spec := "initialKeeps", unfollowed := true, recurses := true, named := ["math/bits.deBruijn64tab"], plainKeys := false, apart := false, laid := [("math/bits.deBruijn64tab", laid_math_bits_deBruijn64tab)] }
def InitialKeepsSaid : Prop := initialKeepsRow.holds Tryd.pinned (OpenSpec.ofChange initialKeepsSpec)

/-- ITS FALSE NEIGHBOUR: 'it returns false'. Refute it at one input. -/
def initialKeepsWrong : ChangeSpec := { name := "initialKeeps", fn := fun _ => fun
  | [d1, d2] => { results := [.lit (.bool false)], args := [d1, d2] }
  | _ => none }
def InitialKeepsWrongFalsely : Prop := initialKeepsRow.holds Tryd.pinned (OpenSpec.ofChange initialKeepsWrong)

/-- 'jalousielaw.StepsTells': WHATEVER THE INPUT: true; the input reads as it did. -/
def stepsTellsSpec : ChangeSpec := { name := "stepsTells", fn := fun _ => fun
  | [d1, d2, d3, d4] => { results := [.lit (.bool true)], args := [d1, d2, d3, d4] }
  | _ => none }
def stepsTellsRow : OpenClaim := { program := "ytcjinmgieiebbaadoor", sum := "15bec0038951b22ec56b8e656dc2a4e3796d7317b9d0ee2c2402b0b80abbfce2", func := "jalousie/jalousielaw.StepsTells", spec := "stepsTells", unfollowed := true, recurses := true, named := ["math/bits.deBruijn64tab"], plainKeys := false, apart := false, laid := [("math/bits.deBruijn64tab", laid_math_bits_deBruijn64tab)] }
def StepsTellsSaid : Prop := stepsTellsRow.holds Tryd.pinned (OpenSpec.ofChange stepsTellsSpec)

/-- ITS FALSE NEIGHBOUR: 'it returns false'. Refute it at one input. -/
def stepsTellsWrong : ChangeSpec := { name := "stepsTells", fn := fun _ => fun
  | [d1, d2, d3, d4] => { results := [.lit (.bool false)], args := [d1, d2, d3, d4] }
  | _ => none }
def StepsTellsWrongFalsely : Prop := stepsTellsRow.holds Tryd.pinned (OpenSpec.ofChange stepsTellsWrong)

/-- 'jalousiekeep.StepsKeeps': WHATEVER THE INPUT: true; the input reads as it did. -/
def stepsKeepsSpec : ChangeSpec := { name := "stepsKeeps", fn := fun _ => fun
  | [d1, d2, d3, d4] => { results := [.lit (.bool true)], args := [d1, d2, d3, d4] }
  | _ => none }
def stepsKeepsRow : OpenClaim := { program := "ytcjinmgieiebbaadoor", sum := "15bec0038951b22ec56b8e656dc2a4e3796d7317b9d0ee2c2402b0b80abbfce2", func := "jalousie/jalousiekeep.StepsKeeps", spec := "stepsKeeps", unfollowed := true, recurses := true, named := ["math/bits.deBruijn64tab"], plainKeys := false, apart := false, laid := [("math/bits.deBruijn64tab", laid_math_bits_deBruijn64tab)] }
def StepsKeepsSaid : Prop := stepsKeepsRow.holds Tryd.pinned (OpenSpec.ofChange stepsKeepsSpec)

/-- ITS FALSE NEIGHBOUR: 'it returns false'. Refute it at one input. -/
def stepsKeepsWrong : ChangeSpec := { name := "stepsKeeps", fn := fun _ => fun
  | [d1, d2, d3, d4] => { results := [.lit (.bool false)], args := [d1, d2, d3, d4] }
  | _ => none }
def StepsKeepsWrongFalsely : Prop := stepsKeepsRow.holds Tryd.pinned (OpenSpec.ofChange stepsKeepsWrong)

/-- 'jalousietop.TopOne': WHATEVER THE INPUT: true; the input reads as it did. -/
def topOneSpec : ChangeSpec := { name := "topOne", fn := fun _ => fun
  | [d] => { results := [.lit (.bool true)], args := [d] }
  | _ => none }
def topOneRow : OpenClaim := { program := "ytcjinmgieiebbaadoor", sum := "15bec0038951b22ec56b8e656dc2a4e3796d7317b9d0ee2c2402b0b80abbfce2", func := "jalousie/jalousietop.TopOne", spec := "topOne", unfollowed := true, recurses := true, named := ["math/bits.deBruijn64tab"], plainKeys := false, apart := false, laid := [("math/bits.deBruijn64tab", laid_math_bits_deBruijn64tab)] }
def TopOneSaid : Prop := topOneRow.holds Tryd.pinned (OpenSpec.ofChange topOneSpec)

/-- ITS FALSE NEIGHBOUR: 'it returns false'. Refute it at one input. -/
def topOneWrong : ChangeSpec := { name := "topOne", fn := fun _ => fun
  | [d] => { results := [.lit (.bool false)], args := [d] }
  | _ => none }
def TopOneWrongFalsely : Prop := topOneRow.holds Tryd.pinned (OpenSpec.ofChange topOneWrong)

/- THE SECOND FORM. 'bulk': how many values and letters a reading holds, each counted each time it is reached (what is shared counts as often as it is met; a slice's spare places count too). A statement '..UptoSaid' is the law's where the arguments, and the package variables that the reading takes, are together of bulk at most 1048576: NARROWER than '..Said'. Prove '..Said' where nothing that the law and all that it calls make is longer than what came in: it says more and counts as full. Else prove '..UptoSaid'. A law counts once. -/
mutual
def uptoBulk {H : Type} : DataW H → Nat
  | .lit (.string bytes) => bytes.length + 1
  | .lit _ => 1
  | .nil => 1
  | .ptr d => uptoBulk d + 1
  | .slice elems spare => uptoBulkAll elems + uptoBulkAll spare + 1
  | .agg parts => uptoBulkAll parts + 1
  | .iface _ d => uptoBulk d + 1
  | .map entries => uptoBulkEntries entries + 1
  | .held _ => 1
def uptoBulkAll {H : Type} : List (DataW H) → Nat
  | [] => 0
  | d :: r => uptoBulk d + uptoBulkAll r
def uptoBulkEntries {H : Type} : List (Lit × DataW H) → Nat
  | [] => 0
  | x :: r => uptoBulkEntry x + uptoBulkEntries r
def uptoBulkEntry {H : Type} : Lit × DataW H → Nat
  | (.string bytes, d) => bytes.length + uptoBulk d + 1
  | (_, d) => uptoBulk d + 1
 end
def uptoSmall : (H : Type) → List (DataW H) → Bool := fun _ ds => decide (uptoBulkAll ds ≤ 1048576)
def OpenSpec.upto (s : _root_.Go.ChangeSpec) : _root_.Go.OpenSpec := { _root_.Go.OpenSpec.ofChange s with cond := some uptoSmall }

/-- 'jalousielaw.CurrentTells', WHERE WHAT IT READS IS OF BULK AT MOST 1048576: true; the input reads as it did. -/
def currentTellsUptoRow : OpenClaim := { program := "ytcjinmgieiebbaadoor", sum := "15bec0038951b22ec56b8e656dc2a4e3796d7317b9d0ee2c2402b0b80abbfce2", func := "jalousie/jalousielaw.CurrentTells", spec := "currentTells", unfollowed := true, recurses := true, named := ["math/bits.deBruijn64tab"], plainKeys := false, apart := false, laid := [("math/bits.deBruijn64tab", laid_math_bits_deBruijn64tab)], narrowed := true }
def CurrentTellsUptoSaid : Prop := currentTellsUptoRow.holds Tryd.pinned (OpenSpec.upto currentTellsSpec)

/-- 'jalousiekeep.CurrentKeeps', WHERE WHAT IT READS IS OF BULK AT MOST 1048576: true; the input reads as it did. -/
def currentKeepsUptoRow : OpenClaim := { program := "ytcjinmgieiebbaadoor", sum := "15bec0038951b22ec56b8e656dc2a4e3796d7317b9d0ee2c2402b0b80abbfce2", func := "jalousie/jalousiekeep.CurrentKeeps", spec := "currentKeeps", unfollowed := true, recurses := true, named := ["math/bits.deBruijn64tab"], plainKeys := false, apart := false, laid := [("math/bits.deBruijn64tab", laid_math_bits_deBruijn64tab)], narrowed := true }
def CurrentKeepsUptoSaid : Prop := currentKeepsUptoRow.holds Tryd.pinned (OpenSpec.upto currentKeepsSpec)

/-- 'jalousielaw.SecretTells', WHERE WHAT IT READS IS OF BULK AT MOST 1048576: true; the input reads as it did. -/
def secretTellsUptoRow : OpenClaim := { program := "ytcjinmgieiebbaadoor", sum := "15bec0038951b22ec56b8e656dc2a4e3796d7317b9d0ee2c2402b0b80abbfce2", func := "jalousie/jalousielaw.SecretTells", spec := "secretTells", unfollowed := true, recurses := true, named := ["math/bits.deBruijn64tab"], plainKeys := false, apart := false, laid := [("math/bits.deBruijn64tab", laid_math_bits_deBruijn64tab)], narrowed := true }
def SecretTellsUptoSaid : Prop := secretTellsUptoRow.holds Tryd.pinned (OpenSpec.upto secretTellsSpec)

/-- 'jalousielaw.SecretKeeps', WHERE WHAT IT READS IS OF BULK AT MOST 1048576: true; the input reads as it did. -/
def secretKeepsUptoRow : OpenClaim := { program := "ytcjinmgieiebbaadoor", sum := "15bec0038951b22ec56b8e656dc2a4e3796d7317b9d0ee2c2402b0b80abbfce2", func := "jalousie/jalousielaw.SecretKeeps", spec := "secretKeeps", unfollowed := true, recurses := true, named := ["math/bits.deBruijn64tab"], plainKeys := false, apart := false, laid := [("math/bits.deBruijn64tab", laid_math_bits_deBruijn64tab)], narrowed := true }
def SecretKeepsUptoSaid : Prop := secretKeepsUptoRow.holds Tryd.pinned (OpenSpec.upto secretKeepsSpec)

/-- 'jalousielaw.InitialTells', WHERE WHAT IT READS IS OF BULK AT MOST 1048576: true; the input reads as it did. -/
def initialTellsUptoRow : OpenClaim := { program := "ytcjinmgieiebbaadoor", sum := "15bec0038951b22ec56b8e656dc2a4e3796d7317b9d0ee2c2402b0b80abbfce2", func := "jalousie/jalousielaw.InitialTells", spec := "initialTells", unfollowed := true, recurses := true, named := ["math/bits.deBruijn64tab"], plainKeys := false, apart := false, laid := [("math/bits.deBruijn64tab", laid_math_bits_deBruijn64tab)], narrowed := true }
def InitialTellsUptoSaid : Prop := initialTellsUptoRow.holds Tryd.pinned (OpenSpec.upto initialTellsSpec)

/-- 'jalousiekeep.InitialKeeps', WHERE WHAT IT READS IS OF BULK AT MOST 1048576: true; the input reads as it did. -/
def initialKeepsUptoRow : OpenClaim := { program := "ytcjinmgieiebbaadoor", sum := "15bec0038951b22ec56b8e656dc2a4e3796d7317b9d0ee2c2402b0b80abbfce2", func := "jalousie/jalousiekeep.InitialKeeps", spec := "initialKeeps", unfollowed := true, recurses := true, named := ["math/bits.deBruijn64tab"], plainKeys := false, apart := false, laid := [("math/bits.deBruijn64tab", laid_math_bits_deBruijn64tab)], narrowed := true }
def InitialKeepsUptoSaid : Prop := initialKeepsUptoRow.holds Tryd.pinned (OpenSpec.upto initialKeepsSpec)

/-- 'jalousielaw.StepsTells', WHERE WHAT IT READS IS OF BULK AT MOST 1048576: true; the input reads as it did. -/
def stepsTellsUptoRow : OpenClaim := { program := "ytcjinmgieiebbaadoor", sum := "15bec0038951b22ec56b8e656dc2a4e3796d7317b9d0ee2c2402b0b80abbfce2", func := "jalousie/jalousielaw.StepsTells", spec := "stepsTells", unfollowed := true, recurses := true, named := ["math/bits.deBruijn64tab"], plainKeys := false, apart := false, laid := [("math/bits.deBruijn64tab", laid_math_bits_deBruijn64tab)], narrowed := true }
def StepsTellsUptoSaid : Prop := stepsTellsUptoRow.holds Tryd.pinned (OpenSpec.upto stepsTellsSpec)

/-- 'jalousiekeep.StepsKeeps', WHERE WHAT IT READS IS OF BULK AT MOST 1048576: true; the input reads as it did. -/
def stepsKeepsUptoRow : OpenClaim := { program := "ytcjinmgieiebbaadoor", sum := "15bec0038951b22ec56b8e656dc2a4e3796d7317b9d0ee2c2402b0b80abbfce2", func := "jalousie/jalousiekeep.StepsKeeps", spec := "stepsKeeps", unfollowed := true, recurses := true, named := ["math/bits.deBruijn64tab"], plainKeys := false, apart := false, laid := [("math/bits.deBruijn64tab", laid_math_bits_deBruijn64tab)], narrowed := true }
def StepsKeepsUptoSaid : Prop := stepsKeepsUptoRow.holds Tryd.pinned (OpenSpec.upto stepsKeepsSpec)

/-- 'jalousietop.TopOne', WHERE WHAT IT READS IS OF BULK AT MOST 1048576: true; the input reads as it did. -/
def topOneUptoRow : OpenClaim := { program := "ytcjinmgieiebbaadoor", sum := "15bec0038951b22ec56b8e656dc2a4e3796d7317b9d0ee2c2402b0b80abbfce2", func := "jalousie/jalousietop.TopOne", spec := "topOne", unfollowed := true, recurses := true, named := ["math/bits.deBruijn64tab"], plainKeys := false, apart := false, laid := [("math/bits.deBruijn64tab", laid_math_bits_deBruijn64tab)], narrowed := true }
def TopOneUptoSaid : Prop := topOneUptoRow.holds Tryd.pinned (OpenSpec.upto topOneSpec)

end Rows
end Go.Proofs.YtcjinmgieiebbaaDoor
