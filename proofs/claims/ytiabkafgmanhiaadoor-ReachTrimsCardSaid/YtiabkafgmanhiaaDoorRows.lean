/-
  NARROWER THAN 'FOR EVERY INPUT', by the rows' own cells (each row's printed sentence says how): MachineSplits: laid · MachineTells: laid · DetermineMakes: laid · HideMakes: laid · ReachTells: laid · WithinSays: laid · DetermineSame: laid · CurrentTells: laid · CurrentKeeps: laid · HideSees: laid · ReachTrims: laid · LeastMakes: laid.
  DERIVED. THE GIVEN ROWS OF THIS SEAT. 12 by the template 'for every input the law returns true; each argument reads behind the call as it read before'; 0 by the template 'total and deterministic' (their statements: YtiabkafgmanhiaaDoorTotals.lean).
  GIVEN WITH THE SEED: the statements are not yours to turn. If you find one false, say at which input.
  Laid BY PROGRAM, IN A SANDBOX (cutbox-rows.mjs): the forced cells as the released guide's own fill.sh prints them over the translation 1ccf50ad33d35b7e… (all of the seat's roots in one cut). By AI agents, Wed Nov 11 2026. No macro, syntax, notation, axiom, sorry.
-/
import Derived.Test.YtiabkafgmanhiaaDoorChecked
import GoSem.Claim
import GoSem.ClaimJoined
import GoSem.ClaimMapViews
import Derived.JoinedTies
import Derived.KernelRfl
namespace Go.Proofs.YtiabkafgmanhiaaDoor
/- THE CELL 'sum', in the pinned program and in every row, IS THE sha256 OF THE DUMP (.gsa) THAT YtiabkafgmanhiaaDoorProg.lean LOADS. Nothing in Lean hashes anything: it is a label: what it is worth is what the hold of that sum in a sandbox is worth. -/
noncomputable def Tryd.pinned : Pinned := { name := "ytiabkafgmanhiaadoor", sum := "1ccf50ad33d35b7eddc669e76e2ea6a7dfdd9b315a163077ebbcca9425eaf5b0", checked := Tryd.checked }
namespace Rows
def none {H : Type} : Left H := { results := [], args := [] }

/- WHAT THE LISTED PACKAGE-LEVEL VARIABLES READ AS WHEN THE CALL BEGINS. Each datum BY PROGRAM (the guide's laid-datum.mjs) off the statement by which the dump's own 'gosem.cut.vars' lays the variable. In a bare row this is a premise. The card (YtiabkafgmanhiaaDoorCards.lean) ties it to the program's text. -/
def laid_math_bits_deBruijn64tab {H : Type} : DataW H := .agg [.lit (.int .u8 0), .lit (.int .u8 1), .lit (.int .u8 56), .lit (.int .u8 2), .lit (.int .u8 57), .lit (.int .u8 49), .lit (.int .u8 28), .lit (.int .u8 3), .lit (.int .u8 61), .lit (.int .u8 58), .lit (.int .u8 42), .lit (.int .u8 50), .lit (.int .u8 38), .lit (.int .u8 29), .lit (.int .u8 17), .lit (.int .u8 4), .lit (.int .u8 62), .lit (.int .u8 47), .lit (.int .u8 59), .lit (.int .u8 36), .lit (.int .u8 45), .lit (.int .u8 43), .lit (.int .u8 51), .lit (.int .u8 22), .lit (.int .u8 53), .lit (.int .u8 39), .lit (.int .u8 33), .lit (.int .u8 30), .lit (.int .u8 24), .lit (.int .u8 18), .lit (.int .u8 12), .lit (.int .u8 5), .lit (.int .u8 63), .lit (.int .u8 55), .lit (.int .u8 48), .lit (.int .u8 27), .lit (.int .u8 60), .lit (.int .u8 41), .lit (.int .u8 37), .lit (.int .u8 16), .lit (.int .u8 46), .lit (.int .u8 35), .lit (.int .u8 44), .lit (.int .u8 21), .lit (.int .u8 52), .lit (.int .u8 32), .lit (.int .u8 23), .lit (.int .u8 11), .lit (.int .u8 54), .lit (.int .u8 26), .lit (.int .u8 40), .lit (.int .u8 15), .lit (.int .u8 34), .lit (.int .u8 20), .lit (.int .u8 31), .lit (.int .u8 10), .lit (.int .u8 25), .lit (.int .u8 14), .lit (.int .u8 19), .lit (.int .u8 9), .lit (.int .u8 13), .lit (.int .u8 8), .lit (.int .u8 7), .lit (.int .u8 6)]

/-- 'jalousiekeep.MachineSplits': WHATEVER THE INPUT: true; the input reads as it did. -/
def machineSplitsSpec : ChangeSpec := { name := "machineSplits", fn := fun _ => fun
  | [d1, d2, d3, d4] => { results := [.lit (.bool true)], args := [d1, d2, d3, d4] }
  | _ => none }
def machineSplitsRow : OpenClaim := { program := "ytiabkafgmanhiaadoor", sum := "1ccf50ad33d35b7eddc669e76e2ea6a7dfdd9b315a163077ebbcca9425eaf5b0", func := "jalousie/jalousiekeep.MachineSplits", spec := "machineSplits", unfollowed := true, recurses := true, named := ["math/bits.deBruijn64tab"], plainKeys := false, apart := false, laid := [("math/bits.deBruijn64tab", laid_math_bits_deBruijn64tab)] }
def MachineSplitsSaid : Prop := machineSplitsRow.holds Tryd.pinned (OpenSpec.ofChange machineSplitsSpec)

/-- ITS FALSE NEIGHBOUR: 'it returns false'. Refute it at one input. -/
def machineSplitsWrong : ChangeSpec := { name := "machineSplits", fn := fun _ => fun
  | [d1, d2, d3, d4] => { results := [.lit (.bool false)], args := [d1, d2, d3, d4] }
  | _ => none }
def MachineSplitsWrongFalsely : Prop := machineSplitsRow.holds Tryd.pinned (OpenSpec.ofChange machineSplitsWrong)

/-- 'jalousielaw.MachineTells': WHATEVER THE INPUT: true; the input reads as it did. -/
def machineTellsSpec : ChangeSpec := { name := "machineTells", fn := fun _ => fun
  | [d1, d2, d3] => { results := [.lit (.bool true)], args := [d1, d2, d3] }
  | _ => none }
def machineTellsRow : OpenClaim := { program := "ytiabkafgmanhiaadoor", sum := "1ccf50ad33d35b7eddc669e76e2ea6a7dfdd9b315a163077ebbcca9425eaf5b0", func := "jalousie/jalousielaw.MachineTells", spec := "machineTells", unfollowed := true, recurses := true, named := ["math/bits.deBruijn64tab"], plainKeys := false, apart := false, laid := [("math/bits.deBruijn64tab", laid_math_bits_deBruijn64tab)] }
def MachineTellsSaid : Prop := machineTellsRow.holds Tryd.pinned (OpenSpec.ofChange machineTellsSpec)

/-- ITS FALSE NEIGHBOUR: 'it returns false'. Refute it at one input. -/
def machineTellsWrong : ChangeSpec := { name := "machineTells", fn := fun _ => fun
  | [d1, d2, d3] => { results := [.lit (.bool false)], args := [d1, d2, d3] }
  | _ => none }
def MachineTellsWrongFalsely : Prop := machineTellsRow.holds Tryd.pinned (OpenSpec.ofChange machineTellsWrong)

/-- 'jalousielaw.DetermineMakes': WHATEVER THE INPUT: true; the input reads as it did. -/
def determineMakesSpec : ChangeSpec := { name := "determineMakes", fn := fun _ => fun
  | [d] => { results := [.lit (.bool true)], args := [d] }
  | _ => none }
def determineMakesRow : OpenClaim := { program := "ytiabkafgmanhiaadoor", sum := "1ccf50ad33d35b7eddc669e76e2ea6a7dfdd9b315a163077ebbcca9425eaf5b0", func := "jalousie/jalousielaw.DetermineMakes", spec := "determineMakes", unfollowed := true, recurses := true, named := ["math/bits.deBruijn64tab"], plainKeys := false, apart := false, laid := [("math/bits.deBruijn64tab", laid_math_bits_deBruijn64tab)] }
def DetermineMakesSaid : Prop := determineMakesRow.holds Tryd.pinned (OpenSpec.ofChange determineMakesSpec)

/-- ITS FALSE NEIGHBOUR: 'it returns false'. Refute it at one input. -/
def determineMakesWrong : ChangeSpec := { name := "determineMakes", fn := fun _ => fun
  | [d] => { results := [.lit (.bool false)], args := [d] }
  | _ => none }
def DetermineMakesWrongFalsely : Prop := determineMakesRow.holds Tryd.pinned (OpenSpec.ofChange determineMakesWrong)

/-- 'jalousielaw.HideMakes': WHATEVER THE INPUT: true; the input reads as it did. -/
def hideMakesSpec : ChangeSpec := { name := "hideMakes", fn := fun _ => fun
  | [d1, d2, d3] => { results := [.lit (.bool true)], args := [d1, d2, d3] }
  | _ => none }
def hideMakesRow : OpenClaim := { program := "ytiabkafgmanhiaadoor", sum := "1ccf50ad33d35b7eddc669e76e2ea6a7dfdd9b315a163077ebbcca9425eaf5b0", func := "jalousie/jalousielaw.HideMakes", spec := "hideMakes", unfollowed := true, recurses := true, named := ["math/bits.deBruijn64tab"], plainKeys := false, apart := false, laid := [("math/bits.deBruijn64tab", laid_math_bits_deBruijn64tab)] }
def HideMakesSaid : Prop := hideMakesRow.holds Tryd.pinned (OpenSpec.ofChange hideMakesSpec)

/-- ITS FALSE NEIGHBOUR: 'it returns false'. Refute it at one input. -/
def hideMakesWrong : ChangeSpec := { name := "hideMakes", fn := fun _ => fun
  | [d1, d2, d3] => { results := [.lit (.bool false)], args := [d1, d2, d3] }
  | _ => none }
def HideMakesWrongFalsely : Prop := hideMakesRow.holds Tryd.pinned (OpenSpec.ofChange hideMakesWrong)

/-- 'jalousielaw.ReachTells': WHATEVER THE INPUT: true; the input reads as it did. -/
def reachTellsSpec : ChangeSpec := { name := "reachTells", fn := fun _ => fun
  | [d] => { results := [.lit (.bool true)], args := [d] }
  | _ => none }
def reachTellsRow : OpenClaim := { program := "ytiabkafgmanhiaadoor", sum := "1ccf50ad33d35b7eddc669e76e2ea6a7dfdd9b315a163077ebbcca9425eaf5b0", func := "jalousie/jalousielaw.ReachTells", spec := "reachTells", unfollowed := true, recurses := true, named := ["math/bits.deBruijn64tab"], plainKeys := false, apart := false, laid := [("math/bits.deBruijn64tab", laid_math_bits_deBruijn64tab)] }
def ReachTellsSaid : Prop := reachTellsRow.holds Tryd.pinned (OpenSpec.ofChange reachTellsSpec)

/-- ITS FALSE NEIGHBOUR: 'it returns false'. Refute it at one input. -/
def reachTellsWrong : ChangeSpec := { name := "reachTells", fn := fun _ => fun
  | [d] => { results := [.lit (.bool false)], args := [d] }
  | _ => none }
def ReachTellsWrongFalsely : Prop := reachTellsRow.holds Tryd.pinned (OpenSpec.ofChange reachTellsWrong)

/-- 'jalousiekeep.WithinSays': WHATEVER THE INPUT: true; the input reads as it did. -/
def withinSaysSpec : ChangeSpec := { name := "withinSays", fn := fun _ => fun
  | [d1, d2, d3] => { results := [.lit (.bool true)], args := [d1, d2, d3] }
  | _ => none }
def withinSaysRow : OpenClaim := { program := "ytiabkafgmanhiaadoor", sum := "1ccf50ad33d35b7eddc669e76e2ea6a7dfdd9b315a163077ebbcca9425eaf5b0", func := "jalousie/jalousiekeep.WithinSays", spec := "withinSays", unfollowed := true, recurses := true, named := ["math/bits.deBruijn64tab"], plainKeys := false, apart := false, laid := [("math/bits.deBruijn64tab", laid_math_bits_deBruijn64tab)] }
def WithinSaysSaid : Prop := withinSaysRow.holds Tryd.pinned (OpenSpec.ofChange withinSaysSpec)

/-- ITS FALSE NEIGHBOUR: 'it returns false'. Refute it at one input. -/
def withinSaysWrong : ChangeSpec := { name := "withinSays", fn := fun _ => fun
  | [d1, d2, d3] => { results := [.lit (.bool false)], args := [d1, d2, d3] }
  | _ => none }
def WithinSaysWrongFalsely : Prop := withinSaysRow.holds Tryd.pinned (OpenSpec.ofChange withinSaysWrong)

/-- 'jalousiekeep.DetermineSame': WHATEVER THE INPUT: true; the input reads as it did. -/
def determineSameSpec : ChangeSpec := { name := "determineSame", fn := fun _ => fun
  | [d1, d2] => { results := [.lit (.bool true)], args := [d1, d2] }
  | _ => none }
def determineSameRow : OpenClaim := { program := "ytiabkafgmanhiaadoor", sum := "1ccf50ad33d35b7eddc669e76e2ea6a7dfdd9b315a163077ebbcca9425eaf5b0", func := "jalousie/jalousiekeep.DetermineSame", spec := "determineSame", unfollowed := true, recurses := true, named := ["math/bits.deBruijn64tab"], plainKeys := false, apart := false, laid := [("math/bits.deBruijn64tab", laid_math_bits_deBruijn64tab)] }
def DetermineSameSaid : Prop := determineSameRow.holds Tryd.pinned (OpenSpec.ofChange determineSameSpec)

/-- ITS FALSE NEIGHBOUR: 'it returns false'. Refute it at one input. -/
def determineSameWrong : ChangeSpec := { name := "determineSame", fn := fun _ => fun
  | [d1, d2] => { results := [.lit (.bool false)], args := [d1, d2] }
  | _ => none }
def DetermineSameWrongFalsely : Prop := determineSameRow.holds Tryd.pinned (OpenSpec.ofChange determineSameWrong)

/-- 'jalousielaw.CurrentTells': WHATEVER THE INPUT: true; the input reads as it did. -/
def currentTellsSpec : ChangeSpec := { name := "currentTells", fn := fun _ => fun
  | [d1, d2] => { results := [.lit (.bool true)], args := [d1, d2] }
  | _ => none }
def currentTellsRow : OpenClaim := { program := "ytiabkafgmanhiaadoor", sum := "1ccf50ad33d35b7eddc669e76e2ea6a7dfdd9b315a163077ebbcca9425eaf5b0", func := "jalousie/jalousielaw.CurrentTells", spec := "currentTells", unfollowed := true, recurses := true, named := ["math/bits.deBruijn64tab"], plainKeys := false, apart := false, laid := [("math/bits.deBruijn64tab", laid_math_bits_deBruijn64tab)] }
def CurrentTellsSaid : Prop := currentTellsRow.holds Tryd.pinned (OpenSpec.ofChange currentTellsSpec)

/-- ITS FALSE NEIGHBOUR: 'it returns false'. Refute it at one input. -/
def currentTellsWrong : ChangeSpec := { name := "currentTells", fn := fun _ => fun
  | [d1, d2] => { results := [.lit (.bool false)], args := [d1, d2] }
  | _ => none }
def CurrentTellsWrongFalsely : Prop := currentTellsRow.holds Tryd.pinned (OpenSpec.ofChange currentTellsWrong)

/-- 'jalousiekeep.CurrentKeeps': WHATEVER THE INPUT: true; the input reads as it did. -/
def currentKeepsSpec : ChangeSpec := { name := "currentKeeps", fn := fun _ => fun
  | [d1, d2] => { results := [.lit (.bool true)], args := [d1, d2] }
  | _ => none }
def currentKeepsRow : OpenClaim := { program := "ytiabkafgmanhiaadoor", sum := "1ccf50ad33d35b7eddc669e76e2ea6a7dfdd9b315a163077ebbcca9425eaf5b0", func := "jalousie/jalousiekeep.CurrentKeeps", spec := "currentKeeps", unfollowed := true, recurses := true, named := ["math/bits.deBruijn64tab"], plainKeys := false, apart := false, laid := [("math/bits.deBruijn64tab", laid_math_bits_deBruijn64tab)] }
def CurrentKeepsSaid : Prop := currentKeepsRow.holds Tryd.pinned (OpenSpec.ofChange currentKeepsSpec)

/-- ITS FALSE NEIGHBOUR: 'it returns false'. Refute it at one input. -/
def currentKeepsWrong : ChangeSpec := { name := "currentKeeps", fn := fun _ => fun
  | [d1, d2] => { results := [.lit (.bool false)], args := [d1, d2] }
  | _ => none }
def CurrentKeepsWrongFalsely : Prop := currentKeepsRow.holds Tryd.pinned (OpenSpec.ofChange currentKeepsWrong)

/-- 'jalousiekeep.HideSees': WHATEVER THE INPUT: true; the input reads as it did. -/
def hideSeesSpec : ChangeSpec := { name := "hideSees", fn := fun _ => fun
  | [d1, d2, d3] => { results := [.lit (.bool true)], args := [d1, d2, d3] }
  | _ => none }
def hideSeesRow : OpenClaim := { program := "ytiabkafgmanhiaadoor", sum := "1ccf50ad33d35b7eddc669e76e2ea6a7dfdd9b315a163077ebbcca9425eaf5b0", func := "jalousie/jalousiekeep.HideSees", spec := "hideSees", unfollowed := true, recurses := true, named := ["math/bits.deBruijn64tab"], plainKeys := false, apart := false, laid := [("math/bits.deBruijn64tab", laid_math_bits_deBruijn64tab)] }
def HideSeesSaid : Prop := hideSeesRow.holds Tryd.pinned (OpenSpec.ofChange hideSeesSpec)

/-- ITS FALSE NEIGHBOUR: 'it returns false'. Refute it at one input. -/
def hideSeesWrong : ChangeSpec := { name := "hideSees", fn := fun _ => fun
  | [d1, d2, d3] => { results := [.lit (.bool false)], args := [d1, d2, d3] }
  | _ => none }
def HideSeesWrongFalsely : Prop := hideSeesRow.holds Tryd.pinned (OpenSpec.ofChange hideSeesWrong)

/-- 'jalousiekeep.ReachTrims': WHATEVER THE INPUT: true; the input reads as it did. -/
def reachTrimsSpec : ChangeSpec := { name := "reachTrims", fn := fun _ => fun
  | [d1, d2] => { results := [.lit (.bool true)], args := [d1, d2] }
  | _ => none }
def reachTrimsRow : OpenClaim := { program := "ytiabkafgmanhiaadoor", sum := "1ccf50ad33d35b7eddc669e76e2ea6a7dfdd9b315a163077ebbcca9425eaf5b0", func := "jalousie/jalousiekeep.ReachTrims", spec := "reachTrims", unfollowed := true, recurses := true, named := ["math/bits.deBruijn64tab"], plainKeys := false, apart := false, laid := [("math/bits.deBruijn64tab", laid_math_bits_deBruijn64tab)] }
def ReachTrimsSaid : Prop := reachTrimsRow.holds Tryd.pinned (OpenSpec.ofChange reachTrimsSpec)

/-- ITS FALSE NEIGHBOUR: 'it returns false'. Refute it at one input. -/
def reachTrimsWrong : ChangeSpec := { name := "reachTrims", fn := fun _ => fun
  | [d1, d2] => { results := [.lit (.bool false)], args := [d1, d2] }
  | _ => none }
def ReachTrimsWrongFalsely : Prop := reachTrimsRow.holds Tryd.pinned (OpenSpec.ofChange reachTrimsWrong)

/-- 'jalousielaw.LeastMakes': WHATEVER THE INPUT: true; the input reads as it did. -/
def leastMakesSpec : ChangeSpec := { name := "leastMakes", fn := fun _ => fun
  | [d] => { results := [.lit (.bool true)], args := [d] }
  | _ => none }
def leastMakesRow : OpenClaim := { program := "ytiabkafgmanhiaadoor", sum := "1ccf50ad33d35b7eddc669e76e2ea6a7dfdd9b315a163077ebbcca9425eaf5b0", func := "jalousie/jalousielaw.LeastMakes", spec := "leastMakes", unfollowed := true, recurses := true, named := ["math/bits.deBruijn64tab"], plainKeys := false, apart := false, laid := [("math/bits.deBruijn64tab", laid_math_bits_deBruijn64tab)] }
def LeastMakesSaid : Prop := leastMakesRow.holds Tryd.pinned (OpenSpec.ofChange leastMakesSpec)

/-- ITS FALSE NEIGHBOUR: 'it returns false'. Refute it at one input. -/
def leastMakesWrong : ChangeSpec := { name := "leastMakes", fn := fun _ => fun
  | [d] => { results := [.lit (.bool false)], args := [d] }
  | _ => none }
def LeastMakesWrongFalsely : Prop := leastMakesRow.holds Tryd.pinned (OpenSpec.ofChange leastMakesWrong)

/- THE SECOND FORM. 'bulk': how many values and letters a reading holds, each counted each time it is reached (what is shared counts as often as it is met; a slice's spare places count too). A statement '..UptoSaid' is the law's where the arguments, and the package variables that the reading takes, are together of bulk at most 1048576: NARROWER than '..Said'. Prove '..Said' where nothing that the law and all that it calls make is longer than what came in: it says more and counts as full. Else prove '..UptoSaid'. A law counts once. -/
mutual
def uptoBulk {H : Type} : DataW H → Nat
  | .lit (.string bytes) => bytes.length + 1
  | .lit _ => 1
  | .nil => 1
  | .ptr d => uptoBulk d + 1
  | .slice elems spare => uptoBulkAll elems + uptoBulkAll spare + 1
  | .agg parts => uptoBulkAll parts + 1
  | .iface _ d => uptoBulk d + 1
  | .map entries => uptoBulkEntries entries + 1
  | .held _ => 1
def uptoBulkAll {H : Type} : List (DataW H) → Nat
  | [] => 0
  | d :: r => uptoBulk d + uptoBulkAll r
def uptoBulkEntries {H : Type} : List (Lit × DataW H) → Nat
  | [] => 0
  | x :: r => uptoBulkEntry x + uptoBulkEntries r
def uptoBulkEntry {H : Type} : Lit × DataW H → Nat
  | (.string bytes, d) => bytes.length + uptoBulk d + 1
  | (_, d) => uptoBulk d + 1
 end
def uptoSmall : (H : Type) → List (DataW H) → Bool := fun _ ds => decide (uptoBulkAll ds ≤ 1048576)
def OpenSpec.upto (s : _root_.Go.ChangeSpec) : _root_.Go.OpenSpec := { _root_.Go.OpenSpec.ofChange s with cond := some uptoSmall }

/-- 'jalousiekeep.MachineSplits', WHERE WHAT IT READS IS OF BULK AT MOST 1048576: true; the input reads as it did. -/
def machineSplitsUptoRow : OpenClaim := { program := "ytiabkafgmanhiaadoor", sum := "1ccf50ad33d35b7eddc669e76e2ea6a7dfdd9b315a163077ebbcca9425eaf5b0", func := "jalousie/jalousiekeep.MachineSplits", spec := "machineSplits", unfollowed := true, recurses := true, named := ["math/bits.deBruijn64tab"], plainKeys := false, apart := false, laid := [("math/bits.deBruijn64tab", laid_math_bits_deBruijn64tab)], narrowed := true }
def MachineSplitsUptoSaid : Prop := machineSplitsUptoRow.holds Tryd.pinned (OpenSpec.upto machineSplitsSpec)

/-- 'jalousielaw.MachineTells', WHERE WHAT IT READS IS OF BULK AT MOST 1048576: true; the input reads as it did. -/
def machineTellsUptoRow : OpenClaim := { program := "ytiabkafgmanhiaadoor", sum := "1ccf50ad33d35b7eddc669e76e2ea6a7dfdd9b315a163077ebbcca9425eaf5b0", func := "jalousie/jalousielaw.MachineTells", spec := "machineTells", unfollowed := true, recurses := true, named := ["math/bits.deBruijn64tab"], plainKeys := false, apart := false, laid := [("math/bits.deBruijn64tab", laid_math_bits_deBruijn64tab)], narrowed := true }
def MachineTellsUptoSaid : Prop := machineTellsUptoRow.holds Tryd.pinned (OpenSpec.upto machineTellsSpec)

/-- 'jalousielaw.DetermineMakes', WHERE WHAT IT READS IS OF BULK AT MOST 1048576: true; the input reads as it did. -/
def determineMakesUptoRow : OpenClaim := { program := "ytiabkafgmanhiaadoor", sum := "1ccf50ad33d35b7eddc669e76e2ea6a7dfdd9b315a163077ebbcca9425eaf5b0", func := "jalousie/jalousielaw.DetermineMakes", spec := "determineMakes", unfollowed := true, recurses := true, named := ["math/bits.deBruijn64tab"], plainKeys := false, apart := false, laid := [("math/bits.deBruijn64tab", laid_math_bits_deBruijn64tab)], narrowed := true }
def DetermineMakesUptoSaid : Prop := determineMakesUptoRow.holds Tryd.pinned (OpenSpec.upto determineMakesSpec)

/-- 'jalousielaw.HideMakes', WHERE WHAT IT READS IS OF BULK AT MOST 1048576: true; the input reads as it did. -/
def hideMakesUptoRow : OpenClaim := { program := "ytiabkafgmanhiaadoor", sum := "1ccf50ad33d35b7eddc669e76e2ea6a7dfdd9b315a163077ebbcca9425eaf5b0", func := "jalousie/jalousielaw.HideMakes", spec := "hideMakes", unfollowed := true, recurses := true, named := ["math/bits.deBruijn64tab"], plainKeys := false, apart := false, laid := [("math/bits.deBruijn64tab", laid_math_bits_deBruijn64tab)], narrowed := true }
def HideMakesUptoSaid : Prop := hideMakesUptoRow.holds Tryd.pinned (OpenSpec.upto hideMakesSpec)

/-- 'jalousielaw.ReachTells', WHERE WHAT IT READS IS OF BULK AT MOST 1048576: true; the input reads as it did. -/
def reachTellsUptoRow : OpenClaim := { program := "ytiabkafgmanhiaadoor", sum := "1ccf50ad33d35b7eddc669e76e2ea6a7dfdd9b315a163077ebbcca9425eaf5b0", func := "jalousie/jalousielaw.ReachTells", spec := "reachTells", unfollowed := true, recurses := true, named := ["math/bits.deBruijn64tab"], plainKeys := false, apart := false, laid := [("math/bits.deBruijn64tab", laid_math_bits_deBruijn64tab)], narrowed := true }
def ReachTellsUptoSaid : Prop := reachTellsUptoRow.holds Tryd.pinned (OpenSpec.upto reachTellsSpec)

/-- 'jalousiekeep.WithinSays', WHERE WHAT IT READS IS OF BULK AT MOST 1048576: true; the input reads as it did. -/
def withinSaysUptoRow : OpenClaim := { program := "ytiabkafgmanhiaadoor", sum := "1ccf50ad33d35b7eddc669e76e2ea6a7dfdd9b315a163077ebbcca9425eaf5b0", func := "jalousie/jalousiekeep.WithinSays", spec := "withinSays", unfollowed := true, recurses := true, named := ["math/bits.deBruijn64tab"], plainKeys := false, apart := false, laid := [("math/bits.deBruijn64tab", laid_math_bits_deBruijn64tab)], narrowed := true }
def WithinSaysUptoSaid : Prop := withinSaysUptoRow.holds Tryd.pinned (OpenSpec.upto withinSaysSpec)

/-- 'jalousiekeep.DetermineSame', WHERE WHAT IT READS IS OF BULK AT MOST 1048576: true; the input reads as it did. -/
def determineSameUptoRow : OpenClaim := { program := "ytiabkafgmanhiaadoor", sum := "1ccf50ad33d35b7eddc669e76e2ea6a7dfdd9b315a163077ebbcca9425eaf5b0", func := "jalousie/jalousiekeep.DetermineSame", spec := "determineSame", unfollowed := true, recurses := true, named := ["math/bits.deBruijn64tab"], plainKeys := false, apart := false, laid := [("math/bits.deBruijn64tab", laid_math_bits_deBruijn64tab)], narrowed := true }
def DetermineSameUptoSaid : Prop := determineSameUptoRow.holds Tryd.pinned (OpenSpec.upto determineSameSpec)

/-- 'jalousielaw.CurrentTells', WHERE WHAT IT READS IS OF BULK AT MOST 1048576: true; the input reads as it did. -/
def currentTellsUptoRow : OpenClaim := { program := "ytiabkafgmanhiaadoor", sum := "1ccf50ad33d35b7eddc669e76e2ea6a7dfdd9b315a163077ebbcca9425eaf5b0", func := "jalousie/jalousielaw.CurrentTells", spec := "currentTells", unfollowed := true, recurses := true, named := ["math/bits.deBruijn64tab"], plainKeys := false, apart := false, laid := [("math/bits.deBruijn64tab", laid_math_bits_deBruijn64tab)], narrowed := true }
def CurrentTellsUptoSaid : Prop := currentTellsUptoRow.holds Tryd.pinned (OpenSpec.upto currentTellsSpec)

/-- 'jalousiekeep.CurrentKeeps', WHERE WHAT IT READS IS OF BULK AT MOST 1048576: true; the input reads as it did. -/
def currentKeepsUptoRow : OpenClaim := { program := "ytiabkafgmanhiaadoor", sum := "1ccf50ad33d35b7eddc669e76e2ea6a7dfdd9b315a163077ebbcca9425eaf5b0", func := "jalousie/jalousiekeep.CurrentKeeps", spec := "currentKeeps", unfollowed := true, recurses := true, named := ["math/bits.deBruijn64tab"], plainKeys := false, apart := false, laid := [("math/bits.deBruijn64tab", laid_math_bits_deBruijn64tab)], narrowed := true }
def CurrentKeepsUptoSaid : Prop := currentKeepsUptoRow.holds Tryd.pinned (OpenSpec.upto currentKeepsSpec)

/-- 'jalousiekeep.HideSees', WHERE WHAT IT READS IS OF BULK AT MOST 1048576: true; the input reads as it did. -/
def hideSeesUptoRow : OpenClaim := { program := "ytiabkafgmanhiaadoor", sum := "1ccf50ad33d35b7eddc669e76e2ea6a7dfdd9b315a163077ebbcca9425eaf5b0", func := "jalousie/jalousiekeep.HideSees", spec := "hideSees", unfollowed := true, recurses := true, named := ["math/bits.deBruijn64tab"], plainKeys := false, apart := false, laid := [("math/bits.deBruijn64tab", laid_math_bits_deBruijn64tab)], narrowed := true }
def HideSeesUptoSaid : Prop := hideSeesUptoRow.holds Tryd.pinned (OpenSpec.upto hideSeesSpec)

/-- 'jalousiekeep.ReachTrims', WHERE WHAT IT READS IS OF BULK AT MOST 1048576: true; the input reads as it did. -/
def reachTrimsUptoRow : OpenClaim := { program := "ytiabkafgmanhiaadoor", sum := "1ccf50ad33d35b7eddc669e76e2ea6a7dfdd9b315a163077ebbcca9425eaf5b0", func := "jalousie/jalousiekeep.ReachTrims", spec := "reachTrims", unfollowed := true, recurses := true, named := ["math/bits.deBruijn64tab"], plainKeys := false, apart := false, laid := [("math/bits.deBruijn64tab", laid_math_bits_deBruijn64tab)], narrowed := true }
def ReachTrimsUptoSaid : Prop := reachTrimsUptoRow.holds Tryd.pinned (OpenSpec.upto reachTrimsSpec)

/-- 'jalousielaw.LeastMakes', WHERE WHAT IT READS IS OF BULK AT MOST 1048576: true; the input reads as it did. -/
def leastMakesUptoRow : OpenClaim := { program := "ytiabkafgmanhiaadoor", sum := "1ccf50ad33d35b7eddc669e76e2ea6a7dfdd9b315a163077ebbcca9425eaf5b0", func := "jalousie/jalousielaw.LeastMakes", spec := "leastMakes", unfollowed := true, recurses := true, named := ["math/bits.deBruijn64tab"], plainKeys := false, apart := false, laid := [("math/bits.deBruijn64tab", laid_math_bits_deBruijn64tab)], narrowed := true }
def LeastMakesUptoSaid : Prop := leastMakesUptoRow.holds Tryd.pinned (OpenSpec.upto leastMakesSpec)

end Rows
end Go.Proofs.YtiabkafgmanhiaaDoor
