/-
  NARROWER THAN 'FOR EVERY INPUT', by the rows' own cells (each row's printed sentence says how): HideMakes: laid · TopLanguage: laid · HideSees: laid · LeastMakes: laid · LeastTells: laid · LeastFewest: laid · VeilMakes: laid · VeilKeeps: laid · VeilMost: laid · BesideMakes: laid · BesideBoth: laid · TopBoth: laid.
  DERIVED. THE GIVEN ROWS OF THIS SEAT. 12 by the template 'for every input the law returns true; each argument reads behind the call as it read before'; 0 by the template 'total and deterministic' (their statements: YtcjedgiglimipaaDoorTotals.lean).
  GIVEN WITH THE SEED: the statements are not yours to turn. If you find one false, say at which input.
  Laid BY PROGRAM, IN A SANDBOX (cutbox-rows.mjs): the forced cells as the released guide's own fill.sh prints them over the translation 40f57b74d95267e4… (all of the seat's roots in one cut). By AI agents, Wed Nov 11 2026. No macro, syntax, notation, axiom, sorry.
-/
import Derived.Test.YtcjedgiglimipaaDoorChecked
import GoSem.Claim
import GoSem.ClaimJoined
import GoSem.ClaimMapViews
import Derived.JoinedTies
import Derived.KernelRfl
namespace Go.Proofs.YtcjedgiglimipaaDoor
/- THE CELL 'sum', in the pinned program and in every row, IS THE sha256 OF THE DUMP (.gsa) THAT YtcjedgiglimipaaDoorProg.lean LOADS. Nothing in Lean hashes anything: it is a label: what it is worth is what the hold of that sum in a sandbox is worth. -/
noncomputable def Tryd.pinned : Pinned := { name := "ytcjedgiglimipaadoor", sum := "40f57b74d95267e4af5476f72ebe22602fbf532df3ac1520468ea0e41d087892", checked := Tryd.checked }
namespace Rows
def none {H : Type} : Left H := { results := [], args := [] }

/- WHAT THE LISTED PACKAGE-LEVEL VARIABLES READ AS WHEN THE CALL BEGINS. Each datum BY PROGRAM (the guide's laid-datum.mjs) off the statement by which the dump's own 'gosem.cut.vars' lays the variable. In a bare row this is a premise. The card (YtcjedgiglimipaaDoorCards.lean) ties it to the program's text. -/
def laid_math_bits_deBruijn64tab {H : Type} : DataW H := .agg [.lit (.int .u8 0), .lit (.int .u8 1), .lit (.int .u8 56), .lit (.int .u8 2), .lit (.int .u8 57), .lit (.int .u8 49), .lit (.int .u8 28), .lit (.int .u8 3), .lit (.int .u8 61), .lit (.int .u8 58), .lit (.int .u8 42), .lit (.int .u8 50), .lit (.int .u8 38), .lit (.int .u8 29), .lit (.int .u8 17), .lit (.int .u8 4), .lit (.int .u8 62), .lit (.int .u8 47), .lit (.int .u8 59), .lit (.int .u8 36), .lit (.int .u8 45), .lit (.int .u8 43), .lit (.int .u8 51), .lit (.int .u8 22), .lit (.int .u8 53), .lit (.int .u8 39), .lit (.int .u8 33), .lit (.int .u8 30), .lit (.int .u8 24), .lit (.int .u8 18), .lit (.int .u8 12), .lit (.int .u8 5), .lit (.int .u8 63), .lit (.int .u8 55), .lit (.int .u8 48), .lit (.int .u8 27), .lit (.int .u8 60), .lit (.int .u8 41), .lit (.int .u8 37), .lit (.int .u8 16), .lit (.int .u8 46), .lit (.int .u8 35), .lit (.int .u8 44), .lit (.int .u8 21), .lit (.int .u8 52), .lit (.int .u8 32), .lit (.int .u8 23), .lit (.int .u8 11), .lit (.int .u8 54), .lit (.int .u8 26), .lit (.int .u8 40), .lit (.int .u8 15), .lit (.int .u8 34), .lit (.int .u8 20), .lit (.int .u8 31), .lit (.int .u8 10), .lit (.int .u8 25), .lit (.int .u8 14), .lit (.int .u8 19), .lit (.int .u8 9), .lit (.int .u8 13), .lit (.int .u8 8), .lit (.int .u8 7), .lit (.int .u8 6)]

/-- 'jalousielaw.HideMakes': WHATEVER THE INPUT: true; the input reads as it did. -/
def hideMakesSpec : ChangeSpec := { name := "hideMakes", fn := fun _ => fun
  | [d1, d2, d3] => { results := [.lit (.bool true)], args := [d1, d2, d3] }
  | _ => none }
def hideMakesRow : OpenClaim := { program := "ytcjedgiglimipaadoor", sum := "40f57b74d95267e4af5476f72ebe22602fbf532df3ac1520468ea0e41d087892", func := "jalousie/jalousielaw.HideMakes", spec := "hideMakes", unfollowed := true, recurses := true, named := ["math/bits.deBruijn64tab"], plainKeys := false, apart := false, laid := [("math/bits.deBruijn64tab", laid_math_bits_deBruijn64tab)] }
def HideMakesSaid : Prop := hideMakesRow.holds Tryd.pinned (OpenSpec.ofChange hideMakesSpec)

/-- ITS FALSE NEIGHBOUR: 'it returns false'. Refute it at one input. -/
def hideMakesWrong : ChangeSpec := { name := "hideMakes", fn := fun _ => fun
  | [d1, d2, d3] => { results := [.lit (.bool false)], args := [d1, d2, d3] }
  | _ => none }
def HideMakesWrongFalsely : Prop := hideMakesRow.holds Tryd.pinned (OpenSpec.ofChange hideMakesWrong)

/-- 'jalousietop.TopLanguage': WHATEVER THE INPUT: true; the input reads as it did. -/
def topLanguageSpec : ChangeSpec := { name := "topLanguage", fn := fun _ => fun
  | [d1, d2] => { results := [.lit (.bool true)], args := [d1, d2] }
  | _ => none }
def topLanguageRow : OpenClaim := { program := "ytcjedgiglimipaadoor", sum := "40f57b74d95267e4af5476f72ebe22602fbf532df3ac1520468ea0e41d087892", func := "jalousie/jalousietop.TopLanguage", spec := "topLanguage", unfollowed := true, recurses := true, named := ["math/bits.deBruijn64tab"], plainKeys := false, apart := false, laid := [("math/bits.deBruijn64tab", laid_math_bits_deBruijn64tab)] }
def TopLanguageSaid : Prop := topLanguageRow.holds Tryd.pinned (OpenSpec.ofChange topLanguageSpec)

/-- ITS FALSE NEIGHBOUR: 'it returns false'. Refute it at one input. -/
def topLanguageWrong : ChangeSpec := { name := "topLanguage", fn := fun _ => fun
  | [d1, d2] => { results := [.lit (.bool false)], args := [d1, d2] }
  | _ => none }
def TopLanguageWrongFalsely : Prop := topLanguageRow.holds Tryd.pinned (OpenSpec.ofChange topLanguageWrong)

/-- 'jalousiekeep.HideSees': WHATEVER THE INPUT: true; the input reads as it did. -/
def hideSeesSpec : ChangeSpec := { name := "hideSees", fn := fun _ => fun
  | [d1, d2, d3] => { results := [.lit (.bool true)], args := [d1, d2, d3] }
  | _ => none }
def hideSeesRow : OpenClaim := { program := "ytcjedgiglimipaadoor", sum := "40f57b74d95267e4af5476f72ebe22602fbf532df3ac1520468ea0e41d087892", func := "jalousie/jalousiekeep.HideSees", spec := "hideSees", unfollowed := true, recurses := true, named := ["math/bits.deBruijn64tab"], plainKeys := false, apart := false, laid := [("math/bits.deBruijn64tab", laid_math_bits_deBruijn64tab)] }
def HideSeesSaid : Prop := hideSeesRow.holds Tryd.pinned (OpenSpec.ofChange hideSeesSpec)

/-- ITS FALSE NEIGHBOUR: 'it returns false'. Refute it at one input. -/
def hideSeesWrong : ChangeSpec := { name := "hideSees", fn := fun _ => fun
  | [d1, d2, d3] => { results := [.lit (.bool false)], args := [d1, d2, d3] }
  | _ => none }
def HideSeesWrongFalsely : Prop := hideSeesRow.holds Tryd.pinned (OpenSpec.ofChange hideSeesWrong)

/-- 'jalousielaw.LeastMakes': WHATEVER THE INPUT: true; the input reads as it did. -/
def leastMakesSpec : ChangeSpec := { name := "leastMakes", fn := fun _ => fun
  | [d] => { results := [.lit (.bool true)], args := [d] }
  | _ => none }
def leastMakesRow : OpenClaim := { program := "ytcjedgiglimipaadoor", sum := "40f57b74d95267e4af5476f72ebe22602fbf532df3ac1520468ea0e41d087892", func := "jalousie/jalousielaw.LeastMakes", spec := "leastMakes", unfollowed := true, recurses := true, named := ["math/bits.deBruijn64tab"], plainKeys := false, apart := false, laid := [("math/bits.deBruijn64tab", laid_math_bits_deBruijn64tab)] }
def LeastMakesSaid : Prop := leastMakesRow.holds Tryd.pinned (OpenSpec.ofChange leastMakesSpec)

/-- ITS FALSE NEIGHBOUR: 'it returns false'. Refute it at one input. -/
def leastMakesWrong : ChangeSpec := { name := "leastMakes", fn := fun _ => fun
  | [d] => { results := [.lit (.bool false)], args := [d] }
  | _ => none }
def LeastMakesWrongFalsely : Prop := leastMakesRow.holds Tryd.pinned (OpenSpec.ofChange leastMakesWrong)

/-- 'jalousielaw.LeastTells': WHATEVER THE INPUT: true; the input reads as it did. -/
def leastTellsSpec : ChangeSpec := { name := "leastTells", fn := fun _ => fun
  | [d1, d2] => { results := [.lit (.bool true)], args := [d1, d2] }
  | _ => none }
def leastTellsRow : OpenClaim := { program := "ytcjedgiglimipaadoor", sum := "40f57b74d95267e4af5476f72ebe22602fbf532df3ac1520468ea0e41d087892", func := "jalousie/jalousielaw.LeastTells", spec := "leastTells", unfollowed := true, recurses := true, named := ["math/bits.deBruijn64tab"], plainKeys := false, apart := false, laid := [("math/bits.deBruijn64tab", laid_math_bits_deBruijn64tab)] }
def LeastTellsSaid : Prop := leastTellsRow.holds Tryd.pinned (OpenSpec.ofChange leastTellsSpec)

/-- ITS FALSE NEIGHBOUR: 'it returns false'. Refute it at one input. -/
def leastTellsWrong : ChangeSpec := { name := "leastTells", fn := fun _ => fun
  | [d1, d2] => { results := [.lit (.bool false)], args := [d1, d2] }
  | _ => none }
def LeastTellsWrongFalsely : Prop := leastTellsRow.holds Tryd.pinned (OpenSpec.ofChange leastTellsWrong)

/-- 'jalousielaw.LeastFewest': WHATEVER THE INPUT: true; the input reads as it did. -/
def leastFewestSpec : ChangeSpec := { name := "leastFewest", fn := fun _ => fun
  | [d1, d2] => { results := [.lit (.bool true)], args := [d1, d2] }
  | _ => none }
def leastFewestRow : OpenClaim := { program := "ytcjedgiglimipaadoor", sum := "40f57b74d95267e4af5476f72ebe22602fbf532df3ac1520468ea0e41d087892", func := "jalousie/jalousielaw.LeastFewest", spec := "leastFewest", unfollowed := true, recurses := true, named := ["math/bits.deBruijn64tab"], plainKeys := false, apart := false, laid := [("math/bits.deBruijn64tab", laid_math_bits_deBruijn64tab)] }
def LeastFewestSaid : Prop := leastFewestRow.holds Tryd.pinned (OpenSpec.ofChange leastFewestSpec)

/-- ITS FALSE NEIGHBOUR: 'it returns false'. Refute it at one input. -/
def leastFewestWrong : ChangeSpec := { name := "leastFewest", fn := fun _ => fun
  | [d1, d2] => { results := [.lit (.bool false)], args := [d1, d2] }
  | _ => none }
def LeastFewestWrongFalsely : Prop := leastFewestRow.holds Tryd.pinned (OpenSpec.ofChange leastFewestWrong)

/-- 'jalousielaw.VeilMakes': WHATEVER THE INPUT: true; the input reads as it did. -/
def veilMakesSpec : ChangeSpec := { name := "veilMakes", fn := fun _ => fun
  | [d1, d2] => { results := [.lit (.bool true)], args := [d1, d2] }
  | _ => none }
def veilMakesRow : OpenClaim := { program := "ytcjedgiglimipaadoor", sum := "40f57b74d95267e4af5476f72ebe22602fbf532df3ac1520468ea0e41d087892", func := "jalousie/jalousielaw.VeilMakes", spec := "veilMakes", unfollowed := true, recurses := true, named := ["math/bits.deBruijn64tab"], plainKeys := false, apart := false, laid := [("math/bits.deBruijn64tab", laid_math_bits_deBruijn64tab)] }
def VeilMakesSaid : Prop := veilMakesRow.holds Tryd.pinned (OpenSpec.ofChange veilMakesSpec)

/-- ITS FALSE NEIGHBOUR: 'it returns false'. Refute it at one input. -/
def veilMakesWrong : ChangeSpec := { name := "veilMakes", fn := fun _ => fun
  | [d1, d2] => { results := [.lit (.bool false)], args := [d1, d2] }
  | _ => none }
def VeilMakesWrongFalsely : Prop := veilMakesRow.holds Tryd.pinned (OpenSpec.ofChange veilMakesWrong)

/-- 'jalousielaw.VeilKeeps': WHATEVER THE INPUT: true; the input reads as it did. -/
def veilKeepsSpec : ChangeSpec := { name := "veilKeeps", fn := fun _ => fun
  | [d1, d2, d3] => { results := [.lit (.bool true)], args := [d1, d2, d3] }
  | _ => none }
def veilKeepsRow : OpenClaim := { program := "ytcjedgiglimipaadoor", sum := "40f57b74d95267e4af5476f72ebe22602fbf532df3ac1520468ea0e41d087892", func := "jalousie/jalousielaw.VeilKeeps", spec := "veilKeeps", unfollowed := true, recurses := true, named := ["math/bits.deBruijn64tab"], plainKeys := false, apart := false, laid := [("math/bits.deBruijn64tab", laid_math_bits_deBruijn64tab)] }
def VeilKeepsSaid : Prop := veilKeepsRow.holds Tryd.pinned (OpenSpec.ofChange veilKeepsSpec)

/-- ITS FALSE NEIGHBOUR: 'it returns false'. Refute it at one input. -/
def veilKeepsWrong : ChangeSpec := { name := "veilKeeps", fn := fun _ => fun
  | [d1, d2, d3] => { results := [.lit (.bool false)], args := [d1, d2, d3] }
  | _ => none }
def VeilKeepsWrongFalsely : Prop := veilKeepsRow.holds Tryd.pinned (OpenSpec.ofChange veilKeepsWrong)

/-- 'jalousielaw.VeilMost': WHATEVER THE INPUT: true; the input reads as it did. -/
def veilMostSpec : ChangeSpec := { name := "veilMost", fn := fun _ => fun
  | [d1, d2, d3] => { results := [.lit (.bool true)], args := [d1, d2, d3] }
  | _ => none }
def veilMostRow : OpenClaim := { program := "ytcjedgiglimipaadoor", sum := "40f57b74d95267e4af5476f72ebe22602fbf532df3ac1520468ea0e41d087892", func := "jalousie/jalousielaw.VeilMost", spec := "veilMost", unfollowed := true, recurses := true, named := ["math/bits.deBruijn64tab"], plainKeys := false, apart := false, laid := [("math/bits.deBruijn64tab", laid_math_bits_deBruijn64tab)] }
def VeilMostSaid : Prop := veilMostRow.holds Tryd.pinned (OpenSpec.ofChange veilMostSpec)

/-- ITS FALSE NEIGHBOUR: 'it returns false'. Refute it at one input. -/
def veilMostWrong : ChangeSpec := { name := "veilMost", fn := fun _ => fun
  | [d1, d2, d3] => { results := [.lit (.bool false)], args := [d1, d2, d3] }
  | _ => none }
def VeilMostWrongFalsely : Prop := veilMostRow.holds Tryd.pinned (OpenSpec.ofChange veilMostWrong)

/-- 'jalousielaw.BesideMakes': WHATEVER THE INPUT: true; the input reads as it did. -/
def besideMakesSpec : ChangeSpec := { name := "besideMakes", fn := fun _ => fun
  | [d1, d2, d3, d4] => { results := [.lit (.bool true)], args := [d1, d2, d3, d4] }
  | _ => none }
def besideMakesRow : OpenClaim := { program := "ytcjedgiglimipaadoor", sum := "40f57b74d95267e4af5476f72ebe22602fbf532df3ac1520468ea0e41d087892", func := "jalousie/jalousielaw.BesideMakes", spec := "besideMakes", unfollowed := true, recurses := true, named := ["math/bits.deBruijn64tab"], plainKeys := false, apart := false, laid := [("math/bits.deBruijn64tab", laid_math_bits_deBruijn64tab)] }
def BesideMakesSaid : Prop := besideMakesRow.holds Tryd.pinned (OpenSpec.ofChange besideMakesSpec)

/-- ITS FALSE NEIGHBOUR: 'it returns false'. Refute it at one input. -/
def besideMakesWrong : ChangeSpec := { name := "besideMakes", fn := fun _ => fun
  | [d1, d2, d3, d4] => { results := [.lit (.bool false)], args := [d1, d2, d3, d4] }
  | _ => none }
def BesideMakesWrongFalsely : Prop := besideMakesRow.holds Tryd.pinned (OpenSpec.ofChange besideMakesWrong)

/-- 'jalousiekeep.BesideBoth': WHATEVER THE INPUT: true; the input reads as it did. -/
def besideBothSpec : ChangeSpec := { name := "besideBoth", fn := fun _ => fun
  | [d1, d2, d3, d4, d5] => { results := [.lit (.bool true)], args := [d1, d2, d3, d4, d5] }
  | _ => none }
def besideBothRow : OpenClaim := { program := "ytcjedgiglimipaadoor", sum := "40f57b74d95267e4af5476f72ebe22602fbf532df3ac1520468ea0e41d087892", func := "jalousie/jalousiekeep.BesideBoth", spec := "besideBoth", unfollowed := true, recurses := true, named := ["math/bits.deBruijn64tab"], plainKeys := false, apart := false, laid := [("math/bits.deBruijn64tab", laid_math_bits_deBruijn64tab)] }
def BesideBothSaid : Prop := besideBothRow.holds Tryd.pinned (OpenSpec.ofChange besideBothSpec)

/-- ITS FALSE NEIGHBOUR: 'it returns false'. Refute it at one input. -/
def besideBothWrong : ChangeSpec := { name := "besideBoth", fn := fun _ => fun
  | [d1, d2, d3, d4, d5] => { results := [.lit (.bool false)], args := [d1, d2, d3, d4, d5] }
  | _ => none }
def BesideBothWrongFalsely : Prop := besideBothRow.holds Tryd.pinned (OpenSpec.ofChange besideBothWrong)

/-- 'jalousietop.TopBoth': WHATEVER THE INPUT: true; the input reads as it did. -/
def topBothSpec : ChangeSpec := { name := "topBoth", fn := fun _ => fun
  | [d1, d2, d3] => { results := [.lit (.bool true)], args := [d1, d2, d3] }
  | _ => none }
def topBothRow : OpenClaim := { program := "ytcjedgiglimipaadoor", sum := "40f57b74d95267e4af5476f72ebe22602fbf532df3ac1520468ea0e41d087892", func := "jalousie/jalousietop.TopBoth", spec := "topBoth", unfollowed := true, recurses := true, named := ["math/bits.deBruijn64tab"], plainKeys := false, apart := false, laid := [("math/bits.deBruijn64tab", laid_math_bits_deBruijn64tab)] }
def TopBothSaid : Prop := topBothRow.holds Tryd.pinned (OpenSpec.ofChange topBothSpec)

/-- ITS FALSE NEIGHBOUR: 'it returns false'. Refute it at one input. -/
def topBothWrong : ChangeSpec := { name := "topBoth", fn := fun _ => fun
  | [d1, d2, d3] => { results := [.lit (.bool false)], args := [d1, d2, d3] }
  | _ => none }
def TopBothWrongFalsely : Prop := topBothRow.holds Tryd.pinned (OpenSpec.ofChange topBothWrong)

/- THE SECOND FORM. 'bulk': how many values and letters a reading holds, each counted each time it is reached (what is shared counts as often as it is met; a slice's spare places count too). A statement '..UptoSaid' is the law's where the arguments, and the package variables that the reading takes, are together of bulk at most 1048576: NARROWER than '..Said'. Prove '..Said' where nothing that the law and all that it calls make is longer than what came in: it says more and counts as full. Else prove '..UptoSaid'. A law counts once. -/
mutual
def uptoBulk {H : Type} : DataW H → Nat
  | .lit (.string bytes) => bytes.length + 1
  | .lit _ => 1
  | .nil => 1
  | .ptr d => uptoBulk d + 1
  | .slice elems spare => uptoBulkAll elems + uptoBulkAll spare + 1
  | .agg parts => uptoBulkAll parts + 1
  | .iface _ d => uptoBulk d + 1
  | .map entries => uptoBulkEntries entries + 1
  | .held _ => 1
def uptoBulkAll {H : Type} : List (DataW H) → Nat
  | [] => 0
  | d :: r => uptoBulk d + uptoBulkAll r
def uptoBulkEntries {H : Type} : List (Lit × DataW H) → Nat
  | [] => 0
  | x :: r => uptoBulkEntry x + uptoBulkEntries r
def uptoBulkEntry {H : Type} : Lit × DataW H → Nat
  | (.string bytes, d) => bytes.length + uptoBulk d + 1
  | (_, d) => uptoBulk d + 1
 end
def uptoSmall : (H : Type) → List (DataW H) → Bool := fun _ ds => decide (uptoBulkAll ds ≤ 1048576)
def OpenSpec.upto (s : _root_.Go.ChangeSpec) : _root_.Go.OpenSpec := { _root_.Go.OpenSpec.ofChange s with cond := some uptoSmall }

/-- 'jalousielaw.HideMakes', WHERE WHAT IT READS IS OF BULK AT MOST 1048576: true; the input reads as it did. -/
def hideMakesUptoRow : OpenClaim := { program := "ytcjedgiglimipaadoor", sum := "40f57b74d95267e4af5476f72ebe22602fbf532df3ac1520468ea0e41d087892", func := "jalousie/jalousielaw.HideMakes", spec := "hideMakes", unfollowed := true, recurses := true, named := ["math/bits.deBruijn64tab"], plainKeys := false, apart := false, laid := [("math/bits.deBruijn64tab", laid_math_bits_deBruijn64tab)], narrowed := true }
def HideMakesUptoSaid : Prop := hideMakesUptoRow.holds Tryd.pinned (OpenSpec.upto hideMakesSpec)

/-- 'jalousietop.TopLanguage', WHERE WHAT IT READS IS OF BULK AT MOST 1048576: true; the input reads as it did. -/
def topLanguageUptoRow : OpenClaim := { program := "ytcjedgiglimipaadoor", sum := "40f57b74d95267e4af5476f72ebe22602fbf532df3ac1520468ea0e41d087892", func := "jalousie/jalousietop.TopLanguage", spec := "topLanguage", unfollowed := true, recurses := true, named := ["math/bits.deBruijn64tab"], plainKeys := false, apart := false, laid := [("math/bits.deBruijn64tab", laid_math_bits_deBruijn64tab)], narrowed := true }
def TopLanguageUptoSaid : Prop := topLanguageUptoRow.holds Tryd.pinned (OpenSpec.upto topLanguageSpec)

/-- 'jalousiekeep.HideSees', WHERE WHAT IT READS IS OF BULK AT MOST 1048576: true; the input reads as it did. -/
def hideSeesUptoRow : OpenClaim := { program := "ytcjedgiglimipaadoor", sum := "40f57b74d95267e4af5476f72ebe22602fbf532df3ac1520468ea0e41d087892", func := "jalousie/jalousiekeep.HideSees", spec := "hideSees", unfollowed := true, recurses := true, named := ["math/bits.deBruijn64tab"], plainKeys := false, apart := false, laid := [("math/bits.deBruijn64tab", laid_math_bits_deBruijn64tab)], narrowed := true }
def HideSeesUptoSaid : Prop := hideSeesUptoRow.holds Tryd.pinned (OpenSpec.upto hideSeesSpec)

/-- 'jalousielaw.LeastMakes', WHERE WHAT IT READS IS OF BULK AT MOST 1048576: true; the input reads as it did. -/
def leastMakesUptoRow : OpenClaim := { program := "ytcjedgiglimipaadoor", sum := "40f57b74d95267e4af5476f72ebe22602fbf532df3ac1520468ea0e41d087892", func := "jalousie/jalousielaw.LeastMakes", spec := "leastMakes", unfollowed := true, recurses := true, named := ["math/bits.deBruijn64tab"], plainKeys := false, apart := false, laid := [("math/bits.deBruijn64tab", laid_math_bits_deBruijn64tab)], narrowed := true }
def LeastMakesUptoSaid : Prop := leastMakesUptoRow.holds Tryd.pinned (OpenSpec.upto leastMakesSpec)

/-- 'jalousielaw.LeastTells', WHERE WHAT IT READS IS OF BULK AT MOST 1048576: true; the input reads as it did. -/
def leastTellsUptoRow : OpenClaim := { program := "ytcjedgiglimipaadoor", sum := "40f57b74d95267e4af5476f72ebe22602fbf532df3ac1520468ea0e41d087892", func := "jalousie/jalousielaw.LeastTells", spec := "leastTells", unfollowed := true, recurses := true, named := ["math/bits.deBruijn64tab"], plainKeys := false, apart := false, laid := [("math/bits.deBruijn64tab", laid_math_bits_deBruijn64tab)], narrowed := true }
def LeastTellsUptoSaid : Prop := leastTellsUptoRow.holds Tryd.pinned (OpenSpec.upto leastTellsSpec)

/-- 'jalousielaw.LeastFewest', WHERE WHAT IT READS IS OF BULK AT MOST 1048576: true; the input reads as it did. -/
def leastFewestUptoRow : OpenClaim := { program := "ytcjedgiglimipaadoor", sum := "40f57b74d95267e4af5476f72ebe22602fbf532df3ac1520468ea0e41d087892", func := "jalousie/jalousielaw.LeastFewest", spec := "leastFewest", unfollowed := true, recurses := true, named := ["math/bits.deBruijn64tab"], plainKeys := false, apart := false, laid := [("math/bits.deBruijn64tab", laid_math_bits_deBruijn64tab)], narrowed := true }
def LeastFewestUptoSaid : Prop := leastFewestUptoRow.holds Tryd.pinned (OpenSpec.upto leastFewestSpec)

/-- 'jalousielaw.VeilMakes', WHERE WHAT IT READS IS OF BULK AT MOST 1048576: true; the input reads as it did. -/
def veilMakesUptoRow : OpenClaim := { program := "ytcjedgiglimipaadoor", sum := "40f57b74d95267e4af5476f72ebe22602fbf532df3ac1520468ea0e41d087892", func := "jalousie/jalousielaw.VeilMakes", spec := "veilMakes", unfollowed := true, recurses := true, named := ["math/bits.deBruijn64tab"], plainKeys := false, apart := false, laid := [("math/bits.deBruijn64tab", laid_math_bits_deBruijn64tab)], narrowed := true }
def VeilMakesUptoSaid : Prop := veilMakesUptoRow.holds Tryd.pinned (OpenSpec.upto veilMakesSpec)

/-- 'jalousielaw.VeilKeeps', WHERE WHAT IT READS IS OF BULK AT MOST 1048576: true; the input reads as it did. -/
def veilKeepsUptoRow : OpenClaim := { program := "ytcjedgiglimipaadoor", sum := "40f57b74d95267e4af5476f72ebe22602fbf532df3ac1520468ea0e41d087892", func := "jalousie/jalousielaw.VeilKeeps", spec := "veilKeeps", unfollowed := true, recurses := true, named := ["math/bits.deBruijn64tab"], plainKeys := false, apart := false, laid := [("math/bits.deBruijn64tab", laid_math_bits_deBruijn64tab)], narrowed := true }
def VeilKeepsUptoSaid : Prop := veilKeepsUptoRow.holds Tryd.pinned (OpenSpec.upto veilKeepsSpec)

/-- 'jalousielaw.VeilMost', WHERE WHAT IT READS IS OF BULK AT MOST 1048576: true; the input reads as it did. -/
def veilMostUptoRow : OpenClaim := { program := "ytcjedgiglimipaadoor", sum := "40f57b74d95267e4af5476f72ebe22602fbf532df3ac1520468ea0e41d087892", func := "jalousie/jalousielaw.VeilMost", spec := "veilMost", unfollowed := true, recurses := true, named := ["math/bits.deBruijn64tab"], plainKeys := false, apart := false, laid := [("math/bits.deBruijn64tab", laid_math_bits_deBruijn64tab)], narrowed := true }
def VeilMostUptoSaid : Prop := veilMostUptoRow.holds Tryd.pinned (OpenSpec.upto veilMostSpec)

/-- 'jalousielaw.BesideMakes', WHERE WHAT IT READS IS OF BULK AT MOST 1048576: true; the input reads as it did. -/
def besideMakesUptoRow : OpenClaim := { program := "ytcjedgiglimipaadoor", sum := "40f57b74d95267e4af5476f72ebe22602fbf532df3ac1520468ea0e41d087892", func := "jalousie/jalousielaw.BesideMakes", spec := "besideMakes", unfollowed := true, recurses := true, named := ["math/bits.deBruijn64tab"], plainKeys := false, apart := false, laid := [("math/bits.deBruijn64tab", laid_math_bits_deBruijn64tab)], narrowed := true }
def BesideMakesUptoSaid : Prop := besideMakesUptoRow.holds Tryd.pinned (OpenSpec.upto besideMakesSpec)

/-- 'jalousiekeep.BesideBoth', WHERE WHAT IT READS IS OF BULK AT MOST 1048576: true; the input reads as it did. -/
def besideBothUptoRow : OpenClaim := { program := "ytcjedgiglimipaadoor", sum := "40f57b74d95267e4af5476f72ebe22602fbf532df3ac1520468ea0e41d087892", func := "jalousie/jalousiekeep.BesideBoth", spec := "besideBoth", unfollowed := true, recurses := true, named := ["math/bits.deBruijn64tab"], plainKeys := false, apart := false, laid := [("math/bits.deBruijn64tab", laid_math_bits_deBruijn64tab)], narrowed := true }
def BesideBothUptoSaid : Prop := besideBothUptoRow.holds Tryd.pinned (OpenSpec.upto besideBothSpec)

/-- 'jalousietop.TopBoth', WHERE WHAT IT READS IS OF BULK AT MOST 1048576: true; the input reads as it did. -/
def topBothUptoRow : OpenClaim := { program := "ytcjedgiglimipaadoor", sum := "40f57b74d95267e4af5476f72ebe22602fbf532df3ac1520468ea0e41d087892", func := "jalousie/jalousietop.TopBoth", spec := "topBoth", unfollowed := true, recurses := true, named := ["math/bits.deBruijn64tab"], plainKeys := false, apart := false, laid := [("math/bits.deBruijn64tab", laid_math_bits_deBruijn64tab)], narrowed := true }
def TopBothUptoSaid : Prop := topBothUptoRow.holds Tryd.pinned (OpenSpec.upto topBothSpec)

end Rows
end Go.Proofs.YtcjedgiglimipaaDoor
