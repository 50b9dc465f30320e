/-
  NARROWER THAN 'FOR EVERY INPUT', by the rows' own cells (each row's printed sentence says how): TextParses: laid · TextBack: laid.
  DERIVED. THE GIVEN ROWS OF THIS SEAT. 2 by the template 'for every input the law returns true; each argument reads behind the call as it read before'; 0 by the template 'total and deterministic' (their statements: YtpinjiikiaakaaaDoorTotals.lean).
  GIVEN WITH THE SEED: the statements are not yours to turn. If you find one false, say at which input.
  Laid BY PROGRAM, IN A SANDBOX (cutbox-rows.mjs): the forced cells as the released guide's own fill.sh prints them over the translation 94154456b7ca1321… (all of the seat's roots in one cut). By AI agents, Wed Nov 11 2026. No macro, syntax, notation, axiom, sorry.
-/
import Derived.Test.YtpinjiikiaakaaaDoorChecked
import GoSem.Claim
import GoSem.ClaimJoined
import GoSem.ClaimMapViews
import Derived.JoinedTies
import Derived.KernelRfl
namespace Go.Proofs.YtpinjiikiaakaaaDoor
/- THE CELL 'sum', in the pinned program and in every row, IS THE sha256 OF THE DUMP (.gsa) THAT YtpinjiikiaakaaaDoorProg.lean LOADS. Nothing in Lean hashes anything: it is a label: what it is worth is what the hold of that sum in a sandbox is worth. -/
noncomputable def Tryd.pinned : Pinned := { name := "ytpinjiikiaakaaadoor", sum := "94154456b7ca1321cc720278ed2721a3bf2734f11b9dfc0fcf5be895918b9157", checked := Tryd.checked }
namespace Rows
def none {H : Type} : Left H := { results := [], args := [] }

/- WHAT THE LISTED PACKAGE-LEVEL VARIABLES READ AS WHEN THE CALL BEGINS. Each datum BY PROGRAM (the guide's laid-datum.mjs) off the statement by which the dump's own 'gosem.cut.vars' lays the variable. In a bare row this is a premise. The card (YtpinjiikiaakaaaDoorCards.lean) ties it to the program's text. -/
def laid_jalousie_text_parts {H : Type} : DataW H := .agg [.lit (.string [115, 116, 97, 116, 101, 115]), .lit (.string [101, 118, 101, 110, 116, 115]), .lit (.string [115, 101, 101, 110]), .lit (.string [102, 114, 101, 101]), .lit (.string [102, 97, 117, 108, 116, 115]), .lit (.string [115, 101, 99, 114, 101, 116]), .lit (.string [115, 116, 97, 114, 116, 115]), .lit (.string [101, 110, 100, 115]), .lit (.string [97, 114, 114, 111, 119, 115])]

/-- 'jalousielaw.TextParses': WHATEVER THE INPUT: true; the input reads as it did. -/
def textParsesSpec : ChangeSpec := { name := "textParses", fn := fun _ => fun
  | [d] => { results := [.lit (.bool true)], args := [d] }
  | _ => none }
def textParsesRow : OpenClaim := { program := "ytpinjiikiaakaaadoor", sum := "94154456b7ca1321cc720278ed2721a3bf2734f11b9dfc0fcf5be895918b9157", func := "jalousie/jalousielaw.TextParses", spec := "textParses", unfollowed := true, recurses := true, named := ["jalousie/text.parts"], apart := false, laid := [("jalousie/text.parts", laid_jalousie_text_parts)] }
def TextParsesSaid : Prop := textParsesRow.holds Tryd.pinned (OpenSpec.ofChange textParsesSpec)

/-- ITS FALSE NEIGHBOUR: 'it returns false'. Refute it at one input. -/
def textParsesWrong : ChangeSpec := { name := "textParses", fn := fun _ => fun
  | [d] => { results := [.lit (.bool false)], args := [d] }
  | _ => none }
def TextParsesWrongFalsely : Prop := textParsesRow.holds Tryd.pinned (OpenSpec.ofChange textParsesWrong)

/-- 'jalousiekeep.TextBack': WHATEVER THE INPUT: true; the input reads as it did. -/
def textBackSpec : ChangeSpec := { name := "textBack", fn := fun _ => fun
  | [d] => { results := [.lit (.bool true)], args := [d] }
  | _ => none }
def textBackRow : OpenClaim := { program := "ytpinjiikiaakaaadoor", sum := "94154456b7ca1321cc720278ed2721a3bf2734f11b9dfc0fcf5be895918b9157", func := "jalousie/jalousiekeep.TextBack", spec := "textBack", inPlace := ["internal/abi.NoEscape", "internal/bytealg.MakeNoZero"], unfollowed := true, recurses := true, named := ["jalousie/text.parts"], apart := false, laid := [("jalousie/text.parts", laid_jalousie_text_parts)] }
def TextBackSaid : Prop := textBackRow.holds Tryd.pinned (OpenSpec.ofChange textBackSpec)

/-- ITS FALSE NEIGHBOUR: 'it returns false'. Refute it at one input. -/
def textBackWrong : ChangeSpec := { name := "textBack", fn := fun _ => fun
  | [d] => { results := [.lit (.bool false)], args := [d] }
  | _ => none }
def TextBackWrongFalsely : Prop := textBackRow.holds Tryd.pinned (OpenSpec.ofChange textBackWrong)

/- THE SECOND FORM. 'bulk': how many values and letters a reading holds, each counted each time it is reached (what is shared counts as often as it is met; a slice's spare places count too). A statement '..UptoSaid' is the law's where the arguments, and the package variables that the reading takes, are together of bulk at most 1048576: NARROWER than '..Said'. Prove '..Said' where nothing that the law and all that it calls make is longer than what came in: it says more and counts as full. Else prove '..UptoSaid'. A law counts once. -/
mutual
def uptoBulk {H : Type} : DataW H → Nat
  | .lit (.string bytes) => bytes.length + 1
  | .lit _ => 1
  | .nil => 1
  | .ptr d => uptoBulk d + 1
  | .slice elems spare => uptoBulkAll elems + uptoBulkAll spare + 1
  | .agg parts => uptoBulkAll parts + 1
  | .iface _ d => uptoBulk d + 1
  | .map entries => uptoBulkEntries entries + 1
  | .held _ => 1
def uptoBulkAll {H : Type} : List (DataW H) → Nat
  | [] => 0
  | d :: r => uptoBulk d + uptoBulkAll r
def uptoBulkEntries {H : Type} : List (Lit × DataW H) → Nat
  | [] => 0
  | x :: r => uptoBulkEntry x + uptoBulkEntries r
def uptoBulkEntry {H : Type} : Lit × DataW H → Nat
  | (.string bytes, d) => bytes.length + uptoBulk d + 1
  | (_, d) => uptoBulk d + 1
 end
def uptoSmall : (H : Type) → List (DataW H) → Bool := fun _ ds => decide (uptoBulkAll ds ≤ 1048576)
def OpenSpec.upto (s : _root_.Go.ChangeSpec) : _root_.Go.OpenSpec := { _root_.Go.OpenSpec.ofChange s with cond := some uptoSmall }

/-- 'jalousielaw.TextParses', WHERE WHAT IT READS IS OF BULK AT MOST 1048576: true; the input reads as it did. -/
def textParsesUptoRow : OpenClaim := { program := "ytpinjiikiaakaaadoor", sum := "94154456b7ca1321cc720278ed2721a3bf2734f11b9dfc0fcf5be895918b9157", func := "jalousie/jalousielaw.TextParses", spec := "textParses", unfollowed := true, recurses := true, named := ["jalousie/text.parts"], apart := false, laid := [("jalousie/text.parts", laid_jalousie_text_parts)], narrowed := true }
def TextParsesUptoSaid : Prop := textParsesUptoRow.holds Tryd.pinned (OpenSpec.upto textParsesSpec)

/-- 'jalousiekeep.TextBack', WHERE WHAT IT READS IS OF BULK AT MOST 1048576: true; the input reads as it did. -/
def textBackUptoRow : OpenClaim := { program := "ytpinjiikiaakaaadoor", sum := "94154456b7ca1321cc720278ed2721a3bf2734f11b9dfc0fcf5be895918b9157", func := "jalousie/jalousiekeep.TextBack", spec := "textBack", inPlace := ["internal/abi.NoEscape", "internal/bytealg.MakeNoZero"], unfollowed := true, recurses := true, named := ["jalousie/text.parts"], apart := false, laid := [("jalousie/text.parts", laid_jalousie_text_parts)], narrowed := true }
def TextBackUptoSaid : Prop := textBackUptoRow.holds Tryd.pinned (OpenSpec.upto textBackSpec)

end Rows
end Go.Proofs.YtpinjiikiaakaaaDoor
