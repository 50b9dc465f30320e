/-
  DERIVED. GIVEN WITH THE SEED: THE CARDS: each row of YtcefeihlkpmejaaGreatDoorRows.lean that lists a variable, with what it lists TIED to the program's text (the seventh form; the later family's looks); each row that meets fmt, with fmt's text TOLD by the authors' own Lean function (tested against real Go, not proved from fmt's source: count such statements apart). THE CARD IS WHAT COUNTS. Prove the row's statement (the work); the ties are given (YtcefeihlkpmejaaGreatDoorTie.lean); close each card by the builder's one call (the guide's Derived/Test/ToyasCard.lean, 'card_holds'). Laid BY PROGRAM, IN A SANDBOX (cutbox-door.mjs). By AI agents, Wed Nov 11 2026. No macro, syntax, notation, axiom, sorry.
-/
import Derived.Test.YtcefeihlkpmejaaGreatDoorRows
import GoSem.ClaimSeven
namespace Go.Proofs.YtcefeihlkpmejaaGreatDoor
namespace Rows

/-- THE TIED CARD OF 'jalousiekeep.ToolTells'. -/
def toolTellsCard : Claim7 := { stood := { row := toolTellsRow, standIns := [], harness := (true, "294aa241148378896250ca6cb2163890fb679bbb1627ef290439018646817669"), looks := true }, kinds := [], alts := [], laidByText := true, laidKinds := [.data, .data, .data, .data, .sentinel, .sentinel, .data, .pinned], laidTests := true, laidLooks := .later }
def ToolTellsCardSaid : Prop := Claim7.holds Tryz.pinned (.plain (OpenSpec.ofChange toolTellsSpec)) toolTellsCard

/-- THE TIED CARD OF 'jalousiekeep.ToolOn'. -/
def toolOnCard : Claim7 := { stood := { row := toolOnRow, standIns := [], harness := (true, "294aa241148378896250ca6cb2163890fb679bbb1627ef290439018646817669"), looks := true }, kinds := [], alts := [], laidByText := true, laidKinds := [.data, .data, .data, .data, .sentinel, .sentinel, .data, .pinned], laidTests := true, laidLooks := .later }
def ToolOnCardSaid : Prop := Claim7.holds Tryz.pinned (.plain (OpenSpec.ofChange toolOnSpec)) toolOnCard

/-- THE SECOND FORM's CARD OF 'jalousiekeep.ToolTells'. -/
def toolTellsUptoCard : Claim7 := { stood := { row := toolTellsUptoRow, standIns := [], harness := (true, "294aa241148378896250ca6cb2163890fb679bbb1627ef290439018646817669"), looks := true }, kinds := [], alts := [], laidByText := true, laidKinds := [.data, .data, .data, .data, .sentinel, .sentinel, .data, .pinned], laidTests := true, laidLooks := .later }
def ToolTellsUptoCardSaid : Prop := Claim7.holds Tryz.pinned (.plain (OpenSpec.upto toolTellsSpec)) toolTellsUptoCard

/-- THE SECOND FORM's CARD OF 'jalousiekeep.ToolOn'. -/
def toolOnUptoCard : Claim7 := { stood := { row := toolOnUptoRow, standIns := [], harness := (true, "294aa241148378896250ca6cb2163890fb679bbb1627ef290439018646817669"), looks := true }, kinds := [], alts := [], laidByText := true, laidKinds := [.data, .data, .data, .data, .sentinel, .sentinel, .data, .pinned], laidTests := true, laidLooks := .later }
def ToolOnUptoCardSaid : Prop := Claim7.holds Tryz.pinned (.plain (OpenSpec.upto toolOnSpec)) toolOnUptoCard
end Rows
end Go.Proofs.YtcefeihlkpmejaaGreatDoor
