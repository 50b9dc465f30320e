/-
  DERIVED. GIVEN WITH THE SEED: THE CARDS: each row of YtcjinmgieiebbaaDoorRows.lean that lists a variable, with what it lists TIED to the program's text (the seventh form; the later family's looks); each row that meets fmt, with fmt's text TOLD by the authors' own Lean function (tested against real Go, not proved from fmt's source: count such statements apart). THE CARD IS WHAT COUNTS. Prove the row's statement (the work); the ties are given (YtcjinmgieiebbaaDoorTie.lean); close each card by the builder's one call (the guide's Derived/Test/ToyasCard.lean, 'card_holds'). Laid BY PROGRAM, IN A SANDBOX (cutbox-door.mjs). By AI agents, Wed Nov 11 2026. No macro, syntax, notation, axiom, sorry.
-/
import Derived.Test.YtcjinmgieiebbaaDoorRows
import GoSem.ClaimSeven
namespace Go.Proofs.YtcjinmgieiebbaaDoor
namespace Rows

/-- THE TIED CARD OF 'jalousielaw.CurrentTells'. -/
def currentTellsCard : Claim7 := { stood := { row := currentTellsRow, standIns := [], harness := (true, "17af69cbe69aca488f48a37d3b1c467a5b4bb5801fbf0a73e56c1f5b242e0026"), looks := false }, kinds := [], alts := [], laidByText := true, laidKinds := [.data], laidTests := true, laidLooks := .later }
def CurrentTellsCardSaid : Prop := Claim7.holds Tryd.pinned (.plain (OpenSpec.ofChange currentTellsSpec)) currentTellsCard

/-- THE TIED CARD OF 'jalousiekeep.CurrentKeeps'. -/
def currentKeepsCard : Claim7 := { stood := { row := currentKeepsRow, standIns := [], harness := (true, "17af69cbe69aca488f48a37d3b1c467a5b4bb5801fbf0a73e56c1f5b242e0026"), looks := false }, kinds := [], alts := [], laidByText := true, laidKinds := [.data], laidTests := true, laidLooks := .later }
def CurrentKeepsCardSaid : Prop := Claim7.holds Tryd.pinned (.plain (OpenSpec.ofChange currentKeepsSpec)) currentKeepsCard

/-- THE TIED CARD OF 'jalousielaw.SecretTells'. -/
def secretTellsCard : Claim7 := { stood := { row := secretTellsRow, standIns := [], harness := (true, "17af69cbe69aca488f48a37d3b1c467a5b4bb5801fbf0a73e56c1f5b242e0026"), looks := false }, kinds := [], alts := [], laidByText := true, laidKinds := [.data], laidTests := true, laidLooks := .later }
def SecretTellsCardSaid : Prop := Claim7.holds Tryd.pinned (.plain (OpenSpec.ofChange secretTellsSpec)) secretTellsCard

/-- THE TIED CARD OF 'jalousielaw.SecretKeeps'. -/
def secretKeepsCard : Claim7 := { stood := { row := secretKeepsRow, standIns := [], harness := (true, "17af69cbe69aca488f48a37d3b1c467a5b4bb5801fbf0a73e56c1f5b242e0026"), looks := false }, kinds := [], alts := [], laidByText := true, laidKinds := [.data], laidTests := true, laidLooks := .later }
def SecretKeepsCardSaid : Prop := Claim7.holds Tryd.pinned (.plain (OpenSpec.ofChange secretKeepsSpec)) secretKeepsCard

/-- THE TIED CARD OF 'jalousielaw.InitialTells'. -/
def initialTellsCard : Claim7 := { stood := { row := initialTellsRow, standIns := [], harness := (true, "17af69cbe69aca488f48a37d3b1c467a5b4bb5801fbf0a73e56c1f5b242e0026"), looks := false }, kinds := [], alts := [], laidByText := true, laidKinds := [.data], laidTests := true, laidLooks := .later }
def InitialTellsCardSaid : Prop := Claim7.holds Tryd.pinned (.plain (OpenSpec.ofChange initialTellsSpec)) initialTellsCard

/-- THE TIED CARD OF 'jalousiekeep.InitialKeeps'. -/
def initialKeepsCard : Claim7 := { stood := { row := initialKeepsRow, standIns := [], harness := (true, "17af69cbe69aca488f48a37d3b1c467a5b4bb5801fbf0a73e56c1f5b242e0026"), looks := false }, kinds := [], alts := [], laidByText := true, laidKinds := [.data], laidTests := true, laidLooks := .later }
def InitialKeepsCardSaid : Prop := Claim7.holds Tryd.pinned (.plain (OpenSpec.ofChange initialKeepsSpec)) initialKeepsCard

/-- THE TIED CARD OF 'jalousielaw.StepsTells'. -/
def stepsTellsCard : Claim7 := { stood := { row := stepsTellsRow, standIns := [], harness := (true, "17af69cbe69aca488f48a37d3b1c467a5b4bb5801fbf0a73e56c1f5b242e0026"), looks := false }, kinds := [], alts := [], laidByText := true, laidKinds := [.data], laidTests := true, laidLooks := .later }
def StepsTellsCardSaid : Prop := Claim7.holds Tryd.pinned (.plain (OpenSpec.ofChange stepsTellsSpec)) stepsTellsCard

/-- THE TIED CARD OF 'jalousiekeep.StepsKeeps'. -/
def stepsKeepsCard : Claim7 := { stood := { row := stepsKeepsRow, standIns := [], harness := (true, "17af69cbe69aca488f48a37d3b1c467a5b4bb5801fbf0a73e56c1f5b242e0026"), looks := false }, kinds := [], alts := [], laidByText := true, laidKinds := [.data], laidTests := true, laidLooks := .later }
def StepsKeepsCardSaid : Prop := Claim7.holds Tryd.pinned (.plain (OpenSpec.ofChange stepsKeepsSpec)) stepsKeepsCard

/-- THE TIED CARD OF 'jalousietop.TopOne'. -/
def topOneCard : Claim7 := { stood := { row := topOneRow, standIns := [], harness := (true, "17af69cbe69aca488f48a37d3b1c467a5b4bb5801fbf0a73e56c1f5b242e0026"), looks := false }, kinds := [], alts := [], laidByText := true, laidKinds := [.data], laidTests := true, laidLooks := .later }
def TopOneCardSaid : Prop := Claim7.holds Tryd.pinned (.plain (OpenSpec.ofChange topOneSpec)) topOneCard

/-- THE SECOND FORM's CARD OF 'jalousielaw.CurrentTells'. -/
def currentTellsUptoCard : Claim7 := { stood := { row := currentTellsUptoRow, standIns := [], harness := (true, "17af69cbe69aca488f48a37d3b1c467a5b4bb5801fbf0a73e56c1f5b242e0026"), looks := false }, kinds := [], alts := [], laidByText := true, laidKinds := [.data], laidTests := true, laidLooks := .later }
def CurrentTellsUptoCardSaid : Prop := Claim7.holds Tryd.pinned (.plain (OpenSpec.upto currentTellsSpec)) currentTellsUptoCard

/-- THE SECOND FORM's CARD OF 'jalousiekeep.CurrentKeeps'. -/
def currentKeepsUptoCard : Claim7 := { stood := { row := currentKeepsUptoRow, standIns := [], harness := (true, "17af69cbe69aca488f48a37d3b1c467a5b4bb5801fbf0a73e56c1f5b242e0026"), looks := false }, kinds := [], alts := [], laidByText := true, laidKinds := [.data], laidTests := true, laidLooks := .later }
def CurrentKeepsUptoCardSaid : Prop := Claim7.holds Tryd.pinned (.plain (OpenSpec.upto currentKeepsSpec)) currentKeepsUptoCard

/-- THE SECOND FORM's CARD OF 'jalousielaw.SecretTells'. -/
def secretTellsUptoCard : Claim7 := { stood := { row := secretTellsUptoRow, standIns := [], harness := (true, "17af69cbe69aca488f48a37d3b1c467a5b4bb5801fbf0a73e56c1f5b242e0026"), looks := false }, kinds := [], alts := [], laidByText := true, laidKinds := [.data], laidTests := true, laidLooks := .later }
def SecretTellsUptoCardSaid : Prop := Claim7.holds Tryd.pinned (.plain (OpenSpec.upto secretTellsSpec)) secretTellsUptoCard

/-- THE SECOND FORM's CARD OF 'jalousielaw.SecretKeeps'. -/
def secretKeepsUptoCard : Claim7 := { stood := { row := secretKeepsUptoRow, standIns := [], harness := (true, "17af69cbe69aca488f48a37d3b1c467a5b4bb5801fbf0a73e56c1f5b242e0026"), looks := false }, kinds := [], alts := [], laidByText := true, laidKinds := [.data], laidTests := true, laidLooks := .later }
def SecretKeepsUptoCardSaid : Prop := Claim7.holds Tryd.pinned (.plain (OpenSpec.upto secretKeepsSpec)) secretKeepsUptoCard

/-- THE SECOND FORM's CARD OF 'jalousielaw.InitialTells'. -/
def initialTellsUptoCard : Claim7 := { stood := { row := initialTellsUptoRow, standIns := [], harness := (true, "17af69cbe69aca488f48a37d3b1c467a5b4bb5801fbf0a73e56c1f5b242e0026"), looks := false }, kinds := [], alts := [], laidByText := true, laidKinds := [.data], laidTests := true, laidLooks := .later }
def InitialTellsUptoCardSaid : Prop := Claim7.holds Tryd.pinned (.plain (OpenSpec.upto initialTellsSpec)) initialTellsUptoCard

/-- THE SECOND FORM's CARD OF 'jalousiekeep.InitialKeeps'. -/
def initialKeepsUptoCard : Claim7 := { stood := { row := initialKeepsUptoRow, standIns := [], harness := (true, "17af69cbe69aca488f48a37d3b1c467a5b4bb5801fbf0a73e56c1f5b242e0026"), looks := false }, kinds := [], alts := [], laidByText := true, laidKinds := [.data], laidTests := true, laidLooks := .later }
def InitialKeepsUptoCardSaid : Prop := Claim7.holds Tryd.pinned (.plain (OpenSpec.upto initialKeepsSpec)) initialKeepsUptoCard

/-- THE SECOND FORM's CARD OF 'jalousielaw.StepsTells'. -/
def stepsTellsUptoCard : Claim7 := { stood := { row := stepsTellsUptoRow, standIns := [], harness := (true, "17af69cbe69aca488f48a37d3b1c467a5b4bb5801fbf0a73e56c1f5b242e0026"), looks := false }, kinds := [], alts := [], laidByText := true, laidKinds := [.data], laidTests := true, laidLooks := .later }
def StepsTellsUptoCardSaid : Prop := Claim7.holds Tryd.pinned (.plain (OpenSpec.upto stepsTellsSpec)) stepsTellsUptoCard

/-- THE SECOND FORM's CARD OF 'jalousiekeep.StepsKeeps'. -/
def stepsKeepsUptoCard : Claim7 := { stood := { row := stepsKeepsUptoRow, standIns := [], harness := (true, "17af69cbe69aca488f48a37d3b1c467a5b4bb5801fbf0a73e56c1f5b242e0026"), looks := false }, kinds := [], alts := [], laidByText := true, laidKinds := [.data], laidTests := true, laidLooks := .later }
def StepsKeepsUptoCardSaid : Prop := Claim7.holds Tryd.pinned (.plain (OpenSpec.upto stepsKeepsSpec)) stepsKeepsUptoCard

/-- THE SECOND FORM's CARD OF 'jalousietop.TopOne'. -/
def topOneUptoCard : Claim7 := { stood := { row := topOneUptoRow, standIns := [], harness := (true, "17af69cbe69aca488f48a37d3b1c467a5b4bb5801fbf0a73e56c1f5b242e0026"), looks := false }, kinds := [], alts := [], laidByText := true, laidKinds := [.data], laidTests := true, laidLooks := .later }
def TopOneUptoCardSaid : Prop := Claim7.holds Tryd.pinned (.plain (OpenSpec.upto topOneSpec)) topOneUptoCard
end Rows
end Go.Proofs.YtcjinmgieiebbaaDoor
