/-
  DERIVED. GIVEN WITH THE SEED: THE CARDS: each row of YtiabkafgmanhiaaDoorRows.lean that lists a variable, with what it lists TIED to the program's text (the seventh form; the later family's looks); each row that meets fmt, with fmt's text TOLD by the authors' own Lean function (tested against real Go, not proved from fmt's source: count such statements apart). THE CARD IS WHAT COUNTS. Prove the row's statement (the work); the ties are given (YtiabkafgmanhiaaDoorTie.lean); close each card by the builder's one call (the guide's Derived/Test/ToyasCard.lean, 'card_holds'). Laid BY PROGRAM, IN A SANDBOX (cutbox-door.mjs). By AI agents, Wed Nov 11 2026. No macro, syntax, notation, axiom, sorry.
-/
import Derived.Test.YtiabkafgmanhiaaDoorRows
import GoSem.ClaimSeven
namespace Go.Proofs.YtiabkafgmanhiaaDoor
namespace Rows

/-- THE TIED CARD OF 'jalousiekeep.MachineSplits'. -/
def machineSplitsCard : Claim7 := { stood := { row := machineSplitsRow, standIns := [], harness := (true, "a2b837569ac99325ac7e6aadd0c32000586bad45f84e2d3ef7757c8c12ceb2aa"), looks := false }, kinds := [], alts := [], laidByText := true, laidKinds := [.data], laidTests := true, laidLooks := .later }
def MachineSplitsCardSaid : Prop := Claim7.holds Tryd.pinned (.plain (OpenSpec.ofChange machineSplitsSpec)) machineSplitsCard

/-- THE TIED CARD OF 'jalousielaw.MachineTells'. -/
def machineTellsCard : Claim7 := { stood := { row := machineTellsRow, standIns := [], harness := (true, "a2b837569ac99325ac7e6aadd0c32000586bad45f84e2d3ef7757c8c12ceb2aa"), looks := false }, kinds := [], alts := [], laidByText := true, laidKinds := [.data], laidTests := true, laidLooks := .later }
def MachineTellsCardSaid : Prop := Claim7.holds Tryd.pinned (.plain (OpenSpec.ofChange machineTellsSpec)) machineTellsCard

/-- THE TIED CARD OF 'jalousielaw.DetermineMakes'. -/
def determineMakesCard : Claim7 := { stood := { row := determineMakesRow, standIns := [], harness := (true, "a2b837569ac99325ac7e6aadd0c32000586bad45f84e2d3ef7757c8c12ceb2aa"), looks := false }, kinds := [], alts := [], laidByText := true, laidKinds := [.data], laidTests := true, laidLooks := .later }
def DetermineMakesCardSaid : Prop := Claim7.holds Tryd.pinned (.plain (OpenSpec.ofChange determineMakesSpec)) determineMakesCard

/-- THE TIED CARD OF 'jalousielaw.HideMakes'. -/
def hideMakesCard : Claim7 := { stood := { row := hideMakesRow, standIns := [], harness := (true, "a2b837569ac99325ac7e6aadd0c32000586bad45f84e2d3ef7757c8c12ceb2aa"), looks := false }, kinds := [], alts := [], laidByText := true, laidKinds := [.data], laidTests := true, laidLooks := .later }
def HideMakesCardSaid : Prop := Claim7.holds Tryd.pinned (.plain (OpenSpec.ofChange hideMakesSpec)) hideMakesCard

/-- THE TIED CARD OF 'jalousielaw.ReachTells'. -/
def reachTellsCard : Claim7 := { stood := { row := reachTellsRow, standIns := [], harness := (true, "a2b837569ac99325ac7e6aadd0c32000586bad45f84e2d3ef7757c8c12ceb2aa"), looks := false }, kinds := [], alts := [], laidByText := true, laidKinds := [.data], laidTests := true, laidLooks := .later }
def ReachTellsCardSaid : Prop := Claim7.holds Tryd.pinned (.plain (OpenSpec.ofChange reachTellsSpec)) reachTellsCard

/-- THE TIED CARD OF 'jalousiekeep.WithinSays'. -/
def withinSaysCard : Claim7 := { stood := { row := withinSaysRow, standIns := [], harness := (true, "a2b837569ac99325ac7e6aadd0c32000586bad45f84e2d3ef7757c8c12ceb2aa"), looks := false }, kinds := [], alts := [], laidByText := true, laidKinds := [.data], laidTests := true, laidLooks := .later }
def WithinSaysCardSaid : Prop := Claim7.holds Tryd.pinned (.plain (OpenSpec.ofChange withinSaysSpec)) withinSaysCard

/-- THE TIED CARD OF 'jalousiekeep.DetermineSame'. -/
def determineSameCard : Claim7 := { stood := { row := determineSameRow, standIns := [], harness := (true, "a2b837569ac99325ac7e6aadd0c32000586bad45f84e2d3ef7757c8c12ceb2aa"), looks := false }, kinds := [], alts := [], laidByText := true, laidKinds := [.data], laidTests := true, laidLooks := .later }
def DetermineSameCardSaid : Prop := Claim7.holds Tryd.pinned (.plain (OpenSpec.ofChange determineSameSpec)) determineSameCard

/-- THE TIED CARD OF 'jalousielaw.CurrentTells'. -/
def currentTellsCard : Claim7 := { stood := { row := currentTellsRow, standIns := [], harness := (true, "a2b837569ac99325ac7e6aadd0c32000586bad45f84e2d3ef7757c8c12ceb2aa"), looks := false }, kinds := [], alts := [], laidByText := true, laidKinds := [.data], laidTests := true, laidLooks := .later }
def CurrentTellsCardSaid : Prop := Claim7.holds Tryd.pinned (.plain (OpenSpec.ofChange currentTellsSpec)) currentTellsCard

/-- THE TIED CARD OF 'jalousiekeep.CurrentKeeps'. -/
def currentKeepsCard : Claim7 := { stood := { row := currentKeepsRow, standIns := [], harness := (true, "a2b837569ac99325ac7e6aadd0c32000586bad45f84e2d3ef7757c8c12ceb2aa"), looks := false }, kinds := [], alts := [], laidByText := true, laidKinds := [.data], laidTests := true, laidLooks := .later }
def CurrentKeepsCardSaid : Prop := Claim7.holds Tryd.pinned (.plain (OpenSpec.ofChange currentKeepsSpec)) currentKeepsCard

/-- THE TIED CARD OF 'jalousiekeep.HideSees'. -/
def hideSeesCard : Claim7 := { stood := { row := hideSeesRow, standIns := [], harness := (true, "a2b837569ac99325ac7e6aadd0c32000586bad45f84e2d3ef7757c8c12ceb2aa"), looks := false }, kinds := [], alts := [], laidByText := true, laidKinds := [.data], laidTests := true, laidLooks := .later }
def HideSeesCardSaid : Prop := Claim7.holds Tryd.pinned (.plain (OpenSpec.ofChange hideSeesSpec)) hideSeesCard

/-- THE TIED CARD OF 'jalousiekeep.ReachTrims'. -/
def reachTrimsCard : Claim7 := { stood := { row := reachTrimsRow, standIns := [], harness := (true, "a2b837569ac99325ac7e6aadd0c32000586bad45f84e2d3ef7757c8c12ceb2aa"), looks := false }, kinds := [], alts := [], laidByText := true, laidKinds := [.data], laidTests := true, laidLooks := .later }
def ReachTrimsCardSaid : Prop := Claim7.holds Tryd.pinned (.plain (OpenSpec.ofChange reachTrimsSpec)) reachTrimsCard

/-- THE TIED CARD OF 'jalousielaw.LeastMakes'. -/
def leastMakesCard : Claim7 := { stood := { row := leastMakesRow, standIns := [], harness := (true, "a2b837569ac99325ac7e6aadd0c32000586bad45f84e2d3ef7757c8c12ceb2aa"), looks := false }, kinds := [], alts := [], laidByText := true, laidKinds := [.data], laidTests := true, laidLooks := .later }
def LeastMakesCardSaid : Prop := Claim7.holds Tryd.pinned (.plain (OpenSpec.ofChange leastMakesSpec)) leastMakesCard

/-- THE SECOND FORM's CARD OF 'jalousiekeep.MachineSplits'. -/
def machineSplitsUptoCard : Claim7 := { stood := { row := machineSplitsUptoRow, standIns := [], harness := (true, "a2b837569ac99325ac7e6aadd0c32000586bad45f84e2d3ef7757c8c12ceb2aa"), looks := false }, kinds := [], alts := [], laidByText := true, laidKinds := [.data], laidTests := true, laidLooks := .later }
def MachineSplitsUptoCardSaid : Prop := Claim7.holds Tryd.pinned (.plain (OpenSpec.upto machineSplitsSpec)) machineSplitsUptoCard

/-- THE SECOND FORM's CARD OF 'jalousielaw.MachineTells'. -/
def machineTellsUptoCard : Claim7 := { stood := { row := machineTellsUptoRow, standIns := [], harness := (true, "a2b837569ac99325ac7e6aadd0c32000586bad45f84e2d3ef7757c8c12ceb2aa"), looks := false }, kinds := [], alts := [], laidByText := true, laidKinds := [.data], laidTests := true, laidLooks := .later }
def MachineTellsUptoCardSaid : Prop := Claim7.holds Tryd.pinned (.plain (OpenSpec.upto machineTellsSpec)) machineTellsUptoCard

/-- THE SECOND FORM's CARD OF 'jalousielaw.DetermineMakes'. -/
def determineMakesUptoCard : Claim7 := { stood := { row := determineMakesUptoRow, standIns := [], harness := (true, "a2b837569ac99325ac7e6aadd0c32000586bad45f84e2d3ef7757c8c12ceb2aa"), looks := false }, kinds := [], alts := [], laidByText := true, laidKinds := [.data], laidTests := true, laidLooks := .later }
def DetermineMakesUptoCardSaid : Prop := Claim7.holds Tryd.pinned (.plain (OpenSpec.upto determineMakesSpec)) determineMakesUptoCard

/-- THE SECOND FORM's CARD OF 'jalousielaw.HideMakes'. -/
def hideMakesUptoCard : Claim7 := { stood := { row := hideMakesUptoRow, standIns := [], harness := (true, "a2b837569ac99325ac7e6aadd0c32000586bad45f84e2d3ef7757c8c12ceb2aa"), looks := false }, kinds := [], alts := [], laidByText := true, laidKinds := [.data], laidTests := true, laidLooks := .later }
def HideMakesUptoCardSaid : Prop := Claim7.holds Tryd.pinned (.plain (OpenSpec.upto hideMakesSpec)) hideMakesUptoCard

/-- THE SECOND FORM's CARD OF 'jalousielaw.ReachTells'. -/
def reachTellsUptoCard : Claim7 := { stood := { row := reachTellsUptoRow, standIns := [], harness := (true, "a2b837569ac99325ac7e6aadd0c32000586bad45f84e2d3ef7757c8c12ceb2aa"), looks := false }, kinds := [], alts := [], laidByText := true, laidKinds := [.data], laidTests := true, laidLooks := .later }
def ReachTellsUptoCardSaid : Prop := Claim7.holds Tryd.pinned (.plain (OpenSpec.upto reachTellsSpec)) reachTellsUptoCard

/-- THE SECOND FORM's CARD OF 'jalousiekeep.WithinSays'. -/
def withinSaysUptoCard : Claim7 := { stood := { row := withinSaysUptoRow, standIns := [], harness := (true, "a2b837569ac99325ac7e6aadd0c32000586bad45f84e2d3ef7757c8c12ceb2aa"), looks := false }, kinds := [], alts := [], laidByText := true, laidKinds := [.data], laidTests := true, laidLooks := .later }
def WithinSaysUptoCardSaid : Prop := Claim7.holds Tryd.pinned (.plain (OpenSpec.upto withinSaysSpec)) withinSaysUptoCard

/-- THE SECOND FORM's CARD OF 'jalousiekeep.DetermineSame'. -/
def determineSameUptoCard : Claim7 := { stood := { row := determineSameUptoRow, standIns := [], harness := (true, "a2b837569ac99325ac7e6aadd0c32000586bad45f84e2d3ef7757c8c12ceb2aa"), looks := false }, kinds := [], alts := [], laidByText := true, laidKinds := [.data], laidTests := true, laidLooks := .later }
def DetermineSameUptoCardSaid : Prop := Claim7.holds Tryd.pinned (.plain (OpenSpec.upto determineSameSpec)) determineSameUptoCard

/-- THE SECOND FORM's CARD OF 'jalousielaw.CurrentTells'. -/
def currentTellsUptoCard : Claim7 := { stood := { row := currentTellsUptoRow, standIns := [], harness := (true, "a2b837569ac99325ac7e6aadd0c32000586bad45f84e2d3ef7757c8c12ceb2aa"), looks := false }, kinds := [], alts := [], laidByText := true, laidKinds := [.data], laidTests := true, laidLooks := .later }
def CurrentTellsUptoCardSaid : Prop := Claim7.holds Tryd.pinned (.plain (OpenSpec.upto currentTellsSpec)) currentTellsUptoCard

/-- THE SECOND FORM's CARD OF 'jalousiekeep.CurrentKeeps'. -/
def currentKeepsUptoCard : Claim7 := { stood := { row := currentKeepsUptoRow, standIns := [], harness := (true, "a2b837569ac99325ac7e6aadd0c32000586bad45f84e2d3ef7757c8c12ceb2aa"), looks := false }, kinds := [], alts := [], laidByText := true, laidKinds := [.data], laidTests := true, laidLooks := .later }
def CurrentKeepsUptoCardSaid : Prop := Claim7.holds Tryd.pinned (.plain (OpenSpec.upto currentKeepsSpec)) currentKeepsUptoCard

/-- THE SECOND FORM's CARD OF 'jalousiekeep.HideSees'. -/
def hideSeesUptoCard : Claim7 := { stood := { row := hideSeesUptoRow, standIns := [], harness := (true, "a2b837569ac99325ac7e6aadd0c32000586bad45f84e2d3ef7757c8c12ceb2aa"), looks := false }, kinds := [], alts := [], laidByText := true, laidKinds := [.data], laidTests := true, laidLooks := .later }
def HideSeesUptoCardSaid : Prop := Claim7.holds Tryd.pinned (.plain (OpenSpec.upto hideSeesSpec)) hideSeesUptoCard

/-- THE SECOND FORM's CARD OF 'jalousiekeep.ReachTrims'. -/
def reachTrimsUptoCard : Claim7 := { stood := { row := reachTrimsUptoRow, standIns := [], harness := (true, "a2b837569ac99325ac7e6aadd0c32000586bad45f84e2d3ef7757c8c12ceb2aa"), looks := false }, kinds := [], alts := [], laidByText := true, laidKinds := [.data], laidTests := true, laidLooks := .later }
def ReachTrimsUptoCardSaid : Prop := Claim7.holds Tryd.pinned (.plain (OpenSpec.upto reachTrimsSpec)) reachTrimsUptoCard

/-- THE SECOND FORM's CARD OF 'jalousielaw.LeastMakes'. -/
def leastMakesUptoCard : Claim7 := { stood := { row := leastMakesUptoRow, standIns := [], harness := (true, "a2b837569ac99325ac7e6aadd0c32000586bad45f84e2d3ef7757c8c12ceb2aa"), looks := false }, kinds := [], alts := [], laidByText := true, laidKinds := [.data], laidTests := true, laidLooks := .later }
def LeastMakesUptoCardSaid : Prop := Claim7.holds Tryd.pinned (.plain (OpenSpec.upto leastMakesSpec)) leastMakesUptoCard
end Rows
end Go.Proofs.YtiabkafgmanhiaaDoor
