/-
  DERIVED. GIVEN WITH THE SEED: THE CARDS: each row of YtcjedgiglimipaaDoorRows.lean that lists a variable, with what it lists TIED to the program's text (the seventh form; the later family's looks); each row that meets fmt, with fmt's text TOLD by the authors' own Lean function (tested against real Go, not proved from fmt's source: count such statements apart). THE CARD IS WHAT COUNTS. Prove the row's statement (the work); the ties are given (YtcjedgiglimipaaDoorTie.lean); close each card by the builder's one call (the guide's Derived/Test/ToyasCard.lean, 'card_holds'). Laid BY PROGRAM, IN A SANDBOX (cutbox-door.mjs). By AI agents, Wed Nov 11 2026. No macro, syntax, notation, axiom, sorry.
-/
import Derived.Test.YtcjedgiglimipaaDoorRows
import GoSem.ClaimSeven
namespace Go.Proofs.YtcjedgiglimipaaDoor
namespace Rows

/-- THE TIED CARD OF 'jalousielaw.HideMakes'. -/
def hideMakesCard : Claim7 := { stood := { row := hideMakesRow, standIns := [], harness := (true, "b705ec1ad58c9f86489381e4efdb52938e448aed8a165223717475e88b3b21c1"), looks := false }, kinds := [], alts := [], laidByText := true, laidKinds := [.data], laidTests := true, laidLooks := .later }
def HideMakesCardSaid : Prop := Claim7.holds Tryd.pinned (.plain (OpenSpec.ofChange hideMakesSpec)) hideMakesCard

/-- THE TIED CARD OF 'jalousietop.TopLanguage'. -/
def topLanguageCard : Claim7 := { stood := { row := topLanguageRow, standIns := [], harness := (true, "b705ec1ad58c9f86489381e4efdb52938e448aed8a165223717475e88b3b21c1"), looks := false }, kinds := [], alts := [], laidByText := true, laidKinds := [.data], laidTests := true, laidLooks := .later }
def TopLanguageCardSaid : Prop := Claim7.holds Tryd.pinned (.plain (OpenSpec.ofChange topLanguageSpec)) topLanguageCard

/-- THE TIED CARD OF 'jalousiekeep.HideSees'. -/
def hideSeesCard : Claim7 := { stood := { row := hideSeesRow, standIns := [], harness := (true, "b705ec1ad58c9f86489381e4efdb52938e448aed8a165223717475e88b3b21c1"), looks := false }, kinds := [], alts := [], laidByText := true, laidKinds := [.data], laidTests := true, laidLooks := .later }
def HideSeesCardSaid : Prop := Claim7.holds Tryd.pinned (.plain (OpenSpec.ofChange hideSeesSpec)) hideSeesCard

/-- THE TIED CARD OF 'jalousielaw.LeastMakes'. -/
def leastMakesCard : Claim7 := { stood := { row := leastMakesRow, standIns := [], harness := (true, "b705ec1ad58c9f86489381e4efdb52938e448aed8a165223717475e88b3b21c1"), looks := false }, kinds := [], alts := [], laidByText := true, laidKinds := [.data], laidTests := true, laidLooks := .later }
def LeastMakesCardSaid : Prop := Claim7.holds Tryd.pinned (.plain (OpenSpec.ofChange leastMakesSpec)) leastMakesCard

/-- THE TIED CARD OF 'jalousielaw.LeastTells'. -/
def leastTellsCard : Claim7 := { stood := { row := leastTellsRow, standIns := [], harness := (true, "b705ec1ad58c9f86489381e4efdb52938e448aed8a165223717475e88b3b21c1"), looks := false }, kinds := [], alts := [], laidByText := true, laidKinds := [.data], laidTests := true, laidLooks := .later }
def LeastTellsCardSaid : Prop := Claim7.holds Tryd.pinned (.plain (OpenSpec.ofChange leastTellsSpec)) leastTellsCard

/-- THE TIED CARD OF 'jalousielaw.LeastFewest'. -/
def leastFewestCard : Claim7 := { stood := { row := leastFewestRow, standIns := [], harness := (true, "b705ec1ad58c9f86489381e4efdb52938e448aed8a165223717475e88b3b21c1"), looks := false }, kinds := [], alts := [], laidByText := true, laidKinds := [.data], laidTests := true, laidLooks := .later }
def LeastFewestCardSaid : Prop := Claim7.holds Tryd.pinned (.plain (OpenSpec.ofChange leastFewestSpec)) leastFewestCard

/-- THE TIED CARD OF 'jalousielaw.VeilMakes'. -/
def veilMakesCard : Claim7 := { stood := { row := veilMakesRow, standIns := [], harness := (true, "b705ec1ad58c9f86489381e4efdb52938e448aed8a165223717475e88b3b21c1"), looks := false }, kinds := [], alts := [], laidByText := true, laidKinds := [.data], laidTests := true, laidLooks := .later }
def VeilMakesCardSaid : Prop := Claim7.holds Tryd.pinned (.plain (OpenSpec.ofChange veilMakesSpec)) veilMakesCard

/-- THE TIED CARD OF 'jalousielaw.VeilKeeps'. -/
def veilKeepsCard : Claim7 := { stood := { row := veilKeepsRow, standIns := [], harness := (true, "b705ec1ad58c9f86489381e4efdb52938e448aed8a165223717475e88b3b21c1"), looks := false }, kinds := [], alts := [], laidByText := true, laidKinds := [.data], laidTests := true, laidLooks := .later }
def VeilKeepsCardSaid : Prop := Claim7.holds Tryd.pinned (.plain (OpenSpec.ofChange veilKeepsSpec)) veilKeepsCard

/-- THE TIED CARD OF 'jalousielaw.VeilMost'. -/
def veilMostCard : Claim7 := { stood := { row := veilMostRow, standIns := [], harness := (true, "b705ec1ad58c9f86489381e4efdb52938e448aed8a165223717475e88b3b21c1"), looks := false }, kinds := [], alts := [], laidByText := true, laidKinds := [.data], laidTests := true, laidLooks := .later }
def VeilMostCardSaid : Prop := Claim7.holds Tryd.pinned (.plain (OpenSpec.ofChange veilMostSpec)) veilMostCard

/-- THE TIED CARD OF 'jalousielaw.BesideMakes'. -/
def besideMakesCard : Claim7 := { stood := { row := besideMakesRow, standIns := [], harness := (true, "b705ec1ad58c9f86489381e4efdb52938e448aed8a165223717475e88b3b21c1"), looks := false }, kinds := [], alts := [], laidByText := true, laidKinds := [.data], laidTests := true, laidLooks := .later }
def BesideMakesCardSaid : Prop := Claim7.holds Tryd.pinned (.plain (OpenSpec.ofChange besideMakesSpec)) besideMakesCard

/-- THE TIED CARD OF 'jalousiekeep.BesideBoth'. -/
def besideBothCard : Claim7 := { stood := { row := besideBothRow, standIns := [], harness := (true, "b705ec1ad58c9f86489381e4efdb52938e448aed8a165223717475e88b3b21c1"), looks := false }, kinds := [], alts := [], laidByText := true, laidKinds := [.data], laidTests := true, laidLooks := .later }
def BesideBothCardSaid : Prop := Claim7.holds Tryd.pinned (.plain (OpenSpec.ofChange besideBothSpec)) besideBothCard

/-- THE TIED CARD OF 'jalousietop.TopBoth'. -/
def topBothCard : Claim7 := { stood := { row := topBothRow, standIns := [], harness := (true, "b705ec1ad58c9f86489381e4efdb52938e448aed8a165223717475e88b3b21c1"), looks := false }, kinds := [], alts := [], laidByText := true, laidKinds := [.data], laidTests := true, laidLooks := .later }
def TopBothCardSaid : Prop := Claim7.holds Tryd.pinned (.plain (OpenSpec.ofChange topBothSpec)) topBothCard

/-- THE SECOND FORM's CARD OF 'jalousielaw.HideMakes'. -/
def hideMakesUptoCard : Claim7 := { stood := { row := hideMakesUptoRow, standIns := [], harness := (true, "b705ec1ad58c9f86489381e4efdb52938e448aed8a165223717475e88b3b21c1"), looks := false }, kinds := [], alts := [], laidByText := true, laidKinds := [.data], laidTests := true, laidLooks := .later }
def HideMakesUptoCardSaid : Prop := Claim7.holds Tryd.pinned (.plain (OpenSpec.upto hideMakesSpec)) hideMakesUptoCard

/-- THE SECOND FORM's CARD OF 'jalousietop.TopLanguage'. -/
def topLanguageUptoCard : Claim7 := { stood := { row := topLanguageUptoRow, standIns := [], harness := (true, "b705ec1ad58c9f86489381e4efdb52938e448aed8a165223717475e88b3b21c1"), looks := false }, kinds := [], alts := [], laidByText := true, laidKinds := [.data], laidTests := true, laidLooks := .later }
def TopLanguageUptoCardSaid : Prop := Claim7.holds Tryd.pinned (.plain (OpenSpec.upto topLanguageSpec)) topLanguageUptoCard

/-- THE SECOND FORM's CARD OF 'jalousiekeep.HideSees'. -/
def hideSeesUptoCard : Claim7 := { stood := { row := hideSeesUptoRow, standIns := [], harness := (true, "b705ec1ad58c9f86489381e4efdb52938e448aed8a165223717475e88b3b21c1"), looks := false }, kinds := [], alts := [], laidByText := true, laidKinds := [.data], laidTests := true, laidLooks := .later }
def HideSeesUptoCardSaid : Prop := Claim7.holds Tryd.pinned (.plain (OpenSpec.upto hideSeesSpec)) hideSeesUptoCard

/-- THE SECOND FORM's CARD OF 'jalousielaw.LeastMakes'. -/
def leastMakesUptoCard : Claim7 := { stood := { row := leastMakesUptoRow, standIns := [], harness := (true, "b705ec1ad58c9f86489381e4efdb52938e448aed8a165223717475e88b3b21c1"), looks := false }, kinds := [], alts := [], laidByText := true, laidKinds := [.data], laidTests := true, laidLooks := .later }
def LeastMakesUptoCardSaid : Prop := Claim7.holds Tryd.pinned (.plain (OpenSpec.upto leastMakesSpec)) leastMakesUptoCard

/-- THE SECOND FORM's CARD OF 'jalousielaw.LeastTells'. -/
def leastTellsUptoCard : Claim7 := { stood := { row := leastTellsUptoRow, standIns := [], harness := (true, "b705ec1ad58c9f86489381e4efdb52938e448aed8a165223717475e88b3b21c1"), looks := false }, kinds := [], alts := [], laidByText := true, laidKinds := [.data], laidTests := true, laidLooks := .later }
def LeastTellsUptoCardSaid : Prop := Claim7.holds Tryd.pinned (.plain (OpenSpec.upto leastTellsSpec)) leastTellsUptoCard

/-- THE SECOND FORM's CARD OF 'jalousielaw.LeastFewest'. -/
def leastFewestUptoCard : Claim7 := { stood := { row := leastFewestUptoRow, standIns := [], harness := (true, "b705ec1ad58c9f86489381e4efdb52938e448aed8a165223717475e88b3b21c1"), looks := false }, kinds := [], alts := [], laidByText := true, laidKinds := [.data], laidTests := true, laidLooks := .later }
def LeastFewestUptoCardSaid : Prop := Claim7.holds Tryd.pinned (.plain (OpenSpec.upto leastFewestSpec)) leastFewestUptoCard

/-- THE SECOND FORM's CARD OF 'jalousielaw.VeilMakes'. -/
def veilMakesUptoCard : Claim7 := { stood := { row := veilMakesUptoRow, standIns := [], harness := (true, "b705ec1ad58c9f86489381e4efdb52938e448aed8a165223717475e88b3b21c1"), looks := false }, kinds := [], alts := [], laidByText := true, laidKinds := [.data], laidTests := true, laidLooks := .later }
def VeilMakesUptoCardSaid : Prop := Claim7.holds Tryd.pinned (.plain (OpenSpec.upto veilMakesSpec)) veilMakesUptoCard

/-- THE SECOND FORM's CARD OF 'jalousielaw.VeilKeeps'. -/
def veilKeepsUptoCard : Claim7 := { stood := { row := veilKeepsUptoRow, standIns := [], harness := (true, "b705ec1ad58c9f86489381e4efdb52938e448aed8a165223717475e88b3b21c1"), looks := false }, kinds := [], alts := [], laidByText := true, laidKinds := [.data], laidTests := true, laidLooks := .later }
def VeilKeepsUptoCardSaid : Prop := Claim7.holds Tryd.pinned (.plain (OpenSpec.upto veilKeepsSpec)) veilKeepsUptoCard

/-- THE SECOND FORM's CARD OF 'jalousielaw.VeilMost'. -/
def veilMostUptoCard : Claim7 := { stood := { row := veilMostUptoRow, standIns := [], harness := (true, "b705ec1ad58c9f86489381e4efdb52938e448aed8a165223717475e88b3b21c1"), looks := false }, kinds := [], alts := [], laidByText := true, laidKinds := [.data], laidTests := true, laidLooks := .later }
def VeilMostUptoCardSaid : Prop := Claim7.holds Tryd.pinned (.plain (OpenSpec.upto veilMostSpec)) veilMostUptoCard

/-- THE SECOND FORM's CARD OF 'jalousielaw.BesideMakes'. -/
def besideMakesUptoCard : Claim7 := { stood := { row := besideMakesUptoRow, standIns := [], harness := (true, "b705ec1ad58c9f86489381e4efdb52938e448aed8a165223717475e88b3b21c1"), looks := false }, kinds := [], alts := [], laidByText := true, laidKinds := [.data], laidTests := true, laidLooks := .later }
def BesideMakesUptoCardSaid : Prop := Claim7.holds Tryd.pinned (.plain (OpenSpec.upto besideMakesSpec)) besideMakesUptoCard

/-- THE SECOND FORM's CARD OF 'jalousiekeep.BesideBoth'. -/
def besideBothUptoCard : Claim7 := { stood := { row := besideBothUptoRow, standIns := [], harness := (true, "b705ec1ad58c9f86489381e4efdb52938e448aed8a165223717475e88b3b21c1"), looks := false }, kinds := [], alts := [], laidByText := true, laidKinds := [.data], laidTests := true, laidLooks := .later }
def BesideBothUptoCardSaid : Prop := Claim7.holds Tryd.pinned (.plain (OpenSpec.upto besideBothSpec)) besideBothUptoCard

/-- THE SECOND FORM's CARD OF 'jalousietop.TopBoth'. -/
def topBothUptoCard : Claim7 := { stood := { row := topBothUptoRow, standIns := [], harness := (true, "b705ec1ad58c9f86489381e4efdb52938e448aed8a165223717475e88b3b21c1"), looks := false }, kinds := [], alts := [], laidByText := true, laidKinds := [.data], laidTests := true, laidLooks := .later }
def TopBothUptoCardSaid : Prop := Claim7.holds Tryd.pinned (.plain (OpenSpec.upto topBothSpec)) topBothUptoCard
end Rows
end Go.Proofs.YtcjedgiglimipaaDoor
