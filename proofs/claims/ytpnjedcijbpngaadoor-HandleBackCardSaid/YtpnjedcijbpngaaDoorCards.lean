/-
  DERIVED. GIVEN WITH THE SEED: THE CARDS: each row of YtpnjedcijbpngaaDoorRows.lean that lists a variable, with what it lists TIED to the program's text (the seventh form; the later family's looks); each row that meets fmt, with fmt's text TOLD by the authors' own Lean function (tested against real Go, not proved from fmt's source: count such statements apart). THE CARD IS WHAT COUNTS. Prove the row's statement (the work); the ties are given (YtpnjedcijbpngaaDoorTie.lean); close each card by the builder's one call (the guide's Derived/Test/ToyasCard.lean, 'card_holds'). Laid BY PROGRAM, IN A SANDBOX (cutbox-door.mjs). By AI agents, Wed Nov 11 2026. No macro, syntax, notation, axiom, sorry.
-/
import Derived.Test.YtpnjedcijbpngaaDoorRows
import GoSem.ClaimSeven
namespace Go.Proofs.YtpnjedcijbpngaaDoor
namespace Rows

/-- THE TIED CARD OF 'tithelaw02.HandleMakes'. -/
def handleMakesCard : Claim7 := { stood := { row := handleMakesRow, standIns := [], harness := (true, "5adafd801a2dceaa0c03647c59905360ab5a10dcf302df45c5eb00722727f1b0"), looks := true }, kinds := [], alts := [], laidByText := true, laidKinds := [.data, .data, .data, .sentinel, .sentinel], laidTests := true, laidLooks := .later }
def HandleMakesCardSaid : Prop := Claim7.holds Tryd.pinned (.plain (OpenSpec.ofChange handleMakesSpec)) handleMakesCard

/-- THE TIED CARD OF 'tithelaw02.HandleTexts'. -/
def handleTextsCard : Claim7 := { stood := { row := handleTextsRow, standIns := [], harness := (true, "5adafd801a2dceaa0c03647c59905360ab5a10dcf302df45c5eb00722727f1b0"), looks := true }, kinds := [], alts := [], laidByText := true, laidKinds := [.data, .data, .data, .sentinel, .sentinel], laidTests := true, laidLooks := .later }
def HandleTextsCardSaid : Prop := Claim7.holds Tryd.pinned (.plain (OpenSpec.ofChange handleTextsSpec)) handleTextsCard

/-- THE TIED CARD OF 'tithelaw02.HandleParts'. -/
def handlePartsCard : Claim7 := { stood := { row := handlePartsRow, standIns := [], harness := (true, "5adafd801a2dceaa0c03647c59905360ab5a10dcf302df45c5eb00722727f1b0"), looks := true }, kinds := [], alts := [], laidByText := true, laidKinds := [.data, .data, .data, .sentinel, .sentinel], laidTests := true, laidLooks := .later }
def HandlePartsCardSaid : Prop := Claim7.holds Tryd.pinned (.plain (OpenSpec.ofChange handlePartsSpec)) handlePartsCard

/-- THE TIED CARD OF 'tithelaw02.HandleOrder'. -/
def handleOrderCard : Claim7 := { stood := { row := handleOrderRow, standIns := [], harness := (true, "5adafd801a2dceaa0c03647c59905360ab5a10dcf302df45c5eb00722727f1b0"), looks := true }, kinds := [], alts := [], laidByText := true, laidKinds := [.data, .data, .data, .sentinel, .sentinel], laidTests := true, laidLooks := .later }
def HandleOrderCardSaid : Prop := Claim7.holds Tryd.pinned (.plain (OpenSpec.ofChange handleOrderSpec)) handleOrderCard

/-- THE TIED CARD OF 'tithelaw02.HandlePacks'. -/
def handlePacksCard : Claim7 := { stood := { row := handlePacksRow, standIns := [], harness := (true, "5adafd801a2dceaa0c03647c59905360ab5a10dcf302df45c5eb00722727f1b0"), looks := true }, kinds := [], alts := [], laidByText := true, laidKinds := [.data, .data, .data, .sentinel, .sentinel], laidTests := true, laidLooks := .later }
def HandlePacksCardSaid : Prop := Claim7.holds Tryd.pinned (.plain (OpenSpec.ofChange handlePacksSpec)) handlePacksCard

/-- THE TIED CARD OF 'tithelaw02.HandleBack'. -/
def handleBackCard : Claim7 := { stood := { row := handleBackRow, standIns := [], harness := (true, "5adafd801a2dceaa0c03647c59905360ab5a10dcf302df45c5eb00722727f1b0"), looks := true }, kinds := [], alts := [], laidByText := true, laidKinds := [.data, .data, .data, .sentinel, .sentinel], laidTests := true, laidLooks := .later }
def HandleBackCardSaid : Prop := Claim7.holds Tryd.pinned (.plain (OpenSpec.ofChange handleBackSpec)) handleBackCard

/-- THE SECOND FORM's CARD OF 'tithelaw02.HandleMakes'. -/
def handleMakesUptoCard : Claim7 := { stood := { row := handleMakesUptoRow, standIns := [], harness := (true, "5adafd801a2dceaa0c03647c59905360ab5a10dcf302df45c5eb00722727f1b0"), looks := true }, kinds := [], alts := [], laidByText := true, laidKinds := [.data, .data, .data, .sentinel, .sentinel], laidTests := true, laidLooks := .later }
def HandleMakesUptoCardSaid : Prop := Claim7.holds Tryd.pinned (.plain (OpenSpec.upto handleMakesSpec)) handleMakesUptoCard

/-- THE SECOND FORM's CARD OF 'tithelaw02.HandleTexts'. -/
def handleTextsUptoCard : Claim7 := { stood := { row := handleTextsUptoRow, standIns := [], harness := (true, "5adafd801a2dceaa0c03647c59905360ab5a10dcf302df45c5eb00722727f1b0"), looks := true }, kinds := [], alts := [], laidByText := true, laidKinds := [.data, .data, .data, .sentinel, .sentinel], laidTests := true, laidLooks := .later }
def HandleTextsUptoCardSaid : Prop := Claim7.holds Tryd.pinned (.plain (OpenSpec.upto handleTextsSpec)) handleTextsUptoCard

/-- THE SECOND FORM's CARD OF 'tithelaw02.HandleParts'. -/
def handlePartsUptoCard : Claim7 := { stood := { row := handlePartsUptoRow, standIns := [], harness := (true, "5adafd801a2dceaa0c03647c59905360ab5a10dcf302df45c5eb00722727f1b0"), looks := true }, kinds := [], alts := [], laidByText := true, laidKinds := [.data, .data, .data, .sentinel, .sentinel], laidTests := true, laidLooks := .later }
def HandlePartsUptoCardSaid : Prop := Claim7.holds Tryd.pinned (.plain (OpenSpec.upto handlePartsSpec)) handlePartsUptoCard

/-- THE SECOND FORM's CARD OF 'tithelaw02.HandleOrder'. -/
def handleOrderUptoCard : Claim7 := { stood := { row := handleOrderUptoRow, standIns := [], harness := (true, "5adafd801a2dceaa0c03647c59905360ab5a10dcf302df45c5eb00722727f1b0"), looks := true }, kinds := [], alts := [], laidByText := true, laidKinds := [.data, .data, .data, .sentinel, .sentinel], laidTests := true, laidLooks := .later }
def HandleOrderUptoCardSaid : Prop := Claim7.holds Tryd.pinned (.plain (OpenSpec.upto handleOrderSpec)) handleOrderUptoCard

/-- THE SECOND FORM's CARD OF 'tithelaw02.HandlePacks'. -/
def handlePacksUptoCard : Claim7 := { stood := { row := handlePacksUptoRow, standIns := [], harness := (true, "5adafd801a2dceaa0c03647c59905360ab5a10dcf302df45c5eb00722727f1b0"), looks := true }, kinds := [], alts := [], laidByText := true, laidKinds := [.data, .data, .data, .sentinel, .sentinel], laidTests := true, laidLooks := .later }
def HandlePacksUptoCardSaid : Prop := Claim7.holds Tryd.pinned (.plain (OpenSpec.upto handlePacksSpec)) handlePacksUptoCard

/-- THE SECOND FORM's CARD OF 'tithelaw02.HandleBack'. -/
def handleBackUptoCard : Claim7 := { stood := { row := handleBackUptoRow, standIns := [], harness := (true, "5adafd801a2dceaa0c03647c59905360ab5a10dcf302df45c5eb00722727f1b0"), looks := true }, kinds := [], alts := [], laidByText := true, laidKinds := [.data, .data, .data, .sentinel, .sentinel], laidTests := true, laidLooks := .later }
def HandleBackUptoCardSaid : Prop := Claim7.holds Tryd.pinned (.plain (OpenSpec.upto handleBackSpec)) handleBackUptoCard
end Rows
end Go.Proofs.YtpnjedcijbpngaaDoor
