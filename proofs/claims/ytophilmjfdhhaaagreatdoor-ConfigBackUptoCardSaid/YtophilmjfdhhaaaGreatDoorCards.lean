/-
  DERIVED. GIVEN WITH THE SEED: THE CARDS: each row of YtophilmjfdhhaaaGreatDoorRows.lean that lists a variable, with what it lists TIED to the program's text (the seventh form; the later family's looks); each row that meets fmt, with fmt's text TOLD by the authors' own Lean function (tested against real Go, not proved from fmt's source: count such statements apart). THE CARD IS WHAT COUNTS. Prove the row's statement (the work); the ties are given (YtophilmjfdhhaaaGreatDoorTie.lean); close each card by the builder's one call (the guide's Derived/Test/ToyasCard.lean, 'card_holds'). Laid BY PROGRAM, IN A SANDBOX (cutbox-door.mjs). By AI agents, Wed Nov 11 2026. No macro, syntax, notation, axiom, sorry.
-/
import Derived.Test.YtophilmjfdhhaaaGreatDoorRows
import GoSem.ClaimSeven
namespace Go.Proofs.YtophilmjfdhhaaaGreatDoor
namespace Rows

/-- THE TIED CARD OF 'tithelaw25.ConfigParses'. -/
def configParsesCard : Claim7 := { stood := { row := configParsesRow, standIns := [], harness := (true, "2062ae9bf6c4c086093aafd81599d797b249b6ba018e154753bc31ee65ff1763"), looks := true }, kinds := [], alts := [], laidByText := true, laidKinds := [.data, .data, .data, .data, .handle, .sentinel, .sentinel, .pinned], laidTests := true, laidLooks := .later }
def ConfigParsesCardSaid : Prop := Claim7.holds Tryz.pinned (.plain (OpenSpec.ofChange configParsesSpec)) configParsesCard

/-- THE TIED CARD OF 'tithelaw25.ConfigSilent'. -/
def configSilentCard : Claim7 := { stood := { row := configSilentRow, standIns := [], harness := (true, "2062ae9bf6c4c086093aafd81599d797b249b6ba018e154753bc31ee65ff1763"), looks := true }, kinds := [], alts := [], laidByText := true, laidKinds := [.data, .data, .data, .data, .handle, .sentinel, .sentinel, .pinned], laidTests := true, laidLooks := .later }
def ConfigSilentCardSaid : Prop := Claim7.holds Tryz.pinned (.plain (OpenSpec.ofChange configSilentSpec)) configSilentCard

/-- THE TIED CARD OF 'tithelaw25.ConfigFinds'. -/
def configFindsCard : Claim7 := { stood := { row := configFindsRow, standIns := [], harness := (true, "2062ae9bf6c4c086093aafd81599d797b249b6ba018e154753bc31ee65ff1763"), looks := true }, kinds := [], alts := [], laidByText := true, laidKinds := [.data, .data, .data, .data, .handle, .sentinel, .sentinel, .pinned], laidTests := true, laidLooks := .later }
def ConfigFindsCardSaid : Prop := Claim7.holds Tryz.pinned (.plain (OpenSpec.ofChange configFindsSpec)) configFindsCard

/-- THE TIED CARD OF 'tithelaw25.ConfigPrints'. -/
def configPrintsCard : Claim7 := { stood := { row := configPrintsRow, standIns := [], harness := (true, "2062ae9bf6c4c086093aafd81599d797b249b6ba018e154753bc31ee65ff1763"), looks := true }, kinds := [], alts := [], laidByText := true, laidKinds := [.data, .data, .data, .data, .handle, .sentinel, .sentinel, .pinned], laidTests := true, laidLooks := .later }
def ConfigPrintsCardSaid : Prop := Claim7.holds Tryz.pinned (.plain (OpenSpec.ofChange configPrintsSpec)) configPrintsCard

/-- THE TIED CARD OF 'tithelaw25.ConfigBack'. -/
def configBackCard : Claim7 := { stood := { row := configBackRow, standIns := [], harness := (true, "2062ae9bf6c4c086093aafd81599d797b249b6ba018e154753bc31ee65ff1763"), looks := true }, kinds := [], alts := [], laidByText := true, laidKinds := [.data, .data, .data, .data, .handle, .sentinel, .sentinel, .pinned], laidTests := true, laidLooks := .later }
def ConfigBackCardSaid : Prop := Claim7.holds Tryz.pinned (.plain (OpenSpec.ofChange configBackSpec)) configBackCard

/-- THE SECOND FORM's CARD OF 'tithelaw25.ConfigParses'. -/
def configParsesUptoCard : Claim7 := { stood := { row := configParsesUptoRow, standIns := [], harness := (true, "2062ae9bf6c4c086093aafd81599d797b249b6ba018e154753bc31ee65ff1763"), looks := true }, kinds := [], alts := [], laidByText := true, laidKinds := [.data, .data, .data, .data, .handle, .sentinel, .sentinel, .pinned], laidTests := true, laidLooks := .later }
def ConfigParsesUptoCardSaid : Prop := Claim7.holds Tryz.pinned (.plain (OpenSpec.upto configParsesSpec)) configParsesUptoCard

/-- THE SECOND FORM's CARD OF 'tithelaw25.ConfigSilent'. -/
def configSilentUptoCard : Claim7 := { stood := { row := configSilentUptoRow, standIns := [], harness := (true, "2062ae9bf6c4c086093aafd81599d797b249b6ba018e154753bc31ee65ff1763"), looks := true }, kinds := [], alts := [], laidByText := true, laidKinds := [.data, .data, .data, .data, .handle, .sentinel, .sentinel, .pinned], laidTests := true, laidLooks := .later }
def ConfigSilentUptoCardSaid : Prop := Claim7.holds Tryz.pinned (.plain (OpenSpec.upto configSilentSpec)) configSilentUptoCard

/-- THE SECOND FORM's CARD OF 'tithelaw25.ConfigFinds'. -/
def configFindsUptoCard : Claim7 := { stood := { row := configFindsUptoRow, standIns := [], harness := (true, "2062ae9bf6c4c086093aafd81599d797b249b6ba018e154753bc31ee65ff1763"), looks := true }, kinds := [], alts := [], laidByText := true, laidKinds := [.data, .data, .data, .data, .handle, .sentinel, .sentinel, .pinned], laidTests := true, laidLooks := .later }
def ConfigFindsUptoCardSaid : Prop := Claim7.holds Tryz.pinned (.plain (OpenSpec.upto configFindsSpec)) configFindsUptoCard

/-- THE SECOND FORM's CARD OF 'tithelaw25.ConfigPrints'. -/
def configPrintsUptoCard : Claim7 := { stood := { row := configPrintsUptoRow, standIns := [], harness := (true, "2062ae9bf6c4c086093aafd81599d797b249b6ba018e154753bc31ee65ff1763"), looks := true }, kinds := [], alts := [], laidByText := true, laidKinds := [.data, .data, .data, .data, .handle, .sentinel, .sentinel, .pinned], laidTests := true, laidLooks := .later }
def ConfigPrintsUptoCardSaid : Prop := Claim7.holds Tryz.pinned (.plain (OpenSpec.upto configPrintsSpec)) configPrintsUptoCard

/-- THE SECOND FORM's CARD OF 'tithelaw25.ConfigBack'. -/
def configBackUptoCard : Claim7 := { stood := { row := configBackUptoRow, standIns := [], harness := (true, "2062ae9bf6c4c086093aafd81599d797b249b6ba018e154753bc31ee65ff1763"), looks := true }, kinds := [], alts := [], laidByText := true, laidKinds := [.data, .data, .data, .data, .handle, .sentinel, .sentinel, .pinned], laidTests := true, laidLooks := .later }
def ConfigBackUptoCardSaid : Prop := Claim7.holds Tryz.pinned (.plain (OpenSpec.upto configBackSpec)) configBackUptoCard
end Rows
end Go.Proofs.YtophilmjfdhhaaaGreatDoor
