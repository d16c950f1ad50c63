/-
  DERIVED. GIVEN WITH THE SEED: THE CARDS: each row of YtmfmmopnapchjaaDoorRows.lean that lists a variable, with what it lists TIED to the program's text (the seventh form; the later family's looks); each row that meets fmt, with fmt's text TOLD by the authors' own Lean function (tested against real Go, not proved from fmt's source: count such statements apart). THE CARD IS WHAT COUNTS. Prove the row's statement (the work); the ties are given (YtmfmmopnapchjaaDoorTie.lean); close each card by the builder's one call (the guide's Derived/Test/ToyasCard.lean, 'card_holds'). Laid BY PROGRAM, IN A SANDBOX (cutbox-door.mjs). By AI agents, Wed Nov 11 2026. No macro, syntax, notation, axiom, sorry.
-/
import Derived.Test.YtmfmmopnapchjaaDoorRows
import GoSem.ClaimSeven
namespace Go.Proofs.YtmfmmopnapchjaaDoor
namespace Rows

/-- THE TIED CARD OF 'tithelaw27.SnapSums'. -/
def snapSumsCard : Claim7 := { stood := { row := snapSumsRow, standIns := [], harness := (true, "bf903d358a5ac57273915d3c6127b5a2269ab0586f6d01285df88117985fa799"), looks := false }, kinds := [], alts := [], laidByText := true, laidKinds := [.data, .data, .data], laidTests := true, laidLooks := .later }
def SnapSumsCardSaid : Prop := Claim7.holds Tryd.pinned (.plain (OpenSpec.ofChange snapSumsSpec)) snapSumsCard

/-- THE TIED CARD OF 'tithelaw27.SnapHandles'. -/
def snapHandlesCard : Claim7 := { stood := { row := snapHandlesRow, standIns := [], harness := (true, "bf903d358a5ac57273915d3c6127b5a2269ab0586f6d01285df88117985fa799"), looks := false }, kinds := [], alts := [], laidByText := true, laidKinds := [.data, .data, .data], laidTests := true, laidLooks := .later }
def SnapHandlesCardSaid : Prop := Claim7.holds Tryd.pinned (.plain (OpenSpec.ofChange snapHandlesSpec)) snapHandlesCard

/-- THE SECOND FORM's CARD OF 'tithelaw27.SnapSums'. -/
def snapSumsUptoCard : Claim7 := { stood := { row := snapSumsUptoRow, standIns := [], harness := (true, "bf903d358a5ac57273915d3c6127b5a2269ab0586f6d01285df88117985fa799"), looks := false }, kinds := [], alts := [], laidByText := true, laidKinds := [.data, .data, .data], laidTests := true, laidLooks := .later }
def SnapSumsUptoCardSaid : Prop := Claim7.holds Tryd.pinned (.plain (OpenSpec.upto snapSumsSpec)) snapSumsUptoCard

/-- THE SECOND FORM's CARD OF 'tithelaw27.SnapHandles'. -/
def snapHandlesUptoCard : Claim7 := { stood := { row := snapHandlesUptoRow, standIns := [], harness := (true, "bf903d358a5ac57273915d3c6127b5a2269ab0586f6d01285df88117985fa799"), looks := false }, kinds := [], alts := [], laidByText := true, laidKinds := [.data, .data, .data], laidTests := true, laidLooks := .later }
def SnapHandlesUptoCardSaid : Prop := Claim7.holds Tryd.pinned (.plain (OpenSpec.upto snapHandlesSpec)) snapHandlesUptoCard
end Rows
end Go.Proofs.YtmfmmopnapchjaaDoor
