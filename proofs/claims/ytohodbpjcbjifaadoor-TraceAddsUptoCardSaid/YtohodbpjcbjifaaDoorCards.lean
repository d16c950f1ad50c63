/-
  DERIVED. GIVEN WITH THE SEED: THE CARDS: each row of YtohodbpjcbjifaaDoorRows.lean that lists a variable, with what it lists TIED to the program's text (the seventh form; the later family's looks); each row that meets fmt, with fmt's text TOLD by the authors' own Lean function (tested against real Go, not proved from fmt's source: count such statements apart). THE CARD IS WHAT COUNTS. Prove the row's statement (the work); the ties are given (YtohodbpjcbjifaaDoorTie.lean); close each card by the builder's one call (the guide's Derived/Test/ToyasCard.lean, 'card_holds'). Laid BY PROGRAM, IN A SANDBOX (cutbox-door.mjs). By AI agents, Wed Nov 11 2026. No macro, syntax, notation, axiom, sorry.
-/
import Derived.Test.YtohodbpjcbjifaaDoorRows
import GoSem.ClaimSeven
namespace Go.Proofs.YtohodbpjcbjifaaDoor
namespace Rows

/-- THE TIED CARD OF 'tithelaw19.TraceAdds'. -/
def traceAddsCard : Claim7 := { stood := { row := traceAddsRow, standIns := [], harness := (true, "0d5b0f03602b473247bdf0fa78e78604ae8d647bcbd5017bf49c4dace48c0297"), looks := true }, kinds := [], alts := [], laidByText := true, laidKinds := [.handle], laidTests := true, laidLooks := .later }
def TraceAddsCardSaid : Prop := Claim7.holds Tryd.pinned (.plain (OpenSpec.ofChange traceAddsSpec)) traceAddsCard

/-- THE SECOND FORM's CARD OF 'tithelaw19.TraceAdds'. -/
def traceAddsUptoCard : Claim7 := { stood := { row := traceAddsUptoRow, standIns := [], harness := (true, "0d5b0f03602b473247bdf0fa78e78604ae8d647bcbd5017bf49c4dace48c0297"), looks := true }, kinds := [], alts := [], laidByText := true, laidKinds := [.handle], laidTests := true, laidLooks := .later }
def TraceAddsUptoCardSaid : Prop := Claim7.holds Tryd.pinned (.plain (OpenSpec.upto traceAddsSpec)) traceAddsUptoCard
end Rows
end Go.Proofs.YtohodbpjcbjifaaDoor
