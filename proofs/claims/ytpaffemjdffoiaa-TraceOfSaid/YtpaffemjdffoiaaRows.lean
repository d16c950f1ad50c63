/-
  No cell of these rows narrows 'for every input' (looked for: loops, veiled, ifaces, maps, wideKeys, modest, calm, conditions, laid).
  DERIVED. THE GIVEN ROWS OF THIS SEAT. 2 by the template 'for every input the law returns true; each argument reads behind the call as it read before'; 0 by the template 'total and deterministic' (their statements: YtpaffemjdffoiaaTotals.lean).
  GIVEN WITH THE SEED: the statements are not yours to turn. If you find one false, say at which input.
  Laid BY PROGRAM, IN A SANDBOX (cutbox-rows.mjs): the forced cells as the released guide's own fill.sh prints them over the translation 83fde63837b6b744… (all of the seat's roots in one cut). By AI agents, Wed Nov 11 2026. No macro, syntax, notation, axiom, sorry.
-/
import Derived.Test.YtpaffemjdffoiaaChecked
import GoSem.Claim
import GoSem.ClaimJoined
import GoSem.ClaimMapViews
import Derived.JoinedTies
import Derived.KernelRfl
namespace Go.Proofs.Ytpaffemjdffoiaa
/- THE CELL 'sum', in the pinned program and in every row, IS THE sha256 OF THE DUMP (.gsa) THAT YtpaffemjdffoiaaProg.lean LOADS. Nothing in Lean hashes anything: it is a label: what it is worth is what the hold of that sum in a sandbox is worth. -/
noncomputable def Try.pinned : Pinned := { name := "ytpaffemjdffoiaa", sum := "83fde63837b6b74480fe064146fee99d475eb78fd9c3903b36dbe6c4b4786d64", checked := Try.checked }
namespace Rows
def none {H : Type} : Left H := { results := [], args := [] }

/-- 'tithelaw19.TraceLast': WHATEVER THE INPUT: true; the input reads as it did. -/
def traceLastSpec : ChangeSpec := { name := "traceLast", fn := fun _ => fun
  | [d1, d2] => { results := [.lit (.bool true)], args := [d1, d2] }
  | _ => none }
def traceLastRow : OpenClaim := { program := "ytpaffemjdffoiaa", sum := "83fde63837b6b74480fe064146fee99d475eb78fd9c3903b36dbe6c4b4786d64", func := "tithe/tithelaw19.TraceLast", spec := "traceLast", unfollowed := true, recurses := true, apart := false }
def TraceLastSaid : Prop := traceLastRow.holds Try.pinned (OpenSpec.ofChange traceLastSpec)

/-- ITS FALSE NEIGHBOUR: 'it returns false'. Refute it at one input. -/
def traceLastWrong : ChangeSpec := { name := "traceLast", fn := fun _ => fun
  | [d1, d2] => { results := [.lit (.bool false)], args := [d1, d2] }
  | _ => none }
def TraceLastWrongFalsely : Prop := traceLastRow.holds Try.pinned (OpenSpec.ofChange traceLastWrong)

/-- 'tithelaw19.TraceOf': WHATEVER THE INPUT: true; the input reads as it did. -/
def traceOfSpec : ChangeSpec := { name := "traceOf", fn := fun _ => fun
  | [d1, d2] => { results := [.lit (.bool true)], args := [d1, d2] }
  | _ => none }
def traceOfRow : OpenClaim := { program := "ytpaffemjdffoiaa", sum := "83fde63837b6b74480fe064146fee99d475eb78fd9c3903b36dbe6c4b4786d64", func := "tithe/tithelaw19.TraceOf", spec := "traceOf", unfollowed := true, recurses := true, apart := false }
def TraceOfSaid : Prop := traceOfRow.holds Try.pinned (OpenSpec.ofChange traceOfSpec)

/-- ITS FALSE NEIGHBOUR: 'it returns false'. Refute it at one input. -/
def traceOfWrong : ChangeSpec := { name := "traceOf", fn := fun _ => fun
  | [d1, d2] => { results := [.lit (.bool false)], args := [d1, d2] }
  | _ => none }
def TraceOfWrongFalsely : Prop := traceOfRow.holds Try.pinned (OpenSpec.ofChange traceOfWrong)

/- THE SECOND FORM. 'bulk': how many values and letters a reading holds, each counted each time it is reached (what is shared counts as often as it is met; a slice's spare places count too). A statement '..UptoSaid' is the law's where the arguments, and the package variables that the reading takes, are together of bulk at most 1048576: NARROWER than '..Said'. Prove '..Said' where nothing that the law and all that it calls make is longer than what came in: it says more and counts as full. Else prove '..UptoSaid'. A law counts once. -/
mutual
def uptoBulk {H : Type} : DataW H → Nat
  | .lit (.string bytes) => bytes.length + 1
  | .lit _ => 1
  | .nil => 1
  | .ptr d => uptoBulk d + 1
  | .slice elems spare => uptoBulkAll elems + uptoBulkAll spare + 1
  | .agg parts => uptoBulkAll parts + 1
  | .iface _ d => uptoBulk d + 1
  | .map entries => uptoBulkEntries entries + 1
  | .held _ => 1
def uptoBulkAll {H : Type} : List (DataW H) → Nat
  | [] => 0
  | d :: r => uptoBulk d + uptoBulkAll r
def uptoBulkEntries {H : Type} : List (Lit × DataW H) → Nat
  | [] => 0
  | x :: r => uptoBulkEntry x + uptoBulkEntries r
def uptoBulkEntry {H : Type} : Lit × DataW H → Nat
  | (.string bytes, d) => bytes.length + uptoBulk d + 1
  | (_, d) => uptoBulk d + 1
 end
def uptoSmall : (H : Type) → List (DataW H) → Bool := fun _ ds => decide (uptoBulkAll ds ≤ 1048576)
def OpenSpec.upto (s : _root_.Go.ChangeSpec) : _root_.Go.OpenSpec := { _root_.Go.OpenSpec.ofChange s with cond := some uptoSmall }

/-- 'tithelaw19.TraceLast', WHERE WHAT IT READS IS OF BULK AT MOST 1048576: true; the input reads as it did. -/
def traceLastUptoRow : OpenClaim := { program := "ytpaffemjdffoiaa", sum := "83fde63837b6b74480fe064146fee99d475eb78fd9c3903b36dbe6c4b4786d64", func := "tithe/tithelaw19.TraceLast", spec := "traceLast", unfollowed := true, recurses := true, apart := false, narrowed := true }
def TraceLastUptoSaid : Prop := traceLastUptoRow.holds Try.pinned (OpenSpec.upto traceLastSpec)

/-- 'tithelaw19.TraceOf', WHERE WHAT IT READS IS OF BULK AT MOST 1048576: true; the input reads as it did. -/
def traceOfUptoRow : OpenClaim := { program := "ytpaffemjdffoiaa", sum := "83fde63837b6b74480fe064146fee99d475eb78fd9c3903b36dbe6c4b4786d64", func := "tithe/tithelaw19.TraceOf", spec := "traceOf", unfollowed := true, recurses := true, apart := false, narrowed := true }
def TraceOfUptoSaid : Prop := traceOfUptoRow.holds Try.pinned (OpenSpec.upto traceOfSpec)

end Rows
end Go.Proofs.Ytpaffemjdffoiaa
