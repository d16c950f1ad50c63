/- What the world holds when a law of this seat is called: the package variables of Go's library that its code reads; it is kept by whatever leaves old blocks alone. -/
import Derived.WalkKit
import Derived.WalkLawsBesides
import Derived.WalkSpells
import Derived.Lib.LaidTab
import Derived.Lib.Hide
import Derived.Stop.LaidErr
import Derived.Lib.SmallJoins
import Derived.Lib.AppendIntMem
import Derived.Lib.AtoiAll
import Derived.Lib.QuietBelow
import Derived.Lib.ItoaNum
import Derived.Test.YtmfmmopnapchjaaDoorShelf
import Derived.Test.YtmfmmopnapchjaaDoorOwn
namespace Go.Proofs.YtmfmmopnapchjaaDoor
open Go Go.RowKit Go.Shelf

/-- What is read of the library's package variables. -/
structure Env (w : World) : Prop where
  maxlen : ∃ m, w.cell? ⟨0, 0, none⟩ = some (.int .i64 m)
  tab : Lib.TabIs Tryd.prog w "internal/strconv.uint64pow10" .u64 Lib.pow10Tab

theorem gTab : Tryd.prog.globalNamed "internal/strconv.uint64pow10" = some 1 := by kernel_rfl

/-- It is kept by whatever leaves old blocks alone. -/
theorem Env.below {w w' : World} (h : Env w) (hb : Below w.heap.size w w') : Env w' := by
  obtain ⟨m, h1⟩ := h.maxlen
  have h6 := h.tab.cell gTab 0 (by decide)
  exact ⟨⟨m, (hb.cell (block_lt_of_cell h1)).trans h1⟩, var?_below hb gTab (block_lt_of_cell h6) h.tab⟩
end Go.Proofs.YtmfmmopnapchjaaDoor
