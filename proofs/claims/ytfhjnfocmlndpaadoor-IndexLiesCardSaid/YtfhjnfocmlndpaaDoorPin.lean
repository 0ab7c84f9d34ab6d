/- A world for the witness in which unicode/utf8.first lies as it is pinned. -/
import Derived.Test.YtfhjnfocmlndpaaDoorLaid
namespace Go.Proofs.YtfhjnfocmlndpaaDoor
open Go Go.ChangeShapes Go.WideShapes Go.ChangeAt Go.RowKit
def firstCells : Array Value := match (Go.Pinned.utf8First : DataW Unit) with
  | .agg l => (l.map fun d => match d with | .lit (.int k n) => Value.int k n | _ => undef).toArray
  | _ => #[]
noncomputable def pinWorld (os : Os) : World := { World.doorLaid Tryd.prog 4000 os with heap := (World.doorLaid Tryd.prog 4000 os).heap.modify 4 fun
  | .cells _ t f => .cells firstCells t f
  | o => o }
end Go.Proofs.YtfhjnfocmlndpaaDoor
