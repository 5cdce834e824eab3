/- A world in which the rows' variables hold what their initialisers lay. -/
import Derived.Test.YthlolfncdjaniaaDoorRows
import Derived.LaidMore
namespace Go.Proofs.YthlolfncdjaniaaDoor
open Go
def cellsIn : DataW Unit → List Value
  | .agg l => l.map fun | .lit (.int k n) => .int k n | _ => .nilIface
  | _ => []
/-- The door's world, with the decoder's first table. -/
noncomputable def laidW (os : Os) : World := { World.doorLaid Tryd.prog 400 os with heap := (World.doorLaid Tryd.prog 400 os).heap.modify 14 fun | .cells _ t fr => .cells (cellsIn Rows.laid_unicode_utf8_first).toArray t fr | o => o }
end Go.Proofs.YthlolfncdjaniaaDoor
