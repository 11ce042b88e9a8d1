/- A part of the proof: XD, XE, XF, XG, S2, ZLayG, XH, XI, XJ, XM. -/
import Derived.Test.YtknondpcbpgpoaaGreatK17
import Derived.Shelf.SlSortCmp.NoneTotal
import Derived.Shelf.SlLaysF0
import Derived.Test.YtknondpcbpgpoaaGreatProg
import Derived.Lib.Small
import Derived.Lib.Walk
set_option linter.unusedVariables false
set_option linter.unusedSimpArgs false
section
set_option maxHeartbeats 4000000
set_option maxRecDepth 10000
namespace Go.TM.Tryz
open Go Go.TM Go.Proofs
end Go.TM.Tryz
end
section
set_option maxHeartbeats 4000000
set_option maxRecDepth 10000
namespace Go.TM.Tryz
open Go Go.TM Go.Proofs
end Go.TM.Tryz
end
section
set_option maxHeartbeats 4000000
set_option maxRecDepth 10000
namespace Go.TM.Tryz
open Go Go.TM Go.Proofs
end Go.TM.Tryz
end
section
set_option maxHeartbeats 4000000
set_option maxRecDepth 10000
namespace Go.TM.Tryz
open Go Go.TM Go.Proofs
end Go.TM.Tryz
end
section
namespace Go.TM
open Go Go.Proofs Go.Sort Go.Shelf
section
variable {α:Type} [Inhabited α] {f:α→V} {k:Nat}
end
end Go.TM
end
section
namespace Go.Proofs
open Go.Shelf
end Go.Proofs
end
section
set_option maxHeartbeats 2000000
namespace Go.TM
open Go Go.Proofs Go.Sort Go.Shelf Go.RowKit Go.Lib
end Go.TM
namespace Go.Proofs
open Go.Shelf Go.RowKit Go.Lib Go.TM Go.Sort
end Go.Proofs
namespace Go.TM.Tryz
open Go Go.TM Go.Proofs Go.Sort Go.Shelf Go.RowKit Go.Lib
end Go.TM.Tryz
end
section
set_option maxHeartbeats 4000000
set_option maxRecDepth 10000
namespace Go.TM.Tryz
open Go Go.TM Go.Proofs
end Go.TM.Tryz
end
section
set_option maxHeartbeats 4000000
set_option maxRecDepth 10000
namespace Go.TM.Tryz
open Go Go.TM Go.Proofs
end Go.TM.Tryz
end
section
set_option maxHeartbeats 4000000
set_option maxRecDepth 10000
namespace Go.TM.Tryz
open Go Go.TM Go.Proofs
end Go.TM.Tryz
end
