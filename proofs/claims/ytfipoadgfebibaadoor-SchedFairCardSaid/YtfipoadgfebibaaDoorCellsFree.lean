/- The walk of an arena's Free. -/
import Derived.Test.YtfipoadgfebibaaDoorCellsOps
namespace Go.Proofs.YtfipoadgfebibaaDoor
open Go Go.RowKit
set_option linter.unusedVariables false

end Go.Proofs.YtfipoadgfebibaaDoor
