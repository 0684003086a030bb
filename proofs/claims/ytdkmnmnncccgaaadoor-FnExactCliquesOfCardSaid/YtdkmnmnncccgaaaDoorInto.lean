/- Walk: the reference's list with one more. -/
import Derived.Test.YtdkmnmnncccgaaaDoorSpecB
namespace Go.Proofs.YtdkmnmnncccgaaaDoor
open Go.RowKit


end Go.Proofs.YtdkmnmnncccgaaaDoor
