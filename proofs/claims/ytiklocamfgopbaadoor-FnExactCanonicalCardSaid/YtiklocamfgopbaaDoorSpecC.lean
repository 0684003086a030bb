/- Walks: the reference's FoldedOf, SeriesIn, TwoOrder. -/
import Derived.Test.YtiklocamfgopbaaDoorAll
namespace Go.Proofs.YtiklocamfgopbaaDoor
open Go.RowKit

end Go.Proofs.YtiklocamfgopbaaDoor
