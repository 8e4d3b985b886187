/- The document's Name. -/
import Derived.Test.YtloogjdafhjheaaDoorObjN
namespace Go.Proofs.YtloogjdafhjheaaDoor
open Go.RowKit Go.Mx

end Go.Proofs.YtloogjdafhjheaaDoor
