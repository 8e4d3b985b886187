/- Walks of sha: the turn of a word, the schedule. -/
import Derived.Test.YtlfdnlomlbbicaaBase
import Derived.Test.YtlfdnlomlbbicaaShaW
namespace Go.Proofs.Ytlfdnlomlbbicaa
open Go.RowKit Go.Mx

end Go.Proofs.Ytlfdnlomlbbicaa
