/- Walk of the hasher's Copy. -/
import Derived.Test.YtlfdnlomlbbicaaShaV
namespace Go.Proofs.Ytlfdnlomlbbicaa
open Go.RowKit Go.Mx

end Go.Proofs.Ytlfdnlomlbbicaa
