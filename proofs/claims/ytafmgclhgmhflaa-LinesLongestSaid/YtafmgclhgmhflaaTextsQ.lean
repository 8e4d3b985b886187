/- marref.Texts once more: it draws, and does nothing else. -/
import Derived.Test.YtafmgclhgmhflaaBase
namespace Go.Proofs.Ytafmgclhgmhflaa
open Go.RowKit Go.Mx
end Go.Proofs.Ytafmgclhgmhflaa
