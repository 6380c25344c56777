import Derived.Test.YtlmegefdnkjcbaaWInv
import Derived.Test.YtlmegefdnkjcbaaWFootNe
namespace Go.Proofs.YtlmegefdnkjcbaaW.PrintWords
open Go.RowKit
end Go.Proofs.YtlmegefdnkjcbaaW.PrintWords
namespace Go.Proofs.YtlmegefdnkjcbaaW.PrintLast
end Go.Proofs.YtlmegefdnkjcbaaW.PrintLast
