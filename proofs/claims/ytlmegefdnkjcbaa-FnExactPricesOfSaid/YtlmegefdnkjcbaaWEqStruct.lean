import Derived.Test.YtlmegefdnkjcbaaWWords
import Derived.Laws.StructEq
namespace Go.Proofs.YtlmegefdnkjcbaaW.PrintWords
open Go.RowKit
end Go.Proofs.YtlmegefdnkjcbaaW.PrintWords
