import Derived.Test.YtlmegefdnkjcbaaWApart
import Derived.Test.YtlmegefdnkjcbaaWArr
namespace Go.Proofs.YtlmegefdnkjcbaaW.PrintWords
open Go.RowKit
namespace Kd
end Kd
end Go.Proofs.YtlmegefdnkjcbaaW.PrintWords
