import Derived.Test.YtlmegefdnkjcbaaWFootNe
namespace Go.Proofs.YtlmegefdnkjcbaaW.PrintWords
open Go.RowKit
namespace Kd
end Kd
end Go.Proofs.YtlmegefdnkjcbaaW.PrintWords
