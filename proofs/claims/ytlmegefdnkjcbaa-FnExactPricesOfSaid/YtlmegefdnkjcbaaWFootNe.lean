import Derived.Test.YtlmegefdnkjcbaaWN
namespace Go.Proofs.YtlmegefdnkjcbaaW.PrintWords
open Go.RowKit
namespace Kd
end Kd
end Go.Proofs.YtlmegefdnkjcbaaW.PrintWords
