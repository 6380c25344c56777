import Derived.Test.YtlmegefdnkjcbaaWTab
namespace Go.Proofs.YtlmegefdnkjcbaaW.PrintLast
end Go.Proofs.YtlmegefdnkjcbaaW.PrintLast
