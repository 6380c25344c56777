-- PRINTED BY print.sh 35421559b90ae4d0a3588c463048766b98c2df88dd9212a6774a882060cdf62d: not written by this session
import Derived.Test.YtefipbekabmncaaWInv
import Derived.Test.YtefipbekabmncaaWFootNe
namespace Go.Proofs.YtefipbekabmncaaW.PrintWords
open Go.RowKit
end Go.Proofs.YtefipbekabmncaaW.PrintWords
namespace Go.Proofs.YtefipbekabmncaaW.PrintLast
end Go.Proofs.YtefipbekabmncaaW.PrintLast
