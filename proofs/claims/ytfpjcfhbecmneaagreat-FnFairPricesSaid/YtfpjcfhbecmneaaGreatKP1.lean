/- Plain texts: what the functions answer (part 1). -/
import Derived.Test.YtfpjcfhbecmneaaGreatKP0
section
/- The law laws_FnFairPrices over the machine of values. -/
set_option linter.unusedVariables false
set_option maxRecDepth 100000
set_option maxHeartbeats 1000000
namespace Go.Proofs.YtfpjcfhbecmneaaGreat.Am
open Go
open Go.IntKind renaming wrap → wr
noncomputable section
def laws_FnFairPrices.E := eN 3 [(20, ⟨[5, 6, 7, 11, 12, 13, 17, 19, 23, 27, 28, 167, 168, 169], [], [], []⟩), (35, ⟨[6, 11, 33, 34, 36, 215, 216, 217], [], [], []⟩), (5, ⟨[1, 5, 6, 7, 8], [], [], []⟩), (7, ⟨[1, 5, 6, 7, 8, 9, 10, 11, 12, 13], [], [], []⟩), (8, ⟨[1, 5, 6, 7, 8, 9, 10, 11, 12, 13, 14, 15, 16], [], [], []⟩), (10, ⟨[1, 5, 6, 7, 11, 12, 13], [], [], []⟩), (12, ⟨[5, 6, 7, 11, 12, 13, 17, 18, 19, 20], [], [], []⟩), (14, ⟨[5, 6, 7, 11, 12, 13, 17, 18, 19, 20, 21, 22, 23, 24], [], [], []⟩), (15, ⟨[5, 6, 7, 11, 12, 13, 17, 18, 19, 20, 21, 22, 23, 24, 25, 26], [], [], []⟩), (17, ⟨[5, 6, 7, 11, 12, 13, 17, 18, 19, 20, 23], [], [], []⟩), (31, ⟨[5, 6, 7, 11, 12, 13], [], [], []⟩), (33, ⟨[5, 6, 11, 12, 33, 34], [], [], []⟩), (34, ⟨[6, 11, 33, 34, 35, 36], [], [], []⟩), (39, ⟨[6, 11, 33, 34, 36], [], [], []⟩), (40, ⟨[5, 6, 7], [], [], []⟩), (43, ⟨[5, 6, 39, 40], [], [], []⟩), (44, ⟨[6, 40, 41, 42], [], [], []⟩)] [5, 7, 8, 10, 12, 14, 15, 17, 31, 33, 34, 39, 40, 43, 44]
def laws_FnFairPrices.g := g0 3 cZ [.id]
def laws_FnFairPrices.T (k : Nat) : Table := tabs [(6, (laws_big.tab)), (7, (spec_DrawAreFair.tab k)), (8, (impl_AreFair.tab k)), (9, (spec_AreFair.tab k)), (10, (impl_UnfairAt.tab k)), (11, (spec_UnfairAt.tab k)), (12, (spec_DrawCoverCost.tab k)), (13, (impl_CoverCost.tab k)), (14, (spec_CoverCost.tab k)), (15, (impl_TileUses.tab k)), (16, (spec_TileUses.tab k)), (17, (laws_pSame.tab k)), (18, (laws_pCover.tab k)), (19, (impl_TileCost.tab k)), (20, (laws_pSum.tab k)), (21, (impl_TileParts.tab k)), (22, (impl_BestCover.tab k))]
def laws_FnFairPrices.f (k : Nat) (a0 : LI) (a1 : LI) : Option Bool := gf 3 laws_FnFairPrices.E laws_FnFairPrices.T laws_FnFairPrices.g k [mkP false bL a0, mkP false bL a1] []
def laws_FnFairPrices.tab (k : Nat) : Tb := tabI [.v false bL, .v false bL] [] (enc0 cZ) (laws_FnFairPrices.f k)
def laws_FnFairPrices.l0 (k : Nat) (x0 : LI) (x1 : LN) (x2 : LI) (x3 : Bool) (x4 : Bool) := gl 3 0 laws_FnFairPrices.E laws_FnFairPrices.T laws_FnFairPrices.g k [(1, (.lst (.i .u8) x0)), (5, (.lst nT x1)), (6, (.lst iT x2)), (7, (.b x3)), (8, (.b x4))] [] [5, 7, 8, 10, 12, 14, 15, 17, 31, 33, 34, 39, 40, 43, 44]
def laws_FnFairPrices.l1 (k : Nat) (x0 : LI) (x1 : LN) (x2 : LI) (x3 : Bool) (x4 : Bool) (x5 : Bool) (x6 : Bool) (x7 : Int) (x8 : Int) (x9 : Bool) := gl 3 1 laws_FnFairPrices.E laws_FnFairPrices.T laws_FnFairPrices.g k [(1, (.lst (.i .u8) x0)), (5, (.lst nT x1)), (6, (.lst iT x2)), (7, (.b x3)), (8, (.b x4)), (9, (.b x5)), (10, (.b x6)), (11, (.i .i64 x7)), (12, (.i .i64 x8)), (13, (.b x9))] [] [5, 7, 8, 10, 12, 14, 15, 17, 31, 33, 34, 39, 40, 43, 44]
def laws_FnFairPrices.l2 (k : Nat) (x0 : LI) (x1 : LN) (x2 : LI) (x3 : Bool) (x4 : Bool) (x5 : Bool) (x6 : Bool) (x7 : Int) (x8 : Int) (x9 : Bool) (x10 : Int) (x11 : Int) (x12 : Bool) := gl 3 2 laws_FnFairPrices.E laws_FnFairPrices.T laws_FnFairPrices.g k [(1, (.lst (.i .u8) x0)), (5, (.lst nT x1)), (6, (.lst iT x2)), (7, (.b x3)), (8, (.b x4)), (9, (.b x5)), (10, (.b x6)), (11, (.i .i64 x7)), (12, (.i .i64 x8)), (13, (.b x9)), (14, (.i .i64 x10)), (15, (.i .i64 x11)), (16, (.b x12))] [] [5, 7, 8, 10, 12, 14, 15, 17, 31, 33, 34, 39, 40, 43, 44]
def laws_FnFairPrices.l3 (k : Nat) (x0 : LI) (x1 : LN) (x2 : LI) (x3 : Bool) (x4 : Int) (x5 : Int) (x6 : Bool) := gl 3 3 laws_FnFairPrices.E laws_FnFairPrices.T laws_FnFairPrices.g k [(1, (.lst (.i .u8) x0)), (5, (.lst nT x1)), (6, (.lst iT x2)), (7, (.b x3)), (11, (.i .i64 x4)), (12, (.i .i64 x5)), (13, (.b x6))] [] [5, 7, 8, 10, 12, 14, 15, 17, 31, 33, 34, 39, 40, 43, 44]
def laws_FnFairPrices.l4 (k : Nat) (x0 : LN) (x1 : LI) (x2 : Bool) (x3 : Int) (x4 : Int) (x5 : Bool) (x6 : LN) (x7 : LI) (x8 : Int) (x9 : Bool) := gl 3 4 laws_FnFairPrices.E laws_FnFairPrices.T laws_FnFairPrices.g k [(5, (.lst nT x0)), (6, (.lst iT x1)), (7, (.b x2)), (11, (.i .i64 x3)), (12, (.i .i64 x4)), (13, (.b x5)), (17, (.lst nT x6)), (18, (.lst iT x7)), (19, (.i .i64 x8)), (20, (.b x9))] [] [5, 7, 8, 10, 12, 14, 15, 17, 31, 33, 34, 39, 40, 43, 44]
def laws_FnFairPrices.l5 (k : Nat) (x0 : LN) (x1 : LI) (x2 : Bool) (x3 : Int) (x4 : Int) (x5 : Bool) (x6 : LN) (x7 : LI) (x8 : Int) (x9 : Bool) (x10 : Int) (x11 : Bool) (x12 : Bool) (x13 : LI) := gl 3 5 laws_FnFairPrices.E laws_FnFairPrices.T laws_FnFairPrices.g k [(5, (.lst nT x0)), (6, (.lst iT x1)), (7, (.b x2)), (11, (.i .i64 x3)), (12, (.i .i64 x4)), (13, (.b x5)), (17, (.lst nT x6)), (18, (.lst iT x7)), (19, (.i .i64 x8)), (20, (.b x9)), (21, (.i .i64 x10)), (22, (.b x11)), (23, (.own 5000 0)), (24, (.b x12))] [(5000, (.row 0 iT x13))] [5, 7, 8, 10, 12, 14, 15, 17, 31, 33, 34, 39, 40, 43, 44]
def laws_FnFairPrices.l6 (k : Nat) (x0 : LN) (x1 : LI) (x2 : Bool) (x3 : Int) (x4 : Int) (x5 : Bool) (x6 : LN) (x7 : LI) (x8 : Int) (x9 : Bool) (x10 : Int) (x11 : Bool) (x12 : Bool) (x13 : LI) (x14 : Bool) (x15 : LI) := gl 3 6 laws_FnFairPrices.E laws_FnFairPrices.T laws_FnFairPrices.g k [(5, (.lst nT x0)), (6, (.lst iT x1)), (7, (.b x2)), (11, (.i .i64 x3)), (12, (.i .i64 x4)), (13, (.b x5)), (17, (.lst nT x6)), (18, (.lst iT x7)), (19, (.i .i64 x8)), (20, (.b x9)), (21, (.i .i64 x10)), (22, (.b x11)), (23, (.own 5000 0)), (24, (.b x12)), (25, (.lst iT x13)), (26, (.b x14))] [(5000, (.row 0 iT x15))] [5, 7, 8, 10, 12, 14, 15, 17, 31, 33, 34, 39, 40, 43, 44]
def laws_FnFairPrices.l7 (k : Nat) (x0 : LN) (x1 : LI) (x2 : Bool) (x3 : Int) (x4 : Int) (x5 : Bool) (x6 : LN) (x7 : LI) (x8 : Int) (x9 : Bool) (x10 : LI) := gl 3 7 laws_FnFairPrices.E laws_FnFairPrices.T laws_FnFairPrices.g k [(5, (.lst nT x0)), (6, (.lst iT x1)), (7, (.b x2)), (11, (.i .i64 x3)), (12, (.i .i64 x4)), (13, (.b x5)), (17, (.lst nT x6)), (18, (.lst iT x7)), (19, (.i .i64 x8)), (20, (.b x9)), (23, (.own 5000 0))] [(5000, (.row 0 iT x10))] [5, 7, 8, 10, 12, 14, 15, 17, 31, 33, 34, 39, 40, 43, 44]
def laws_FnFairPrices.l8 (k : Nat) (x0 : LN) (x1 : LI) (x2 : Bool) (x3 : Int) (x4 : Int) (x5 : Bool) (x6 : LN) (x7 : Int) (x8 : Int) (x9 : Int) (x10 : LI) (x11 : Int) (x12 : Int) (x13 : LI) := gl 3 8 laws_FnFairPrices.E laws_FnFairPrices.T laws_FnFairPrices.g k [(5, (.lst nT x0)), (6, (.lst iT x1)), (7, (.b x2)), (11, (.i .i64 x3)), (12, (.i .i64 x4)), (13, (.b x5)), (17, (.lst nT x6)), (19, (.i .i64 x7)), (23, (.own 5000 0)), (27, (.i .i64 x8)), (28, (.i .i64 x9)), (167, (.lst iT x10)), (168, (.i .i64 x11)), (169, (.i .i64 x12))] [(5000, (.row 0 iT x13))] [5, 7, 8, 10, 12, 14, 15, 17, 31, 33, 34, 39, 40, 43, 44]
def laws_FnFairPrices.l9 (k : Nat) (x0 : LN) (x1 : LI) (x2 : Bool) (x3 : Int) (x4 : Int) (x5 : Bool) := gl 3 9 laws_FnFairPrices.E laws_FnFairPrices.T laws_FnFairPrices.g k [(5, (.lst nT x0)), (6, (.lst iT x1)), (7, (.b x2)), (11, (.i .i64 x3)), (12, (.i .i64 x4)), (13, (.b x5))] [] [5, 7, 8, 10, 12, 14, 15, 17, 31, 33, 34, 39, 40, 43, 44]
def laws_FnFairPrices.l10 (k : Nat) (x0 : LN) (x1 : LI) (x2 : Int) (x3 : Int) (x4 : Int) (x5 : Bool) := gl 3 10 laws_FnFairPrices.E laws_FnFairPrices.T laws_FnFairPrices.g k [(5, (.lst nT x0)), (6, (.lst iT x1)), (11, (.i .i64 x2)), (12, (.i .i64 x3)), (33, (.i .i64 x4)), (34, (.b x5))] [] [5, 7, 8, 10, 12, 14, 15, 17, 31, 33, 34, 39, 40, 43, 44]
def laws_FnFairPrices.l14 (k : Nat) (x0 : LN) (x1 : LI) (x2 : Bool) := gl 3 14 laws_FnFairPrices.E laws_FnFairPrices.T laws_FnFairPrices.g k [(5, (.lst nT x0)), (6, (.lst iT x1)), (7, (.b x2))] [] [5, 7, 8, 10, 12, 14, 15, 17, 31, 33, 34, 39, 40, 43, 44]
def laws_FnFairPrices.l11 (k : Nat) (x0 : LI) (x1 : Int) (x2 : Int) (x3 : Bool) (x4 : LI) (x5 : Bool) := gl 3 11 laws_FnFairPrices.E laws_FnFairPrices.T laws_FnFairPrices.g k [(6, (.lst iT x0)), (11, (.i .i64 x1)), (33, (.i .i64 x2)), (34, (.b x3)), (35, (.lst iT x4)), (36, (.b x5))] [] [5, 7, 8, 10, 12, 14, 15, 17, 31, 33, 34, 39, 40, 43, 44]
def laws_FnFairPrices.l15 (k : Nat) (x0 : LN) (x1 : LI) (x2 : Bool) (x3 : LI) := gl 3 15 laws_FnFairPrices.E laws_FnFairPrices.T laws_FnFairPrices.g k [(5, (.lst nT x0)), (6, (.lst iT x1)), (39, (.own 5000 0)), (40, (.b x2))] [(5000, (.row 0 iT x3))] [5, 7, 8, 10, 12, 14, 15, 17, 31, 33, 34, 39, 40, 43, 44]
def laws_FnFairPrices.l12 (k : Nat) (x0 : LI) (x1 : Int) (x2 : Int) (x3 : Bool) (x4 : Bool) (x5 : LI) (x6 : Int) (x7 : Int) := gl 3 12 laws_FnFairPrices.E laws_FnFairPrices.T laws_FnFairPrices.g k [(6, (.lst iT x0)), (11, (.i .i64 x1)), (33, (.i .i64 x2)), (34, (.b x3)), (36, (.b x4)), (215, (.lst iT x5)), (216, (.i .i64 x6)), (217, (.i .i64 x7))] [] [5, 7, 8, 10, 12, 14, 15, 17, 31, 33, 34, 39, 40, 43, 44]
def laws_FnFairPrices.l16 (k : Nat) (x0 : LI) (x1 : Bool) (x2 : Int) (x3 : Bool) := gl 3 16 laws_FnFairPrices.E laws_FnFairPrices.T laws_FnFairPrices.g k [(6, (.lst iT x0)), (40, (.b x1)), (41, (.i .i64 x2)), (42, (.b x3))] [] [5, 7, 8, 10, 12, 14, 15, 17, 31, 33, 34, 39, 40, 43, 44]
def laws_FnFairPrices.l13 (k : Nat) (x0 : LI) (x1 : Int) (x2 : Int) (x3 : Bool) (x4 : Bool) := gl 3 13 laws_FnFairPrices.E laws_FnFairPrices.T laws_FnFairPrices.g k [(6, (.lst iT x0)), (11, (.i .i64 x1)), (33, (.i .i64 x2)), (34, (.b x3)), (36, (.b x4))] [] [5, 7, 8, 10, 12, 14, 15, 17, 31, 33, 34, 39, 40, 43, 44]
theorem laws_FnFairPrices.calls (k : Nat) (a0 : LI) (a1 : LI) {r : Bool} (h : laws_FnFairPrices.f k a0 a1 = some r) : ACalls P0 3 [mkP false bL a0, mkP false bL a1] [] (enc0 cZ r) := n0 (fun k => (tabs_cons (laws_big.tok) (tabs_cons (spec_DrawAreFair.tok k) (tabs_cons (impl_AreFair.tok k) (tabs_cons (spec_AreFair.tok k) (tabs_cons (impl_UnfairAt.tok k) (tabs_cons (spec_UnfairAt.tok k) (tabs_cons (spec_DrawCoverCost.tok k) (tabs_cons (impl_CoverCost.tok k) (tabs_cons (spec_CoverCost.tok k) (tabs_cons (impl_TileUses.tok k) (tabs_cons (spec_TileUses.tok k) (tabs_cons (laws_pSame.tok k) (tabs_cons (laws_pCover.tok k) (tabs_cons (impl_TileCost.tok k) (tabs_cons (laws_pSum.tok k) (tabs_cons (impl_TileParts.tok k) (tabs_cons (impl_BestCover.tok k) tabs_nil)))))))))))))))))) (by kernel_rfl) vk h
abbrev laws_FnFairPrices.v (a0 : LI) (a1 : LI) := lim fun _ k => laws_FnFairPrices.f k a0 a1
abbrev laws_FnFairPrices.v0 (x0 : LI) (x1 : LN) (x2 : LI) (x3 : Bool) (x4 : Bool) := lim fun _ k => laws_FnFairPrices.l0 k x0 x1 x2 x3 x4
abbrev laws_FnFairPrices.v1 (x0 : LI) (x1 : LN) (x2 : LI) (x3 : Bool) (x4 : Bool) (x5 : Bool) (x6 : Bool) (x7 : Int) (x8 : Int) (x9 : Bool) := lim fun _ k => laws_FnFairPrices.l1 k x0 x1 x2 x3 x4 x5 x6 x7 x8 x9
abbrev laws_FnFairPrices.v2 (x0 : LI) (x1 : LN) (x2 : LI) (x3 : Bool) (x4 : Bool) (x5 : Bool) (x6 : Bool) (x7 : Int) (x8 : Int) (x9 : Bool) (x10 : Int) (x11 : Int) (x12 : Bool) := lim fun _ k => laws_FnFairPrices.l2 k x0 x1 x2 x3 x4 x5 x6 x7 x8 x9 x10 x11 x12
abbrev laws_FnFairPrices.v3 (x0 : LI) (x1 : LN) (x2 : LI) (x3 : Bool) (x4 : Int) (x5 : Int) (x6 : Bool) := lim fun _ k => laws_FnFairPrices.l3 k x0 x1 x2 x3 x4 x5 x6
abbrev laws_FnFairPrices.v4 (x0 : LN) (x1 : LI) (x2 : Bool) (x3 : Int) (x4 : Int) (x5 : Bool) (x6 : LN) (x7 : LI) (x8 : Int) (x9 : Bool) := lim fun _ k => laws_FnFairPrices.l4 k x0 x1 x2 x3 x4 x5 x6 x7 x8 x9
abbrev laws_FnFairPrices.v5 (x0 : LN) (x1 : LI) (x2 : Bool) (x3 : Int) (x4 : Int) (x5 : Bool) (x6 : LN) (x7 : LI) (x8 : Int) (x9 : Bool) (x10 : Int) (x11 : Bool) (x12 : Bool) (x13 : LI) := lim fun _ k => laws_FnFairPrices.l5 k x0 x1 x2 x3 x4 x5 x6 x7 x8 x9 x10 x11 x12 x13
abbrev laws_FnFairPrices.v6 (x0 : LN) (x1 : LI) (x2 : Bool) (x3 : Int) (x4 : Int) (x5 : Bool) (x6 : LN) (x7 : LI) (x8 : Int) (x9 : Bool) (x10 : Int) (x11 : Bool) (x12 : Bool) (x13 : LI) (x14 : Bool) (x15 : LI) := lim fun _ k => laws_FnFairPrices.l6 k x0 x1 x2 x3 x4 x5 x6 x7 x8 x9 x10 x11 x12 x13 x14 x15
abbrev laws_FnFairPrices.v7 (x0 : LN) (x1 : LI) (x2 : Bool) (x3 : Int) (x4 : Int) (x5 : Bool) (x6 : LN) (x7 : LI) (x8 : Int) (x9 : Bool) (x10 : LI) := lim fun _ k => laws_FnFairPrices.l7 k x0 x1 x2 x3 x4 x5 x6 x7 x8 x9 x10
abbrev laws_FnFairPrices.v8 (x0 : LN) (x1 : LI) (x2 : Bool) (x3 : Int) (x4 : Int) (x5 : Bool) (x6 : LN) (x7 : Int) (x8 : Int) (x9 : Int) (x10 : LI) (x11 : Int) (x12 : Int) (x13 : LI) := lim fun _ k => laws_FnFairPrices.l8 k x0 x1 x2 x3 x4 x5 x6 x7 x8 x9 x10 x11 x12 x13
abbrev laws_FnFairPrices.v9 (x0 : LN) (x1 : LI) (x2 : Bool) (x3 : Int) (x4 : Int) (x5 : Bool) := lim fun _ k => laws_FnFairPrices.l9 k x0 x1 x2 x3 x4 x5
abbrev laws_FnFairPrices.v10 (x0 : LN) (x1 : LI) (x2 : Int) (x3 : Int) (x4 : Int) (x5 : Bool) := lim fun _ k => laws_FnFairPrices.l10 k x0 x1 x2 x3 x4 x5
abbrev laws_FnFairPrices.v14 (x0 : LN) (x1 : LI) (x2 : Bool) := lim fun _ k => laws_FnFairPrices.l14 k x0 x1 x2
abbrev laws_FnFairPrices.v11 (x0 : LI) (x1 : Int) (x2 : Int) (x3 : Bool) (x4 : LI) (x5 : Bool) := lim fun _ k => laws_FnFairPrices.l11 k x0 x1 x2 x3 x4 x5
abbrev laws_FnFairPrices.v15 (x0 : LN) (x1 : LI) (x2 : Bool) (x3 : LI) := lim fun _ k => laws_FnFairPrices.l15 k x0 x1 x2 x3
abbrev laws_FnFairPrices.v12 (x0 : LI) (x1 : Int) (x2 : Int) (x3 : Bool) (x4 : Bool) (x5 : LI) (x6 : Int) (x7 : Int) := lim fun _ k => laws_FnFairPrices.l12 k x0 x1 x2 x3 x4 x5 x6 x7
abbrev laws_FnFairPrices.v16 (x0 : LI) (x1 : Bool) (x2 : Int) (x3 : Bool) := lim fun _ k => laws_FnFairPrices.l16 k x0 x1 x2 x3
abbrev laws_FnFairPrices.v13 (x0 : LI) (x1 : Int) (x2 : Int) (x3 : Bool) (x4 : Bool) := lim fun _ k => laws_FnFairPrices.l13 k x0 x1 x2 x3 x4
theorem laws_FnFairPrices.vs (a0 : LI) (a1 : LI) {r} (h : (bd (laws_big.f a0 a1) fun r0 => (br r0 (some true) (bd (spec_DrawAreFair.v a0) fun r1 => (bd (impl_AreFair.v r1.1 r1.2) fun r2 => (laws_FnFairPrices.v0 a1 r1.1 r1.2 r2.1 r2.2))))) = some r) : laws_FnFairPrices.v a0 a1 = some r := vq h
theorem laws_FnFairPrices.v0s (x0 : LI) (x1 : LN) (x2 : LI) (x3 : Bool) (x4 : Bool) {r} (h : (bd (spec_AreFair.v x1 x2) fun r3 => (bd (impl_UnfairAt.v x1 x2) fun r4 => (laws_FnFairPrices.v1 x0 x1 x2 x3 x4 r3.1 r3.2 r4.1 r4.2.1 r4.2.2))) = some r) : laws_FnFairPrices.v0 x0 x1 x2 x3 x4 = some r := vq h
theorem laws_FnFairPrices.v1s (x0 : LI) (x1 : LN) (x2 : LI) (x3 : Bool) (x4 : Bool) (x5 : Bool) (x6 : Bool) (x7 : Int) (x8 : Int) (x9 : Bool) {r} (h : (bd (spec_UnfairAt.v x1 x2) fun r5 => (laws_FnFairPrices.v2 x0 x1 x2 x3 x4 x5 x6 x7 x8 x9 r5.1 r5.2.1 r5.2.2)) = some r) : laws_FnFairPrices.v1 x0 x1 x2 x3 x4 x5 x6 x7 x8 x9 = some r := vq h
theorem laws_FnFairPrices.v2s (x0 : LI) (x1 : LN) (x2 : LI) (x3 : Bool) (x4 : Bool) (x5 : Bool) (x6 : Bool) (x7 : Int) (x8 : Int) (x9 : Bool) (x10 : Int) (x11 : Int) (x12 : Bool) {r} (h : (br (Bool.not (x4 == x6)) (some false) (br (Bool.not (x3 == x5)) (some false) (br (Bool.not (x9 == x12)) (some false) (br (x7 != x10) (some false) (br (x8 != x11) (some false) (br x3 (br x9 (some false) (laws_FnFairPrices.v3 x0 x1 x2 x3 x7 x8 x9)) (laws_FnFairPrices.v3 x0 x1 x2 x3 x7 x8 x9))))))) = some r) : laws_FnFairPrices.v2 x0 x1 x2 x3 x4 x5 x6 x7 x8 x9 x10 x11 x12 = some r := vq h
theorem laws_FnFairPrices.v3s (x0 : LI) (x1 : LN) (x2 : LI) (x3 : Bool) (x4 : Int) (x5 : Int) (x6 : Bool) {r} (h : (bd (spec_DrawCoverCost.v x0) fun r6 => (bd (impl_CoverCost.v r6.1 r6.2) fun r7 => (laws_FnFairPrices.v4 x1 x2 x3 x4 x5 x6 r6.1 r6.2 r7.1 r7.2))) = some r) : laws_FnFairPrices.v3 x0 x1 x2 x3 x4 x5 x6 = some r := vq h
theorem laws_FnFairPrices.v4s (x0 : LN) (x1 : LI) (x2 : Bool) (x3 : Int) (x4 : Int) (x5 : Bool) (x6 : LN) (x7 : LI) (x8 : Int) (x9 : Bool) {r} (h : (bd (spec_CoverCost.v x6 x7) fun r8 => (bd (impl_TileUses.v x6 x7) fun r9 => (laws_FnFairPrices.v5 x0 x1 x2 x3 x4 x5 x6 x7 x8 x9 r8.1 r8.2 r9.1.2 r9.1.1))) = some r) : laws_FnFairPrices.v4 x0 x1 x2 x3 x4 x5 x6 x7 x8 x9 = some r := vq h
theorem laws_FnFairPrices.v5s (x0 : LN) (x1 : LI) (x2 : Bool) (x3 : Int) (x4 : Int) (x5 : Bool) (x6 : LN) (x7 : LI) (x8 : Int) (x9 : Bool) (x10 : Int) (x11 : Bool) (x12 : Bool) (x13 : LI) {r} (h : (bd (spec_TileUses.v x6 x7) fun r10 => (laws_FnFairPrices.v6 x0 x1 x2 x3 x4 x5 x6 x7 x8 x9 x10 x11 x12 r10.1 r10.2 x13)) = some r) : laws_FnFairPrices.v5 x0 x1 x2 x3 x4 x5 x6 x7 x8 x9 x10 x11 x12 x13 = some r := vq h
theorem laws_FnFairPrices.v6s (x0 : LN) (x1 : LI) (x2 : Bool) (x3 : Int) (x4 : Int) (x5 : Bool) (x6 : LN) (x7 : LI) (x8 : Int) (x9 : Bool) (x10 : Int) (x11 : Bool) (x12 : Bool) (x13 : LI) (x14 : Bool) (x15 : LI) {r} (h : (br (Bool.not (x9 == x11)) (some false) (br (x8 != x10) (some false) (br (Bool.not (x12 == x14)) (some false) (bd (laws_pSame.v x15 x13) fun r11 => (br (Bool.not r11) (some false) (bd (laws_pCover.v x6 x7) fun r12 => (br (Bool.not (x9 == r12)) (some false) (br (Bool.not (x12 == x9)) (some false) (laws_FnFairPrices.v7 x0 x1 x2 x3 x4 x5 x6 x7 x8 x9 x15))))))))) = some r) : laws_FnFairPrices.v6 x0 x1 x2 x3 x4 x5 x6 x7 x8 x9 x10 x11 x12 x13 x14 x15 = some r := vq h
theorem laws_FnFairPrices.v7s (x0 : LN) (x1 : LI) (x2 : Bool) (x3 : Int) (x4 : Int) (x5 : Bool) (x6 : LN) (x7 : LI) (x8 : Int) (x9 : Bool) (x10 : LI) {r} (h : (br x9 (laws_FnFairPrices.v8 x0 x1 x2 x3 x4 x5 x6 x8 (0 : Int) (0 : Int) x7 (x7.length : Int) (0 : Int) x10) (laws_FnFairPrices.v9 x0 x1 x2 x3 x4 x5)) = some r) : laws_FnFairPrices.v7 x0 x1 x2 x3 x4 x5 x6 x7 x8 x9 x10 = some r := vq h
theorem laws_FnFairPrices.v8s (x0 : LN) (x1 : LI) (x2 : Bool) (x3 : Int) (x4 : Int) (x5 : Bool) (x6 : LN) (x7 : Int) (x8 : Int) (x9 : Int) (x10 : LI) (x11 : Int) (x12 : Int) (x13 : LI) {r} (h : (br (decide (x12 < x11)) (br (decide (0 ≤ x12)) (gt x10 x12.toNat fun r13 => (br (decide (r13 ≥ 0)) (bd (impl_TileCost.v x6 x12 r13) fun r14 => (br (Bool.not r14.2) (some false) (laws_FnFairPrices.v8 x0 x1 x2 x3 x4 x5 x6 x7 (wr .i64 (x8 + r14.1)) (wr .i64 (x9 + 1)) x10 x11 (wr .i64 (x12 + 1)) x13))) (laws_FnFairPrices.v8 x0 x1 x2 x3 x4 x5 x6 x7 x8 x9 x10 x11 (wr .i64 (x12 + 1)) x13))) none) (br (x8 != x7) (some false) (bd (laws_pSum.v x13) fun r15 => (br (r15 != x9) (some false) (laws_FnFairPrices.v9 x0 x1 x2 x3 x4 x5))))) = some r) : laws_FnFairPrices.v8 x0 x1 x2 x3 x4 x5 x6 x7 x8 x9 x10 x11 x12 x13 = some r := vq h
theorem laws_FnFairPrices.v9s (x0 : LN) (x1 : LI) (x2 : Bool) (x3 : Int) (x4 : Int) (x5 : Bool) {r} (h : (br x5 (bd (impl_TileCost.v x0 x3 x4) fun r16 => (laws_FnFairPrices.v10 x0 x1 x3 x4 r16.1 r16.2)) (laws_FnFairPrices.v14 x0 x1 x2)) = some r) : laws_FnFairPrices.v9 x0 x1 x2 x3 x4 x5 = some r := vq h
theorem laws_FnFairPrices.v10s (x0 : LN) (x1 : LI) (x2 : Int) (x3 : Int) (x4 : Int) (x5 : Bool) {r} (h : (bd (impl_TileParts.v x0 x2 x3) fun r17 => (laws_FnFairPrices.v11 x1 x2 x4 x5 r17.1 r17.2)) = some r) : laws_FnFairPrices.v10 x0 x1 x2 x3 x4 x5 = some r := vq h
theorem laws_FnFairPrices.v14s (x0 : LN) (x1 : LI) (x2 : Bool) {r} (h : (br (Bool.not x2) (some true) (bd (impl_BestCover.v x0) fun r18 => (laws_FnFairPrices.v15 x0 x1 r18.1.2 r18.1.1))) = some r) : laws_FnFairPrices.v14 x0 x1 x2 = some r := vq h
theorem laws_FnFairPrices.v11s (x0 : LI) (x1 : Int) (x2 : Int) (x3 : Bool) (x4 : LI) (x5 : Bool) {r} (h : (laws_FnFairPrices.v12 x0 x1 x2 x3 x5 x4 (x4.length : Int) (0 : Int)) = some r) : laws_FnFairPrices.v11 x0 x1 x2 x3 x4 x5 = some r := vq h
theorem laws_FnFairPrices.v15s (x0 : LN) (x1 : LI) (x2 : Bool) (x3 : LI) {r} (h : (bd (impl_CoverCost.v x0 x3) fun r19 => (laws_FnFairPrices.v16 x1 x2 r19.1 r19.2)) = some r) : laws_FnFairPrices.v15 x0 x1 x2 x3 = some r := vq h
theorem laws_FnFairPrices.v12s (x0 : LI) (x1 : Int) (x2 : Int) (x3 : Bool) (x4 : Bool) (x5 : LI) (x6 : Int) (x7 : Int) {r} (h : (br (decide (x7 < x6)) (br (decide (0 ≤ x7)) (gt x5 x7.toNat fun r20 => (br (decide (0 ≤ r20)) (gt x0 r20.toNat fun r21 => (laws_FnFairPrices.v12 x0 x1 (wr .i64 (x2 + r21)) x3 x4 x5 x6 (wr .i64 (x7 + 1)))) none)) none) (laws_FnFairPrices.v13 x0 x1 x2 x3 x4)) = some r) : laws_FnFairPrices.v12 x0 x1 x2 x3 x4 x5 x6 x7 = some r := vq h
theorem laws_FnFairPrices.v16s (x0 : LI) (x1 : Bool) (x2 : Int) (x3 : Bool) {r} (h : (br x1 (br x3 (br (decide (0 ≤ (wr .i64 ((x0.length : Int) - 1)))) (gt x0 (Int.toNat (wr .i64 ((x0.length : Int) - 1))) fun r22 => (some (decide (r22 ≤ x2)))) none) (some false)) (some false)) = some r) : laws_FnFairPrices.v16 x0 x1 x2 x3 = some r := vq h
theorem laws_FnFairPrices.v13s (x0 : LI) (x1 : Int) (x2 : Int) (x3 : Bool) (x4 : Bool) {r} (h : (br x3 (br x4 (br (decide (0 ≤ x1)) (gt x0 x1.toNat fun r23 => (some (decide (r23 > x2)))) none) (some false)) (some false)) = some r) : laws_FnFairPrices.v13 x0 x1 x2 x3 x4 = some r := vq h
end
end Go.Proofs.YtfpjcfhbecmneaaGreat.Am
end
section
/- The law FnFairPrices, in plain Lean. -/
namespace Go.Proofs.YtfpjcfhbecmneaaGreat.Am
open Go
set_option linter.unusedVariables false
set_option linter.unusedSimpArgs false
section
variable {e : List Nd} {best : List Int}
theorem dfs_same {c : List Int} : ∀ (f i : Nat), (∀ j ∈ dfs e best f i, cvr c j = cvr best j) → dfs e c f i = dfs e best f i
  | 0, i, _ => rfl
  | f + 1, i, h => by
    unfold dfs at h ⊢
    have hk : kids e c i = kids e best i := by
      unfold kids vld
      rw [h i (by simp)]
    rw [hk]
    have key : ∀ l : List Nat, (∀ k ∈ l, k ∈ kids e best i) → l.flatMap (dfs e c f) = l.flatMap (dfs e best f) := by
      intro l
      induction l with
      | nil => intro _; rfl
      | cons k l ih =>
        intro hl
        rw [List.flatMap_cons, List.flatMap_cons, ih fun x hx => hl x (by simp [hx]), dfs_same f k fun j hj => h j (List.mem_cons_of_mem _ (List.mem_flatMap.2 ⟨k, hl k (by simp), hj⟩))]
    rw [key _ fun k hk => hk]
theorem chosen_cover (ht : treeOk e = true) (hv : ∀ j, j < e.length → vld e best j = true) : isCoverP e (chosen e best) = true := by
  obtain ⟨hn, h1, h24, _⟩ := treeOk_parts ht
  have hs : ∀ j ∈ need e best, cvr (chosen e best) j = cvr best j := fun j hj => by
    rw [chosen_cvr (need_lt hn h1 hj), if_pos (List.contains_iff_mem.2 hj)]
  have hq : need e (chosen e best) = need e best := dfs_same _ _ hs
  unfold isCoverP
  rw [hq, decide_eq_true chosen_len, Bool.true_and, Bool.and_eq_true, List.all_eq_true, List.all_eq_true]
  refine ⟨fun j hj => ?_, fun j hj => ?_⟩
  · have := hv j (need_lt hn h1 hj)
    unfold vld at this ⊢
    rw [hs j hj]; exact this
  · rw [List.mem_range] at hj
    rw [chosen_cvr hj]
    by_cases c : (need e best).contains j = true
    · rw [c]; rfl
    · rw [if_neg c]; simp
end
/-! ### sums -/
theorem pSum_v (l : List Int) (hl : l.length ≤ 1000) (hb : ∀ x ∈ l, 0 ≤ x ∧ x ≤ 1000) : laws_pSum.v l = some (isum l) := by
  have key : ∀ (d j : Nat) (s : Int), j + d = l.length → 0 ≤ s → s ≤ 1000 * j → laws_pSum.v0 s l (l.length : Int) (j : Int) = some (s + isum (l.drop j)) := by
    intro d
    induction d with
    | zero =>
      intro j s hj h0 h1
      refine laws_pSum.v0s _ _ _ _ ?_
      rw [br_f (by simp; omega), List.drop_eq_nil_of_le (by omega)]; simp [isum]
    | succ d ih =>
      intro j s hj h0 h1
      have hjl : j < l.length := by omega
      have hx := hb _ (List.getElem_mem hjl)
      refine laws_pSum.v0s _ _ _ _ ?_
      rw [br_t (by simpa using hjl), br_t (by simp), Int.toNat_natCast, gt_at _ hjl, next_ok j _ hjl (by omega), wrap_ok (by omega) (by omega), ih (j + 1) _ (by omega) (by omega) (by omega), drop_at _ _ hjl]
      simp only [isum]
      congr 1; omega
  have h := key l.length 0 0 (by omega) (by omega) (by omega)
  rw [List.drop_zero, Int.zero_add] at h
  exact laws_pSum.vs _ h
theorem isum_set : ∀ (o : List Int) (k : Nat) (x : Int), k < o.length → isum (o.set k x) = isum o - o.getD k 0 + x
  | [], k, x, h => by simp at h
  | y :: o, 0, x, h => by simp [isum]; omega
  | y :: o, k + 1, x, h => by
    simp only [List.length_cons] at h
    have := isum_set o k x (by omega)
    simp only [List.set_cons_succ, isum, this, List.getD_cons_succ]; omega
def cntN (cover : List Int) : Nat → Nat → Int
  | 0, _ => 0
  | d + 1, i => (if 0 ≤ cvr cover i then 1 else 0) + cntN cover d (i + 1)
theorem cntN_z (cover : List Int) (i : Nat) : cntN cover 0 i = 0 := rfl
theorem cntN_s (cover : List Int) (d i : Nat) : cntN cover (d + 1) i = (if 0 ≤ cvr cover i then 1 else 0) + cntN cover d (i + 1) := rfl
theorem sumC_s (e : List Nd) (cover : List Int) (d i : Nat) (x : Int) : sumC e cover (d + 1) i x = sumC e cover d (i + 1) (if 0 ≤ cvr cover i then IntKind.wrap .i64 (x + tCost e i (cvr cover i)) else x) := rfl
theorem cntN_b (cover : List Int) : ∀ d i, 0 ≤ cntN cover d i ∧ cntN cover d i ≤ d
  | 0, _ => by simp [cntN]
  | d + 1, i => by
    have := cntN_b cover d (i + 1)
    unfold cntN
    split <;> omega
section
variable {e : List Nd} {cover : List Int}
theorem useT_sum (hv : ∀ j, j < e.length → 0 ≤ cvr cover j → vld e cover j = true) : ∀ (d i : Nat) (o : List Int) (m : Nat), i + d = e.length → o.length = 13 → (∀ x ∈ o, 0 ≤ x ∧ x ≤ (m : Int)) → m + d ≤ 1000 →
    isum (useT cover d i o) = isum o + cntN cover d i ∧ ∀ x ∈ useT cover d i o, 0 ≤ x ∧ x ≤ 1000
  | 0, i, o, m, _, _, hb, hm => by
    unfold useT cntN
    exact ⟨by omega, fun x hx => by have := hb x hx; omega⟩
  | d + 1, i, o, m, hi, ho, hb, hm => by
    unfold useT cntN
    by_cases c : 0 ≤ cvr cover i
    · obtain ⟨⟨h0, h12⟩, _⟩ := vld_parts (hv i (by omega) c)
      have hk : (cvr cover i).toNat < o.length := by omega
      have hg : o.getD (cvr cover i).toNat 0 = o[(cvr cover i).toNat] := by rw [List.getD_eq_getElem?_getD, List.getElem?_eq_getElem hk]; rfl
      have hx := hb _ (List.getElem_mem hk)
      rw [← hg] at hx
      rw [if_pos c, if_pos c, wrap_ok (by omega) (by omega)]
      obtain ⟨h1, h2⟩ := useT_sum hv d (i + 1) (o.set (cvr cover i).toNat (o.getD (cvr cover i).toNat 0 + 1)) (m + 1) (by omega) (by rw [List.length_set]; exact ho) (fun y hy => by
        rcases List.mem_or_eq_of_mem_set hy with q | q
        · have := hb y q; omega
        · omega) (by omega)
      rw [h1, isum_set _ _ _ hk]
      exact ⟨by omega, h2⟩
    · rw [if_neg c, if_neg c]
      obtain ⟨h1, h2⟩ := useT_sum hv d (i + 1) o m (by omega) ho hb (by omega)
      rw [h1]
      exact ⟨by omega, h2⟩
end
/-! ### the law -/
theorem ask_of {e : List Nd} {i t : Int} (h1 : treeOk e = true) (hi : 0 ≤ i ∧ i < e.length) (ht : 0 ≤ t ∧ t ≤ 12) : askP e i t = tileM e i t := by
  unfold askP
  rw [if_pos]
  rw [h1, inB_iff.2 ⟨hi.1, by omega⟩, inB_iff.2 ht]; rfl
theorem pCover_v {f : List Nd} {cover : List Int} (hl : f.length ≤ 1048576) : laws_pCover.v f cover = some (coverA f cover) := by
  refine laws_pCover.vs _ _ ?_
  rw [implIsCover_v hl, bd_s]
  unfold isCoverA coverA
  by_cases c : treeOk f = true
  · rw [if_pos c, c]; rfl
  · rw [if_neg c]; rw [Bool.not_eq_true] at c; rw [c]; rfl
theorem fair_of {e : List Nd} {P : List Int} (h : (fairA e P).1 = true) : treeOk e = true ∧ FairP e P := by
  unfold fairA at h
  by_cases c : treeOk e = true
  · rw [if_pos c] at h
    by_cases k : pricedP e P = true
    · rw [if_pos k] at h
      obtain ⟨p1, p2⟩ := priced_parts k
      have h : (unfN e P e.length 0).2.2 = false := by simpa using h
      exact ⟨c, p1, p2, fun i hi t ht => unfN_no e.length 0 (by omega) h i (by omega) hi t ht⟩
    · rw [if_neg k] at h; cases h
  · rw [if_neg c] at h; cases h
theorem unf_of {e : List Nd} {P : List Int} {x t : Int} (h : unfA e P = (x, t, true)) : (fairA e P).1 = false ∧ treeOk e = true ∧ P.length = e.length ∧ ∃ n : Nat, x = (n : Int) ∧ n < e.length ∧ t ∈ tl e n 13 ∧ P.getD n 0 > wth e n P t := by
  unfold unfA at h
  by_cases c : treeOk e = true ∧ pricedP e P = true
  · rw [if_pos c] at h
    refine ⟨?_, c.1, (priced_parts c.2).1, unfN_yes e.length 0 x t (by omega) h⟩
    unfold fairA
    rw [if_pos c.1, if_pos c.2, h]; rfl
  · rw [if_neg c] at h; simp at h
section
variable {e : List Nd} {P : List Int}
theorem f14 (hl : e.length ≤ 100) (hP : P.length ≤ 1000) : laws_FnFairPrices.v14 e P (fairA e P).1 = some true := by
  refine laws_FnFairPrices.v14s _ _ _ ?_
  cases hf : (fairA e P).1 with
  | false => rfl
  | true =>
    obtain ⟨ht, F⟩ := fair_of hf
    obtain ⟨hn, h1, h24, _⟩ := treeOk_parts ht
    have hc := chosen_cover ht (bests_vld hn)
    have hlt : e.length - 1 < P.length := by have := F.len; omega
    rw [brn_t, implBestCover_v (by omega), bd_s]
    unfold bestA
    rw [if_pos ht]
    refine laws_FnFairPrices.v15s _ _ _ _ ?_
    rw [implCoverCost_v (by omega), bd_s]
    unfold coverCostA coverA
    have h0 : (true && true) = true := rfl
    rw [ht, hc, if_pos h0]
    refine laws_FnFairPrices.v16s _ _ _ _ ?_
    have hw : IntKind.wrap .i64 ((P.length : Int) - 1) = ((e.length - 1 : Nat) : Int) := by rw [F.len, wrap_ok (by omega) (by omega)]; omega
    rw [br_t rfl, br_t rfl, hw, br_t (by simp), Int.toNat_natCast, gt_some (get_D hlt), decide_eq_true (fair_cost ht (bests_vld hn) F)]
theorem f12 {i : Nat} {t s : Int} (hn : nodesOk e 0 = true) (hi : i < e.length) (hPl : P.length = e.length) (hgt : P.getD i 0 > sumP P (prts e i t) s) : laws_FnFairPrices.v12 P (i : Int) s true true (prts e i t) ((prts e i t).length : Int) 0 = some true := by
  have hp := prts_ok hn hi t
  have key : ∀ (d j : Nat) (s : Int), j + d = (prts e i t).length → P.getD i 0 > sumP P ((prts e i t).drop j) s → laws_FnFairPrices.v12 P (i : Int) s true true (prts e i t) ((prts e i t).length : Int) (j : Int) = some true := by
    intro d
    induction d with
    | zero =>
      intro j s hj hs
      refine laws_FnFairPrices.v12s _ _ _ _ _ _ _ _ ?_
      rw [List.drop_eq_nil_of_le (by omega)] at hs
      rw [br_f (by simp; omega)]
      refine laws_FnFairPrices.v13s _ _ _ _ _ ?_
      rw [br_t rfl, br_t rfl, br_t (by simp), Int.toNat_natCast, gt_some (get_D (P := P) (j := i) (by omega)), decide_eq_true (show P.getD i 0 > s from hs)]
    | succ d ih =>
      intro j s hj hs
      have hjl : j < (prts e i t).length := by omega
      have hx := hp.2 _ (List.getElem_mem hjl)
      rw [drop_at _ _ hjl] at hs
      refine laws_FnFairPrices.v12s _ _ _ _ _ _ _ _ ?_
      rw [br_t (by simpa using hjl), br_t (by simp), Int.toNat_natCast, gt_at _ hjl, br_t (by simpa using hx.1), gt_some (get_D (P := P) (j := ((prts e i t)[j]).toNat) (by omega)), next_ok j _ hjl (by omega)]
      exact ih (j + 1) _ (by omega) hs
  exact key (prts e i t).length 0 s (by omega) hgt
theorem f9 (hl : e.length ≤ 100) (hP : P.length ≤ 1000) : laws_FnFairPrices.v9 e P (fairA e P).1 (unfA e P).1 (unfA e P).2.1 (unfA e P).2.2 = some true := by
  refine laws_FnFairPrices.v9s _ _ _ _ _ _ ?_
  rcases hu : unfA e P with ⟨x, t, b⟩
  cases b with
  | false => exact f14 hl hP
  | true =>
    obtain ⟨_, ht, hPl, n, rfl, hne, hm, hgt⟩ := unf_of hu
    obtain ⟨hn, h1, h24, _⟩ := treeOk_parts ht
    obtain ⟨m0, m1, m2⟩ := tl_mem hm
    obtain ⟨⟨p, q⟩, hpq⟩ := Option.isSome_iff_exists.1 m2
    have ha : askP e (n : Int) t = some (p, q) := by rw [ask_of ht (by omega) (by omega), hpq]
    have hp : prts e n t = p := by unfold prts; rw [hpq]
    dsimp only
    rw [br_t rfl, tileCost_v e (by omega), bd_s, ha]
    refine laws_FnFairPrices.v10s _ _ _ _ _ _ ?_
    rw [tileParts_v e (by omega), bd_s, ha]
    refine laws_FnFairPrices.v11s _ _ _ _ _ _ ?_
    subst hp
    exact f12 hn hne hPl hgt
theorem f8 {f : List Nd} {cover : List Int} (ht : treeOk f = true) (hc : isCoverP f cover = true) {fa b : Bool} {x t : Int} (K : laws_FnFairPrices.v9 e P fa x t b = some true) {uses : List Int} (hu : laws_pSum.v uses = some (cntN cover f.length 0)) : 
    laws_FnFairPrices.v8 e P fa x t b f (sumC f cover f.length 0 0) 0 0 cover (cover.length : Int) 0 uses = some true := by
  obtain ⟨hn, h1, h24, _⟩ := treeOk_parts ht
  have hl := cover_len hc
  have key : ∀ (d j : Nat) (s k : Int), j + d = f.length → 0 ≤ k → k ≤ j → sumC f cover d j s = sumC f cover f.length 0 0 → k + cntN cover d j = cntN cover f.length 0 → laws_FnFairPrices.v8 e P fa x t b f (sumC f cover f.length 0 0) s k cover (f.length : Int) (j : Int) uses = some true := by
    intro d
    induction d with
    | zero =>
      intro j s k hj h0 hk hs hc
      refine laws_FnFairPrices.v8s _ _ _ _ _ _ _ _ _ _ _ _ _ _ ?_
      have hs : s = sumC f cover f.length 0 0 := hs
      have hc : k = cntN cover f.length 0 := by rw [cntN_z] at hc; omega
      rw [br_f (by simp; omega), hs, br_f (by simp), hu, bd_s, hc, br_f (by simp)]
      exact K
    | succ d ih =>
      intro j s k hj h0 hk hs hc
      have hjl : j < f.length := by omega
      refine laws_FnFairPrices.v8s _ _ _ _ _ _ _ _ _ _ _ _ _ _ ?_
      rw [br_t (by simpa using hjl), br_t (by simp), Int.toNat_natCast, gt_some (cvr_get hl hjl), next_ok j _ hjl (by omega)]
      rw [sumC_s] at hs
      rw [cntN_s] at hc
      by_cases c : 0 ≤ cvr cover j
      · obtain ⟨⟨v0, v12⟩, p, q, hpq⟩ := vld_parts (cover_vld ‹_› hjl c)
        rw [if_pos c] at hs hc
        rw [br_t (by simpa using c), tileCost_v f (by omega), bd_s, ask_of ht (by omega) ⟨v0, v12⟩, hpq]
        refine (brn_t _ _).trans ?_
        rw [wrap_ok (x := k + 1) (by omega) (by omega)]
        exact ih (j + 1) _ _ (by omega) (by omega) (by omega) hs (by omega)
      · rw [if_neg c] at hs hc
        rw [br_f (by simpa using c)]
        exact ih (j + 1) _ _ (by omega) h0 (by omega) hs (by omega)
  rw [hl]
  exact key f.length 0 0 0 (by omega) (by omega) (by omega) rfl (by omega)
end
theorem fairPrices_pure (x0 x1 : List Int) (q0 : Qd (.sl (.i .u8)) x0) (q1 : Qd (.sl (.i .u8)) x1) : ∃ k, laws_FnFairPrices.f k x0 x1 = some true := by
  refine Ev.some (lim_ev (laws_FnFairPrices.vs x0 x1 ?_))
  obtain ⟨r, hr, _⟩ := big_f x0 x1
  rw [hr, bd_s]
  cases r with
  | true => rfl
  | false =>
    rw [br_f rfl]
    obtain ⟨e, P, hd, hel, hPl⟩ := drawFair_v (bytes_of q0)
    obtain ⟨f, cover, hf, hfl, hcl⟩ := drawCover_v (bytes_of q1)
    rw [hd, bd_s]
    dsimp only
    rw [implFair_v (by omega) (by omega), bd_s]
    refine laws_FnFairPrices.v0s _ _ _ _ _ ?_
    rw [specFair_v (by omega) (by omega), bd_s, implUnfA_v (by omega) (by omega), bd_s]
    refine laws_FnFairPrices.v1s _ _ _ _ _ _ _ _ _ _ ?_
    rw [specUnfA_v (by omega) (by omega), bd_s]
    refine laws_FnFairPrices.v2s _ _ _ _ _ _ _ _ _ _ _ _ _ ?_
    have v3 : laws_FnFairPrices.v3 x1 e P (fairA e P).1 (unfA e P).1 (unfA e P).2.1 (unfA e P).2.2 = some true := by
      refine laws_FnFairPrices.v3s _ _ _ _ _ _ _ ?_
      have hdc : spec_DrawCoverCost.v x1 = some (f, cover) := spec_DrawCoverCost.vs _ (by rw [hf, bd_s])
      rw [hdc, bd_s]
      dsimp only
      rw [implCoverCost_v (by omega), bd_s]
      refine laws_FnFairPrices.v4s _ _ _ _ _ _ _ _ _ _ ?_
      rw [specCoverCost_v (by omega), bd_s, implTileUses_v (by omega), bd_s]
      refine laws_FnFairPrices.v5s _ _ _ _ _ _ _ _ _ _ _ _ _ _ ?_
      rw [specTileUses_v (by omega), bd_s]
      refine laws_FnFairPrices.v6s _ _ _ _ _ _ _ _ _ _ _ _ _ _ _ _ ?_
      have hu := tileUsesA_len (e := f) (cover := cover)
      have e1 : (coverCostA f cover).2 = coverA f cover := by
        unfold coverCostA
        by_cases c : coverA f cover = true
        · rw [if_pos c, c]
        · rw [if_neg c]; rw [Bool.not_eq_true] at c; rw [c]
      have e2 : (tileUsesA f cover).2 = coverA f cover := by
        unfold tileUsesA
        by_cases c : coverA f cover = true
        · rw [if_pos c, c]
        · rw [if_neg c]; rw [Bool.not_eq_true] at c; rw [c]
      rw [br_f (by simp), br_f (by simp), br_f (by simp), pSame_self _ (show (tileUsesA f cover).1.length ≤ 1000000 by omega), bd_s, brn_t, pCover_v (by omega), bd_s, e1, e2, br_f (by simp), br_f (by simp)]
      refine laws_FnFairPrices.v7s _ _ _ _ _ _ _ _ _ _ _ ?_
      have K := f9 (e := e) (P := P) (by omega) (by omega)
      cases c : coverA f cover with
      | false => rw [br_f rfl]; exact K
      | true =>
        obtain ⟨⟨hn, h1, h24⟩, h4⟩ := coverA_parts c
        have ht : treeOk f = true := by unfold coverA at c; rw [Bool.and_eq_true] at c; exact c.1
        rw [br_t rfl]
        unfold coverCostA tileUsesA
        rw [if_pos c, if_pos c]
        obtain ⟨s1, s2⟩ := useT_sum (e := f) (cover := cover) (fun j hj => cover_vld h4 hj) f.length 0 (List.replicate 13 0) 0 (by omega) (by simp) (fun x hx => by rw [(List.mem_replicate.1 hx).2]; omega) (by omega)
        refine f8 ht h4 K ?_
        have z : isum (List.replicate 13 0) = 0 := by decide
        rw [pSum_v _ (by rw [useT_len]; simp) s2, s1, z, Int.zero_add]
    rw [br_f (by simp), br_f (by simp), br_f (by simp), br_f (by simp), br_f (by simp)]
    cases hfa : (fairA e P).1 with
    | false => rw [br_f rfl]; rw [hfa] at v3; exact v3
    | true =>
      rw [hfa] at v3
      rw [br_t rfl]
      cases hua : (unfA e P).2.2 with
      | false => rw [br_f rfl]; rw [hua] at v3; exact v3
      | true =>
        have := (unf_of (e := e) (P := P) (x := (unfA e P).1) (t := (unfA e P).2.1) (by rw [← hua])).1
        rw [hfa] at this; cases this
end Go.Proofs.YtfpjcfhbecmneaaGreat.Am
end
