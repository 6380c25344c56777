-- Made by this session's program gen.py over the translation.
import Derived.Test.YtlmegefdnkjcbaaPa0
import Derived.Test.YtlmegefdnkjcbaaPa4
import Derived.Test.YtlmegefdnkjcbaaPa5
import Derived.Test.YtlmegefdnkjcbaaPa6
namespace Go.Proofs.Ytlmegefdnkjcbaa.Pa
open Go.RowKit Go.Proofs.YtlmegefdnkjcbaaW.PrintWords Go.Proofs.YtlmegefdnkjcbaaW.PrintLast Go.Proofs.YtlmegefdnkjcbaaW.PrintMore
attribute [local go_sem] max2_int min2_int max_two min_two max_three min_three max_four min_four   -- for this text's walks alone
set_option linter.unusedVariables false
set_option linter.unusedSimpArgs false
set_option maxHeartbeats 8000000
set_option maxRecDepth 100000

/-! ### impl_sumTile_at11: function 103 -/
def impl_sumTile_at11.j0 : Nat → List (S54) → Int → Int → Bool → ByteArray → Int → Int → Int → Option (List Int × List Int × Int × Bool)
 | 0, _, _, _, _, _, _, _, _ => none
 | k + 1, x0, x8, x9, x51, x686000, x686001, x686002, x686003 => if x51 = true then (some (([] : List Int), ([] : List Int), 0, false)) else (if 0 ≤ x686002 then (if x686002 < (x0.length : Int) then ((impl_power.f k ((rd_T54 x0 x686002).f3)).bind fun t688 => ((slices_Sort_int_int.f k (([x686002, x9] : List Int))).bind fun t692 => ((impl_within.f t688 1 3).bind fun t696 => (some ((([x8, x686001] : List Int)), t692, 1, t696))))) else (none)) else (none))
def impl_sumTile_at11.f (k : Nat) (l0 : List (S54)) (a1_0 : ByteArray) (a1_1 : Int) (a1_2 : Int) (a1_3 : Int)  : Option (List Int × List Int × Int × Bool) := if 0 ≤ a1_2 then (if a1_2 < (l0.length : Int) then (if a1_0.toList = ([97, 100, 100] : List UInt8) then (if ((rd_T54 l0 a1_2).f0).toList = ([109, 117, 108] : List UInt8) then (if 0 ≤ ((rd_T54 l0 a1_2).f2) then (if ((rd_T54 l0 a1_2).f2) < (l0.length : Int) then (impl_sumTile_at11.j0 k l0 a1_1 a1_2 (((rd_T54 l0 ((rd_T54 l0 a1_2).f2)).f0).toList != ([99, 111, 110, 115, 116] : List UInt8)) ((rd_T54 l0 a1_2).f0) ((rd_T54 l0 a1_2).f1) ((rd_T54 l0 a1_2).f2) ((rd_T54 l0 a1_2).f3)) else (none)) else (none)) else (impl_sumTile_at11.j0 k l0 a1_1 a1_2 true ((rd_T54 l0 a1_2).f0) ((rd_T54 l0 a1_2).f1) ((rd_T54 l0 a1_2).f2) ((rd_T54 l0 a1_2).f3))) else (impl_sumTile_at11.j0 k l0 a1_1 a1_2 true ((rd_T54 l0 a1_2).f0) ((rd_T54 l0 a1_2).f1) ((rd_T54 l0 a1_2).f2) ((rd_T54 l0 a1_2).f3))) else (none)) else (none)
def impl_sumTile_at11.T14 : Bool × List (List Nat × List Nat) := (true, [([], []), ([], []), ([1], [1]), ([0, 2], [0, 2]), ([], []), ([3, 4], [3, 4]), ([], []), ([6], [6]), ([5, 7, 0, 1, 2, 3, 4, 5], [5]), ([7, 8, 0, 1, 2, 3, 4, 5, 6, 7, 8], [7])])
def impl_sumTile_at11.B14 : List Nat := [0, 0, 2, 7, 0, 31, 0, 64, 255, 511]
theorem impl_sumTile_at11.tab14 : rtab .any (opsOf Try.f103 14) = impl_sumTile_at11.T14 := by kernel_rfl
theorem impl_sumTile_at11.bits14 : waitsOk impl_sumTile_at11.T14.2 impl_sumTile_at11.B14 = true := by kernel_rfl
theorem impl_sumTile_at11.calls (k : Nat) (A0 : Option Addr) (c0 : Nat) (l0 : List (S54)) (a1_0 : ByteArray) (a1_1 : Int) (a1_2 : Int) (a1_3 : Int)  (r1 : List Int) (r2 : List Int) (r3 : Int) (r4 : Bool) (w : World) (hr0 : Kd.C k54 w A0 l0.length l0) (hc0 : l0.length ≤ c0) (h : impl_sumTile_at11.f k l0 a1_0 a1_1 a1_2 a1_3 = some (r1, r2, r3, r4)) :
  Calls Try.prog 103 #[.slice A0 l0.length c0, .agg #[.string a1_0, .int .i64 a1_1, .int .i64 a1_2, .int .i64 a1_3], .int .i64 11] w fun e w' => ∃ v0_ v1_ : Value, e = .returned (.tuple #[.agg #[v0_, v1_, .int .i64 r3], .bool r4]) ∧ Kd.R (Kd.int .i64) 3 w' w.heap.size (fun k_ => some k_ ≠ (v1_ : Value).ownBlock) v0_ r1 ∧ Kd.R (Kd.int .i64) 3 w' w.heap.size (fun k_ => some k_ ≠ (v0_ : Value).ownBlock) v1_ r2 ∧ Below w.heap.size w w' := by
 have hu54 := Try.underlying54
 have hu57 := Try.underlying57
 have HR0 := Aside0.mk hr0
 have HC0 := Aside0.mk hc0
 clear hr0 hc0
 have HB := Aside0.mk (Below.refl w.heap.size w)
 have H := h
 clear h
 unfold impl_sumTile_at11.f at H
 obtain ⟨c4, H⟩ := ifs H
 have c4b0 := decide_eq_true c4
 clear c4
 obtain ⟨c5, H⟩ := ifs H
 have c5b0 := decide_eq_true c5
 clear c5
 have HC6 := Aside0.mk H
 clear H
 go_enter Try.func103, Try.ntmps103
 try go_wp2_with (first | ((with_reducible refine gd 4 rfl ?_); refine bx 4 #[.string a1_0, .int .i64 a1_1, .int .i64 a1_2, .int .i64 a1_3] 54 ?_; intro gb682 hg w7 BK682 GW682 HB hb; have GE682 := GW682; clear hb hg) | ((with_reducible refine gd 6 rfl ?_); refine bx 6 #[.slice none 0 0, .slice none 0 0, .int .i64 0] 57 ?_; intro gb683 hg w8 BK683 GW683 HB hb; have GE683 := GW683; have NB682_683 := nbl hg (bk BK682.out); have NB683_682 := nbr hg (bk BK682.out); replace BK682 := kb BK682 hb; clear hb hg))
 replace BK682 := Aside0.mk (blk_drew BK682.out); replace BK683 := Aside0.mk (blk_drew BK683.out); replace HB := Aside0.mk (below_drew1 HB.out)
 refine start_ (n := 7) (S := C4 gb682 (.string a1_0) (.int .i64 a1_1) (.int .i64 a1_2) (.int .i64 a1_3)) (ds := []) (mk 7 0) (by kernel_rfl) rfl (by kernel_rfl) (bc4 BK682.out) (fun hHeld => ?_)
 generalize w8.drew = w9 at BK682 BK683 HB hHeld ⊢
 refine pu 0 14 7 1 rfl rfl ?_
 refine pu 2 16 7 5 rfl rfl ?_
 refine ta 1 15 7 7 rfl rfl ?_
 refine pu 4 8 7 23 rfl rfl ?_
 refine ta 3 17 7 31 rfl rfl ?_
 refine pu 5 9 7 63 rfl rfl ?_
 refine pu 6 10 7 127 rfl rfl ?_
 refine done_ (by kernel_rfl) ?_
 have p684 : 0 ≤ (a1_2 : Int) := DT
 have q684 : a1_2 < (l0.length : Int) := DT
 obtain ⟨ad684, e684, hx684_0, hx684_1, hx684_2, hx684_3⟩ := at_T54 (Kd.C_below HR0.out HB.out) a1_2 p684 q684
 cases e684
 replace p684 := eq_true p684
 replace q684 := eq_true q684
 go_upto_region 7 with (first | ((with_reducible refine gd 11 rfl ?_); refine bx 11 #[.string (⟨#[]⟩ : ByteArray), .int .i64 0, .int .i64 0, .int .i64 0] 54 ?_; intro gb685 hg w10 BK685 GW685 HB hb; have GE685 := GW685; have NB682_685 := nbl hg (bk BK682.out); have NB685_682 := nbr hg (bk BK682.out); replace BK682 := kb BK682 hb; have NB683_685 := nbl hg (bk BK683.out); have NB685_683 := nbr hg (bk BK683.out); replace BK683 := kb BK683 hb; clear hb hg; have hnb11 := NB685_682.out; have hnc11 := NB682_685.out; have hnb12 := NB685_683.out; have hnc12 := NB683_685.out; obtain ⟨hcz13_0, hcz13_1, hcz13_2, hcz13_3⟩ := bc4 BK685.out; have hfz13 := blk_frozen BK685.out))
 (try simp only [Act.put, List.setIfInBounds_toArray, List.set_cons_zero, List.set_cons_succ])
 go_cut [51] (fun v51 wc => ∃ (kq : Nat) (x51_5 : Bool), v51 = .bool x51_5 ∧ Aside0 (impl_sumTile_at11.j0 kq l0 a1_1 a1_2 x51_5 ((rd_T54 l0 a1_2).f0) ((rd_T54 l0 a1_2).f1) ((rd_T54 l0 a1_2).f2) ((rd_T54 l0 a1_2).f3) = some (r1, r2, r3, r4)) ∧ Aside0 (kq ≤ k) ∧ Aside0 (wc.heap[gb682]? = some (.cells #[.string a1_0, .int .i64 a1_1, .int .i64 a1_2, .int .i64 a1_3] 54 (0, 0))) ∧ Aside0 (wc.heap[gb683]? = some (.cells #[(.slice none 0 0), (.slice none 0 0), .int .i64 0] 57 (0, 0))) ∧ Aside0 (wc.heap[gb685]? = some (.cells #[.string ((rd_T54 l0 a1_2).f0), .int .i64 ((rd_T54 l0 a1_2).f1), .int .i64 ((rd_T54 l0 a1_2).f2), .int .i64 ((rd_T54 l0 a1_2).f3)] 54 (0, 0))) ∧ Aside0 (Below w.heap.size w wc))
 case first =>
  have H := HC6.out
  clear HC6
  by_cases c14 : a1_0.toList = ([97, 100, 100] : List UInt8)
  ·rw [if_pos c14] at H
   have c14b0 := beq_iff_eq.mpr c14
   have c14b1 := bne_eq_false_iff_eq.mpr c14
   clear c14
   (first | rw [c14b0] | (simp only [i64_w, i32_w]; rw [c14b0]) | skip)
   by_cases c15 : ((rd_T54 l0 a1_2).f0).toList = ([109, 117, 108] : List UInt8)
   ·rw [if_pos c15] at H
    have c15b0 := beq_iff_eq.mpr c15
    have c15b1 := bne_eq_false_iff_eq.mpr c15
    clear c15
    obtain ⟨c16, H⟩ := ifs H
    have c16b0 := decide_eq_true c16
    clear c16
    obtain ⟨c17, H⟩ := ifs H
    have c17b0 := decide_eq_true c17
    clear c17
    have H' := Aside0.mk H
    clear H
    have hnb18 := NB682_683.out
    have hnc18 := NB683_682.out
    have hnb19 := NB682_685.out
    have hnc19 := NB685_682.out
    obtain ⟨hcz20_0, hcz20_1, hcz20_2, hcz20_3⟩ := bc4 BK682.out
    have hfz20 := blk_frozen BK682.out
    have hfz20_1 := blk_frozen BK682.out 1
    have hfz20_2 := blk_frozen BK682.out 2
    have hfz20_3 := blk_frozen BK682.out 3
    have hnb21 := NB685_683.out
    have hnc21 := NB683_685.out
    obtain ⟨hcz22_0, hcz22_1, hcz22_2, hcz22_3⟩ := bc4 BK685.out
    have hfz22 := blk_frozen BK685.out
    have hfz22_1 := blk_frozen BK685.out 1
    have hfz22_2 := blk_frozen BK685.out 2
    have hfz22_3 := blk_frozen BK685.out 3
    have p686 : 0 ≤ (((rd_T54 l0 a1_2).f2) : Int) := DT
    have q686 : ((rd_T54 l0 a1_2).f2) < (l0.length : Int) := DT
    obtain ⟨ad686, e686, hx686_0, hx686_1, hx686_2, hx686_3⟩ := at_T54 HR0.out ((rd_T54 l0 a1_2).f2) p686 q686
    obtain rfl : ad684 = ad686 := (by injection e686)
    have hn686_0 : ad684.block ≠ gb685 := Nat.ne_of_lt (Nat.lt_of_lt_of_le (by have := World.block_lt_of_cell? _ _ hx686_0; first | rwa [add_block] at this | exact this) GW685.out)
    have hn686_1 : ad684.block ≠ gb685 := Nat.ne_of_lt (Nat.lt_of_lt_of_le (by have := World.block_lt_of_cell? _ _ hx686_0; first | rwa [add_block] at this | exact this) GW685.out)
    have hn686_2 : ad684.block ≠ gb685 := Nat.ne_of_lt (Nat.lt_of_lt_of_le (by have := World.block_lt_of_cell? _ _ hx686_0; first | rwa [add_block] at this | exact this) GW685.out)
    have hn686_3 : ad684.block ≠ gb685 := Nat.ne_of_lt (Nat.lt_of_lt_of_le (by have := World.block_lt_of_cell? _ _ hx686_0; first | rwa [add_block] at this | exact this) GW685.out)
    replace hx686_0 := (HB.out.cell (World.block_lt_of_cell? w _ hx686_0)).trans hx686_0
    replace hx686_1 := (HB.out.cell (World.block_lt_of_cell? w _ hx686_1)).trans hx686_1
    replace hx686_2 := (HB.out.cell (World.block_lt_of_cell? w _ hx686_2)).trans hx686_2
    replace hx686_3 := (HB.out.cell (World.block_lt_of_cell? w _ hx686_3)).trans hx686_3
    replace hx686_0 := (cell_far (p := ⟨gb685, 0, none⟩) (by first | (rw [add_block]; exact hn686_0) | (show (Addr.add _ _).block ≠ _; rw [add_block]; exact hn686_0) | exact hn686_0) (.string ((rd_T54 l0 a1_2).f0))).trans hx686_0
    replace hx686_1 := (cell_far (p := ⟨gb685, 0, none⟩) (by first | (rw [add_block]; exact hn686_0) | (show (Addr.add _ _).block ≠ _; rw [add_block]; exact hn686_0) | exact hn686_0) (.string ((rd_T54 l0 a1_2).f0))).trans hx686_1
    replace hx686_2 := (cell_far (p := ⟨gb685, 0, none⟩) (by first | (rw [add_block]; exact hn686_0) | (show (Addr.add _ _).block ≠ _; rw [add_block]; exact hn686_0) | exact hn686_0) (.string ((rd_T54 l0 a1_2).f0))).trans hx686_2
    replace hx686_3 := (cell_far (p := ⟨gb685, 0, none⟩) (by first | (rw [add_block]; exact hn686_0) | (show (Addr.add _ _).block ≠ _; rw [add_block]; exact hn686_0) | exact hn686_0) (.string ((rd_T54 l0 a1_2).f0))).trans hx686_3
    replace hx686_0 := (cell_far (p := ⟨gb685, 1, none⟩) (by first | (rw [add_block]; exact hn686_1) | (show (Addr.add _ _).block ≠ _; rw [add_block]; exact hn686_1) | exact hn686_1) (.int .i64 ((rd_T54 l0 a1_2).f1))).trans hx686_0
    replace hx686_1 := (cell_far (p := ⟨gb685, 1, none⟩) (by first | (rw [add_block]; exact hn686_1) | (show (Addr.add _ _).block ≠ _; rw [add_block]; exact hn686_1) | exact hn686_1) (.int .i64 ((rd_T54 l0 a1_2).f1))).trans hx686_1
    replace hx686_2 := (cell_far (p := ⟨gb685, 1, none⟩) (by first | (rw [add_block]; exact hn686_1) | (show (Addr.add _ _).block ≠ _; rw [add_block]; exact hn686_1) | exact hn686_1) (.int .i64 ((rd_T54 l0 a1_2).f1))).trans hx686_2
    replace hx686_3 := (cell_far (p := ⟨gb685, 1, none⟩) (by first | (rw [add_block]; exact hn686_1) | (show (Addr.add _ _).block ≠ _; rw [add_block]; exact hn686_1) | exact hn686_1) (.int .i64 ((rd_T54 l0 a1_2).f1))).trans hx686_3
    replace hx686_0 := (cell_far (p := ⟨gb685, 2, none⟩) (by first | (rw [add_block]; exact hn686_2) | (show (Addr.add _ _).block ≠ _; rw [add_block]; exact hn686_2) | exact hn686_2) (.int .i64 ((rd_T54 l0 a1_2).f2))).trans hx686_0
    replace hx686_1 := (cell_far (p := ⟨gb685, 2, none⟩) (by first | (rw [add_block]; exact hn686_2) | (show (Addr.add _ _).block ≠ _; rw [add_block]; exact hn686_2) | exact hn686_2) (.int .i64 ((rd_T54 l0 a1_2).f2))).trans hx686_1
    replace hx686_2 := (cell_far (p := ⟨gb685, 2, none⟩) (by first | (rw [add_block]; exact hn686_2) | (show (Addr.add _ _).block ≠ _; rw [add_block]; exact hn686_2) | exact hn686_2) (.int .i64 ((rd_T54 l0 a1_2).f2))).trans hx686_2
    replace hx686_3 := (cell_far (p := ⟨gb685, 2, none⟩) (by first | (rw [add_block]; exact hn686_2) | (show (Addr.add _ _).block ≠ _; rw [add_block]; exact hn686_2) | exact hn686_2) (.int .i64 ((rd_T54 l0 a1_2).f2))).trans hx686_3
    replace hx686_0 := (cell_far (p := ⟨gb685, 3, none⟩) (by first | (rw [add_block]; exact hn686_3) | (show (Addr.add _ _).block ≠ _; rw [add_block]; exact hn686_3) | exact hn686_3) (.int .i64 ((rd_T54 l0 a1_2).f3))).trans hx686_0
    replace hx686_1 := (cell_far (p := ⟨gb685, 3, none⟩) (by first | (rw [add_block]; exact hn686_3) | (show (Addr.add _ _).block ≠ _; rw [add_block]; exact hn686_3) | exact hn686_3) (.int .i64 ((rd_T54 l0 a1_2).f3))).trans hx686_1
    replace hx686_2 := (cell_far (p := ⟨gb685, 3, none⟩) (by first | (rw [add_block]; exact hn686_3) | (show (Addr.add _ _).block ≠ _; rw [add_block]; exact hn686_3) | exact hn686_3) (.int .i64 ((rd_T54 l0 a1_2).f3))).trans hx686_2
    replace hx686_3 := (cell_far (p := ⟨gb685, 3, none⟩) (by first | (rw [add_block]; exact hn686_3) | (show (Addr.add _ _).block ≠ _; rw [add_block]; exact hn686_3) | exact hn686_3) (.int .i64 ((rd_T54 l0 a1_2).f3))).trans hx686_3
    clear hn686_0
    clear hn686_1
    clear hn686_2
    clear hn686_3
    replace p686 := eq_true p686
    replace q686 := eq_true q686
    go_wp2
    go_meet
    case rel => exact ⟨_, ((((rd_T54 l0 ((rd_T54 l0 a1_2).f2)).f0).toList != ([99, 111, 110, 115, 116] : List UInt8))), EQ1, H', ⟨by first | omega | exact Nat.le_refl _⟩, ⟨by (with_reducible repeat (first | refine blk_drewN ?_ _ | refine blk_drew ?_ | refine blk_alloc ?_ _)); refine blk_far ?_ NB682_685.out _; (with_reducible repeat (first | refine blk_drewN ?_ _ | refine blk_drew ?_ | refine blk_alloc ?_ _)); refine blk_far ?_ NB682_685.out _; (with_reducible repeat (first | refine blk_drewN ?_ _ | refine blk_drew ?_ | refine blk_alloc ?_ _)); refine blk_far ?_ NB682_685.out _; (with_reducible repeat (first | refine blk_drewN ?_ _ | refine blk_drew ?_ | refine blk_alloc ?_ _)); refine blk_far ?_ NB682_685.out _; (with_reducible repeat (first | refine blk_drewN ?_ _ | refine blk_drew ?_ | refine blk_alloc ?_ _)); exact BK682.out⟩, ⟨by (with_reducible repeat (first | refine blk_drewN ?_ _ | refine blk_drew ?_ | refine blk_alloc ?_ _)); refine blk_far ?_ NB683_685.out _; (with_reducible repeat (first | refine blk_drewN ?_ _ | refine blk_drew ?_ | refine blk_alloc ?_ _)); refine blk_far ?_ NB683_685.out _; (with_reducible repeat (first | refine blk_drewN ?_ _ | refine blk_drew ?_ | refine blk_alloc ?_ _)); refine blk_far ?_ NB683_685.out _; (with_reducible repeat (first | refine blk_drewN ?_ _ | refine blk_drew ?_ | refine blk_alloc ?_ _)); refine blk_far ?_ NB683_685.out _; (with_reducible repeat (first | refine blk_drewN ?_ _ | refine blk_drew ?_ | refine blk_alloc ?_ _)); exact BK683.out⟩, ⟨by (with_reducible repeat (first | refine blk_drewN ?_ _ | refine blk_drew ?_ | refine blk_alloc ?_ _)); refine blk_put (cs := #[.string ((rd_T54 l0 a1_2).f0), .int .i64 ((rd_T54 l0 a1_2).f1), .int .i64 ((rd_T54 l0 a1_2).f2), .int .i64 0]) ?_ 3 _ rfl; (with_reducible repeat (first | refine blk_drewN ?_ _ | refine blk_drew ?_ | refine blk_alloc ?_ _)); refine blk_put (cs := #[.string ((rd_T54 l0 a1_2).f0), .int .i64 ((rd_T54 l0 a1_2).f1), .int .i64 0, .int .i64 0]) ?_ 2 _ rfl; (with_reducible repeat (first | refine blk_drewN ?_ _ | refine blk_drew ?_ | refine blk_alloc ?_ _)); refine blk_put (cs := #[.string ((rd_T54 l0 a1_2).f0), .int .i64 0, .int .i64 0, .int .i64 0]) ?_ 1 _ rfl; (with_reducible repeat (first | refine blk_drewN ?_ _ | refine blk_drew ?_ | refine blk_alloc ?_ _)); refine blk_put (cs := #[.string (⟨#[]⟩ : ByteArray), .int .i64 0, .int .i64 0, .int .i64 0]) ?_ 0 _ rfl; (with_reducible repeat (first | refine blk_drewN ?_ _ | refine blk_drew ?_ | refine blk_alloc ?_ _)); exact BK685.out⟩, ⟨BA⟩⟩
   ·rw [if_neg c15] at H
    have c15b0 := beq_eq_false_iff_ne.mpr c15
    have c15b1 := bne_iff_ne.mpr c15
    have H' := Aside0.mk H
    clear H
    have hnb23 := NB682_683.out
    have hnc23 := NB683_682.out
    have hnb24 := NB682_685.out
    have hnc24 := NB685_682.out
    obtain ⟨hcz25_0, hcz25_1, hcz25_2, hcz25_3⟩ := bc4 BK682.out
    have hfz25 := blk_frozen BK682.out
    have hfz25_1 := blk_frozen BK682.out 1
    have hfz25_2 := blk_frozen BK682.out 2
    have hfz25_3 := blk_frozen BK682.out 3
    have hnb26 := NB685_683.out
    have hnc26 := NB683_685.out
    obtain ⟨hcz27_0, hcz27_1, hcz27_2, hcz27_3⟩ := bc4 BK685.out
    have hfz27 := blk_frozen BK685.out
    have hfz27_1 := blk_frozen BK685.out 1
    have hfz27_2 := blk_frozen BK685.out 2
    have hfz27_3 := blk_frozen BK685.out 3
    go_wp2
    go_meet
    case rel => exact ⟨_, (true), EQ1, H', ⟨by first | omega | exact Nat.le_refl _⟩, ⟨by (with_reducible repeat (first | refine blk_drewN ?_ _ | refine blk_drew ?_ | refine blk_alloc ?_ _)); refine blk_far ?_ NB682_685.out _; (with_reducible repeat (first | refine blk_drewN ?_ _ | refine blk_drew ?_ | refine blk_alloc ?_ _)); refine blk_far ?_ NB682_685.out _; (with_reducible repeat (first | refine blk_drewN ?_ _ | refine blk_drew ?_ | refine blk_alloc ?_ _)); refine blk_far ?_ NB682_685.out _; (with_reducible repeat (first | refine blk_drewN ?_ _ | refine blk_drew ?_ | refine blk_alloc ?_ _)); refine blk_far ?_ NB682_685.out _; (with_reducible repeat (first | refine blk_drewN ?_ _ | refine blk_drew ?_ | refine blk_alloc ?_ _)); exact BK682.out⟩, ⟨by (with_reducible repeat (first | refine blk_drewN ?_ _ | refine blk_drew ?_ | refine blk_alloc ?_ _)); refine blk_far ?_ NB683_685.out _; (with_reducible repeat (first | refine blk_drewN ?_ _ | refine blk_drew ?_ | refine blk_alloc ?_ _)); refine blk_far ?_ NB683_685.out _; (with_reducible repeat (first | refine blk_drewN ?_ _ | refine blk_drew ?_ | refine blk_alloc ?_ _)); refine blk_far ?_ NB683_685.out _; (with_reducible repeat (first | refine blk_drewN ?_ _ | refine blk_drew ?_ | refine blk_alloc ?_ _)); refine blk_far ?_ NB683_685.out _; (with_reducible repeat (first | refine blk_drewN ?_ _ | refine blk_drew ?_ | refine blk_alloc ?_ _)); exact BK683.out⟩, ⟨by (with_reducible repeat (first | refine blk_drewN ?_ _ | refine blk_drew ?_ | refine blk_alloc ?_ _)); refine blk_put (cs := #[.string ((rd_T54 l0 a1_2).f0), .int .i64 ((rd_T54 l0 a1_2).f1), .int .i64 ((rd_T54 l0 a1_2).f2), .int .i64 0]) ?_ 3 _ rfl; (with_reducible repeat (first | refine blk_drewN ?_ _ | refine blk_drew ?_ | refine blk_alloc ?_ _)); refine blk_put (cs := #[.string ((rd_T54 l0 a1_2).f0), .int .i64 ((rd_T54 l0 a1_2).f1), .int .i64 0, .int .i64 0]) ?_ 2 _ rfl; (with_reducible repeat (first | refine blk_drewN ?_ _ | refine blk_drew ?_ | refine blk_alloc ?_ _)); refine blk_put (cs := #[.string ((rd_T54 l0 a1_2).f0), .int .i64 0, .int .i64 0, .int .i64 0]) ?_ 1 _ rfl; (with_reducible repeat (first | refine blk_drewN ?_ _ | refine blk_drew ?_ | refine blk_alloc ?_ _)); refine blk_put (cs := #[.string (⟨#[]⟩ : ByteArray), .int .i64 0, .int .i64 0, .int .i64 0]) ?_ 0 _ rfl; (with_reducible repeat (first | refine blk_drewN ?_ _ | refine blk_drew ?_ | refine blk_alloc ?_ _)); exact BK685.out⟩, ⟨BA⟩⟩
  ·rw [if_neg c14] at H
   have c14b0 := beq_eq_false_iff_ne.mpr c14
   have c14b1 := bne_iff_ne.mpr c14
   (first | rw [c14b0] | (simp only [i64_w, i32_w]; rw [c14b0]) | skip)
   have H' := Aside0.mk H
   clear H
   have hnb28 := NB682_683.out
   have hnc28 := NB683_682.out
   have hnb29 := NB682_685.out
   have hnc29 := NB685_682.out
   obtain ⟨hcz30_0, hcz30_1, hcz30_2, hcz30_3⟩ := bc4 BK682.out
   have hfz30 := blk_frozen BK682.out
   have hfz30_1 := blk_frozen BK682.out 1
   have hfz30_2 := blk_frozen BK682.out 2
   have hfz30_3 := blk_frozen BK682.out 3
   go_wp2
   go_meet
   case rel => exact ⟨_, (true), EQ1, H', ⟨by first | omega | exact Nat.le_refl _⟩, ⟨by (with_reducible repeat (first | refine blk_drewN ?_ _ | refine blk_drew ?_ | refine blk_alloc ?_ _)); refine blk_far ?_ NB682_685.out _; (with_reducible repeat (first | refine blk_drewN ?_ _ | refine blk_drew ?_ | refine blk_alloc ?_ _)); refine blk_far ?_ NB682_685.out _; (with_reducible repeat (first | refine blk_drewN ?_ _ | refine blk_drew ?_ | refine blk_alloc ?_ _)); refine blk_far ?_ NB682_685.out _; (with_reducible repeat (first | refine blk_drewN ?_ _ | refine blk_drew ?_ | refine blk_alloc ?_ _)); refine blk_far ?_ NB682_685.out _; (with_reducible repeat (first | refine blk_drewN ?_ _ | refine blk_drew ?_ | refine blk_alloc ?_ _)); exact BK682.out⟩, ⟨by (with_reducible repeat (first | refine blk_drewN ?_ _ | refine blk_drew ?_ | refine blk_alloc ?_ _)); refine blk_far ?_ NB683_685.out _; (with_reducible repeat (first | refine blk_drewN ?_ _ | refine blk_drew ?_ | refine blk_alloc ?_ _)); refine blk_far ?_ NB683_685.out _; (with_reducible repeat (first | refine blk_drewN ?_ _ | refine blk_drew ?_ | refine blk_alloc ?_ _)); refine blk_far ?_ NB683_685.out _; (with_reducible repeat (first | refine blk_drewN ?_ _ | refine blk_drew ?_ | refine blk_alloc ?_ _)); refine blk_far ?_ NB683_685.out _; (with_reducible repeat (first | refine blk_drewN ?_ _ | refine blk_drew ?_ | refine blk_alloc ?_ _)); exact BK683.out⟩, ⟨by (with_reducible repeat (first | refine blk_drewN ?_ _ | refine blk_drew ?_ | refine blk_alloc ?_ _)); refine blk_put (cs := #[.string ((rd_T54 l0 a1_2).f0), .int .i64 ((rd_T54 l0 a1_2).f1), .int .i64 ((rd_T54 l0 a1_2).f2), .int .i64 0]) ?_ 3 _ rfl; (with_reducible repeat (first | refine blk_drewN ?_ _ | refine blk_drew ?_ | refine blk_alloc ?_ _)); refine blk_put (cs := #[.string ((rd_T54 l0 a1_2).f0), .int .i64 ((rd_T54 l0 a1_2).f1), .int .i64 0, .int .i64 0]) ?_ 2 _ rfl; (with_reducible repeat (first | refine blk_drewN ?_ _ | refine blk_drew ?_ | refine blk_alloc ?_ _)); refine blk_put (cs := #[.string ((rd_T54 l0 a1_2).f0), .int .i64 0, .int .i64 0, .int .i64 0]) ?_ 1 _ rfl; (with_reducible repeat (first | refine blk_drewN ?_ _ | refine blk_drew ?_ | refine blk_alloc ?_ _)); refine blk_put (cs := #[.string (⟨#[]⟩ : ByteArray), .int .i64 0, .int .i64 0, .int .i64 0]) ?_ 0 _ rfl; (with_reducible repeat (first | refine blk_drewN ?_ _ | refine blk_drew ?_ | refine blk_alloc ?_ _)); exact BK685.out⟩, ⟨BA⟩⟩
 case rest =>
  clear HC6
  (try clear c4b0); (try clear c5b0); (try clear c14b0); (try clear c14b1); (try clear c15b0); (try clear c15b1); (try clear c16b0); (try clear c17b0); (try clear hcz13_0); (try clear hcz13_1); (try clear hcz13_2); (try clear hcz13_3); (try clear hcz20_0); (try clear hcz20_1); (try clear hcz20_2); (try clear hcz20_3); (try clear hcz22_0); (try clear hcz22_1); (try clear hcz22_2); (try clear hcz22_3); (try clear hcz25_0); (try clear hcz25_1); (try clear hcz25_2); (try clear hcz25_3); (try clear hcz27_0); (try clear hcz27_1); (try clear hcz27_2); (try clear hcz27_3); (try clear hcz30_0); (try clear hcz30_1); (try clear hcz30_2); (try clear hcz30_3); (try clear hfz20_1); (try clear hfz20_2); (try clear hfz20_3); (try clear hfz22_1); (try clear hfz22_2); (try clear hfz22_3); (try clear hfz25_1); (try clear hfz25_2); (try clear hfz25_3); (try clear hfz27_1); (try clear hfz27_2); (try clear hfz27_3); (try clear hfz30_1); (try clear hfz30_2); (try clear hfz30_3); (try clear hx684_0); (try clear hx684_1); (try clear hx684_2); (try clear hx684_3); (try clear hx686_0); (try clear hx686_1); (try clear hx686_2); (try clear hx686_3); (try clear p684); (try clear p686); (try clear q684); (try clear q686)
  obtain ⟨kq, x51_5, rfl, HA, HJ5, BK682, BK683, BK685, HB⟩ := hcut
  cases kq with
  | zero => exact absurd HA.out (by simp [impl_sumTile_at11.j0])
  | succ kj5 =>
   have H := HA.out
   clear HA
   simp only [impl_sumTile_at11.j0] at H
   by_cases c31 : x51_5 = true
   ·subst c31
    rw [if_pos rfl] at H
    simp only [Option.some.injEq, Prod.mk.injEq] at H
    obtain ⟨rfl, rfl, rfl, rfl⟩ := H
    have hnb32 := NB683_682.out
    have hnc32 := NB682_683.out
    have hnb33 := NB683_685.out
    have hnc33 := NB685_683.out
    obtain ⟨hcz34_0, hcz34_1, hcz34_2⟩ := bc3 BK683.out
    have hfz34 := blk_frozen BK683.out
    have hfz34_1 := blk_frozen BK683.out 1
    have hfz34_2 := blk_frozen BK683.out 2
    go_wp2
    refine bodyPost_ret (results_ct rfl _ _ gb683 57 #[.slice none 0 0, .slice none 0 0, .int .i64 0] (0, 0) _ rfl (bq BK683.out) Try.underlying57 rfl (by kernel_rfl)) rfl ?_
    exact ⟨_, _, EQ, by first | exact Kd.R_nil _ _ _ _ _ | exact Kd.N_nil _ _ _ _ _ | exact Kd.V_nil _ _ _ _ _ | exact Kd.Q_nil _ _ _ _ _ | exact Kd.S_nil _ _ _ _ _, by first | exact Kd.R_nil _ _ _ _ _ | exact Kd.N_nil _ _ _ _ _ | exact Kd.V_nil _ _ _ _ _ | exact Kd.Q_nil _ _ _ _ _ | exact Kd.S_nil _ _ _ _ _, BA⟩
   ·replace c31 := Bool.eq_false_iff.mpr c31
    subst c31
    rw [if_neg (show ¬ (false = true) by decide)] at H
    obtain ⟨c35, H⟩ := ifs H
    have c35b0 := decide_eq_true c35
    clear c35
    obtain ⟨c36, H⟩ := ifs H
    have c36b0 := decide_eq_true c36
    clear c36
    obtain ⟨t688, A37, H⟩ := ob H
    (try dsimp only at H)
    obtain ⟨y689, hy689⟩ : ∃ y_ : List Int, y_ = (([((rd_T54 l0 a1_2).f2), a1_2] : List Int)) := ⟨_, rfl⟩
    replace H : ((slices_Sort_int_int.f kj5 y689).bind fun t692 => ((impl_within.f t688 1 3).bind fun t696 => (some ((([a1_1, ((rd_T54 l0 a1_2).f1)] : List Int)), t692, 1, t696)))) = some (r1, r2, r3, r4) := by first | (rw [hy689]; with_reducible exact H) | (have H2_ := (Option.bind_some _ _).symm.trans H; rw [hy689]; with_reducible exact H2_) | (have H2_ := (Option.bind_some _ _).symm.trans H; with_reducible exact H2_) | with_reducible exact H | (rw [hy689]; exact H) | exact H
    have Ny689 := Aside0.mk hy689
    clear hy689
    obtain ⟨t692, A38, H⟩ := ob H
    (try dsimp only at H)
    obtain ⟨y693, hy693⟩ : ∃ y_ : List Int, y_ = (([a1_1, ((rd_T54 l0 a1_2).f1)] : List Int)) := ⟨_, rfl⟩
    replace H : ((impl_within.f t688 1 3).bind fun t696 => (some (y693, t692, 1, t696))) = some (r1, r2, r3, r4) := by first | (rw [hy693]; with_reducible exact H) | (have H2_ := (Option.bind_some _ _).symm.trans H; rw [hy693]; with_reducible exact H2_) | (have H2_ := (Option.bind_some _ _).symm.trans H; with_reducible exact H2_) | with_reducible exact H | (rw [hy693]; exact H) | exact H
    have Ny693 := Aside0.mk hy693
    clear hy693
    obtain ⟨t696, A39, H⟩ := ob H
    (try dsimp only at H)
    simp only [Option.some.injEq, Prod.mk.injEq] at H
    obtain ⟨rfl, rfl, rfl, rfl⟩ := H
    have hnb40 := NB685_682.out
    have hnc40 := NB682_685.out
    have hnb41 := NB685_683.out
    have hnc41 := NB683_685.out
    obtain ⟨hcz42_0, hcz42_1, hcz42_2, hcz42_3⟩ := bc4 BK685.out
    have hfz42 := blk_frozen BK685.out
    have hfz42_1 := blk_frozen BK685.out 1
    have hfz42_2 := blk_frozen BK685.out 2
    have hfz42_3 := blk_frozen BK685.out 3
    have p687 : 0 ≤ (((rd_T54 l0 a1_2).f2) : Int) := DT
    have q687 : ((rd_T54 l0 a1_2).f2) < (l0.length : Int) := DT
    obtain ⟨ad687, e687, hx687_0, hx687_1, hx687_2, hx687_3⟩ := at_T54 (Kd.C_below HR0.out HB.out) ((rd_T54 l0 a1_2).f2) p687 q687
    obtain rfl : ad684 = ad687 := (by injection e687)
    replace p687 := eq_true p687
    replace q687 := eq_true q687
    try go_wp2_with (first | ((with_reducible refine gate_callee (f := 117) rfl ?_); refine gK (some 62) Try.func117 #[.int .i64 ((rd_T54 l0 ((rd_T54 l0 a1_2).f2)).f3)] rfl rfl rfl ?_; (with_reducible refine (impl_power.calls kj5 ((rd_T54 l0 ((rd_T54 l0 a1_2).f2)).f3) t688 _ A37.out).mono ?_); rintro e w' ⟨rfl, ⟨nd, rfl⟩⟩; refine ⟨_, rfl, ?_⟩) | ((with_reducible refine gate_dst (N := 66) rfl ?_); refine li 66 3 Ny689.out ?_; intro v690 w43 ho44 hb; have HO691 := Aside0.mk (Kd.R_lower ho44 (below_size BA)); replace BK682 := kb BK682 hb; replace BK683 := kb BK683 hb; replace BK685 := kb BK685 hb; replace HB := bs hb; clear hb ho44; obtain ⟨Ao45, co45, eo45⟩ := Kd.R_slice HO691.out; subst eo45) | ((with_reducible refine gate_callee (f := 118) rfl ?_); refine gK (some 68) Try.func118 #[.slice Ao45 y689.length co45] rfl rfl rfl ?_; (with_reducible refine (slices_Sort_int_int.calls kj5 (fun k_ => some k_ = (.slice Ao45 y689.length co45 : Value).ownBlock) (.slice Ao45 y689.length co45) y689 t692 w _ ?side1 ?side2 A38.out).mono ?_); (case side1 => repeat (first | (with_reducible first | exact HB.out | apply below_alloc | apply pw_below_drewN | apply below_drew1 | refine below_set ?_ GE682.out | refine below_set ?_ GE683.out | refine below_set ?_ GE685.out) | exact HB.out)); (case side2 => exact Kd.R_tight rfl HO691.out); rintro e w46 ⟨rfl, hy0, hb, hkp⟩; refine ⟨_, rfl, ?_⟩; replace BK682 := Aside0.mk (blk_kept (bk BK682.out) hkp (fun hs_ => (fun e_ => (Kd.R_ne HO691.out BK682.out (by decide)) e_) hs_)); replace BK683 := Aside0.mk (blk_kept (bk BK683.out) hkp (fun hs_ => (fun e_ => (Kd.R_ne HO691.out BK683.out (by decide)) e_) hs_)); replace BK685 := Aside0.mk (blk_kept (bk BK685.out) hkp (fun hs_ => (fun e_ => (Kd.R_ne HO691.out BK685.out (by decide)) e_) hs_)); replace HO691 := Aside0.mk (Kd.R_reok rfl hy0 (fun k_ e_ => HO691.out.1 k_ e_)); replace HB := Aside0.mk (hb); (try clear hb); (try clear hkp); (try clear hy0)))
    replace HO691 := Aside0.mk (Kd.R_drew HO691.out); replace BK682 := Aside0.mk (blk_drew BK682.out); replace BK683 := Aside0.mk (blk_drew BK683.out); replace BK685 := Aside0.mk (blk_drew BK685.out); replace HB := Aside0.mk (below_drew1 HB.out)
    refine start_ (n := 10) (S := C4 gb685 (.string ((rd_T54 l0 a1_2).f0)) (.int .i64 ((rd_T54 l0 a1_2).f1)) (.int .i64 ((rd_T54 l0 a1_2).f2)) (.int .i64 ((rd_T54 l0 a1_2).f3))) (ds := []) (mk 10 0) (by kernel_rfl) rfl (by kernel_rfl) (bc4 BK685.out) (fun hHeld => ?_); refine with_tabW impl_sumTile_at11.tab14 impl_sumTile_at11.bits14 (fun HT_ HW_ => ?_)
    generalize w46.drew = w47 at HO691 BK682 BK683 BK685 HB hHeld ⊢
    refine pu 0 69 10 1 rfl rfl ?_
    refine pu 1 70 10 3 rfl rfl ?_
    refine pu 4 73 10 19 rfl rfl ?_
    refine pu 6 75 10 83 rfl rfl ?_
    refine ta 2 71 10 87 rfl rfl ?_
    refine join_ (σ := Value) 2 #[true, true, true, true, true, true, true, true, false, false] (fun s_ => [(72, s_), (76, .bool t696), (74, .agg #[s_, .slice Ao45 y689.length co45, .int .i64 1])]) (fun s_ w' => (w'.cell? ⟨gb685, 0, none⟩ = some (.string ((rd_T54 l0 a1_2).f0)) ∧ w'.cell? ⟨gb685, 1, none⟩ = some (.int .i64 ((rd_T54 l0 a1_2).f1)) ∧ w'.cell? ⟨gb685, 2, none⟩ = some (.int .i64 ((rd_T54 l0 a1_2).f2)) ∧ w'.cell? ⟨gb685, 3, none⟩ = some (.int .i64 ((rd_T54 l0 a1_2).f3))) ∧ (Kd.R (Kd.int .i64) 3 w' w.heap.size (fun k_ => some k_ ≠ (s_ : Value).ownBlock) (.slice Ao45 y689.length co45) t692) ∧ (Kd.R (Kd.int .i64) 3 w' w.heap.size (fun k_ => some k_ ≠ (.slice Ao45 y689.length co45 : Value).ownBlock) s_ y693) ∧ (w'.heap[gb682]? = some (.cells #[.string a1_0, .int .i64 a1_1, .int .i64 a1_2, .int .i64 a1_3] 54 (0, 0))) ∧ (w'.heap[gb683]? = some (.cells #[.slice none 0 0, .slice none 0 0, .int .i64 0] 57 (0, 0))) ∧ (w'.heap[gb685]? = some (.cells #[.string ((rd_T54 l0 a1_2).f0), .int .i64 ((rd_T54 l0 a1_2).f1), .int .i64 ((rd_T54 l0 a1_2).f2), .int .i64 ((rd_T54 l0 a1_2).f3)] 54 (0, 0))) ∧ (Below w.heap.size w w')) ?_ ?_
    rotate_left
    ·intro hCont
     refine two_ (i := 3) (j := 7) (Ni := some 72) (Nj := some 76) #[true, true, true, true, true, false, true, false, false, false] #[true, true, true, false, true, false, true, true, false, false] rfl rfl rfl rfl (two_of HT_.out (by kernel_rfl)) (by decide) (by decide) (fun K hK => ?_) (fun K hK => ?_)
     ·skip
      refine lis 72 3 Ny693.out ?_
      intro v694 w48 ho49 hb
      have HO695 := Aside0.mk (Kd.R_lower (Kd.R_new' ho49 (Kd.R_lt (rb HO691.out))) (below_size BA)); replace HO691 := Aside0.mk (Kd.R_elder' (rb HO691.out) (Kd.R_base ho49) hb); replace BK682 := kb BK682 hb; replace BK683 := kb BK683 hb; replace BK685 := kb BK685 hb; replace HB := bs hb
      clear hb ho49
      obtain ⟨Ao50, co50, eo50⟩ := Kd.R_slice HO695.out
      (first | subst eo50 | (injection eo50 with f1_ f2_ f3_; have f4_ := f1_.symm; have f5_ := f3_.symm; clear f1_ f2_ f3_; subst f4_; subst f5_))
      refine hK.out _ _ (bc4 BK685.out) (fun hHeld => ?_)
      clear hK K
      refine nm 72 ?_
      refine pu 5 74 10 127 rfl rfl ?_
      refine one_ (i := 7) (N := some 76) (mk 10 255) rfl rfl (one_of HT_.out (by kernel_rfl)) (by decide) (fun K hK => ?_)
      refine goes_ Try.func59 (by kernel_rfl) rfl #[.int .i64 t688, .int .i64 1, .int .i64 3] (by rfl) rfl rfl (by (try simp only [List.map_toArray, List.map_cons, List.map_nil]); first | done | rfl | (simp only [List.length_drop, List.length_take]; rfl)) ?_
      with_reducible refine (impl_within.calls t688 1 3 t696 _ A39.out).mono ?_
      rintro e w' ⟨rfl, ⟨nd, rfl⟩⟩
      refine ⟨_, rfl, ?_⟩
      refine hK.out _ _ (bc4 BK685.out) (fun hHeld => ?_)
      clear hK K
      refine nm 76 ?_
      exact norm_ (by simp only [putAll, Act.put, List.setIfInBounds_toArray, List.set_cons_zero, List.set_cons_succ]) (hCont (.slice Ao50 y693.length co50) _ ⟨hHeld, (rb (Kd.R_mono HO691.out (fun _ hk => hk.2))), (rb (Kd.R_mono HO695.out (fun _ hk => hk.2))), (bk BK682.out), (bk BK683.out), (bk BK685.out), BA⟩)
     ·skip
      refine goes_ Try.func59 (by kernel_rfl) rfl #[.int .i64 t688, .int .i64 1, .int .i64 3] (by rfl) rfl rfl (by (try simp only [List.map_toArray, List.map_cons, List.map_nil]); first | done | rfl | (simp only [List.length_drop, List.length_take]; rfl)) ?_
      with_reducible refine (impl_within.calls t688 1 3 t696 _ A39.out).mono ?_
      rintro e w' ⟨rfl, ⟨nd, rfl⟩⟩
      refine ⟨_, rfl, ?_⟩
      refine hK.out _ _ (bc4 BK685.out) (fun hHeld => ?_)
      clear hK K
      refine nm 76 ?_
      refine one_ (i := 3) (N := some 72) (mk 10 223) rfl rfl (one_of HT_.out (by kernel_rfl)) (by decide) (fun K hK => ?_)
      refine lis 72 3 Ny693.out ?_
      intro v694 w48 ho49 hb
      have HO695 := Aside0.mk (Kd.R_lower (Kd.R_new' ho49 (Kd.R_lt (rb HO691.out))) (below_size BA)); replace HO691 := Aside0.mk (Kd.R_elder' (rb HO691.out) (Kd.R_base ho49) hb); replace BK682 := kb BK682 hb; replace BK683 := kb BK683 hb; replace BK685 := kb BK685 hb; replace HB := bs hb
      clear hb ho49
      obtain ⟨Ao50, co50, eo50⟩ := Kd.R_slice HO695.out
      (first | subst eo50 | (injection eo50 with f1_ f2_ f3_; have f4_ := f1_.symm; have f5_ := f3_.symm; clear f1_ f2_ f3_; subst f4_; subst f5_))
      refine hK.out _ _ (bc4 BK685.out) (fun hHeld => ?_)
      clear hK K
      refine nm 72 ?_
      refine pu 5 74 10 255 rfl rfl ?_
      exact norm_ (by simp only [putAll, Act.put, List.setIfInBounds_toArray, List.set_cons_zero, List.set_cons_succ]) (hCont (.slice Ao50 y693.length co50) _ ⟨hHeld, (rb (Kd.R_mono HO691.out (fun _ hk => hk.2))), (rb (Kd.R_mono HO695.out (fun _ hk => hk.2))), (bk BK682.out), (bk BK683.out), (bk BK685.out), BA⟩)
    rintro v694 w51 ⟨hS_, h0_, h1_, h2_, h3_, h4_, h5_⟩
    have n0_ : Aside0 (Kd.R (Kd.int .i64) 3 w51 w.heap.size (fun k_ => some k_ ≠ (v694 : Value).ownBlock) (.slice Ao45 y689.length co45) t692) := ⟨h0_⟩
    have n1_ : Aside0 (Kd.R (Kd.int .i64) 3 w51 w.heap.size (fun k_ => some k_ ≠ (.slice Ao45 y689.length co45 : Value).ownBlock) v694 y693) := ⟨h1_⟩
    have n2_ : Aside0 (w51.heap[gb682]? = some (.cells #[.string a1_0, .int .i64 a1_1, .int .i64 a1_2, .int .i64 a1_3] 54 (0, 0))) := ⟨h2_⟩
    have n3_ : Aside0 (w51.heap[gb683]? = some (.cells #[.slice none 0 0, .slice none 0 0, .int .i64 0] 57 (0, 0))) := ⟨h3_⟩
    have n4_ : Aside0 (w51.heap[gb685]? = some (.cells #[.string ((rd_T54 l0 a1_2).f0), .int .i64 ((rd_T54 l0 a1_2).f1), .int .i64 ((rd_T54 l0 a1_2).f2), .int .i64 ((rd_T54 l0 a1_2).f3)] 54 (0, 0))) := ⟨h4_⟩
    have n5_ : Aside0 (Below w.heap.size w w51) := ⟨h5_⟩
    clear HO691
    clear BK682
    clear BK683
    clear BK685
    clear HB
    clear h0_ h1_ h2_ h3_ h4_ h5_
    have HO691 := n0_
    have HO695 := n1_
    have BK682 := n2_
    have BK683 := n3_
    have BK685 := n4_
    have HB := n5_
    clear n0_ n1_ n2_ n3_ n4_ n5_
    have hHeld : w51.cell? ⟨gb685, 0, none⟩ = some (.string ((rd_T54 l0 a1_2).f0)) ∧ w51.cell? ⟨gb685, 1, none⟩ = some (.int .i64 ((rd_T54 l0 a1_2).f1)) ∧ w51.cell? ⟨gb685, 2, none⟩ = some (.int .i64 ((rd_T54 l0 a1_2).f2)) ∧ w51.cell? ⟨gb685, 3, none⟩ = some (.int .i64 ((rd_T54 l0 a1_2).f3)) := hS_
    obtain ⟨Ao52, co52, eo52⟩ := Kd.R_slice HO695.out
    (first | subst eo52 | (injection eo52 with f1_ f2_ f3_; have f4_ := f1_.symm; have f5_ := f3_.symm; clear f1_ f2_ f3_; subst f4_; subst f5_))
    refine norm_ (a' := ?_) ?_ ?_
    rotate_left
    ·simp only [putAll, Act.put, List.setIfInBounds_toArray, List.set_cons_zero, List.set_cons_succ]
     rfl
    refine one_ (i := 8) (N := none) (mk 10 511) rfl rfl (one_of HT_.out (by kernel_rfl)) (by decide) (fun K hK => ?_)
    have hs53 : w51.cell? ⟨gb683, 0, none⟩ = some (.slice none 0 0) := (blk_cell BK683.out 0).trans rfl
    have hfs53 := blk_frozen BK683.out 0
    have hns53_0 := NB682_683.out
    have hns53_2 := NB685_683.out
    have hms53_0 := NB683_682.out
    have hms53_2 := NB683_685.out
    have hs54 : w51.cell? ⟨gb683, 1, none⟩ = some (.slice none 0 0) := (blk_cell BK683.out 1).trans rfl
    have hfs54 := blk_frozen BK683.out 1
    have hns54_0 := NB682_683.out
    have hns54_2 := NB685_683.out
    have hms54_0 := NB683_682.out
    have hms54_2 := NB683_685.out
    have hs55 : w51.cell? ⟨gb683, 2, none⟩ = some (.int .i64 0) := (blk_cell BK683.out 2).trans rfl
    have hfs55 := blk_frozen BK683.out 2
    have hns55_0 := NB682_683.out
    have hns55_2 := NB685_683.out
    have hms55_0 := NB683_682.out
    have hms55_2 := NB683_685.out
    refine skip_ (w1 := ?_) (by rfl) rfl ?_ ?_
    rotate_left
    ·go_simp
     rfl
    refine hK.out _ _ ⟨((cell_far (p := ⟨gb683, _, none⟩) NB685_683.out _).trans (((cell_far (p := ⟨gb683, _, none⟩) NB685_683.out _).trans (((cell_far (p := ⟨gb683, _, none⟩) NB685_683.out _).trans (hHeld.1)))))), ((cell_far (p := ⟨gb683, _, none⟩) NB685_683.out _).trans (((cell_far (p := ⟨gb683, _, none⟩) NB685_683.out _).trans (((cell_far (p := ⟨gb683, _, none⟩) NB685_683.out _).trans (hHeld.2.1)))))), ((cell_far (p := ⟨gb683, _, none⟩) NB685_683.out _).trans (((cell_far (p := ⟨gb683, _, none⟩) NB685_683.out _).trans (((cell_far (p := ⟨gb683, _, none⟩) NB685_683.out _).trans (hHeld.2.2.1)))))), ((cell_far (p := ⟨gb683, _, none⟩) NB685_683.out _).trans (((cell_far (p := ⟨gb683, _, none⟩) NB685_683.out _).trans (((cell_far (p := ⟨gb683, _, none⟩) NB685_683.out _).trans (hHeld.2.2.2))))))⟩ (fun hHeld => ?_)
    clear hK K
    refine pu 9 7 10 1023 rfl rfl ?_
    refine done_ (done_of HT_.out (by kernel_rfl)) ?_
    try go_wp2
    refine bodyPost_ret (results_ct rfl _ _ gb683 57 #[.slice Ao52 y693.length co52, .slice Ao45 y689.length co45, .int .i64 1] (0, 0) _ rfl (bq BK683.out) Try.underlying57 rfl (by kernel_rfl)) rfl ?_
    exact ⟨_, _, EQ, rb (Kd.R_mono (Kd.R_far (p := ⟨gb683, 2, none⟩) (Kd.R_far (p := ⟨gb683, 1, none⟩) (Kd.R_far (p := ⟨gb683, 0, none⟩) (Kd.R_types HO695.out BK683.out (by decide)) (fun _ hk => hk.2) (.slice Ao52 y693.length co52)) (fun _ hk => hk.2) (.slice Ao45 y689.length co45)) (fun _ hk => hk.2) (.int .i64 1)) (fun _ hk => hk.1)), rb (Kd.R_mono (Kd.R_far (p := ⟨gb683, 2, none⟩) (Kd.R_far (p := ⟨gb683, 1, none⟩) (Kd.R_far (p := ⟨gb683, 0, none⟩) (Kd.R_types HO691.out BK683.out (by decide)) (fun _ hk => hk.2) (.slice Ao52 y693.length co52)) (fun _ hk => hk.2) (.slice Ao45 y689.length co45)) (fun _ hk => hk.2) (.int .i64 1)) (fun _ hk => hk.1)), BA⟩

/-! ### impl_sumTile_at12: function 103 -/
def impl_sumTile_at12.j0 : Nat → List (S54) → Int → Int → Bool → ByteArray → Int → Int → Int → Option (List Int × List Int × Int × Bool)
 | 0, _, _, _, _, _, _, _, _ => none
 | k + 1, x0, x8, x9, x51, x701000, x701001, x701002, x701003 => if x51 = true then (some (([] : List Int), ([] : List Int), 0, false)) else (if 0 ≤ x701002 then (if x701002 < (x0.length : Int) then ((impl_power.f k ((rd_T54 x0 x701002).f3)).bind fun t703 => ((slices_Sort_int_int.f k (([x701002, x9] : List Int))).bind fun t707 => ((impl_within.f t703 1 3).bind fun t711 => (some ((([x8, x701001] : List Int)), t707, 1, t711))))) else (none)) else (none))
def impl_sumTile_at12.f (k : Nat) (l0 : List (S54)) (a1_0 : ByteArray) (a1_1 : Int) (a1_2 : Int) (a1_3 : Int)  : Option (List Int × List Int × Int × Bool) := if 0 ≤ a1_1 then (if a1_1 < (l0.length : Int) then (if a1_0.toList = ([97, 100, 100] : List UInt8) then (if ((rd_T54 l0 a1_1).f0).toList = ([109, 117, 108] : List UInt8) then (if 0 ≤ ((rd_T54 l0 a1_1).f2) then (if ((rd_T54 l0 a1_1).f2) < (l0.length : Int) then (impl_sumTile_at12.j0 k l0 a1_2 a1_1 (((rd_T54 l0 ((rd_T54 l0 a1_1).f2)).f0).toList != ([99, 111, 110, 115, 116] : List UInt8)) ((rd_T54 l0 a1_1).f0) ((rd_T54 l0 a1_1).f1) ((rd_T54 l0 a1_1).f2) ((rd_T54 l0 a1_1).f3)) else (none)) else (none)) else (impl_sumTile_at12.j0 k l0 a1_2 a1_1 true ((rd_T54 l0 a1_1).f0) ((rd_T54 l0 a1_1).f1) ((rd_T54 l0 a1_1).f2) ((rd_T54 l0 a1_1).f3))) else (impl_sumTile_at12.j0 k l0 a1_2 a1_1 true ((rd_T54 l0 a1_1).f0) ((rd_T54 l0 a1_1).f1) ((rd_T54 l0 a1_1).f2) ((rd_T54 l0 a1_1).f3))) else (none)) else (none)
def impl_sumTile_at12.T14 : Bool × List (List Nat × List Nat) := (true, [([], []), ([], []), ([1], [1]), ([0, 2], [0, 2]), ([], []), ([3, 4], [3, 4]), ([], []), ([6], [6]), ([5, 7, 0, 1, 2, 3, 4, 5], [5]), ([7, 8, 0, 1, 2, 3, 4, 5, 6, 7, 8], [7])])
def impl_sumTile_at12.B14 : List Nat := [0, 0, 2, 7, 0, 31, 0, 64, 255, 511]
theorem impl_sumTile_at12.tab14 : rtab .any (opsOf Try.f103 14) = impl_sumTile_at12.T14 := by kernel_rfl
theorem impl_sumTile_at12.bits14 : waitsOk impl_sumTile_at12.T14.2 impl_sumTile_at12.B14 = true := by kernel_rfl
theorem impl_sumTile_at12.calls (k : Nat) (A0 : Option Addr) (c0 : Nat) (l0 : List (S54)) (a1_0 : ByteArray) (a1_1 : Int) (a1_2 : Int) (a1_3 : Int)  (r1 : List Int) (r2 : List Int) (r3 : Int) (r4 : Bool) (w : World) (hr0 : Kd.C k54 w A0 l0.length l0) (hc0 : l0.length ≤ c0) (h : impl_sumTile_at12.f k l0 a1_0 a1_1 a1_2 a1_3 = some (r1, r2, r3, r4)) :
  Calls Try.prog 103 #[.slice A0 l0.length c0, .agg #[.string a1_0, .int .i64 a1_1, .int .i64 a1_2, .int .i64 a1_3], .int .i64 12] w fun e w' => ∃ v0_ v1_ : Value, e = .returned (.tuple #[.agg #[v0_, v1_, .int .i64 r3], .bool r4]) ∧ Kd.R (Kd.int .i64) 3 w' w.heap.size (fun k_ => some k_ ≠ (v1_ : Value).ownBlock) v0_ r1 ∧ Kd.R (Kd.int .i64) 3 w' w.heap.size (fun k_ => some k_ ≠ (v0_ : Value).ownBlock) v1_ r2 ∧ Below w.heap.size w w' := by
 have hu54 := Try.underlying54
 have hu57 := Try.underlying57
 have HR0 := Aside0.mk hr0
 have HC0 := Aside0.mk hc0
 clear hr0 hc0
 have HB := Aside0.mk (Below.refl w.heap.size w)
 have H := h
 clear h
 unfold impl_sumTile_at12.f at H
 obtain ⟨c4, H⟩ := ifs H
 have c4b0 := decide_eq_true c4
 clear c4
 obtain ⟨c5, H⟩ := ifs H
 have c5b0 := decide_eq_true c5
 clear c5
 have HC6 := Aside0.mk H
 clear H
 go_enter Try.func103, Try.ntmps103
 try go_wp2_with (first | ((with_reducible refine gd 4 rfl ?_); refine bx 4 #[.string a1_0, .int .i64 a1_1, .int .i64 a1_2, .int .i64 a1_3] 54 ?_; intro gb697 hg w7 BK697 GW697 HB hb; have GE697 := GW697; clear hb hg) | ((with_reducible refine gd 6 rfl ?_); refine bx 6 #[.slice none 0 0, .slice none 0 0, .int .i64 0] 57 ?_; intro gb698 hg w8 BK698 GW698 HB hb; have GE698 := GW698; have NB697_698 := nbl hg (bk BK697.out); have NB698_697 := nbr hg (bk BK697.out); replace BK697 := kb BK697 hb; clear hb hg))
 replace BK697 := Aside0.mk (blk_drew BK697.out); replace BK698 := Aside0.mk (blk_drew BK698.out); replace HB := Aside0.mk (below_drew1 HB.out)
 refine start_ (n := 7) (S := C4 gb697 (.string a1_0) (.int .i64 a1_1) (.int .i64 a1_2) (.int .i64 a1_3)) (ds := []) (mk 7 0) (by kernel_rfl) rfl (by kernel_rfl) (bc4 BK697.out) (fun hHeld => ?_)
 generalize w8.drew = w9 at BK697 BK698 HB hHeld ⊢
 refine pu 0 14 7 1 rfl rfl ?_
 refine pu 2 16 7 5 rfl rfl ?_
 refine ta 1 15 7 7 rfl rfl ?_
 refine pu 4 8 7 23 rfl rfl ?_
 refine ta 3 17 7 31 rfl rfl ?_
 refine pu 5 9 7 63 rfl rfl ?_
 refine pu 6 10 7 127 rfl rfl ?_
 refine done_ (by kernel_rfl) ?_
 try go_wp2
 replace BK697 := Aside0.mk (blk_drew BK697.out); replace BK698 := Aside0.mk (blk_drew BK698.out); replace HB := Aside0.mk (below_drew1 HB.out)
 refine start_ (n := 6) (S := C4 gb697 (.string a1_0) (.int .i64 a1_1) (.int .i64 a1_2) (.int .i64 a1_3)) (ds := []) (mk 6 0) (by kernel_rfl) rfl (by kernel_rfl) (bc4 BK697.out) (fun hHeld => ?_)
 generalize w9.drew = w10 at BK697 BK698 HB hHeld ⊢
 refine pu 0 24 6 1 rfl rfl ?_
 refine pu 2 26 6 5 rfl rfl ?_
 refine ta 1 25 6 7 rfl rfl ?_
 refine pu 4 8 6 23 rfl rfl ?_
 refine ta 3 27 6 31 rfl rfl ?_
 refine pu 5 9 6 63 rfl rfl ?_
 refine done_ (by kernel_rfl) ?_
 have p699 : 0 ≤ (a1_1 : Int) := DT
 have q699 : a1_1 < (l0.length : Int) := DT
 obtain ⟨ad699, e699, hx699_0, hx699_1, hx699_2, hx699_3⟩ := at_T54 (Kd.C_below HR0.out HB.out) a1_1 p699 q699
 cases e699
 replace p699 := eq_true p699
 replace q699 := eq_true q699
 go_upto_region 7 with (first | ((with_reducible refine gd 11 rfl ?_); refine bx 11 #[.string (⟨#[]⟩ : ByteArray), .int .i64 0, .int .i64 0, .int .i64 0] 54 ?_; intro gb700 hg w11 BK700 GW700 HB hb; have GE700 := GW700; have NB697_700 := nbl hg (bk BK697.out); have NB700_697 := nbr hg (bk BK697.out); replace BK697 := kb BK697 hb; have NB698_700 := nbl hg (bk BK698.out); have NB700_698 := nbr hg (bk BK698.out); replace BK698 := kb BK698 hb; clear hb hg; have hnb12 := NB700_697.out; have hnc12 := NB697_700.out; have hnb13 := NB700_698.out; have hnc13 := NB698_700.out; obtain ⟨hcz14_0, hcz14_1, hcz14_2, hcz14_3⟩ := bc4 BK700.out; have hfz14 := blk_frozen BK700.out))
 (try simp only [Act.put, List.setIfInBounds_toArray, List.set_cons_zero, List.set_cons_succ])
 go_cut [51] (fun v51 wc => ∃ (kq : Nat) (x51_5 : Bool), v51 = .bool x51_5 ∧ Aside0 (impl_sumTile_at12.j0 kq l0 a1_2 a1_1 x51_5 ((rd_T54 l0 a1_1).f0) ((rd_T54 l0 a1_1).f1) ((rd_T54 l0 a1_1).f2) ((rd_T54 l0 a1_1).f3) = some (r1, r2, r3, r4)) ∧ Aside0 (kq ≤ k) ∧ Aside0 (wc.heap[gb697]? = some (.cells #[.string a1_0, .int .i64 a1_1, .int .i64 a1_2, .int .i64 a1_3] 54 (0, 0))) ∧ Aside0 (wc.heap[gb698]? = some (.cells #[(.slice none 0 0), (.slice none 0 0), .int .i64 0] 57 (0, 0))) ∧ Aside0 (wc.heap[gb700]? = some (.cells #[.string ((rd_T54 l0 a1_1).f0), .int .i64 ((rd_T54 l0 a1_1).f1), .int .i64 ((rd_T54 l0 a1_1).f2), .int .i64 ((rd_T54 l0 a1_1).f3)] 54 (0, 0))) ∧ Aside0 (Below w.heap.size w wc))
 case first =>
  have H := HC6.out
  clear HC6
  by_cases c15 : a1_0.toList = ([97, 100, 100] : List UInt8)
  ·rw [if_pos c15] at H
   have c15b0 := beq_iff_eq.mpr c15
   have c15b1 := bne_eq_false_iff_eq.mpr c15
   clear c15
   (first | rw [c15b0] | (simp only [i64_w, i32_w]; rw [c15b0]) | skip)
   by_cases c16 : ((rd_T54 l0 a1_1).f0).toList = ([109, 117, 108] : List UInt8)
   ·rw [if_pos c16] at H
    have c16b0 := beq_iff_eq.mpr c16
    have c16b1 := bne_eq_false_iff_eq.mpr c16
    clear c16
    obtain ⟨c17, H⟩ := ifs H
    have c17b0 := decide_eq_true c17
    clear c17
    obtain ⟨c18, H⟩ := ifs H
    have c18b0 := decide_eq_true c18
    clear c18
    have H' := Aside0.mk H
    clear H
    have hnb19 := NB697_698.out
    have hnc19 := NB698_697.out
    have hnb20 := NB697_700.out
    have hnc20 := NB700_697.out
    obtain ⟨hcz21_0, hcz21_1, hcz21_2, hcz21_3⟩ := bc4 BK697.out
    have hfz21 := blk_frozen BK697.out
    have hfz21_1 := blk_frozen BK697.out 1
    have hfz21_2 := blk_frozen BK697.out 2
    have hfz21_3 := blk_frozen BK697.out 3
    have hnb22 := NB700_698.out
    have hnc22 := NB698_700.out
    obtain ⟨hcz23_0, hcz23_1, hcz23_2, hcz23_3⟩ := bc4 BK700.out
    have hfz23 := blk_frozen BK700.out
    have hfz23_1 := blk_frozen BK700.out 1
    have hfz23_2 := blk_frozen BK700.out 2
    have hfz23_3 := blk_frozen BK700.out 3
    have p701 : 0 ≤ (((rd_T54 l0 a1_1).f2) : Int) := DT
    have q701 : ((rd_T54 l0 a1_1).f2) < (l0.length : Int) := DT
    obtain ⟨ad701, e701, hx701_0, hx701_1, hx701_2, hx701_3⟩ := at_T54 HR0.out ((rd_T54 l0 a1_1).f2) p701 q701
    obtain rfl : ad699 = ad701 := (by injection e701)
    have hn701_0 : ad699.block ≠ gb700 := Nat.ne_of_lt (Nat.lt_of_lt_of_le (by have := World.block_lt_of_cell? _ _ hx701_0; first | rwa [add_block] at this | exact this) GW700.out)
    have hn701_1 : ad699.block ≠ gb700 := Nat.ne_of_lt (Nat.lt_of_lt_of_le (by have := World.block_lt_of_cell? _ _ hx701_0; first | rwa [add_block] at this | exact this) GW700.out)
    have hn701_2 : ad699.block ≠ gb700 := Nat.ne_of_lt (Nat.lt_of_lt_of_le (by have := World.block_lt_of_cell? _ _ hx701_0; first | rwa [add_block] at this | exact this) GW700.out)
    have hn701_3 : ad699.block ≠ gb700 := Nat.ne_of_lt (Nat.lt_of_lt_of_le (by have := World.block_lt_of_cell? _ _ hx701_0; first | rwa [add_block] at this | exact this) GW700.out)
    replace hx701_0 := (HB.out.cell (World.block_lt_of_cell? w _ hx701_0)).trans hx701_0
    replace hx701_1 := (HB.out.cell (World.block_lt_of_cell? w _ hx701_1)).trans hx701_1
    replace hx701_2 := (HB.out.cell (World.block_lt_of_cell? w _ hx701_2)).trans hx701_2
    replace hx701_3 := (HB.out.cell (World.block_lt_of_cell? w _ hx701_3)).trans hx701_3
    replace hx701_0 := (cell_far (p := ⟨gb700, 0, none⟩) (by first | (rw [add_block]; exact hn701_0) | (show (Addr.add _ _).block ≠ _; rw [add_block]; exact hn701_0) | exact hn701_0) (.string ((rd_T54 l0 a1_1).f0))).trans hx701_0
    replace hx701_1 := (cell_far (p := ⟨gb700, 0, none⟩) (by first | (rw [add_block]; exact hn701_0) | (show (Addr.add _ _).block ≠ _; rw [add_block]; exact hn701_0) | exact hn701_0) (.string ((rd_T54 l0 a1_1).f0))).trans hx701_1
    replace hx701_2 := (cell_far (p := ⟨gb700, 0, none⟩) (by first | (rw [add_block]; exact hn701_0) | (show (Addr.add _ _).block ≠ _; rw [add_block]; exact hn701_0) | exact hn701_0) (.string ((rd_T54 l0 a1_1).f0))).trans hx701_2
    replace hx701_3 := (cell_far (p := ⟨gb700, 0, none⟩) (by first | (rw [add_block]; exact hn701_0) | (show (Addr.add _ _).block ≠ _; rw [add_block]; exact hn701_0) | exact hn701_0) (.string ((rd_T54 l0 a1_1).f0))).trans hx701_3
    replace hx701_0 := (cell_far (p := ⟨gb700, 1, none⟩) (by first | (rw [add_block]; exact hn701_1) | (show (Addr.add _ _).block ≠ _; rw [add_block]; exact hn701_1) | exact hn701_1) (.int .i64 ((rd_T54 l0 a1_1).f1))).trans hx701_0
    replace hx701_1 := (cell_far (p := ⟨gb700, 1, none⟩) (by first | (rw [add_block]; exact hn701_1) | (show (Addr.add _ _).block ≠ _; rw [add_block]; exact hn701_1) | exact hn701_1) (.int .i64 ((rd_T54 l0 a1_1).f1))).trans hx701_1
    replace hx701_2 := (cell_far (p := ⟨gb700, 1, none⟩) (by first | (rw [add_block]; exact hn701_1) | (show (Addr.add _ _).block ≠ _; rw [add_block]; exact hn701_1) | exact hn701_1) (.int .i64 ((rd_T54 l0 a1_1).f1))).trans hx701_2
    replace hx701_3 := (cell_far (p := ⟨gb700, 1, none⟩) (by first | (rw [add_block]; exact hn701_1) | (show (Addr.add _ _).block ≠ _; rw [add_block]; exact hn701_1) | exact hn701_1) (.int .i64 ((rd_T54 l0 a1_1).f1))).trans hx701_3
    replace hx701_0 := (cell_far (p := ⟨gb700, 2, none⟩) (by first | (rw [add_block]; exact hn701_2) | (show (Addr.add _ _).block ≠ _; rw [add_block]; exact hn701_2) | exact hn701_2) (.int .i64 ((rd_T54 l0 a1_1).f2))).trans hx701_0
    replace hx701_1 := (cell_far (p := ⟨gb700, 2, none⟩) (by first | (rw [add_block]; exact hn701_2) | (show (Addr.add _ _).block ≠ _; rw [add_block]; exact hn701_2) | exact hn701_2) (.int .i64 ((rd_T54 l0 a1_1).f2))).trans hx701_1
    replace hx701_2 := (cell_far (p := ⟨gb700, 2, none⟩) (by first | (rw [add_block]; exact hn701_2) | (show (Addr.add _ _).block ≠ _; rw [add_block]; exact hn701_2) | exact hn701_2) (.int .i64 ((rd_T54 l0 a1_1).f2))).trans hx701_2
    replace hx701_3 := (cell_far (p := ⟨gb700, 2, none⟩) (by first | (rw [add_block]; exact hn701_2) | (show (Addr.add _ _).block ≠ _; rw [add_block]; exact hn701_2) | exact hn701_2) (.int .i64 ((rd_T54 l0 a1_1).f2))).trans hx701_3
    replace hx701_0 := (cell_far (p := ⟨gb700, 3, none⟩) (by first | (rw [add_block]; exact hn701_3) | (show (Addr.add _ _).block ≠ _; rw [add_block]; exact hn701_3) | exact hn701_3) (.int .i64 ((rd_T54 l0 a1_1).f3))).trans hx701_0
    replace hx701_1 := (cell_far (p := ⟨gb700, 3, none⟩) (by first | (rw [add_block]; exact hn701_3) | (show (Addr.add _ _).block ≠ _; rw [add_block]; exact hn701_3) | exact hn701_3) (.int .i64 ((rd_T54 l0 a1_1).f3))).trans hx701_1
    replace hx701_2 := (cell_far (p := ⟨gb700, 3, none⟩) (by first | (rw [add_block]; exact hn701_3) | (show (Addr.add _ _).block ≠ _; rw [add_block]; exact hn701_3) | exact hn701_3) (.int .i64 ((rd_T54 l0 a1_1).f3))).trans hx701_2
    replace hx701_3 := (cell_far (p := ⟨gb700, 3, none⟩) (by first | (rw [add_block]; exact hn701_3) | (show (Addr.add _ _).block ≠ _; rw [add_block]; exact hn701_3) | exact hn701_3) (.int .i64 ((rd_T54 l0 a1_1).f3))).trans hx701_3
    clear hn701_0
    clear hn701_1
    clear hn701_2
    clear hn701_3
    replace p701 := eq_true p701
    replace q701 := eq_true q701
    go_wp2
    go_meet
    case rel => exact ⟨_, ((((rd_T54 l0 ((rd_T54 l0 a1_1).f2)).f0).toList != ([99, 111, 110, 115, 116] : List UInt8))), EQ1, H', ⟨by first | omega | exact Nat.le_refl _⟩, ⟨by (with_reducible repeat (first | refine blk_drewN ?_ _ | refine blk_drew ?_ | refine blk_alloc ?_ _)); refine blk_far ?_ NB697_700.out _; (with_reducible repeat (first | refine blk_drewN ?_ _ | refine blk_drew ?_ | refine blk_alloc ?_ _)); refine blk_far ?_ NB697_700.out _; (with_reducible repeat (first | refine blk_drewN ?_ _ | refine blk_drew ?_ | refine blk_alloc ?_ _)); refine blk_far ?_ NB697_700.out _; (with_reducible repeat (first | refine blk_drewN ?_ _ | refine blk_drew ?_ | refine blk_alloc ?_ _)); refine blk_far ?_ NB697_700.out _; (with_reducible repeat (first | refine blk_drewN ?_ _ | refine blk_drew ?_ | refine blk_alloc ?_ _)); exact BK697.out⟩, ⟨by (with_reducible repeat (first | refine blk_drewN ?_ _ | refine blk_drew ?_ | refine blk_alloc ?_ _)); refine blk_far ?_ NB698_700.out _; (with_reducible repeat (first | refine blk_drewN ?_ _ | refine blk_drew ?_ | refine blk_alloc ?_ _)); refine blk_far ?_ NB698_700.out _; (with_reducible repeat (first | refine blk_drewN ?_ _ | refine blk_drew ?_ | refine blk_alloc ?_ _)); refine blk_far ?_ NB698_700.out _; (with_reducible repeat (first | refine blk_drewN ?_ _ | refine blk_drew ?_ | refine blk_alloc ?_ _)); refine blk_far ?_ NB698_700.out _; (with_reducible repeat (first | refine blk_drewN ?_ _ | refine blk_drew ?_ | refine blk_alloc ?_ _)); exact BK698.out⟩, ⟨by (with_reducible repeat (first | refine blk_drewN ?_ _ | refine blk_drew ?_ | refine blk_alloc ?_ _)); refine blk_put (cs := #[.string ((rd_T54 l0 a1_1).f0), .int .i64 ((rd_T54 l0 a1_1).f1), .int .i64 ((rd_T54 l0 a1_1).f2), .int .i64 0]) ?_ 3 _ rfl; (with_reducible repeat (first | refine blk_drewN ?_ _ | refine blk_drew ?_ | refine blk_alloc ?_ _)); refine blk_put (cs := #[.string ((rd_T54 l0 a1_1).f0), .int .i64 ((rd_T54 l0 a1_1).f1), .int .i64 0, .int .i64 0]) ?_ 2 _ rfl; (with_reducible repeat (first | refine blk_drewN ?_ _ | refine blk_drew ?_ | refine blk_alloc ?_ _)); refine blk_put (cs := #[.string ((rd_T54 l0 a1_1).f0), .int .i64 0, .int .i64 0, .int .i64 0]) ?_ 1 _ rfl; (with_reducible repeat (first | refine blk_drewN ?_ _ | refine blk_drew ?_ | refine blk_alloc ?_ _)); refine blk_put (cs := #[.string (⟨#[]⟩ : ByteArray), .int .i64 0, .int .i64 0, .int .i64 0]) ?_ 0 _ rfl; (with_reducible repeat (first | refine blk_drewN ?_ _ | refine blk_drew ?_ | refine blk_alloc ?_ _)); exact BK700.out⟩, ⟨BA⟩⟩
   ·rw [if_neg c16] at H
    have c16b0 := beq_eq_false_iff_ne.mpr c16
    have c16b1 := bne_iff_ne.mpr c16
    have H' := Aside0.mk H
    clear H
    have hnb24 := NB697_698.out
    have hnc24 := NB698_697.out
    have hnb25 := NB697_700.out
    have hnc25 := NB700_697.out
    obtain ⟨hcz26_0, hcz26_1, hcz26_2, hcz26_3⟩ := bc4 BK697.out
    have hfz26 := blk_frozen BK697.out
    have hfz26_1 := blk_frozen BK697.out 1
    have hfz26_2 := blk_frozen BK697.out 2
    have hfz26_3 := blk_frozen BK697.out 3
    have hnb27 := NB700_698.out
    have hnc27 := NB698_700.out
    obtain ⟨hcz28_0, hcz28_1, hcz28_2, hcz28_3⟩ := bc4 BK700.out
    have hfz28 := blk_frozen BK700.out
    have hfz28_1 := blk_frozen BK700.out 1
    have hfz28_2 := blk_frozen BK700.out 2
    have hfz28_3 := blk_frozen BK700.out 3
    go_wp2
    go_meet
    case rel => exact ⟨_, (true), EQ1, H', ⟨by first | omega | exact Nat.le_refl _⟩, ⟨by (with_reducible repeat (first | refine blk_drewN ?_ _ | refine blk_drew ?_ | refine blk_alloc ?_ _)); refine blk_far ?_ NB697_700.out _; (with_reducible repeat (first | refine blk_drewN ?_ _ | refine blk_drew ?_ | refine blk_alloc ?_ _)); refine blk_far ?_ NB697_700.out _; (with_reducible repeat (first | refine blk_drewN ?_ _ | refine blk_drew ?_ | refine blk_alloc ?_ _)); refine blk_far ?_ NB697_700.out _; (with_reducible repeat (first | refine blk_drewN ?_ _ | refine blk_drew ?_ | refine blk_alloc ?_ _)); refine blk_far ?_ NB697_700.out _; (with_reducible repeat (first | refine blk_drewN ?_ _ | refine blk_drew ?_ | refine blk_alloc ?_ _)); exact BK697.out⟩, ⟨by (with_reducible repeat (first | refine blk_drewN ?_ _ | refine blk_drew ?_ | refine blk_alloc ?_ _)); refine blk_far ?_ NB698_700.out _; (with_reducible repeat (first | refine blk_drewN ?_ _ | refine blk_drew ?_ | refine blk_alloc ?_ _)); refine blk_far ?_ NB698_700.out _; (with_reducible repeat (first | refine blk_drewN ?_ _ | refine blk_drew ?_ | refine blk_alloc ?_ _)); refine blk_far ?_ NB698_700.out _; (with_reducible repeat (first | refine blk_drewN ?_ _ | refine blk_drew ?_ | refine blk_alloc ?_ _)); refine blk_far ?_ NB698_700.out _; (with_reducible repeat (first | refine blk_drewN ?_ _ | refine blk_drew ?_ | refine blk_alloc ?_ _)); exact BK698.out⟩, ⟨by (with_reducible repeat (first | refine blk_drewN ?_ _ | refine blk_drew ?_ | refine blk_alloc ?_ _)); refine blk_put (cs := #[.string ((rd_T54 l0 a1_1).f0), .int .i64 ((rd_T54 l0 a1_1).f1), .int .i64 ((rd_T54 l0 a1_1).f2), .int .i64 0]) ?_ 3 _ rfl; (with_reducible repeat (first | refine blk_drewN ?_ _ | refine blk_drew ?_ | refine blk_alloc ?_ _)); refine blk_put (cs := #[.string ((rd_T54 l0 a1_1).f0), .int .i64 ((rd_T54 l0 a1_1).f1), .int .i64 0, .int .i64 0]) ?_ 2 _ rfl; (with_reducible repeat (first | refine blk_drewN ?_ _ | refine blk_drew ?_ | refine blk_alloc ?_ _)); refine blk_put (cs := #[.string ((rd_T54 l0 a1_1).f0), .int .i64 0, .int .i64 0, .int .i64 0]) ?_ 1 _ rfl; (with_reducible repeat (first | refine blk_drewN ?_ _ | refine blk_drew ?_ | refine blk_alloc ?_ _)); refine blk_put (cs := #[.string (⟨#[]⟩ : ByteArray), .int .i64 0, .int .i64 0, .int .i64 0]) ?_ 0 _ rfl; (with_reducible repeat (first | refine blk_drewN ?_ _ | refine blk_drew ?_ | refine blk_alloc ?_ _)); exact BK700.out⟩, ⟨BA⟩⟩
  ·rw [if_neg c15] at H
   have c15b0 := beq_eq_false_iff_ne.mpr c15
   have c15b1 := bne_iff_ne.mpr c15
   (first | rw [c15b0] | (simp only [i64_w, i32_w]; rw [c15b0]) | skip)
   have H' := Aside0.mk H
   clear H
   have hnb29 := NB697_698.out
   have hnc29 := NB698_697.out
   have hnb30 := NB697_700.out
   have hnc30 := NB700_697.out
   obtain ⟨hcz31_0, hcz31_1, hcz31_2, hcz31_3⟩ := bc4 BK697.out
   have hfz31 := blk_frozen BK697.out
   have hfz31_1 := blk_frozen BK697.out 1
   have hfz31_2 := blk_frozen BK697.out 2
   have hfz31_3 := blk_frozen BK697.out 3
   go_wp2
   go_meet
   case rel => exact ⟨_, (true), EQ1, H', ⟨by first | omega | exact Nat.le_refl _⟩, ⟨by (with_reducible repeat (first | refine blk_drewN ?_ _ | refine blk_drew ?_ | refine blk_alloc ?_ _)); refine blk_far ?_ NB697_700.out _; (with_reducible repeat (first | refine blk_drewN ?_ _ | refine blk_drew ?_ | refine blk_alloc ?_ _)); refine blk_far ?_ NB697_700.out _; (with_reducible repeat (first | refine blk_drewN ?_ _ | refine blk_drew ?_ | refine blk_alloc ?_ _)); refine blk_far ?_ NB697_700.out _; (with_reducible repeat (first | refine blk_drewN ?_ _ | refine blk_drew ?_ | refine blk_alloc ?_ _)); refine blk_far ?_ NB697_700.out _; (with_reducible repeat (first | refine blk_drewN ?_ _ | refine blk_drew ?_ | refine blk_alloc ?_ _)); exact BK697.out⟩, ⟨by (with_reducible repeat (first | refine blk_drewN ?_ _ | refine blk_drew ?_ | refine blk_alloc ?_ _)); refine blk_far ?_ NB698_700.out _; (with_reducible repeat (first | refine blk_drewN ?_ _ | refine blk_drew ?_ | refine blk_alloc ?_ _)); refine blk_far ?_ NB698_700.out _; (with_reducible repeat (first | refine blk_drewN ?_ _ | refine blk_drew ?_ | refine blk_alloc ?_ _)); refine blk_far ?_ NB698_700.out _; (with_reducible repeat (first | refine blk_drewN ?_ _ | refine blk_drew ?_ | refine blk_alloc ?_ _)); refine blk_far ?_ NB698_700.out _; (with_reducible repeat (first | refine blk_drewN ?_ _ | refine blk_drew ?_ | refine blk_alloc ?_ _)); exact BK698.out⟩, ⟨by (with_reducible repeat (first | refine blk_drewN ?_ _ | refine blk_drew ?_ | refine blk_alloc ?_ _)); refine blk_put (cs := #[.string ((rd_T54 l0 a1_1).f0), .int .i64 ((rd_T54 l0 a1_1).f1), .int .i64 ((rd_T54 l0 a1_1).f2), .int .i64 0]) ?_ 3 _ rfl; (with_reducible repeat (first | refine blk_drewN ?_ _ | refine blk_drew ?_ | refine blk_alloc ?_ _)); refine blk_put (cs := #[.string ((rd_T54 l0 a1_1).f0), .int .i64 ((rd_T54 l0 a1_1).f1), .int .i64 0, .int .i64 0]) ?_ 2 _ rfl; (with_reducible repeat (first | refine blk_drewN ?_ _ | refine blk_drew ?_ | refine blk_alloc ?_ _)); refine blk_put (cs := #[.string ((rd_T54 l0 a1_1).f0), .int .i64 0, .int .i64 0, .int .i64 0]) ?_ 1 _ rfl; (with_reducible repeat (first | refine blk_drewN ?_ _ | refine blk_drew ?_ | refine blk_alloc ?_ _)); refine blk_put (cs := #[.string (⟨#[]⟩ : ByteArray), .int .i64 0, .int .i64 0, .int .i64 0]) ?_ 0 _ rfl; (with_reducible repeat (first | refine blk_drewN ?_ _ | refine blk_drew ?_ | refine blk_alloc ?_ _)); exact BK700.out⟩, ⟨BA⟩⟩
 case rest =>
  clear HC6
  (try clear c4b0); (try clear c5b0); (try clear c15b0); (try clear c15b1); (try clear c16b0); (try clear c16b1); (try clear c17b0); (try clear c18b0); (try clear hcz14_0); (try clear hcz14_1); (try clear hcz14_2); (try clear hcz14_3); (try clear hcz21_0); (try clear hcz21_1); (try clear hcz21_2); (try clear hcz21_3); (try clear hcz23_0); (try clear hcz23_1); (try clear hcz23_2); (try clear hcz23_3); (try clear hcz26_0); (try clear hcz26_1); (try clear hcz26_2); (try clear hcz26_3); (try clear hcz28_0); (try clear hcz28_1); (try clear hcz28_2); (try clear hcz28_3); (try clear hcz31_0); (try clear hcz31_1); (try clear hcz31_2); (try clear hcz31_3); (try clear hfz21_1); (try clear hfz21_2); (try clear hfz21_3); (try clear hfz23_1); (try clear hfz23_2); (try clear hfz23_3); (try clear hfz26_1); (try clear hfz26_2); (try clear hfz26_3); (try clear hfz28_1); (try clear hfz28_2); (try clear hfz28_3); (try clear hfz31_1); (try clear hfz31_2); (try clear hfz31_3); (try clear hx699_0); (try clear hx699_1); (try clear hx699_2); (try clear hx699_3); (try clear hx701_0); (try clear hx701_1); (try clear hx701_2); (try clear hx701_3); (try clear p699); (try clear p701); (try clear q699); (try clear q701)
  obtain ⟨kq, x51_5, rfl, HA, HJ5, BK697, BK698, BK700, HB⟩ := hcut
  cases kq with
  | zero => exact absurd HA.out (by simp [impl_sumTile_at12.j0])
  | succ kj5 =>
   have H := HA.out
   clear HA
   simp only [impl_sumTile_at12.j0] at H
   by_cases c32 : x51_5 = true
   ·subst c32
    rw [if_pos rfl] at H
    simp only [Option.some.injEq, Prod.mk.injEq] at H
    obtain ⟨rfl, rfl, rfl, rfl⟩ := H
    have hnb33 := NB698_697.out
    have hnc33 := NB697_698.out
    have hnb34 := NB698_700.out
    have hnc34 := NB700_698.out
    obtain ⟨hcz35_0, hcz35_1, hcz35_2⟩ := bc3 BK698.out
    have hfz35 := blk_frozen BK698.out
    have hfz35_1 := blk_frozen BK698.out 1
    have hfz35_2 := blk_frozen BK698.out 2
    go_wp2
    refine bodyPost_ret (results_ct rfl _ _ gb698 57 #[.slice none 0 0, .slice none 0 0, .int .i64 0] (0, 0) _ rfl (bq BK698.out) Try.underlying57 rfl (by kernel_rfl)) rfl ?_
    exact ⟨_, _, EQ, by first | exact Kd.R_nil _ _ _ _ _ | exact Kd.N_nil _ _ _ _ _ | exact Kd.V_nil _ _ _ _ _ | exact Kd.Q_nil _ _ _ _ _ | exact Kd.S_nil _ _ _ _ _, by first | exact Kd.R_nil _ _ _ _ _ | exact Kd.N_nil _ _ _ _ _ | exact Kd.V_nil _ _ _ _ _ | exact Kd.Q_nil _ _ _ _ _ | exact Kd.S_nil _ _ _ _ _, BA⟩
   ·replace c32 := Bool.eq_false_iff.mpr c32
    subst c32
    rw [if_neg (show ¬ (false = true) by decide)] at H
    obtain ⟨c36, H⟩ := ifs H
    have c36b0 := decide_eq_true c36
    clear c36
    obtain ⟨c37, H⟩ := ifs H
    have c37b0 := decide_eq_true c37
    clear c37
    obtain ⟨t703, A38, H⟩ := ob H
    (try dsimp only at H)
    obtain ⟨y704, hy704⟩ : ∃ y_ : List Int, y_ = (([((rd_T54 l0 a1_1).f2), a1_1] : List Int)) := ⟨_, rfl⟩
    replace H : ((slices_Sort_int_int.f kj5 y704).bind fun t707 => ((impl_within.f t703 1 3).bind fun t711 => (some ((([a1_2, ((rd_T54 l0 a1_1).f1)] : List Int)), t707, 1, t711)))) = some (r1, r2, r3, r4) := by first | (rw [hy704]; with_reducible exact H) | (have H2_ := (Option.bind_some _ _).symm.trans H; rw [hy704]; with_reducible exact H2_) | (have H2_ := (Option.bind_some _ _).symm.trans H; with_reducible exact H2_) | with_reducible exact H | (rw [hy704]; exact H) | exact H
    have Ny704 := Aside0.mk hy704
    clear hy704
    obtain ⟨t707, A39, H⟩ := ob H
    (try dsimp only at H)
    obtain ⟨y708, hy708⟩ : ∃ y_ : List Int, y_ = (([a1_2, ((rd_T54 l0 a1_1).f1)] : List Int)) := ⟨_, rfl⟩
    replace H : ((impl_within.f t703 1 3).bind fun t711 => (some (y708, t707, 1, t711))) = some (r1, r2, r3, r4) := by first | (rw [hy708]; with_reducible exact H) | (have H2_ := (Option.bind_some _ _).symm.trans H; rw [hy708]; with_reducible exact H2_) | (have H2_ := (Option.bind_some _ _).symm.trans H; with_reducible exact H2_) | with_reducible exact H | (rw [hy708]; exact H) | exact H
    have Ny708 := Aside0.mk hy708
    clear hy708
    obtain ⟨t711, A40, H⟩ := ob H
    (try dsimp only at H)
    simp only [Option.some.injEq, Prod.mk.injEq] at H
    obtain ⟨rfl, rfl, rfl, rfl⟩ := H
    have hnb41 := NB700_697.out
    have hnc41 := NB697_700.out
    have hnb42 := NB700_698.out
    have hnc42 := NB698_700.out
    obtain ⟨hcz43_0, hcz43_1, hcz43_2, hcz43_3⟩ := bc4 BK700.out
    have hfz43 := blk_frozen BK700.out
    have hfz43_1 := blk_frozen BK700.out 1
    have hfz43_2 := blk_frozen BK700.out 2
    have hfz43_3 := blk_frozen BK700.out 3
    have p702 : 0 ≤ (((rd_T54 l0 a1_1).f2) : Int) := DT
    have q702 : ((rd_T54 l0 a1_1).f2) < (l0.length : Int) := DT
    obtain ⟨ad702, e702, hx702_0, hx702_1, hx702_2, hx702_3⟩ := at_T54 (Kd.C_below HR0.out HB.out) ((rd_T54 l0 a1_1).f2) p702 q702
    obtain rfl : ad699 = ad702 := (by injection e702)
    replace p702 := eq_true p702
    replace q702 := eq_true q702
    try go_wp2_with (first | ((with_reducible refine gate_callee (f := 117) rfl ?_); refine gK (some 62) Try.func117 #[.int .i64 ((rd_T54 l0 ((rd_T54 l0 a1_1).f2)).f3)] rfl rfl rfl ?_; (with_reducible refine (impl_power.calls kj5 ((rd_T54 l0 ((rd_T54 l0 a1_1).f2)).f3) t703 _ A38.out).mono ?_); rintro e w' ⟨rfl, ⟨nd, rfl⟩⟩; refine ⟨_, rfl, ?_⟩) | ((with_reducible refine gate_dst (N := 66) rfl ?_); refine li 66 3 Ny704.out ?_; intro v705 w44 ho45 hb; have HO706 := Aside0.mk (Kd.R_lower ho45 (below_size BA)); replace BK697 := kb BK697 hb; replace BK698 := kb BK698 hb; replace BK700 := kb BK700 hb; replace HB := bs hb; clear hb ho45; obtain ⟨Ao46, co46, eo46⟩ := Kd.R_slice HO706.out; subst eo46) | ((with_reducible refine gate_callee (f := 118) rfl ?_); refine gK (some 68) Try.func118 #[.slice Ao46 y704.length co46] rfl rfl rfl ?_; (with_reducible refine (slices_Sort_int_int.calls kj5 (fun k_ => some k_ = (.slice Ao46 y704.length co46 : Value).ownBlock) (.slice Ao46 y704.length co46) y704 t707 w _ ?side1 ?side2 A39.out).mono ?_); (case side1 => repeat (first | (with_reducible first | exact HB.out | apply below_alloc | apply pw_below_drewN | apply below_drew1 | refine below_set ?_ GE697.out | refine below_set ?_ GE698.out | refine below_set ?_ GE700.out) | exact HB.out)); (case side2 => exact Kd.R_tight rfl HO706.out); rintro e w47 ⟨rfl, hy0, hb, hkp⟩; refine ⟨_, rfl, ?_⟩; replace BK697 := Aside0.mk (blk_kept (bk BK697.out) hkp (fun hs_ => (fun e_ => (Kd.R_ne HO706.out BK697.out (by decide)) e_) hs_)); replace BK698 := Aside0.mk (blk_kept (bk BK698.out) hkp (fun hs_ => (fun e_ => (Kd.R_ne HO706.out BK698.out (by decide)) e_) hs_)); replace BK700 := Aside0.mk (blk_kept (bk BK700.out) hkp (fun hs_ => (fun e_ => (Kd.R_ne HO706.out BK700.out (by decide)) e_) hs_)); replace HO706 := Aside0.mk (Kd.R_reok rfl hy0 (fun k_ e_ => HO706.out.1 k_ e_)); replace HB := Aside0.mk (hb); (try clear hb); (try clear hkp); (try clear hy0)))
    replace HO706 := Aside0.mk (Kd.R_drew HO706.out); replace BK697 := Aside0.mk (blk_drew BK697.out); replace BK698 := Aside0.mk (blk_drew BK698.out); replace BK700 := Aside0.mk (blk_drew BK700.out); replace HB := Aside0.mk (below_drew1 HB.out)
    refine start_ (n := 10) (S := C4 gb700 (.string ((rd_T54 l0 a1_1).f0)) (.int .i64 ((rd_T54 l0 a1_1).f1)) (.int .i64 ((rd_T54 l0 a1_1).f2)) (.int .i64 ((rd_T54 l0 a1_1).f3))) (ds := []) (mk 10 0) (by kernel_rfl) rfl (by kernel_rfl) (bc4 BK700.out) (fun hHeld => ?_); refine with_tabW impl_sumTile_at12.tab14 impl_sumTile_at12.bits14 (fun HT_ HW_ => ?_)
    generalize w47.drew = w48 at HO706 BK697 BK698 BK700 HB hHeld ⊢
    refine pu 0 69 10 1 rfl rfl ?_
    refine pu 1 70 10 3 rfl rfl ?_
    refine pu 4 73 10 19 rfl rfl ?_
    refine pu 6 75 10 83 rfl rfl ?_
    refine ta 2 71 10 87 rfl rfl ?_
    refine join_ (σ := Value) 2 #[true, true, true, true, true, true, true, true, false, false] (fun s_ => [(72, s_), (76, .bool t711), (74, .agg #[s_, .slice Ao46 y704.length co46, .int .i64 1])]) (fun s_ w' => (w'.cell? ⟨gb700, 0, none⟩ = some (.string ((rd_T54 l0 a1_1).f0)) ∧ w'.cell? ⟨gb700, 1, none⟩ = some (.int .i64 ((rd_T54 l0 a1_1).f1)) ∧ w'.cell? ⟨gb700, 2, none⟩ = some (.int .i64 ((rd_T54 l0 a1_1).f2)) ∧ w'.cell? ⟨gb700, 3, none⟩ = some (.int .i64 ((rd_T54 l0 a1_1).f3))) ∧ (Kd.R (Kd.int .i64) 3 w' w.heap.size (fun k_ => some k_ ≠ (s_ : Value).ownBlock) (.slice Ao46 y704.length co46) t707) ∧ (Kd.R (Kd.int .i64) 3 w' w.heap.size (fun k_ => some k_ ≠ (.slice Ao46 y704.length co46 : Value).ownBlock) s_ y708) ∧ (w'.heap[gb697]? = some (.cells #[.string a1_0, .int .i64 a1_1, .int .i64 a1_2, .int .i64 a1_3] 54 (0, 0))) ∧ (w'.heap[gb698]? = some (.cells #[.slice none 0 0, .slice none 0 0, .int .i64 0] 57 (0, 0))) ∧ (w'.heap[gb700]? = some (.cells #[.string ((rd_T54 l0 a1_1).f0), .int .i64 ((rd_T54 l0 a1_1).f1), .int .i64 ((rd_T54 l0 a1_1).f2), .int .i64 ((rd_T54 l0 a1_1).f3)] 54 (0, 0))) ∧ (Below w.heap.size w w')) ?_ ?_
    rotate_left
    ·intro hCont
     refine two_ (i := 3) (j := 7) (Ni := some 72) (Nj := some 76) #[true, true, true, true, true, false, true, false, false, false] #[true, true, true, false, true, false, true, true, false, false] rfl rfl rfl rfl (two_of HT_.out (by kernel_rfl)) (by decide) (by decide) (fun K hK => ?_) (fun K hK => ?_)
     ·skip
      refine lis 72 3 Ny708.out ?_
      intro v709 w49 ho50 hb
      have HO710 := Aside0.mk (Kd.R_lower (Kd.R_new' ho50 (Kd.R_lt (rb HO706.out))) (below_size BA)); replace HO706 := Aside0.mk (Kd.R_elder' (rb HO706.out) (Kd.R_base ho50) hb); replace BK697 := kb BK697 hb; replace BK698 := kb BK698 hb; replace BK700 := kb BK700 hb; replace HB := bs hb
      clear hb ho50
      obtain ⟨Ao51, co51, eo51⟩ := Kd.R_slice HO710.out
      (first | subst eo51 | (injection eo51 with f1_ f2_ f3_; have f4_ := f1_.symm; have f5_ := f3_.symm; clear f1_ f2_ f3_; subst f4_; subst f5_))
      refine hK.out _ _ (bc4 BK700.out) (fun hHeld => ?_)
      clear hK K
      refine nm 72 ?_
      refine pu 5 74 10 127 rfl rfl ?_
      refine one_ (i := 7) (N := some 76) (mk 10 255) rfl rfl (one_of HT_.out (by kernel_rfl)) (by decide) (fun K hK => ?_)
      refine goes_ Try.func59 (by kernel_rfl) rfl #[.int .i64 t703, .int .i64 1, .int .i64 3] (by rfl) rfl rfl (by (try simp only [List.map_toArray, List.map_cons, List.map_nil]); first | done | rfl | (simp only [List.length_drop, List.length_take]; rfl)) ?_
      with_reducible refine (impl_within.calls t703 1 3 t711 _ A40.out).mono ?_
      rintro e w' ⟨rfl, ⟨nd, rfl⟩⟩
      refine ⟨_, rfl, ?_⟩
      refine hK.out _ _ (bc4 BK700.out) (fun hHeld => ?_)
      clear hK K
      refine nm 76 ?_
      exact norm_ (by simp only [putAll, Act.put, List.setIfInBounds_toArray, List.set_cons_zero, List.set_cons_succ]) (hCont (.slice Ao51 y708.length co51) _ ⟨hHeld, (rb (Kd.R_mono HO706.out (fun _ hk => hk.2))), (rb (Kd.R_mono HO710.out (fun _ hk => hk.2))), (bk BK697.out), (bk BK698.out), (bk BK700.out), BA⟩)
     ·skip
      refine goes_ Try.func59 (by kernel_rfl) rfl #[.int .i64 t703, .int .i64 1, .int .i64 3] (by rfl) rfl rfl (by (try simp only [List.map_toArray, List.map_cons, List.map_nil]); first | done | rfl | (simp only [List.length_drop, List.length_take]; rfl)) ?_
      with_reducible refine (impl_within.calls t703 1 3 t711 _ A40.out).mono ?_
      rintro e w' ⟨rfl, ⟨nd, rfl⟩⟩
      refine ⟨_, rfl, ?_⟩
      refine hK.out _ _ (bc4 BK700.out) (fun hHeld => ?_)
      clear hK K
      refine nm 76 ?_
      refine one_ (i := 3) (N := some 72) (mk 10 223) rfl rfl (one_of HT_.out (by kernel_rfl)) (by decide) (fun K hK => ?_)
      refine lis 72 3 Ny708.out ?_
      intro v709 w49 ho50 hb
      have HO710 := Aside0.mk (Kd.R_lower (Kd.R_new' ho50 (Kd.R_lt (rb HO706.out))) (below_size BA)); replace HO706 := Aside0.mk (Kd.R_elder' (rb HO706.out) (Kd.R_base ho50) hb); replace BK697 := kb BK697 hb; replace BK698 := kb BK698 hb; replace BK700 := kb BK700 hb; replace HB := bs hb
      clear hb ho50
      obtain ⟨Ao51, co51, eo51⟩ := Kd.R_slice HO710.out
      (first | subst eo51 | (injection eo51 with f1_ f2_ f3_; have f4_ := f1_.symm; have f5_ := f3_.symm; clear f1_ f2_ f3_; subst f4_; subst f5_))
      refine hK.out _ _ (bc4 BK700.out) (fun hHeld => ?_)
      clear hK K
      refine nm 72 ?_
      refine pu 5 74 10 255 rfl rfl ?_
      exact norm_ (by simp only [putAll, Act.put, List.setIfInBounds_toArray, List.set_cons_zero, List.set_cons_succ]) (hCont (.slice Ao51 y708.length co51) _ ⟨hHeld, (rb (Kd.R_mono HO706.out (fun _ hk => hk.2))), (rb (Kd.R_mono HO710.out (fun _ hk => hk.2))), (bk BK697.out), (bk BK698.out), (bk BK700.out), BA⟩)
    rintro v709 w52 ⟨hS_, h0_, h1_, h2_, h3_, h4_, h5_⟩
    have n0_ : Aside0 (Kd.R (Kd.int .i64) 3 w52 w.heap.size (fun k_ => some k_ ≠ (v709 : Value).ownBlock) (.slice Ao46 y704.length co46) t707) := ⟨h0_⟩
    have n1_ : Aside0 (Kd.R (Kd.int .i64) 3 w52 w.heap.size (fun k_ => some k_ ≠ (.slice Ao46 y704.length co46 : Value).ownBlock) v709 y708) := ⟨h1_⟩
    have n2_ : Aside0 (w52.heap[gb697]? = some (.cells #[.string a1_0, .int .i64 a1_1, .int .i64 a1_2, .int .i64 a1_3] 54 (0, 0))) := ⟨h2_⟩
    have n3_ : Aside0 (w52.heap[gb698]? = some (.cells #[.slice none 0 0, .slice none 0 0, .int .i64 0] 57 (0, 0))) := ⟨h3_⟩
    have n4_ : Aside0 (w52.heap[gb700]? = some (.cells #[.string ((rd_T54 l0 a1_1).f0), .int .i64 ((rd_T54 l0 a1_1).f1), .int .i64 ((rd_T54 l0 a1_1).f2), .int .i64 ((rd_T54 l0 a1_1).f3)] 54 (0, 0))) := ⟨h4_⟩
    have n5_ : Aside0 (Below w.heap.size w w52) := ⟨h5_⟩
    clear HO706
    clear BK697
    clear BK698
    clear BK700
    clear HB
    clear h0_ h1_ h2_ h3_ h4_ h5_
    have HO706 := n0_
    have HO710 := n1_
    have BK697 := n2_
    have BK698 := n3_
    have BK700 := n4_
    have HB := n5_
    clear n0_ n1_ n2_ n3_ n4_ n5_
    have hHeld : w52.cell? ⟨gb700, 0, none⟩ = some (.string ((rd_T54 l0 a1_1).f0)) ∧ w52.cell? ⟨gb700, 1, none⟩ = some (.int .i64 ((rd_T54 l0 a1_1).f1)) ∧ w52.cell? ⟨gb700, 2, none⟩ = some (.int .i64 ((rd_T54 l0 a1_1).f2)) ∧ w52.cell? ⟨gb700, 3, none⟩ = some (.int .i64 ((rd_T54 l0 a1_1).f3)) := hS_
    obtain ⟨Ao53, co53, eo53⟩ := Kd.R_slice HO710.out
    (first | subst eo53 | (injection eo53 with f1_ f2_ f3_; have f4_ := f1_.symm; have f5_ := f3_.symm; clear f1_ f2_ f3_; subst f4_; subst f5_))
    refine norm_ (a' := ?_) ?_ ?_
    rotate_left
    ·simp only [putAll, Act.put, List.setIfInBounds_toArray, List.set_cons_zero, List.set_cons_succ]
     rfl
    refine one_ (i := 8) (N := none) (mk 10 511) rfl rfl (one_of HT_.out (by kernel_rfl)) (by decide) (fun K hK => ?_)
    have hs54 : w52.cell? ⟨gb698, 0, none⟩ = some (.slice none 0 0) := (blk_cell BK698.out 0).trans rfl
    have hfs54 := blk_frozen BK698.out 0
    have hns54_0 := NB697_698.out
    have hns54_2 := NB700_698.out
    have hms54_0 := NB698_697.out
    have hms54_2 := NB698_700.out
    have hs55 : w52.cell? ⟨gb698, 1, none⟩ = some (.slice none 0 0) := (blk_cell BK698.out 1).trans rfl
    have hfs55 := blk_frozen BK698.out 1
    have hns55_0 := NB697_698.out
    have hns55_2 := NB700_698.out
    have hms55_0 := NB698_697.out
    have hms55_2 := NB698_700.out
    have hs56 : w52.cell? ⟨gb698, 2, none⟩ = some (.int .i64 0) := (blk_cell BK698.out 2).trans rfl
    have hfs56 := blk_frozen BK698.out 2
    have hns56_0 := NB697_698.out
    have hns56_2 := NB700_698.out
    have hms56_0 := NB698_697.out
    have hms56_2 := NB698_700.out
    refine skip_ (w1 := ?_) (by rfl) rfl ?_ ?_
    rotate_left
    ·go_simp
     rfl
    refine hK.out _ _ ⟨((cell_far (p := ⟨gb698, _, none⟩) NB700_698.out _).trans (((cell_far (p := ⟨gb698, _, none⟩) NB700_698.out _).trans (((cell_far (p := ⟨gb698, _, none⟩) NB700_698.out _).trans (hHeld.1)))))), ((cell_far (p := ⟨gb698, _, none⟩) NB700_698.out _).trans (((cell_far (p := ⟨gb698, _, none⟩) NB700_698.out _).trans (((cell_far (p := ⟨gb698, _, none⟩) NB700_698.out _).trans (hHeld.2.1)))))), ((cell_far (p := ⟨gb698, _, none⟩) NB700_698.out _).trans (((cell_far (p := ⟨gb698, _, none⟩) NB700_698.out _).trans (((cell_far (p := ⟨gb698, _, none⟩) NB700_698.out _).trans (hHeld.2.2.1)))))), ((cell_far (p := ⟨gb698, _, none⟩) NB700_698.out _).trans (((cell_far (p := ⟨gb698, _, none⟩) NB700_698.out _).trans (((cell_far (p := ⟨gb698, _, none⟩) NB700_698.out _).trans (hHeld.2.2.2))))))⟩ (fun hHeld => ?_)
    clear hK K
    refine pu 9 7 10 1023 rfl rfl ?_
    refine done_ (done_of HT_.out (by kernel_rfl)) ?_
    try go_wp2
    refine bodyPost_ret (results_ct rfl _ _ gb698 57 #[.slice Ao53 y708.length co53, .slice Ao46 y704.length co46, .int .i64 1] (0, 0) _ rfl (bq BK698.out) Try.underlying57 rfl (by kernel_rfl)) rfl ?_
    exact ⟨_, _, EQ, rb (Kd.R_mono (Kd.R_far (p := ⟨gb698, 2, none⟩) (Kd.R_far (p := ⟨gb698, 1, none⟩) (Kd.R_far (p := ⟨gb698, 0, none⟩) (Kd.R_types HO710.out BK698.out (by decide)) (fun _ hk => hk.2) (.slice Ao53 y708.length co53)) (fun _ hk => hk.2) (.slice Ao46 y704.length co46)) (fun _ hk => hk.2) (.int .i64 1)) (fun _ hk => hk.1)), rb (Kd.R_mono (Kd.R_far (p := ⟨gb698, 2, none⟩) (Kd.R_far (p := ⟨gb698, 1, none⟩) (Kd.R_far (p := ⟨gb698, 0, none⟩) (Kd.R_types HO706.out BK698.out (by decide)) (fun _ hk => hk.2) (.slice Ao53 y708.length co53)) (fun _ hk => hk.2) (.slice Ao46 y704.length co46)) (fun _ hk => hk.2) (.int .i64 1)) (fun _ hk => hk.1)), BA⟩

/-! ### impl_tileAt_at0: function 78 -/
def impl_tileAt_at0.f (k : Nat) (l0 : List (S54)) (a1 : Int)  : Option (List Int × List Int × Int × Bool) := if 0 ≤ a1 then (if a1 < (l0.length : Int) then ((impl_operands.f k ((rd_T54 l0 a1).f0)).bind fun t715 => (some (([] : List Int), ([] : List Int), 0, (((rd_T54 l0 a1).f0).toList == ([105, 110] : List UInt8))))) else (none)) else (none)
theorem impl_tileAt_at0.calls (k : Nat) (A0 : Option Addr) (c0 : Nat) (l0 : List (S54)) (a1 : Int)  (r1 : List Int) (r2 : List Int) (r3 : Int) (r4 : Bool) (w : World) (hr0 : Kd.C k54 w A0 l0.length l0) (hc0 : l0.length ≤ c0) (h : impl_tileAt_at0.f k l0 a1 = some (r1, r2, r3, r4)) :
  Calls Try.prog 78 #[.slice A0 l0.length c0, .int .i64 a1, .int .i64 0] w fun e w' => ∃ v0_ v1_ : Value, e = .returned (.tuple #[.agg #[v0_, v1_, .int .i64 r3], .bool r4]) ∧ Kd.R (Kd.int .i64) 3 w' w.heap.size (fun k_ => some k_ ≠ (v1_ : Value).ownBlock) v0_ r1 ∧ Kd.R (Kd.int .i64) 3 w' w.heap.size (fun k_ => some k_ ≠ (v0_ : Value).ownBlock) v1_ r2 ∧ Below w.heap.size w w' := by
 have hu57 := Try.underlying57
 have hu54 := Try.underlying54
 have hu93 := Try.underlying93
 have HR0 := Aside0.mk hr0
 have HC0 := Aside0.mk hc0
 clear hr0 hc0
 have HB := Aside0.mk (Below.refl w.heap.size w)
 have H := h
 clear h
 unfold impl_tileAt_at0.f at H
 obtain ⟨c4, H⟩ := ifs H
 have c4b0 := decide_eq_true c4
 clear c4
 obtain ⟨c5, H⟩ := ifs H
 have c5b0 := decide_eq_true c5
 clear c5
 obtain ⟨t715, A6, H⟩ := ob H
 (try dsimp only at H)
 simp only [Option.some.injEq, Prod.mk.injEq] at H
 obtain ⟨rfl, rfl, rfl, rfl⟩ := H
 go_enter Try.func78, Try.ntmps78
 try go_wp2_with (first | ((with_reducible refine gd 6 rfl ?_); refine bx 6 #[.slice none 0 0, .slice none 0 0, .int .i64 0] 57 ?_; intro gb712 hg w7 BK712 GW712 HB hb; have GE712 := GW712; clear hb hg; have p713 : 0 ≤ (a1 : Int) := DT; have q713 : a1 < (l0.length : Int) := DT; obtain ⟨ad713, e713, hx713_0, hx713_1, hx713_2, hx713_3⟩ := at_T54 (Kd.C_below HR0.out HB.out) a1 p713 q713; cases e713; replace p713 := eq_true p713; replace q713 := eq_true q713) | ((with_reducible refine gd 8 rfl ?_); refine bx 8 #[.string (⟨#[]⟩ : ByteArray), .int .i64 0, .int .i64 0, .int .i64 0] 54 ?_; intro gb714 hg w8 BK714 GW714 HB hb; have GE714 := GW714; have NB712_714 := nbl hg (bk BK712.out); have NB714_712 := nbr hg (bk BK712.out); replace BK712 := kb BK712 hb; clear hb hg; have hnb9 := NB714_712.out; have hnc9 := NB712_714.out; obtain ⟨hcz10_0, hcz10_1, hcz10_2, hcz10_3⟩ := bc4 BK714.out; have hfz10 := blk_frozen BK714.out) | ((with_reducible refine gate_callee (f := 100) rfl ?_); refine gK (some 18) Try.func100 #[.string ((rd_T54 l0 a1).f0)] rfl rfl rfl ?_; (with_reducible refine (impl_operands.calls k ((rd_T54 l0 a1).f0) t715 _ A6.out).mono ?_); rintro e w11 ⟨rfl, hb⟩; refine ⟨_, rfl, ?_⟩; replace BK712 := Aside0.mk (blk_below (g := gb712) (o := .cells #[.slice none 0 0, .slice none 0 0, .int .i64 0] 57 (0, 0)) (bq BK712.out) hb); replace BK714 := Aside0.mk (blk_below (g := gb714) (o := .cells #[.string ((rd_T54 l0 a1).f0), .int .i64 ((rd_T54 l0 a1).f1), .int .i64 ((rd_T54 l0 a1).f2), .int .i64 ((rd_T54 l0 a1).f3)] 54 (0, 0)) (bq BK714.out) hb); replace HB := bs hb; (try clear hb)))
 replace BK712 := Aside0.mk (blk_drew BK712.out); replace BK714 := Aside0.mk (blk_drew BK714.out); replace HB := Aside0.mk (below_drew1 HB.out)
 refine start_ (n := 6) (S := C4 gb714 (.string ((rd_T54 l0 a1).f0)) (.int .i64 ((rd_T54 l0 a1).f1)) (.int .i64 ((rd_T54 l0 a1).f2)) (.int .i64 ((rd_T54 l0 a1).f3))) (ds := []) (mk 6 0) (by kernel_rfl) rfl (by kernel_rfl) (bc4 BK714.out) (fun hHeld => ?_)
 generalize w11.drew = w12 at BK712 BK714 HB hHeld ⊢
 refine pu 0 22 6 1 rfl rfl ?_
 refine pu 1 23 6 3 rfl rfl ?_
 refine ta 2 24 6 7 rfl rfl ?_
 refine pu 3 25 6 15 rfl rfl ?_
 refine one_ (i := 4) (N := none) (mk 6 31) rfl rfl (by kernel_rfl) (by decide) (fun K hK => ?_)
 have hs13 : w12.cell? ⟨gb712, 0, none⟩ = some (.slice none 0 0) := (blk_cell BK712.out 0).trans rfl
 have hfs13 := blk_frozen BK712.out 0
 have hns13_1 := NB714_712.out
 have hms13_1 := NB712_714.out
 have hs14 : w12.cell? ⟨gb712, 1, none⟩ = some (.slice none 0 0) := (blk_cell BK712.out 1).trans rfl
 have hfs14 := blk_frozen BK712.out 1
 have hns14_1 := NB714_712.out
 have hms14_1 := NB712_714.out
 have hs15 : w12.cell? ⟨gb712, 2, none⟩ = some (.int .i64 0) := (blk_cell BK712.out 2).trans rfl
 have hfs15 := blk_frozen BK712.out 2
 have hns15_1 := NB714_712.out
 have hms15_1 := NB712_714.out
 refine skip_ (w1 := ?_) (by rfl) rfl ?_ ?_
 rotate_left
 ·go_simp
  rfl
 refine hK.out _ _ ⟨((cell_far (p := ⟨gb712, _, none⟩) NB714_712.out _).trans (((cell_far (p := ⟨gb712, _, none⟩) NB714_712.out _).trans (((cell_far (p := ⟨gb712, _, none⟩) NB714_712.out _).trans (hHeld.1)))))), ((cell_far (p := ⟨gb712, _, none⟩) NB714_712.out _).trans (((cell_far (p := ⟨gb712, _, none⟩) NB714_712.out _).trans (((cell_far (p := ⟨gb712, _, none⟩) NB714_712.out _).trans (hHeld.2.1)))))), ((cell_far (p := ⟨gb712, _, none⟩) NB714_712.out _).trans (((cell_far (p := ⟨gb712, _, none⟩) NB714_712.out _).trans (((cell_far (p := ⟨gb712, _, none⟩) NB714_712.out _).trans (hHeld.2.2.1)))))), ((cell_far (p := ⟨gb712, _, none⟩) NB714_712.out _).trans (((cell_far (p := ⟨gb712, _, none⟩) NB714_712.out _).trans (((cell_far (p := ⟨gb712, _, none⟩) NB714_712.out _).trans (hHeld.2.2.2))))))⟩ (fun hHeld => ?_)
 clear hK K
 refine pu 5 7 6 63 rfl rfl ?_
 refine done_ (by kernel_rfl) ?_
 try go_wp2
 refine bodyPost_ret (results_ct rfl _ _ gb712 57 #[.slice none 0 0, .slice none 0 0, .int .i64 0] (0, 0) _ rfl (bq BK712.out) Try.underlying57 rfl (by kernel_rfl)) rfl ?_
 exact ⟨_, _, EQ, by first | exact Kd.R_nil _ _ _ _ _ | exact Kd.N_nil _ _ _ _ _ | exact Kd.V_nil _ _ _ _ _ | exact Kd.Q_nil _ _ _ _ _ | exact Kd.S_nil _ _ _ _ _, by first | exact Kd.R_nil _ _ _ _ _ | exact Kd.N_nil _ _ _ _ _ | exact Kd.V_nil _ _ _ _ _ | exact Kd.Q_nil _ _ _ _ _ | exact Kd.S_nil _ _ _ _ _, BA⟩

/-! ### impl_tileAt_at1: function 78 -/
def impl_tileAt_at1.f (k : Nat) (l0 : List (S54)) (a1 : Int)  : Option (List Int × List Int × Int × Bool) := if 0 ≤ a1 then (if a1 < (l0.length : Int) then ((impl_operands.f k ((rd_T54 l0 a1).f0)).bind fun t719 => (some (([] : List Int), ([] : List Int), 1, (((rd_T54 l0 a1).f0).toList == ([99, 111, 110, 115, 116] : List UInt8))))) else (none)) else (none)
theorem impl_tileAt_at1.calls (k : Nat) (A0 : Option Addr) (c0 : Nat) (l0 : List (S54)) (a1 : Int)  (r1 : List Int) (r2 : List Int) (r3 : Int) (r4 : Bool) (w : World) (hr0 : Kd.C k54 w A0 l0.length l0) (hc0 : l0.length ≤ c0) (h : impl_tileAt_at1.f k l0 a1 = some (r1, r2, r3, r4)) :
  Calls Try.prog 78 #[.slice A0 l0.length c0, .int .i64 a1, .int .i64 1] w fun e w' => ∃ v0_ v1_ : Value, e = .returned (.tuple #[.agg #[v0_, v1_, .int .i64 r3], .bool r4]) ∧ Kd.R (Kd.int .i64) 3 w' w.heap.size (fun k_ => some k_ ≠ (v1_ : Value).ownBlock) v0_ r1 ∧ Kd.R (Kd.int .i64) 3 w' w.heap.size (fun k_ => some k_ ≠ (v0_ : Value).ownBlock) v1_ r2 ∧ Below w.heap.size w w' := by
 have hu57 := Try.underlying57
 have hu54 := Try.underlying54
 have hu93 := Try.underlying93
 have HR0 := Aside0.mk hr0
 have HC0 := Aside0.mk hc0
 clear hr0 hc0
 have HB := Aside0.mk (Below.refl w.heap.size w)
 have H := h
 clear h
 unfold impl_tileAt_at1.f at H
 obtain ⟨c4, H⟩ := ifs H
 have c4b0 := decide_eq_true c4
 clear c4
 obtain ⟨c5, H⟩ := ifs H
 have c5b0 := decide_eq_true c5
 clear c5
 obtain ⟨t719, A6, H⟩ := ob H
 (try dsimp only at H)
 simp only [Option.some.injEq, Prod.mk.injEq] at H
 obtain ⟨rfl, rfl, rfl, rfl⟩ := H
 go_enter Try.func78, Try.ntmps78
 try go_wp2_with (first | ((with_reducible refine gd 6 rfl ?_); refine bx 6 #[.slice none 0 0, .slice none 0 0, .int .i64 0] 57 ?_; intro gb716 hg w7 BK716 GW716 HB hb; have GE716 := GW716; clear hb hg; have p717 : 0 ≤ (a1 : Int) := DT; have q717 : a1 < (l0.length : Int) := DT; obtain ⟨ad717, e717, hx717_0, hx717_1, hx717_2, hx717_3⟩ := at_T54 (Kd.C_below HR0.out HB.out) a1 p717 q717; cases e717; replace p717 := eq_true p717; replace q717 := eq_true q717) | ((with_reducible refine gd 8 rfl ?_); refine bx 8 #[.string (⟨#[]⟩ : ByteArray), .int .i64 0, .int .i64 0, .int .i64 0] 54 ?_; intro gb718 hg w8 BK718 GW718 HB hb; have GE718 := GW718; have NB716_718 := nbl hg (bk BK716.out); have NB718_716 := nbr hg (bk BK716.out); replace BK716 := kb BK716 hb; clear hb hg; have hnb9 := NB718_716.out; have hnc9 := NB716_718.out; obtain ⟨hcz10_0, hcz10_1, hcz10_2, hcz10_3⟩ := bc4 BK718.out; have hfz10 := blk_frozen BK718.out) | ((with_reducible refine gate_callee (f := 100) rfl ?_); refine gK (some 18) Try.func100 #[.string ((rd_T54 l0 a1).f0)] rfl rfl rfl ?_; (with_reducible refine (impl_operands.calls k ((rd_T54 l0 a1).f0) t719 _ A6.out).mono ?_); rintro e w11 ⟨rfl, hb⟩; refine ⟨_, rfl, ?_⟩; replace BK716 := Aside0.mk (blk_below (g := gb716) (o := .cells #[.slice none 0 0, .slice none 0 0, .int .i64 0] 57 (0, 0)) (bq BK716.out) hb); replace BK718 := Aside0.mk (blk_below (g := gb718) (o := .cells #[.string ((rd_T54 l0 a1).f0), .int .i64 ((rd_T54 l0 a1).f1), .int .i64 ((rd_T54 l0 a1).f2), .int .i64 ((rd_T54 l0 a1).f3)] 54 (0, 0)) (bq BK718.out) hb); replace HB := bs hb; (try clear hb)))
 replace BK716 := Aside0.mk (blk_drew BK716.out); replace BK718 := Aside0.mk (blk_drew BK718.out); replace HB := Aside0.mk (below_drew1 HB.out)
 refine start_ (n := 6) (S := C4 gb718 (.string ((rd_T54 l0 a1).f0)) (.int .i64 ((rd_T54 l0 a1).f1)) (.int .i64 ((rd_T54 l0 a1).f2)) (.int .i64 ((rd_T54 l0 a1).f3))) (ds := []) (mk 6 0) (by kernel_rfl) rfl (by kernel_rfl) (bc4 BK718.out) (fun hHeld => ?_)
 generalize w11.drew = w12 at BK716 BK718 HB hHeld ⊢
 refine pu 0 29 6 1 rfl rfl ?_
 refine pu 1 30 6 3 rfl rfl ?_
 refine ta 2 31 6 7 rfl rfl ?_
 refine pu 3 32 6 15 rfl rfl ?_
 refine one_ (i := 4) (N := none) (mk 6 31) rfl rfl (by kernel_rfl) (by decide) (fun K hK => ?_)
 have hs13 : w12.cell? ⟨gb716, 0, none⟩ = some (.slice none 0 0) := (blk_cell BK716.out 0).trans rfl
 have hfs13 := blk_frozen BK716.out 0
 have hns13_1 := NB718_716.out
 have hms13_1 := NB716_718.out
 have hs14 : w12.cell? ⟨gb716, 1, none⟩ = some (.slice none 0 0) := (blk_cell BK716.out 1).trans rfl
 have hfs14 := blk_frozen BK716.out 1
 have hns14_1 := NB718_716.out
 have hms14_1 := NB716_718.out
 have hs15 : w12.cell? ⟨gb716, 2, none⟩ = some (.int .i64 0) := (blk_cell BK716.out 2).trans rfl
 have hfs15 := blk_frozen BK716.out 2
 have hns15_1 := NB718_716.out
 have hms15_1 := NB716_718.out
 refine skip_ (w1 := ?_) (by rfl) rfl ?_ ?_
 rotate_left
 ·go_simp
  rfl
 refine hK.out _ _ ⟨((cell_far (p := ⟨gb716, _, none⟩) NB718_716.out _).trans (((cell_far (p := ⟨gb716, _, none⟩) NB718_716.out _).trans (((cell_far (p := ⟨gb716, _, none⟩) NB718_716.out _).trans (hHeld.1)))))), ((cell_far (p := ⟨gb716, _, none⟩) NB718_716.out _).trans (((cell_far (p := ⟨gb716, _, none⟩) NB718_716.out _).trans (((cell_far (p := ⟨gb716, _, none⟩) NB718_716.out _).trans (hHeld.2.1)))))), ((cell_far (p := ⟨gb716, _, none⟩) NB718_716.out _).trans (((cell_far (p := ⟨gb716, _, none⟩) NB718_716.out _).trans (((cell_far (p := ⟨gb716, _, none⟩) NB718_716.out _).trans (hHeld.2.2.1)))))), ((cell_far (p := ⟨gb716, _, none⟩) NB718_716.out _).trans (((cell_far (p := ⟨gb716, _, none⟩) NB718_716.out _).trans (((cell_far (p := ⟨gb716, _, none⟩) NB718_716.out _).trans (hHeld.2.2.2))))))⟩ (fun hHeld => ?_)
 clear hK K
 refine pu 5 7 6 63 rfl rfl ?_
 refine done_ (by kernel_rfl) ?_
 try go_wp2
 refine bodyPost_ret (results_ct rfl _ _ gb716 57 #[.slice none 0 0, .slice none 0 0, .int .i64 1] (0, 0) _ rfl (bq BK716.out) Try.underlying57 rfl (by kernel_rfl)) rfl ?_
 exact ⟨_, _, EQ, by first | exact Kd.R_nil _ _ _ _ _ | exact Kd.N_nil _ _ _ _ _ | exact Kd.V_nil _ _ _ _ _ | exact Kd.Q_nil _ _ _ _ _ | exact Kd.S_nil _ _ _ _ _, by first | exact Kd.R_nil _ _ _ _ _ | exact Kd.N_nil _ _ _ _ _ | exact Kd.V_nil _ _ _ _ _ | exact Kd.Q_nil _ _ _ _ _ | exact Kd.S_nil _ _ _ _ _, BA⟩

/-! ### impl_tileAt_at2: function 78 -/
def impl_tileAt_at2.f (k : Nat) (l0 : List (S54)) (a1 : Int)  : Option (List Int × List Int × Int × Bool) := if 0 ≤ a1 then (if a1 < (l0.length : Int) then ((impl_operands.f k ((rd_T54 l0 a1).f0)).bind fun t723 => (some ((([(rd_T54 l0 a1).f1] : List Int)), ([] : List Int), 1, (t723 == 1)))) else (none)) else (none)
theorem impl_tileAt_at2.calls (k : Nat) (A0 : Option Addr) (c0 : Nat) (l0 : List (S54)) (a1 : Int)  (r1 : List Int) (r2 : List Int) (r3 : Int) (r4 : Bool) (w : World) (hr0 : Kd.C k54 w A0 l0.length l0) (hc0 : l0.length ≤ c0) (h : impl_tileAt_at2.f k l0 a1 = some (r1, r2, r3, r4)) :
  Calls Try.prog 78 #[.slice A0 l0.length c0, .int .i64 a1, .int .i64 2] w fun e w' => ∃ v0_ v1_ : Value, e = .returned (.tuple #[.agg #[v0_, v1_, .int .i64 r3], .bool r4]) ∧ Kd.R (Kd.int .i64) 3 w' w.heap.size (fun k_ => some k_ ≠ (v1_ : Value).ownBlock) v0_ r1 ∧ Kd.R (Kd.int .i64) 3 w' w.heap.size (fun k_ => some k_ ≠ (v0_ : Value).ownBlock) v1_ r2 ∧ Below w.heap.size w w' := by
 have hu57 := Try.underlying57
 have hu54 := Try.underlying54
 have hu93 := Try.underlying93
 have HR0 := Aside0.mk hr0
 have HC0 := Aside0.mk hc0
 clear hr0 hc0
 have HB := Aside0.mk (Below.refl w.heap.size w)
 have H := h
 clear h
 unfold impl_tileAt_at2.f at H
 obtain ⟨c4, H⟩ := ifs H
 have c4b0 := decide_eq_true c4
 clear c4
 obtain ⟨c5, H⟩ := ifs H
 have c5b0 := decide_eq_true c5
 clear c5
 obtain ⟨t723, A6, H⟩ := ob H
 (try dsimp only at H)
 obtain ⟨y724, hy724⟩ : ∃ y_ : List Int, y_ = (([(rd_T54 l0 a1).f1] : List Int)) := ⟨_, rfl⟩
 replace H : (some (y724, ([] : List Int), 1, (t723 == 1))) = some (r1, r2, r3, r4) := by first | (rw [hy724]; with_reducible exact H) | (have H2_ := (Option.bind_some _ _).symm.trans H; rw [hy724]; with_reducible exact H2_) | (have H2_ := (Option.bind_some _ _).symm.trans H; with_reducible exact H2_) | with_reducible exact H | (rw [hy724]; exact H) | exact H
 have Ny724 := Aside0.mk hy724
 clear hy724
 simp only [Option.some.injEq, Prod.mk.injEq] at H
 obtain ⟨rfl, rfl, rfl, rfl⟩ := H
 go_enter Try.func78, Try.ntmps78
 go_wp2_with (first | ((with_reducible refine gd 6 rfl ?_); refine bx 6 #[.slice none 0 0, .slice none 0 0, .int .i64 0] 57 ?_; intro gb720 hg w7 BK720 GW720 HB hb; have GE720 := GW720; clear hb hg; have p721 : 0 ≤ (a1 : Int) := DT; have q721 : a1 < (l0.length : Int) := DT; obtain ⟨ad721, e721, hx721_0, hx721_1, hx721_2, hx721_3⟩ := at_T54 (Kd.C_below HR0.out HB.out) a1 p721 q721; cases e721; replace p721 := eq_true p721; replace q721 := eq_true q721) | ((with_reducible refine gd 8 rfl ?_); refine bx 8 #[.string (⟨#[]⟩ : ByteArray), .int .i64 0, .int .i64 0, .int .i64 0] 54 ?_; intro gb722 hg w8 BK722 GW722 HB hb; have GE722 := GW722; have NB720_722 := nbl hg (bk BK720.out); have NB722_720 := nbr hg (bk BK720.out); replace BK720 := kb BK720 hb; clear hb hg; have hnb9 := NB722_720.out; have hnc9 := NB720_722.out; obtain ⟨hcz10_0, hcz10_1, hcz10_2, hcz10_3⟩ := bc4 BK722.out; have hfz10 := blk_frozen BK722.out) | ((with_reducible refine gate_callee (f := 100) rfl ?_); refine gK (some 18) Try.func100 #[.string ((rd_T54 l0 a1).f0)] rfl rfl rfl ?_; (with_reducible refine (impl_operands.calls k ((rd_T54 l0 a1).f0) t723 _ A6.out).mono ?_); rintro e w11 ⟨rfl, hb⟩; refine ⟨_, rfl, ?_⟩; replace BK720 := Aside0.mk (blk_below (g := gb720) (o := .cells #[.slice none 0 0, .slice none 0 0, .int .i64 0] 57 (0, 0)) (bq BK720.out) hb); replace BK722 := Aside0.mk (blk_below (g := gb722) (o := .cells #[.string ((rd_T54 l0 a1).f0), .int .i64 ((rd_T54 l0 a1).f1), .int .i64 ((rd_T54 l0 a1).f2), .int .i64 ((rd_T54 l0 a1).f3)] 54 (0, 0)) (bq BK722.out) hb); replace HB := bs hb; (try clear hb); obtain ⟨hcz12_0, hcz12_1, hcz12_2, hcz12_3⟩ := bc4 BK722.out; have hfz12 := blk_frozen BK722.out) | ((with_reducible refine gate_dst (N := 38) rfl ?_); refine li 38 3 Ny724.out ?_; intro v725 w13 ho14 hb; have HO726 := Aside0.mk (Kd.R_lower ho14 (below_size BA)); replace BK720 := kb BK720 hb; replace BK722 := kb BK722 hb; replace HB := bs hb; clear hb ho14; obtain ⟨Ao15, co15, eo15⟩ := Kd.R_slice HO726.out; subst eo15; obtain ⟨hcz16_0, hcz16_1, hcz16_2⟩ := bc3 BK720.out; have hfz16 := blk_frozen BK720.out))
 refine bodyPost_ret (results_ct rfl _ _ gb720 57 #[.slice Ao15 y724.length co15, .slice none 0 0, .int .i64 1] (0, 0) _ rfl (bq BK720.out) Try.underlying57 rfl (by kernel_rfl)) rfl ?_
 exact ⟨_, _, EQ, rb (Kd.R_mono (Kd.R_far (p := ⟨gb720, 2, none⟩) (Kd.R_far (p := ⟨gb720, 1, none⟩) (Kd.R_far (p := ⟨gb720, 0, none⟩) (Kd.R_types HO726.out BK720.out (by decide)) (fun _ hk => hk.2) (.slice Ao15 y724.length co15)) (fun _ hk => hk.2) (.slice none 0 0)) (fun _ hk => hk.2) (.int .i64 1)) (fun _ hk => (by simp [Value.ownBlock]))), by first | exact Kd.R_nil _ _ _ _ _ | exact Kd.N_nil _ _ _ _ _ | exact Kd.V_nil _ _ _ _ _ | exact Kd.Q_nil _ _ _ _ _ | exact Kd.S_nil _ _ _ _ _, BA⟩

/-! ### impl_tileAt_at3: function 78 -/
def impl_tileAt_at3.f (k : Nat) (l0 : List (S54)) (a1 : Int)  : Option (List Int × List Int × Int × Bool) := if 0 ≤ a1 then (if a1 < (l0.length : Int) then ((impl_operands.f k ((rd_T54 l0 a1).f0)).bind fun t730 => (if t730 < 2 then (some (([] : List Int), ([] : List Int), 0, false)) else ((impl_formOf.f ((rd_T54 l0 a1).f0)).bind fun bt731 => (some ((([(rd_T54 l0 a1).f1, (rd_T54 l0 a1).f2] : List Int)), ([] : List Int), bt731.2.2.2.2.1, true))))) else (none)) else (none)
theorem impl_tileAt_at3.calls (k : Nat) (A0 : Option Addr) (c0 : Nat) (l0 : List (S54)) (a1 : Int)  (r1 : List Int) (r2 : List Int) (r3 : Int) (r4 : Bool) (w : World) (hr0 : Kd.C k54 w A0 l0.length l0) (hc0 : l0.length ≤ c0) (h : impl_tileAt_at3.f k l0 a1 = some (r1, r2, r3, r4)) :
  Calls Try.prog 78 #[.slice A0 l0.length c0, .int .i64 a1, .int .i64 3] w fun e w' => ∃ v0_ v1_ : Value, e = .returned (.tuple #[.agg #[v0_, v1_, .int .i64 r3], .bool r4]) ∧ Kd.R (Kd.int .i64) 3 w' w.heap.size (fun k_ => some k_ ≠ (v1_ : Value).ownBlock) v0_ r1 ∧ Kd.R (Kd.int .i64) 3 w' w.heap.size (fun k_ => some k_ ≠ (v0_ : Value).ownBlock) v1_ r2 ∧ Below w.heap.size w w' := by
 have hu57 := Try.underlying57
 have hu54 := Try.underlying54
 have hu93 := Try.underlying93
 have HR0 := Aside0.mk hr0
 have HC0 := Aside0.mk hc0
 clear hr0 hc0
 have HB := Aside0.mk (Below.refl w.heap.size w)
 have H := h
 clear h
 unfold impl_tileAt_at3.f at H
 obtain ⟨c4, H⟩ := ifs H
 have c4b0 := decide_eq_true c4
 clear c4
 obtain ⟨c5, H⟩ := ifs H
 have c5b0 := decide_eq_true c5
 clear c5
 obtain ⟨t730, A6, H⟩ := ob H
 (try dsimp only at H)
 by_cases c7 : t730 < 2
 ·rw [if_pos c7] at H
  have c7b0 := decide_eq_true c7
  clear c7
  simp only [Option.some.injEq, Prod.mk.injEq] at H
  obtain ⟨rfl, rfl, rfl, rfl⟩ := H
  go_enter Try.func78, Try.ntmps78
  go_wp2_with (first | ((with_reducible refine gd 6 rfl ?_); refine bx 6 #[.slice none 0 0, .slice none 0 0, .int .i64 0] 57 ?_; intro gb727 hg w8 BK727 GW727 HB hb; have GE727 := GW727; clear hb hg; have p728 : 0 ≤ (a1 : Int) := DT; have q728 : a1 < (l0.length : Int) := DT; obtain ⟨ad728, e728, hx728_0, hx728_1, hx728_2, hx728_3⟩ := at_T54 (Kd.C_below HR0.out HB.out) a1 p728 q728; cases e728; replace p728 := eq_true p728; replace q728 := eq_true q728) | ((with_reducible refine gd 8 rfl ?_); refine bx 8 #[.string (⟨#[]⟩ : ByteArray), .int .i64 0, .int .i64 0, .int .i64 0] 54 ?_; intro gb729 hg w9 BK729 GW729 HB hb; have GE729 := GW729; have NB727_729 := nbl hg (bk BK727.out); have NB729_727 := nbr hg (bk BK727.out); replace BK727 := kb BK727 hb; clear hb hg; have hnb10 := NB729_727.out; have hnc10 := NB727_729.out; obtain ⟨hcz11_0, hcz11_1, hcz11_2, hcz11_3⟩ := bc4 BK729.out; have hfz11 := blk_frozen BK729.out) | ((with_reducible refine gate_callee (f := 100) rfl ?_); refine gK (some 18) Try.func100 #[.string ((rd_T54 l0 a1).f0)] rfl rfl rfl ?_; (with_reducible refine (impl_operands.calls k ((rd_T54 l0 a1).f0) t730 _ A6.out).mono ?_); rintro e w12 ⟨rfl, hb⟩; refine ⟨_, rfl, ?_⟩; replace BK727 := Aside0.mk (blk_below (g := gb727) (o := .cells #[.slice none 0 0, .slice none 0 0, .int .i64 0] 57 (0, 0)) (bq BK727.out) hb); replace BK729 := Aside0.mk (blk_below (g := gb729) (o := .cells #[.string ((rd_T54 l0 a1).f0), .int .i64 ((rd_T54 l0 a1).f1), .int .i64 ((rd_T54 l0 a1).f2), .int .i64 ((rd_T54 l0 a1).f3)] 54 (0, 0)) (bq BK729.out) hb); replace HB := bs hb; (try clear hb); obtain ⟨hcz13_0, hcz13_1, hcz13_2⟩ := bc3 BK727.out; have hfz13 := blk_frozen BK727.out))
  refine bodyPost_ret (results_ct rfl _ _ gb727 57 #[.slice none 0 0, .slice none 0 0, .int .i64 0] (0, 0) _ rfl (bq BK727.out) Try.underlying57 rfl (by kernel_rfl)) rfl ?_
  exact ⟨_, _, EQ, by first | exact Kd.R_nil _ _ _ _ _ | exact Kd.N_nil _ _ _ _ _ | exact Kd.V_nil _ _ _ _ _ | exact Kd.Q_nil _ _ _ _ _ | exact Kd.S_nil _ _ _ _ _, by first | exact Kd.R_nil _ _ _ _ _ | exact Kd.N_nil _ _ _ _ _ | exact Kd.V_nil _ _ _ _ _ | exact Kd.Q_nil _ _ _ _ _ | exact Kd.S_nil _ _ _ _ _, BA⟩
 ·rw [if_neg c7] at H
  have c7b0 := decide_eq_false c7
  clear c7
  replace H := Option.bind_eq_some_iff.mp H
  obtain ⟨⟨t731, t732, t733, t734, t735, t736, t737⟩, A140, H⟩ := H
  (try dsimp only at H)
  have A14 := Aside0.mk A140
  clear A140
  obtain ⟨y739, hy739⟩ : ∃ y_ : List Int, y_ = (([(rd_T54 l0 a1).f1, (rd_T54 l0 a1).f2] : List Int)) := ⟨_, rfl⟩
  replace H : (some (y739, ([] : List Int), t735, true)) = some (r1, r2, r3, r4) := by first | (rw [hy739]; with_reducible exact H) | (have H2_ := (Option.bind_some _ _).symm.trans H; rw [hy739]; with_reducible exact H2_) | (have H2_ := (Option.bind_some _ _).symm.trans H; with_reducible exact H2_) | with_reducible exact H | (rw [hy739]; exact H) | exact H
  have Ny739 := Aside0.mk hy739
  clear hy739
  simp only [Option.some.injEq, Prod.mk.injEq] at H
  obtain ⟨rfl, rfl, rfl, rfl⟩ := H
  go_enter Try.func78, Try.ntmps78
  go_wp2_with (first | ((with_reducible refine gd 6 rfl ?_); refine bx 6 #[.slice none 0 0, .slice none 0 0, .int .i64 0] 57 ?_; intro gb727 hg w15 BK727 GW727 HB hb; have GE727 := GW727; clear hb hg; have p728 : 0 ≤ (a1 : Int) := DT; have q728 : a1 < (l0.length : Int) := DT; obtain ⟨ad728, e728, hx728_0, hx728_1, hx728_2, hx728_3⟩ := at_T54 (Kd.C_below HR0.out HB.out) a1 p728 q728; cases e728; replace p728 := eq_true p728; replace q728 := eq_true q728) | ((with_reducible refine gd 8 rfl ?_); refine bx 8 #[.string (⟨#[]⟩ : ByteArray), .int .i64 0, .int .i64 0, .int .i64 0] 54 ?_; intro gb729 hg w16 BK729 GW729 HB hb; have GE729 := GW729; have NB727_729 := nbl hg (bk BK727.out); have NB729_727 := nbr hg (bk BK727.out); replace BK727 := kb BK727 hb; clear hb hg; have hnb17 := NB729_727.out; have hnc17 := NB727_729.out; obtain ⟨hcz18_0, hcz18_1, hcz18_2, hcz18_3⟩ := bc4 BK729.out; have hfz18 := blk_frozen BK729.out) | ((with_reducible refine gate_callee (f := 100) rfl ?_); refine gK (some 18) Try.func100 #[.string ((rd_T54 l0 a1).f0)] rfl rfl rfl ?_; (with_reducible refine (impl_operands.calls k ((rd_T54 l0 a1).f0) t730 _ A6.out).mono ?_); rintro e w19 ⟨rfl, hb⟩; refine ⟨_, rfl, ?_⟩; replace BK727 := Aside0.mk (blk_below (g := gb727) (o := .cells #[.slice none 0 0, .slice none 0 0, .int .i64 0] 57 (0, 0)) (bq BK727.out) hb); replace BK729 := Aside0.mk (blk_below (g := gb729) (o := .cells #[.string ((rd_T54 l0 a1).f0), .int .i64 ((rd_T54 l0 a1).f1), .int .i64 ((rd_T54 l0 a1).f2), .int .i64 ((rd_T54 l0 a1).f3)] 54 (0, 0)) (bq BK729.out) hb); replace HB := bs hb; (try clear hb); obtain ⟨hcz20_0, hcz20_1, hcz20_2, hcz20_3⟩ := bc4 BK729.out; have hfz20 := blk_frozen BK729.out) | ((with_reducible refine gate_callee (f := 101) rfl ?_); refine gK (some 52) Try.func101 #[.string ((rd_T54 l0 a1).f0)] rfl rfl rfl ?_; (with_reducible refine (impl_formOf.calls ((rd_T54 l0 a1).f0) t731 t732 t733 t734 t735 t736 t737 _ A14.out).mono ?_); rintro e w21 ⟨rfl, hb⟩; refine ⟨_, rfl, ?_⟩; replace BK727 := kb BK727 hb; replace BK729 := kb BK729 hb; replace HB := bs hb; (try clear hb)) | ((with_reducible refine gd 10 rfl ?_); refine bx 10 #[.bool false, .bool false, .int .i64 0, .int .i64 0, .int .i64 0, .string (⟨#[]⟩ : ByteArray)] 93 ?_; intro gb738 hg w22 BK738 GW738 HB hb; have GE738 := GW738; have NB727_738 := nbl hg (bk BK727.out); have NB738_727 := nbr hg (bk BK727.out); replace BK727 := kb BK727 hb; have NB729_738 := nbl hg (bk BK729.out); have NB738_729 := nbr hg (bk BK729.out); replace BK729 := kb BK729 hb; clear hb hg; have hnb23 := NB738_727.out; have hnc23 := NB727_738.out; have hnb24 := NB738_729.out; have hnc24 := NB729_738.out; obtain ⟨hcz25_0, hcz25_1, hcz25_2, hcz25_3, hcz25_4, hcz25_5⟩ := bc6 BK738.out; have hfz25 := blk_frozen BK738.out; obtain ⟨hcz26_0, hcz26_1, hcz26_2, hcz26_3⟩ := bc4 BK729.out; have hfz26 := blk_frozen BK729.out) | ((with_reducible refine gate_dst (N := 59) rfl ?_); refine li 59 3 Ny739.out ?_; intro v740 w27 ho28 hb; have HO741 := Aside0.mk (Kd.R_lower ho28 (below_size BA)); replace BK727 := Aside0.mk (blk_below (g := gb727) (o := .cells #[.slice none 0 0, .slice none 0 0, .int .i64 0] 57 (0, 0)) (bq BK727.out) hb); replace BK729 := Aside0.mk (blk_below (g := gb729) (o := .cells #[.string ((rd_T54 l0 a1).f0), .int .i64 ((rd_T54 l0 a1).f1), .int .i64 ((rd_T54 l0 a1).f2), .int .i64 ((rd_T54 l0 a1).f3)] 54 (0, 0)) (bq BK729.out) hb); replace BK738 := Aside0.mk (blk_below (g := gb738) (o := .cells #[.bool t731, .bool t732, .int .i64 t733, .int .i64 t734, .int .i64 t735, .string t736] 93 (0, 0)) (bq BK738.out) hb); replace HB := bs hb; clear hb ho28; obtain ⟨hcz29_0, hcz29_1, hcz29_2, hcz29_3, hcz29_4, hcz29_5⟩ := bc6 BK738.out; have hfz29 := blk_frozen BK738.out; obtain ⟨Ao30, co30, eo30⟩ := Kd.R_slice HO741.out; subst eo30; obtain ⟨hcz31_0, hcz31_1, hcz31_2⟩ := bc3 BK727.out; have hfz31 := blk_frozen BK727.out))
  refine bodyPost_ret (results_ct rfl _ _ gb727 57 #[.slice Ao30 y739.length co30, .slice none 0 0, .int .i64 t735] (0, 0) _ rfl (bq BK727.out) Try.underlying57 rfl (by kernel_rfl)) rfl ?_
  exact ⟨_, _, EQ, rb (Kd.R_mono (Kd.R_far (p := ⟨gb727, 2, none⟩) (Kd.R_far (p := ⟨gb727, 1, none⟩) (Kd.R_far (p := ⟨gb727, 0, none⟩) (Kd.R_types HO741.out BK727.out (by decide)) (fun _ hk => hk.2) (.slice Ao30 y739.length co30)) (fun _ hk => hk.2) (.slice none 0 0)) (fun _ hk => hk.2) (.int .i64 t735)) (fun _ hk => (by simp [Value.ownBlock]))), by first | exact Kd.R_nil _ _ _ _ _ | exact Kd.N_nil _ _ _ _ _ | exact Kd.V_nil _ _ _ _ _ | exact Kd.Q_nil _ _ _ _ _ | exact Kd.S_nil _ _ _ _ _, BA⟩

/-! ### impl_tileAt_at4: function 78 -/
def impl_tileAt_at4.f (k : Nat) (l0 : List (S54)) (a1 : Int)  : Option (List Int × List Int × Int × Bool) := if 0 ≤ a1 then (if a1 < (l0.length : Int) then ((impl_operands.f k ((rd_T54 l0 a1).f0)).bind fun t745 => (if t745 < 2 then (some (([] : List Int), ([] : List Int), 0, false)) else ((impl_constTile_at4.f k l0 ((rd_T54 l0 a1).f0) ((rd_T54 l0 a1).f1) ((rd_T54 l0 a1).f2) ((rd_T54 l0 a1).f3)).bind fun bt746 => (some (bt746.1, bt746.2.1, bt746.2.2.1, bt746.2.2.2))))) else (none)) else (none)
theorem impl_tileAt_at4.calls (k : Nat) (A0 : Option Addr) (c0 : Nat) (l0 : List (S54)) (a1 : Int)  (r1 : List Int) (r2 : List Int) (r3 : Int) (r4 : Bool) (w : World) (hr0 : Kd.C k54 w A0 l0.length l0) (hc0 : l0.length ≤ c0) (h : impl_tileAt_at4.f k l0 a1 = some (r1, r2, r3, r4)) :
  Calls Try.prog 78 #[.slice A0 l0.length c0, .int .i64 a1, .int .i64 4] w fun e w' => ∃ v0_ v1_ : Value, e = .returned (.tuple #[.agg #[v0_, v1_, .int .i64 r3], .bool r4]) ∧ Kd.R (Kd.int .i64) 3 w' w.heap.size (fun k_ => some k_ ≠ (v1_ : Value).ownBlock) v0_ r1 ∧ Kd.R (Kd.int .i64) 3 w' w.heap.size (fun k_ => some k_ ≠ (v0_ : Value).ownBlock) v1_ r2 ∧ Below w.heap.size w w' := by
 have hu57 := Try.underlying57
 have hu54 := Try.underlying54
 have hu93 := Try.underlying93
 have HR0 := Aside0.mk hr0
 have HC0 := Aside0.mk hc0
 clear hr0 hc0
 have HB := Aside0.mk (Below.refl w.heap.size w)
 have H := h
 clear h
 unfold impl_tileAt_at4.f at H
 obtain ⟨c4, H⟩ := ifs H
 have c4b0 := decide_eq_true c4
 clear c4
 obtain ⟨c5, H⟩ := ifs H
 have c5b0 := decide_eq_true c5
 clear c5
 obtain ⟨t745, A6, H⟩ := ob H
 (try dsimp only at H)
 by_cases c7 : t745 < 2
 ·rw [if_pos c7] at H
  have c7b0 := decide_eq_true c7
  clear c7
  simp only [Option.some.injEq, Prod.mk.injEq] at H
  obtain ⟨rfl, rfl, rfl, rfl⟩ := H
  go_enter Try.func78, Try.ntmps78
  go_wp2_with (first | ((with_reducible refine gd 6 rfl ?_); refine bx 6 #[.slice none 0 0, .slice none 0 0, .int .i64 0] 57 ?_; intro gb742 hg w8 BK742 GW742 HB hb; have GE742 := GW742; clear hb hg; have p743 : 0 ≤ (a1 : Int) := DT; have q743 : a1 < (l0.length : Int) := DT; obtain ⟨ad743, e743, hx743_0, hx743_1, hx743_2, hx743_3⟩ := at_T54 (Kd.C_below HR0.out HB.out) a1 p743 q743; cases e743; replace p743 := eq_true p743; replace q743 := eq_true q743) | ((with_reducible refine gd 8 rfl ?_); refine bx 8 #[.string (⟨#[]⟩ : ByteArray), .int .i64 0, .int .i64 0, .int .i64 0] 54 ?_; intro gb744 hg w9 BK744 GW744 HB hb; have GE744 := GW744; have NB742_744 := nbl hg (bk BK742.out); have NB744_742 := nbr hg (bk BK742.out); replace BK742 := kb BK742 hb; clear hb hg; have hnb10 := NB744_742.out; have hnc10 := NB742_744.out; obtain ⟨hcz11_0, hcz11_1, hcz11_2, hcz11_3⟩ := bc4 BK744.out; have hfz11 := blk_frozen BK744.out) | ((with_reducible refine gate_callee (f := 100) rfl ?_); refine gK (some 18) Try.func100 #[.string ((rd_T54 l0 a1).f0)] rfl rfl rfl ?_; (with_reducible refine (impl_operands.calls k ((rd_T54 l0 a1).f0) t745 _ A6.out).mono ?_); rintro e w12 ⟨rfl, hb⟩; refine ⟨_, rfl, ?_⟩; replace BK742 := Aside0.mk (blk_below (g := gb742) (o := .cells #[.slice none 0 0, .slice none 0 0, .int .i64 0] 57 (0, 0)) (bq BK742.out) hb); replace BK744 := Aside0.mk (blk_below (g := gb744) (o := .cells #[.string ((rd_T54 l0 a1).f0), .int .i64 ((rd_T54 l0 a1).f1), .int .i64 ((rd_T54 l0 a1).f2), .int .i64 ((rd_T54 l0 a1).f3)] 54 (0, 0)) (bq BK744.out) hb); replace HB := bs hb; (try clear hb); obtain ⟨hcz13_0, hcz13_1, hcz13_2⟩ := bc3 BK742.out; have hfz13 := blk_frozen BK742.out))
  refine bodyPost_ret (results_ct rfl _ _ gb742 57 #[.slice none 0 0, .slice none 0 0, .int .i64 0] (0, 0) _ rfl (bq BK742.out) Try.underlying57 rfl (by kernel_rfl)) rfl ?_
  exact ⟨_, _, EQ, by first | exact Kd.R_nil _ _ _ _ _ | exact Kd.N_nil _ _ _ _ _ | exact Kd.V_nil _ _ _ _ _ | exact Kd.Q_nil _ _ _ _ _ | exact Kd.S_nil _ _ _ _ _, by first | exact Kd.R_nil _ _ _ _ _ | exact Kd.N_nil _ _ _ _ _ | exact Kd.V_nil _ _ _ _ _ | exact Kd.Q_nil _ _ _ _ _ | exact Kd.S_nil _ _ _ _ _, BA⟩
 ·rw [if_neg c7] at H
  have c7b0 := decide_eq_false c7
  clear c7
  replace H := Option.bind_eq_some_iff.mp H
  obtain ⟨⟨t746, t749, t752, t753⟩, A140, H⟩ := H
  (try dsimp only at H)
  have A14 := Aside0.mk A140
  clear A140
  simp only [Option.some.injEq, Prod.mk.injEq] at H
  obtain ⟨rfl, rfl, rfl, rfl⟩ := H
  go_enter Try.func78, Try.ntmps78
  go_wp2_with (first | ((with_reducible refine gd 6 rfl ?_); refine bx 6 #[.slice none 0 0, .slice none 0 0, .int .i64 0] 57 ?_; intro gb742 hg w15 BK742 GW742 HB hb; have GE742 := GW742; clear hb hg; have p743 : 0 ≤ (a1 : Int) := DT; have q743 : a1 < (l0.length : Int) := DT; obtain ⟨ad743, e743, hx743_0, hx743_1, hx743_2, hx743_3⟩ := at_T54 (Kd.C_below HR0.out HB.out) a1 p743 q743; cases e743; replace p743 := eq_true p743; replace q743 := eq_true q743) | ((with_reducible refine gd 8 rfl ?_); refine bx 8 #[.string (⟨#[]⟩ : ByteArray), .int .i64 0, .int .i64 0, .int .i64 0] 54 ?_; intro gb744 hg w16 BK744 GW744 HB hb; have GE744 := GW744; have NB742_744 := nbl hg (bk BK742.out); have NB744_742 := nbr hg (bk BK742.out); replace BK742 := kb BK742 hb; clear hb hg; have hnb17 := NB744_742.out; have hnc17 := NB742_744.out; obtain ⟨hcz18_0, hcz18_1, hcz18_2, hcz18_3⟩ := bc4 BK744.out; have hfz18 := blk_frozen BK744.out) | ((with_reducible refine gate_callee (f := 100) rfl ?_); refine gK (some 18) Try.func100 #[.string ((rd_T54 l0 a1).f0)] rfl rfl rfl ?_; (with_reducible refine (impl_operands.calls k ((rd_T54 l0 a1).f0) t745 _ A6.out).mono ?_); rintro e w19 ⟨rfl, hb⟩; refine ⟨_, rfl, ?_⟩; replace BK742 := Aside0.mk (blk_below (g := gb742) (o := .cells #[.slice none 0 0, .slice none 0 0, .int .i64 0] 57 (0, 0)) (bq BK742.out) hb); replace BK744 := Aside0.mk (blk_below (g := gb744) (o := .cells #[.string ((rd_T54 l0 a1).f0), .int .i64 ((rd_T54 l0 a1).f1), .int .i64 ((rd_T54 l0 a1).f2), .int .i64 ((rd_T54 l0 a1).f3)] 54 (0, 0)) (bq BK744.out) hb); replace HB := bs hb; (try clear hb); obtain ⟨hcz20_0, hcz20_1, hcz20_2, hcz20_3⟩ := bc4 BK744.out; have hfz20 := blk_frozen BK744.out) | ((with_reducible refine gate_callee (f := 102) rfl ?_); refine gK (some 69) Try.func102 #[.slice (some ad743) l0.length c0, .agg #[.string ((rd_T54 l0 a1).f0), .int .i64 ((rd_T54 l0 a1).f1), .int .i64 ((rd_T54 l0 a1).f2), .int .i64 ((rd_T54 l0 a1).f3)], .int .i64 4] rfl rfl rfl ?_; (with_reducible refine (impl_constTile_at4.calls k _ _ l0 ((rd_T54 l0 a1).f0) ((rd_T54 l0 a1).f1) ((rd_T54 l0 a1).f2) ((rd_T54 l0 a1).f3)  t746 t749 t752 t753 _ ?side1 ?side2 A14.out).mono ?_); (case side1 => exact cb (Kd.C_below HR0.out HB.out)); (case side2 => exact HC0.out); rintro e w21 ⟨v747, v750, rfl, ho0, ho1, hb⟩; refine ⟨_, rfl, ?_⟩; have HO748 := Aside0.mk (Kd.R_lower ho0 (below_size BA)); have HO751 := Aside0.mk (Kd.R_lower ho1 (below_size BA)); replace BK742 := kb BK742 hb; replace BK744 := kb BK744 hb; replace HB := bs hb; (try clear hb); (try clear ho0); (try clear ho1); obtain ⟨Ao22, co22, eo22⟩ := Kd.R_slice HO748.out; subst eo22; obtain ⟨hcz23_0, hcz23_1, hcz23_2⟩ := bc3 BK742.out; have hfz23 := blk_frozen BK742.out; obtain ⟨Ao24, co24, eo24⟩ := Kd.R_slice HO751.out; subst eo24))
  refine bodyPost_ret (results_ct rfl _ _ gb742 57 #[.slice Ao22 t746.length co22, .slice Ao24 t749.length co24, .int .i64 t752] (0, 0) _ rfl (bq BK742.out) Try.underlying57 rfl (by kernel_rfl)) rfl ?_
  exact ⟨_, _, EQ, rb (Kd.R_mono (Kd.R_far (p := ⟨gb742, 2, none⟩) (Kd.R_far (p := ⟨gb742, 1, none⟩) (Kd.R_far (p := ⟨gb742, 0, none⟩) (Kd.R_types HO748.out BK742.out (by decide)) (fun _ hk => hk.2) (.slice Ao22 t746.length co22)) (fun _ hk => hk.2) (.slice Ao24 t749.length co24)) (fun _ hk => hk.2) (.int .i64 t752)) (fun _ hk => hk.1)), rb (Kd.R_mono (Kd.R_far (p := ⟨gb742, 2, none⟩) (Kd.R_far (p := ⟨gb742, 1, none⟩) (Kd.R_far (p := ⟨gb742, 0, none⟩) (Kd.R_types HO751.out BK742.out (by decide)) (fun _ hk => hk.2) (.slice Ao22 t746.length co22)) (fun _ hk => hk.2) (.slice Ao24 t749.length co24)) (fun _ hk => hk.2) (.int .i64 t752)) (fun _ hk => hk.1)), BA⟩

end Go.Proofs.Ytlmegefdnkjcbaa.Pa
