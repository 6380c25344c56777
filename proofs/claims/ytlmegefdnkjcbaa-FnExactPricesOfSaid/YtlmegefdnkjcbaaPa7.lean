-- Made by this session's program gen.py over the translation.
import Derived.Test.YtlmegefdnkjcbaaPa0
import Derived.Test.YtlmegefdnkjcbaaPa4
import Derived.Test.YtlmegefdnkjcbaaPa6
namespace Go.Proofs.Ytlmegefdnkjcbaa.Pa
open Go.RowKit Go.Proofs.YtlmegefdnkjcbaaW.PrintWords Go.Proofs.YtlmegefdnkjcbaaW.PrintLast Go.Proofs.YtlmegefdnkjcbaaW.PrintMore
attribute [local go_sem] max2_int min2_int max_two min_two max_three min_three max_four min_four   -- for this text's walks alone
set_option linter.unusedVariables false
set_option linter.unusedSimpArgs false
set_option maxHeartbeats 8000000
set_option maxRecDepth 100000

/-! ### impl_sumTile_at9: function 103 -/
def impl_sumTile_at9.j0 : Nat → List (S54) → Int → Int → Bool → ByteArray → Int → Int → Int → Option (List Int × List Int × Int × Bool)
 | 0, _, _, _, _, _, _, _, _ => none
 | k + 1, x0, x8, x9, x51, x658000, x658001, x658002, x658003 => if x51 = true then (some (([] : List Int), ([] : List Int), 0, false)) else (if 0 ≤ x658002 then (if x658002 < (x0.length : Int) then ((slices_Sort_int_int.f k (([x658002, x9] : List Int))).bind fun t663 => ((impl_within.f ((rd_T54 x0 x658002).f3) 1 3).bind fun t667 => (some ((([x8, x658001] : List Int)), t663, 1, t667)))) else (none)) else (none))
def impl_sumTile_at9.f (k : Nat) (l0 : List (S54)) (a1_0 : ByteArray) (a1_1 : Int) (a1_2 : Int) (a1_3 : Int)  : Option (List Int × List Int × Int × Bool) := if 0 ≤ a1_2 then (if a1_2 < (l0.length : Int) then (if a1_0.toList = ([97, 100, 100] : List UInt8) then (if ((rd_T54 l0 a1_2).f0).toList = ([115, 104, 108] : List UInt8) then (if 0 ≤ ((rd_T54 l0 a1_2).f2) then (if ((rd_T54 l0 a1_2).f2) < (l0.length : Int) then (impl_sumTile_at9.j0 k l0 a1_1 a1_2 (((rd_T54 l0 ((rd_T54 l0 a1_2).f2)).f0).toList != ([99, 111, 110, 115, 116] : List UInt8)) ((rd_T54 l0 a1_2).f0) ((rd_T54 l0 a1_2).f1) ((rd_T54 l0 a1_2).f2) ((rd_T54 l0 a1_2).f3)) else (none)) else (none)) else (impl_sumTile_at9.j0 k l0 a1_1 a1_2 true ((rd_T54 l0 a1_2).f0) ((rd_T54 l0 a1_2).f1) ((rd_T54 l0 a1_2).f2) ((rd_T54 l0 a1_2).f3))) else (impl_sumTile_at9.j0 k l0 a1_1 a1_2 true ((rd_T54 l0 a1_2).f0) ((rd_T54 l0 a1_2).f1) ((rd_T54 l0 a1_2).f2) ((rd_T54 l0 a1_2).f3))) else (none)) else (none)
def impl_sumTile_at9.T14 : Bool × List (List Nat × List Nat) := (true, [([], []), ([], []), ([1], [1]), ([0, 2], [0, 2]), ([], []), ([3, 4], [3, 4]), ([], []), ([6], [6]), ([5, 7, 0, 1, 2, 3, 4, 5], [5]), ([7, 8, 0, 1, 2, 3, 4, 5, 6, 7, 8], [7])])
def impl_sumTile_at9.B14 : List Nat := [0, 0, 2, 7, 0, 31, 0, 64, 255, 511]
theorem impl_sumTile_at9.tab14 : rtab .any (opsOf Try.f103 14) = impl_sumTile_at9.T14 := by kernel_rfl
theorem impl_sumTile_at9.bits14 : waitsOk impl_sumTile_at9.T14.2 impl_sumTile_at9.B14 = true := by kernel_rfl
theorem impl_sumTile_at9.calls (k : Nat) (A0 : Option Addr) (c0 : Nat) (l0 : List (S54)) (a1_0 : ByteArray) (a1_1 : Int) (a1_2 : Int) (a1_3 : Int)  (r1 : List Int) (r2 : List Int) (r3 : Int) (r4 : Bool) (w : World) (hr0 : Kd.C k54 w A0 l0.length l0) (hc0 : l0.length ≤ c0) (h : impl_sumTile_at9.f k l0 a1_0 a1_1 a1_2 a1_3 = some (r1, r2, r3, r4)) :
  Calls Try.prog 103 #[.slice A0 l0.length c0, .agg #[.string a1_0, .int .i64 a1_1, .int .i64 a1_2, .int .i64 a1_3], .int .i64 9] w fun e w' => ∃ v0_ v1_ : Value, e = .returned (.tuple #[.agg #[v0_, v1_, .int .i64 r3], .bool r4]) ∧ Kd.R (Kd.int .i64) 3 w' w.heap.size (fun k_ => some k_ ≠ (v1_ : Value).ownBlock) v0_ r1 ∧ Kd.R (Kd.int .i64) 3 w' w.heap.size (fun k_ => some k_ ≠ (v0_ : Value).ownBlock) v1_ r2 ∧ Below w.heap.size w w' := by
 have hu54 := Try.underlying54
 have hu57 := Try.underlying57
 have HR0 := Aside0.mk hr0
 have HC0 := Aside0.mk hc0
 clear hr0 hc0
 have HB := Aside0.mk (Below.refl w.heap.size w)
 have H := h
 clear h
 unfold impl_sumTile_at9.f at H
 obtain ⟨c4, H⟩ := ifs H
 have c4b0 := decide_eq_true c4
 clear c4
 obtain ⟨c5, H⟩ := ifs H
 have c5b0 := decide_eq_true c5
 clear c5
 have HC6 := Aside0.mk H
 clear H
 go_enter Try.func103, Try.ntmps103
 try go_wp2_with (first | ((with_reducible refine gd 4 rfl ?_); refine bx 4 #[.string a1_0, .int .i64 a1_1, .int .i64 a1_2, .int .i64 a1_3] 54 ?_; intro gb654 hg w7 BK654 GW654 HB hb; have GE654 := GW654; clear hb hg) | ((with_reducible refine gd 6 rfl ?_); refine bx 6 #[.slice none 0 0, .slice none 0 0, .int .i64 0] 57 ?_; intro gb655 hg w8 BK655 GW655 HB hb; have GE655 := GW655; have NB654_655 := nbl hg (bk BK654.out); have NB655_654 := nbr hg (bk BK654.out); replace BK654 := kb BK654 hb; clear hb hg))
 replace BK654 := Aside0.mk (blk_drew BK654.out); replace BK655 := Aside0.mk (blk_drew BK655.out); replace HB := Aside0.mk (below_drew1 HB.out)
 refine start_ (n := 7) (S := C4 gb654 (.string a1_0) (.int .i64 a1_1) (.int .i64 a1_2) (.int .i64 a1_3)) (ds := []) (mk 7 0) (by kernel_rfl) rfl (by kernel_rfl) (bc4 BK654.out) (fun hHeld => ?_)
 generalize w8.drew = w9 at BK654 BK655 HB hHeld ⊢
 refine pu 0 14 7 1 rfl rfl ?_
 refine pu 2 16 7 5 rfl rfl ?_
 refine ta 1 15 7 7 rfl rfl ?_
 refine pu 4 8 7 23 rfl rfl ?_
 refine ta 3 17 7 31 rfl rfl ?_
 refine pu 5 9 7 63 rfl rfl ?_
 refine pu 6 10 7 127 rfl rfl ?_
 refine done_ (by kernel_rfl) ?_
 have p656 : 0 ≤ (a1_2 : Int) := DT
 have q656 : a1_2 < (l0.length : Int) := DT
 obtain ⟨ad656, e656, hx656_0, hx656_1, hx656_2, hx656_3⟩ := at_T54 (Kd.C_below HR0.out HB.out) a1_2 p656 q656
 cases e656
 replace p656 := eq_true p656
 replace q656 := eq_true q656
 go_upto_region 7 with (first | ((with_reducible refine gd 11 rfl ?_); refine bx 11 #[.string (⟨#[]⟩ : ByteArray), .int .i64 0, .int .i64 0, .int .i64 0] 54 ?_; intro gb657 hg w10 BK657 GW657 HB hb; have GE657 := GW657; have NB654_657 := nbl hg (bk BK654.out); have NB657_654 := nbr hg (bk BK654.out); replace BK654 := kb BK654 hb; have NB655_657 := nbl hg (bk BK655.out); have NB657_655 := nbr hg (bk BK655.out); replace BK655 := kb BK655 hb; clear hb hg; have hnb11 := NB657_654.out; have hnc11 := NB654_657.out; have hnb12 := NB657_655.out; have hnc12 := NB655_657.out; obtain ⟨hcz13_0, hcz13_1, hcz13_2, hcz13_3⟩ := bc4 BK657.out; have hfz13 := blk_frozen BK657.out))
 (try simp only [Act.put, List.setIfInBounds_toArray, List.set_cons_zero, List.set_cons_succ])
 go_cut [51] (fun v51 wc => ∃ (kq : Nat) (x51_5 : Bool), v51 = .bool x51_5 ∧ Aside0 (impl_sumTile_at9.j0 kq l0 a1_1 a1_2 x51_5 ((rd_T54 l0 a1_2).f0) ((rd_T54 l0 a1_2).f1) ((rd_T54 l0 a1_2).f2) ((rd_T54 l0 a1_2).f3) = some (r1, r2, r3, r4)) ∧ Aside0 (kq ≤ k) ∧ Aside0 (wc.heap[gb654]? = some (.cells #[.string a1_0, .int .i64 a1_1, .int .i64 a1_2, .int .i64 a1_3] 54 (0, 0))) ∧ Aside0 (wc.heap[gb655]? = some (.cells #[(.slice none 0 0), (.slice none 0 0), .int .i64 0] 57 (0, 0))) ∧ Aside0 (wc.heap[gb657]? = some (.cells #[.string ((rd_T54 l0 a1_2).f0), .int .i64 ((rd_T54 l0 a1_2).f1), .int .i64 ((rd_T54 l0 a1_2).f2), .int .i64 ((rd_T54 l0 a1_2).f3)] 54 (0, 0))) ∧ Aside0 (Below w.heap.size w wc))
 case first =>
  have H := HC6.out
  clear HC6
  by_cases c14 : a1_0.toList = ([97, 100, 100] : List UInt8)
  ·rw [if_pos c14] at H
   have c14b0 := beq_iff_eq.mpr c14
   have c14b1 := bne_eq_false_iff_eq.mpr c14
   clear c14
   (first | rw [c14b0] | (simp only [i64_w, i32_w]; rw [c14b0]) | skip)
   by_cases c15 : ((rd_T54 l0 a1_2).f0).toList = ([115, 104, 108] : List UInt8)
   ·rw [if_pos c15] at H
    have c15b0 := beq_iff_eq.mpr c15
    have c15b1 := bne_eq_false_iff_eq.mpr c15
    clear c15
    obtain ⟨c16, H⟩ := ifs H
    have c16b0 := decide_eq_true c16
    clear c16
    obtain ⟨c17, H⟩ := ifs H
    have c17b0 := decide_eq_true c17
    clear c17
    have H' := Aside0.mk H
    clear H
    have hnb18 := NB654_655.out
    have hnc18 := NB655_654.out
    have hnb19 := NB654_657.out
    have hnc19 := NB657_654.out
    obtain ⟨hcz20_0, hcz20_1, hcz20_2, hcz20_3⟩ := bc4 BK654.out
    have hfz20 := blk_frozen BK654.out
    have hfz20_1 := blk_frozen BK654.out 1
    have hfz20_2 := blk_frozen BK654.out 2
    have hfz20_3 := blk_frozen BK654.out 3
    have hnb21 := NB657_655.out
    have hnc21 := NB655_657.out
    obtain ⟨hcz22_0, hcz22_1, hcz22_2, hcz22_3⟩ := bc4 BK657.out
    have hfz22 := blk_frozen BK657.out
    have hfz22_1 := blk_frozen BK657.out 1
    have hfz22_2 := blk_frozen BK657.out 2
    have hfz22_3 := blk_frozen BK657.out 3
    have p658 : 0 ≤ (((rd_T54 l0 a1_2).f2) : Int) := DT
    have q658 : ((rd_T54 l0 a1_2).f2) < (l0.length : Int) := DT
    obtain ⟨ad658, e658, hx658_0, hx658_1, hx658_2, hx658_3⟩ := at_T54 HR0.out ((rd_T54 l0 a1_2).f2) p658 q658
    obtain rfl : ad656 = ad658 := (by injection e658)
    have hn658_0 : ad656.block ≠ gb657 := Nat.ne_of_lt (Nat.lt_of_lt_of_le (by have := World.block_lt_of_cell? _ _ hx658_0; first | rwa [add_block] at this | exact this) GW657.out)
    have hn658_1 : ad656.block ≠ gb657 := Nat.ne_of_lt (Nat.lt_of_lt_of_le (by have := World.block_lt_of_cell? _ _ hx658_0; first | rwa [add_block] at this | exact this) GW657.out)
    have hn658_2 : ad656.block ≠ gb657 := Nat.ne_of_lt (Nat.lt_of_lt_of_le (by have := World.block_lt_of_cell? _ _ hx658_0; first | rwa [add_block] at this | exact this) GW657.out)
    have hn658_3 : ad656.block ≠ gb657 := Nat.ne_of_lt (Nat.lt_of_lt_of_le (by have := World.block_lt_of_cell? _ _ hx658_0; first | rwa [add_block] at this | exact this) GW657.out)
    replace hx658_0 := (HB.out.cell (World.block_lt_of_cell? w _ hx658_0)).trans hx658_0
    replace hx658_1 := (HB.out.cell (World.block_lt_of_cell? w _ hx658_1)).trans hx658_1
    replace hx658_2 := (HB.out.cell (World.block_lt_of_cell? w _ hx658_2)).trans hx658_2
    replace hx658_3 := (HB.out.cell (World.block_lt_of_cell? w _ hx658_3)).trans hx658_3
    replace hx658_0 := (cell_far (p := ⟨gb657, 0, none⟩) (by first | (rw [add_block]; exact hn658_0) | (show (Addr.add _ _).block ≠ _; rw [add_block]; exact hn658_0) | exact hn658_0) (.string ((rd_T54 l0 a1_2).f0))).trans hx658_0
    replace hx658_1 := (cell_far (p := ⟨gb657, 0, none⟩) (by first | (rw [add_block]; exact hn658_0) | (show (Addr.add _ _).block ≠ _; rw [add_block]; exact hn658_0) | exact hn658_0) (.string ((rd_T54 l0 a1_2).f0))).trans hx658_1
    replace hx658_2 := (cell_far (p := ⟨gb657, 0, none⟩) (by first | (rw [add_block]; exact hn658_0) | (show (Addr.add _ _).block ≠ _; rw [add_block]; exact hn658_0) | exact hn658_0) (.string ((rd_T54 l0 a1_2).f0))).trans hx658_2
    replace hx658_3 := (cell_far (p := ⟨gb657, 0, none⟩) (by first | (rw [add_block]; exact hn658_0) | (show (Addr.add _ _).block ≠ _; rw [add_block]; exact hn658_0) | exact hn658_0) (.string ((rd_T54 l0 a1_2).f0))).trans hx658_3
    replace hx658_0 := (cell_far (p := ⟨gb657, 1, none⟩) (by first | (rw [add_block]; exact hn658_1) | (show (Addr.add _ _).block ≠ _; rw [add_block]; exact hn658_1) | exact hn658_1) (.int .i64 ((rd_T54 l0 a1_2).f1))).trans hx658_0
    replace hx658_1 := (cell_far (p := ⟨gb657, 1, none⟩) (by first | (rw [add_block]; exact hn658_1) | (show (Addr.add _ _).block ≠ _; rw [add_block]; exact hn658_1) | exact hn658_1) (.int .i64 ((rd_T54 l0 a1_2).f1))).trans hx658_1
    replace hx658_2 := (cell_far (p := ⟨gb657, 1, none⟩) (by first | (rw [add_block]; exact hn658_1) | (show (Addr.add _ _).block ≠ _; rw [add_block]; exact hn658_1) | exact hn658_1) (.int .i64 ((rd_T54 l0 a1_2).f1))).trans hx658_2
    replace hx658_3 := (cell_far (p := ⟨gb657, 1, none⟩) (by first | (rw [add_block]; exact hn658_1) | (show (Addr.add _ _).block ≠ _; rw [add_block]; exact hn658_1) | exact hn658_1) (.int .i64 ((rd_T54 l0 a1_2).f1))).trans hx658_3
    replace hx658_0 := (cell_far (p := ⟨gb657, 2, none⟩) (by first | (rw [add_block]; exact hn658_2) | (show (Addr.add _ _).block ≠ _; rw [add_block]; exact hn658_2) | exact hn658_2) (.int .i64 ((rd_T54 l0 a1_2).f2))).trans hx658_0
    replace hx658_1 := (cell_far (p := ⟨gb657, 2, none⟩) (by first | (rw [add_block]; exact hn658_2) | (show (Addr.add _ _).block ≠ _; rw [add_block]; exact hn658_2) | exact hn658_2) (.int .i64 ((rd_T54 l0 a1_2).f2))).trans hx658_1
    replace hx658_2 := (cell_far (p := ⟨gb657, 2, none⟩) (by first | (rw [add_block]; exact hn658_2) | (show (Addr.add _ _).block ≠ _; rw [add_block]; exact hn658_2) | exact hn658_2) (.int .i64 ((rd_T54 l0 a1_2).f2))).trans hx658_2
    replace hx658_3 := (cell_far (p := ⟨gb657, 2, none⟩) (by first | (rw [add_block]; exact hn658_2) | (show (Addr.add _ _).block ≠ _; rw [add_block]; exact hn658_2) | exact hn658_2) (.int .i64 ((rd_T54 l0 a1_2).f2))).trans hx658_3
    replace hx658_0 := (cell_far (p := ⟨gb657, 3, none⟩) (by first | (rw [add_block]; exact hn658_3) | (show (Addr.add _ _).block ≠ _; rw [add_block]; exact hn658_3) | exact hn658_3) (.int .i64 ((rd_T54 l0 a1_2).f3))).trans hx658_0
    replace hx658_1 := (cell_far (p := ⟨gb657, 3, none⟩) (by first | (rw [add_block]; exact hn658_3) | (show (Addr.add _ _).block ≠ _; rw [add_block]; exact hn658_3) | exact hn658_3) (.int .i64 ((rd_T54 l0 a1_2).f3))).trans hx658_1
    replace hx658_2 := (cell_far (p := ⟨gb657, 3, none⟩) (by first | (rw [add_block]; exact hn658_3) | (show (Addr.add _ _).block ≠ _; rw [add_block]; exact hn658_3) | exact hn658_3) (.int .i64 ((rd_T54 l0 a1_2).f3))).trans hx658_2
    replace hx658_3 := (cell_far (p := ⟨gb657, 3, none⟩) (by first | (rw [add_block]; exact hn658_3) | (show (Addr.add _ _).block ≠ _; rw [add_block]; exact hn658_3) | exact hn658_3) (.int .i64 ((rd_T54 l0 a1_2).f3))).trans hx658_3
    clear hn658_0
    clear hn658_1
    clear hn658_2
    clear hn658_3
    replace p658 := eq_true p658
    replace q658 := eq_true q658
    go_wp2
    go_meet
    case rel => exact ⟨_, ((((rd_T54 l0 ((rd_T54 l0 a1_2).f2)).f0).toList != ([99, 111, 110, 115, 116] : List UInt8))), EQ1, H', ⟨by first | omega | exact Nat.le_refl _⟩, ⟨by (with_reducible repeat (first | refine blk_drewN ?_ _ | refine blk_drew ?_ | refine blk_alloc ?_ _)); refine blk_far ?_ NB654_657.out _; (with_reducible repeat (first | refine blk_drewN ?_ _ | refine blk_drew ?_ | refine blk_alloc ?_ _)); refine blk_far ?_ NB654_657.out _; (with_reducible repeat (first | refine blk_drewN ?_ _ | refine blk_drew ?_ | refine blk_alloc ?_ _)); refine blk_far ?_ NB654_657.out _; (with_reducible repeat (first | refine blk_drewN ?_ _ | refine blk_drew ?_ | refine blk_alloc ?_ _)); refine blk_far ?_ NB654_657.out _; (with_reducible repeat (first | refine blk_drewN ?_ _ | refine blk_drew ?_ | refine blk_alloc ?_ _)); exact BK654.out⟩, ⟨by (with_reducible repeat (first | refine blk_drewN ?_ _ | refine blk_drew ?_ | refine blk_alloc ?_ _)); refine blk_far ?_ NB655_657.out _; (with_reducible repeat (first | refine blk_drewN ?_ _ | refine blk_drew ?_ | refine blk_alloc ?_ _)); refine blk_far ?_ NB655_657.out _; (with_reducible repeat (first | refine blk_drewN ?_ _ | refine blk_drew ?_ | refine blk_alloc ?_ _)); refine blk_far ?_ NB655_657.out _; (with_reducible repeat (first | refine blk_drewN ?_ _ | refine blk_drew ?_ | refine blk_alloc ?_ _)); refine blk_far ?_ NB655_657.out _; (with_reducible repeat (first | refine blk_drewN ?_ _ | refine blk_drew ?_ | refine blk_alloc ?_ _)); exact BK655.out⟩, ⟨by (with_reducible repeat (first | refine blk_drewN ?_ _ | refine blk_drew ?_ | refine blk_alloc ?_ _)); refine blk_put (cs := #[.string ((rd_T54 l0 a1_2).f0), .int .i64 ((rd_T54 l0 a1_2).f1), .int .i64 ((rd_T54 l0 a1_2).f2), .int .i64 0]) ?_ 3 _ rfl; (with_reducible repeat (first | refine blk_drewN ?_ _ | refine blk_drew ?_ | refine blk_alloc ?_ _)); refine blk_put (cs := #[.string ((rd_T54 l0 a1_2).f0), .int .i64 ((rd_T54 l0 a1_2).f1), .int .i64 0, .int .i64 0]) ?_ 2 _ rfl; (with_reducible repeat (first | refine blk_drewN ?_ _ | refine blk_drew ?_ | refine blk_alloc ?_ _)); refine blk_put (cs := #[.string ((rd_T54 l0 a1_2).f0), .int .i64 0, .int .i64 0, .int .i64 0]) ?_ 1 _ rfl; (with_reducible repeat (first | refine blk_drewN ?_ _ | refine blk_drew ?_ | refine blk_alloc ?_ _)); refine blk_put (cs := #[.string (⟨#[]⟩ : ByteArray), .int .i64 0, .int .i64 0, .int .i64 0]) ?_ 0 _ rfl; (with_reducible repeat (first | refine blk_drewN ?_ _ | refine blk_drew ?_ | refine blk_alloc ?_ _)); exact BK657.out⟩, ⟨BA⟩⟩
   ·rw [if_neg c15] at H
    have c15b0 := beq_eq_false_iff_ne.mpr c15
    have c15b1 := bne_iff_ne.mpr c15
    have H' := Aside0.mk H
    clear H
    have hnb23 := NB654_655.out
    have hnc23 := NB655_654.out
    have hnb24 := NB654_657.out
    have hnc24 := NB657_654.out
    obtain ⟨hcz25_0, hcz25_1, hcz25_2, hcz25_3⟩ := bc4 BK654.out
    have hfz25 := blk_frozen BK654.out
    have hfz25_1 := blk_frozen BK654.out 1
    have hfz25_2 := blk_frozen BK654.out 2
    have hfz25_3 := blk_frozen BK654.out 3
    have hnb26 := NB657_655.out
    have hnc26 := NB655_657.out
    obtain ⟨hcz27_0, hcz27_1, hcz27_2, hcz27_3⟩ := bc4 BK657.out
    have hfz27 := blk_frozen BK657.out
    have hfz27_1 := blk_frozen BK657.out 1
    have hfz27_2 := blk_frozen BK657.out 2
    have hfz27_3 := blk_frozen BK657.out 3
    go_wp2
    go_meet
    case rel => exact ⟨_, (true), EQ1, H', ⟨by first | omega | exact Nat.le_refl _⟩, ⟨by (with_reducible repeat (first | refine blk_drewN ?_ _ | refine blk_drew ?_ | refine blk_alloc ?_ _)); refine blk_far ?_ NB654_657.out _; (with_reducible repeat (first | refine blk_drewN ?_ _ | refine blk_drew ?_ | refine blk_alloc ?_ _)); refine blk_far ?_ NB654_657.out _; (with_reducible repeat (first | refine blk_drewN ?_ _ | refine blk_drew ?_ | refine blk_alloc ?_ _)); refine blk_far ?_ NB654_657.out _; (with_reducible repeat (first | refine blk_drewN ?_ _ | refine blk_drew ?_ | refine blk_alloc ?_ _)); refine blk_far ?_ NB654_657.out _; (with_reducible repeat (first | refine blk_drewN ?_ _ | refine blk_drew ?_ | refine blk_alloc ?_ _)); exact BK654.out⟩, ⟨by (with_reducible repeat (first | refine blk_drewN ?_ _ | refine blk_drew ?_ | refine blk_alloc ?_ _)); refine blk_far ?_ NB655_657.out _; (with_reducible repeat (first | refine blk_drewN ?_ _ | refine blk_drew ?_ | refine blk_alloc ?_ _)); refine blk_far ?_ NB655_657.out _; (with_reducible repeat (first | refine blk_drewN ?_ _ | refine blk_drew ?_ | refine blk_alloc ?_ _)); refine blk_far ?_ NB655_657.out _; (with_reducible repeat (first | refine blk_drewN ?_ _ | refine blk_drew ?_ | refine blk_alloc ?_ _)); refine blk_far ?_ NB655_657.out _; (with_reducible repeat (first | refine blk_drewN ?_ _ | refine blk_drew ?_ | refine blk_alloc ?_ _)); exact BK655.out⟩, ⟨by (with_reducible repeat (first | refine blk_drewN ?_ _ | refine blk_drew ?_ | refine blk_alloc ?_ _)); refine blk_put (cs := #[.string ((rd_T54 l0 a1_2).f0), .int .i64 ((rd_T54 l0 a1_2).f1), .int .i64 ((rd_T54 l0 a1_2).f2), .int .i64 0]) ?_ 3 _ rfl; (with_reducible repeat (first | refine blk_drewN ?_ _ | refine blk_drew ?_ | refine blk_alloc ?_ _)); refine blk_put (cs := #[.string ((rd_T54 l0 a1_2).f0), .int .i64 ((rd_T54 l0 a1_2).f1), .int .i64 0, .int .i64 0]) ?_ 2 _ rfl; (with_reducible repeat (first | refine blk_drewN ?_ _ | refine blk_drew ?_ | refine blk_alloc ?_ _)); refine blk_put (cs := #[.string ((rd_T54 l0 a1_2).f0), .int .i64 0, .int .i64 0, .int .i64 0]) ?_ 1 _ rfl; (with_reducible repeat (first | refine blk_drewN ?_ _ | refine blk_drew ?_ | refine blk_alloc ?_ _)); refine blk_put (cs := #[.string (⟨#[]⟩ : ByteArray), .int .i64 0, .int .i64 0, .int .i64 0]) ?_ 0 _ rfl; (with_reducible repeat (first | refine blk_drewN ?_ _ | refine blk_drew ?_ | refine blk_alloc ?_ _)); exact BK657.out⟩, ⟨BA⟩⟩
  ·rw [if_neg c14] at H
   have c14b0 := beq_eq_false_iff_ne.mpr c14
   have c14b1 := bne_iff_ne.mpr c14
   (first | rw [c14b0] | (simp only [i64_w, i32_w]; rw [c14b0]) | skip)
   have H' := Aside0.mk H
   clear H
   have hnb28 := NB654_655.out
   have hnc28 := NB655_654.out
   have hnb29 := NB654_657.out
   have hnc29 := NB657_654.out
   obtain ⟨hcz30_0, hcz30_1, hcz30_2, hcz30_3⟩ := bc4 BK654.out
   have hfz30 := blk_frozen BK654.out
   have hfz30_1 := blk_frozen BK654.out 1
   have hfz30_2 := blk_frozen BK654.out 2
   have hfz30_3 := blk_frozen BK654.out 3
   go_wp2
   go_meet
   case rel => exact ⟨_, (true), EQ1, H', ⟨by first | omega | exact Nat.le_refl _⟩, ⟨by (with_reducible repeat (first | refine blk_drewN ?_ _ | refine blk_drew ?_ | refine blk_alloc ?_ _)); refine blk_far ?_ NB654_657.out _; (with_reducible repeat (first | refine blk_drewN ?_ _ | refine blk_drew ?_ | refine blk_alloc ?_ _)); refine blk_far ?_ NB654_657.out _; (with_reducible repeat (first | refine blk_drewN ?_ _ | refine blk_drew ?_ | refine blk_alloc ?_ _)); refine blk_far ?_ NB654_657.out _; (with_reducible repeat (first | refine blk_drewN ?_ _ | refine blk_drew ?_ | refine blk_alloc ?_ _)); refine blk_far ?_ NB654_657.out _; (with_reducible repeat (first | refine blk_drewN ?_ _ | refine blk_drew ?_ | refine blk_alloc ?_ _)); exact BK654.out⟩, ⟨by (with_reducible repeat (first | refine blk_drewN ?_ _ | refine blk_drew ?_ | refine blk_alloc ?_ _)); refine blk_far ?_ NB655_657.out _; (with_reducible repeat (first | refine blk_drewN ?_ _ | refine blk_drew ?_ | refine blk_alloc ?_ _)); refine blk_far ?_ NB655_657.out _; (with_reducible repeat (first | refine blk_drewN ?_ _ | refine blk_drew ?_ | refine blk_alloc ?_ _)); refine blk_far ?_ NB655_657.out _; (with_reducible repeat (first | refine blk_drewN ?_ _ | refine blk_drew ?_ | refine blk_alloc ?_ _)); refine blk_far ?_ NB655_657.out _; (with_reducible repeat (first | refine blk_drewN ?_ _ | refine blk_drew ?_ | refine blk_alloc ?_ _)); exact BK655.out⟩, ⟨by (with_reducible repeat (first | refine blk_drewN ?_ _ | refine blk_drew ?_ | refine blk_alloc ?_ _)); refine blk_put (cs := #[.string ((rd_T54 l0 a1_2).f0), .int .i64 ((rd_T54 l0 a1_2).f1), .int .i64 ((rd_T54 l0 a1_2).f2), .int .i64 0]) ?_ 3 _ rfl; (with_reducible repeat (first | refine blk_drewN ?_ _ | refine blk_drew ?_ | refine blk_alloc ?_ _)); refine blk_put (cs := #[.string ((rd_T54 l0 a1_2).f0), .int .i64 ((rd_T54 l0 a1_2).f1), .int .i64 0, .int .i64 0]) ?_ 2 _ rfl; (with_reducible repeat (first | refine blk_drewN ?_ _ | refine blk_drew ?_ | refine blk_alloc ?_ _)); refine blk_put (cs := #[.string ((rd_T54 l0 a1_2).f0), .int .i64 0, .int .i64 0, .int .i64 0]) ?_ 1 _ rfl; (with_reducible repeat (first | refine blk_drewN ?_ _ | refine blk_drew ?_ | refine blk_alloc ?_ _)); refine blk_put (cs := #[.string (⟨#[]⟩ : ByteArray), .int .i64 0, .int .i64 0, .int .i64 0]) ?_ 0 _ rfl; (with_reducible repeat (first | refine blk_drewN ?_ _ | refine blk_drew ?_ | refine blk_alloc ?_ _)); exact BK657.out⟩, ⟨BA⟩⟩
 case rest =>
  clear HC6
  (try clear c4b0); (try clear c5b0); (try clear c14b0); (try clear c14b1); (try clear c15b0); (try clear c15b1); (try clear c16b0); (try clear c17b0); (try clear hcz13_0); (try clear hcz13_1); (try clear hcz13_2); (try clear hcz13_3); (try clear hcz20_0); (try clear hcz20_1); (try clear hcz20_2); (try clear hcz20_3); (try clear hcz22_0); (try clear hcz22_1); (try clear hcz22_2); (try clear hcz22_3); (try clear hcz25_0); (try clear hcz25_1); (try clear hcz25_2); (try clear hcz25_3); (try clear hcz27_0); (try clear hcz27_1); (try clear hcz27_2); (try clear hcz27_3); (try clear hcz30_0); (try clear hcz30_1); (try clear hcz30_2); (try clear hcz30_3); (try clear hfz20_1); (try clear hfz20_2); (try clear hfz20_3); (try clear hfz22_1); (try clear hfz22_2); (try clear hfz22_3); (try clear hfz25_1); (try clear hfz25_2); (try clear hfz25_3); (try clear hfz27_1); (try clear hfz27_2); (try clear hfz27_3); (try clear hfz30_1); (try clear hfz30_2); (try clear hfz30_3); (try clear hx656_0); (try clear hx656_1); (try clear hx656_2); (try clear hx656_3); (try clear hx658_0); (try clear hx658_1); (try clear hx658_2); (try clear hx658_3); (try clear p656); (try clear p658); (try clear q656); (try clear q658)
  obtain ⟨kq, x51_5, rfl, HA, HJ5, BK654, BK655, BK657, HB⟩ := hcut
  cases kq with
  | zero => exact absurd HA.out (by simp [impl_sumTile_at9.j0])
  | succ kj5 =>
   have H := HA.out
   clear HA
   simp only [impl_sumTile_at9.j0] at H
   by_cases c31 : x51_5 = true
   ·subst c31
    rw [if_pos rfl] at H
    simp only [Option.some.injEq, Prod.mk.injEq] at H
    obtain ⟨rfl, rfl, rfl, rfl⟩ := H
    have hnb32 := NB655_654.out
    have hnc32 := NB654_655.out
    have hnb33 := NB655_657.out
    have hnc33 := NB657_655.out
    obtain ⟨hcz34_0, hcz34_1, hcz34_2⟩ := bc3 BK655.out
    have hfz34 := blk_frozen BK655.out
    have hfz34_1 := blk_frozen BK655.out 1
    have hfz34_2 := blk_frozen BK655.out 2
    go_wp2
    refine bodyPost_ret (results_ct rfl _ _ gb655 57 #[.slice none 0 0, .slice none 0 0, .int .i64 0] (0, 0) _ rfl (bq BK655.out) Try.underlying57 rfl (by kernel_rfl)) rfl ?_
    exact ⟨_, _, EQ, by first | exact Kd.R_nil _ _ _ _ _ | exact Kd.N_nil _ _ _ _ _ | exact Kd.V_nil _ _ _ _ _ | exact Kd.Q_nil _ _ _ _ _ | exact Kd.S_nil _ _ _ _ _, by first | exact Kd.R_nil _ _ _ _ _ | exact Kd.N_nil _ _ _ _ _ | exact Kd.V_nil _ _ _ _ _ | exact Kd.Q_nil _ _ _ _ _ | exact Kd.S_nil _ _ _ _ _, BA⟩
   ·replace c31 := Bool.eq_false_iff.mpr c31
    subst c31
    rw [if_neg (show ¬ (false = true) by decide)] at H
    obtain ⟨c35, H⟩ := ifs H
    have c35b0 := decide_eq_true c35
    clear c35
    obtain ⟨c36, H⟩ := ifs H
    have c36b0 := decide_eq_true c36
    clear c36
    obtain ⟨y660, hy660⟩ : ∃ y_ : List Int, y_ = (([((rd_T54 l0 a1_2).f2), a1_2] : List Int)) := ⟨_, rfl⟩
    replace H : ((slices_Sort_int_int.f kj5 y660).bind fun t663 => ((impl_within.f ((rd_T54 l0 ((rd_T54 l0 a1_2).f2)).f3) 1 3).bind fun t667 => (some ((([a1_1, ((rd_T54 l0 a1_2).f1)] : List Int)), t663, 1, t667)))) = some (r1, r2, r3, r4) := by first | (rw [hy660]; with_reducible exact H) | (have H2_ := (Option.bind_some _ _).symm.trans H; rw [hy660]; with_reducible exact H2_) | (have H2_ := (Option.bind_some _ _).symm.trans H; with_reducible exact H2_) | with_reducible exact H | (rw [hy660]; exact H) | exact H
    have Ny660 := Aside0.mk hy660
    clear hy660
    obtain ⟨t663, A37, H⟩ := ob H
    (try dsimp only at H)
    obtain ⟨y664, hy664⟩ : ∃ y_ : List Int, y_ = (([a1_1, ((rd_T54 l0 a1_2).f1)] : List Int)) := ⟨_, rfl⟩
    replace H : ((impl_within.f ((rd_T54 l0 ((rd_T54 l0 a1_2).f2)).f3) 1 3).bind fun t667 => (some (y664, t663, 1, t667))) = some (r1, r2, r3, r4) := by first | (rw [hy664]; with_reducible exact H) | (have H2_ := (Option.bind_some _ _).symm.trans H; rw [hy664]; with_reducible exact H2_) | (have H2_ := (Option.bind_some _ _).symm.trans H; with_reducible exact H2_) | with_reducible exact H | (rw [hy664]; exact H) | exact H
    have Ny664 := Aside0.mk hy664
    clear hy664
    obtain ⟨t667, A38, H⟩ := ob H
    (try dsimp only at H)
    simp only [Option.some.injEq, Prod.mk.injEq] at H
    obtain ⟨rfl, rfl, rfl, rfl⟩ := H
    have hnb39 := NB657_654.out
    have hnc39 := NB654_657.out
    have hnb40 := NB657_655.out
    have hnc40 := NB655_657.out
    obtain ⟨hcz41_0, hcz41_1, hcz41_2, hcz41_3⟩ := bc4 BK657.out
    have hfz41 := blk_frozen BK657.out
    have hfz41_1 := blk_frozen BK657.out 1
    have hfz41_2 := blk_frozen BK657.out 2
    have hfz41_3 := blk_frozen BK657.out 3
    have p659 : 0 ≤ (((rd_T54 l0 a1_2).f2) : Int) := DT
    have q659 : ((rd_T54 l0 a1_2).f2) < (l0.length : Int) := DT
    obtain ⟨ad659, e659, hx659_0, hx659_1, hx659_2, hx659_3⟩ := at_T54 (Kd.C_below HR0.out HB.out) ((rd_T54 l0 a1_2).f2) p659 q659
    obtain rfl : ad656 = ad659 := (by injection e659)
    replace p659 := eq_true p659
    replace q659 := eq_true q659
    try go_wp2_with (first | ((with_reducible refine gate_dst (N := 66) rfl ?_); refine li 66 3 Ny660.out ?_; intro v661 w42 ho43 hb; have HO662 := Aside0.mk (Kd.R_lower ho43 (below_size BA)); replace BK654 := kb BK654 hb; replace BK655 := kb BK655 hb; replace BK657 := kb BK657 hb; replace HB := bs hb; clear hb ho43; obtain ⟨Ao44, co44, eo44⟩ := Kd.R_slice HO662.out; subst eo44) | ((with_reducible refine gate_callee (f := 118) rfl ?_); refine gK (some 68) Try.func118 #[.slice Ao44 y660.length co44] rfl rfl rfl ?_; (with_reducible refine (slices_Sort_int_int.calls kj5 (fun k_ => some k_ = (.slice Ao44 y660.length co44 : Value).ownBlock) (.slice Ao44 y660.length co44) y660 t663 w _ ?side1 ?side2 A37.out).mono ?_); (case side1 => repeat (first | (with_reducible first | exact HB.out | apply below_alloc | apply pw_below_drewN | apply below_drew1 | refine below_set ?_ GE654.out | refine below_set ?_ GE655.out | refine below_set ?_ GE657.out) | exact HB.out)); (case side2 => exact Kd.R_tight rfl HO662.out); rintro e w45 ⟨rfl, hy0, hb, hkp⟩; refine ⟨_, rfl, ?_⟩; replace BK654 := Aside0.mk (blk_kept (bk BK654.out) hkp (fun hs_ => (fun e_ => (Kd.R_ne HO662.out BK654.out (by decide)) e_) hs_)); replace BK655 := Aside0.mk (blk_kept (bk BK655.out) hkp (fun hs_ => (fun e_ => (Kd.R_ne HO662.out BK655.out (by decide)) e_) hs_)); replace BK657 := Aside0.mk (blk_kept (bk BK657.out) hkp (fun hs_ => (fun e_ => (Kd.R_ne HO662.out BK657.out (by decide)) e_) hs_)); replace HO662 := Aside0.mk (Kd.R_reok rfl hy0 (fun k_ e_ => HO662.out.1 k_ e_)); replace HB := Aside0.mk (hb); (try clear hb); (try clear hkp); (try clear hy0)))
    replace HO662 := Aside0.mk (Kd.R_drew HO662.out); replace BK654 := Aside0.mk (blk_drew BK654.out); replace BK655 := Aside0.mk (blk_drew BK655.out); replace BK657 := Aside0.mk (blk_drew BK657.out); replace HB := Aside0.mk (below_drew1 HB.out)
    refine start_ (n := 10) (S := C4 gb657 (.string ((rd_T54 l0 a1_2).f0)) (.int .i64 ((rd_T54 l0 a1_2).f1)) (.int .i64 ((rd_T54 l0 a1_2).f2)) (.int .i64 ((rd_T54 l0 a1_2).f3))) (ds := []) (mk 10 0) (by kernel_rfl) rfl (by kernel_rfl) (bc4 BK657.out) (fun hHeld => ?_); refine with_tabW impl_sumTile_at9.tab14 impl_sumTile_at9.bits14 (fun HT_ HW_ => ?_)
    generalize w45.drew = w46 at HO662 BK654 BK655 BK657 HB hHeld ⊢
    refine pu 0 69 10 1 rfl rfl ?_
    refine pu 1 70 10 3 rfl rfl ?_
    refine pu 4 73 10 19 rfl rfl ?_
    refine pu 6 75 10 83 rfl rfl ?_
    refine ta 2 71 10 87 rfl rfl ?_
    refine join_ (σ := Value) 2 #[true, true, true, true, true, true, true, true, false, false] (fun s_ => [(72, s_), (76, .bool t667), (74, .agg #[s_, .slice Ao44 y660.length co44, .int .i64 1])]) (fun s_ w' => (w'.cell? ⟨gb657, 0, none⟩ = some (.string ((rd_T54 l0 a1_2).f0)) ∧ w'.cell? ⟨gb657, 1, none⟩ = some (.int .i64 ((rd_T54 l0 a1_2).f1)) ∧ w'.cell? ⟨gb657, 2, none⟩ = some (.int .i64 ((rd_T54 l0 a1_2).f2)) ∧ w'.cell? ⟨gb657, 3, none⟩ = some (.int .i64 ((rd_T54 l0 a1_2).f3))) ∧ (Kd.R (Kd.int .i64) 3 w' w.heap.size (fun k_ => some k_ ≠ (s_ : Value).ownBlock) (.slice Ao44 y660.length co44) t663) ∧ (Kd.R (Kd.int .i64) 3 w' w.heap.size (fun k_ => some k_ ≠ (.slice Ao44 y660.length co44 : Value).ownBlock) s_ y664) ∧ (w'.heap[gb654]? = some (.cells #[.string a1_0, .int .i64 a1_1, .int .i64 a1_2, .int .i64 a1_3] 54 (0, 0))) ∧ (w'.heap[gb655]? = some (.cells #[.slice none 0 0, .slice none 0 0, .int .i64 0] 57 (0, 0))) ∧ (w'.heap[gb657]? = some (.cells #[.string ((rd_T54 l0 a1_2).f0), .int .i64 ((rd_T54 l0 a1_2).f1), .int .i64 ((rd_T54 l0 a1_2).f2), .int .i64 ((rd_T54 l0 a1_2).f3)] 54 (0, 0))) ∧ (Below w.heap.size w w')) ?_ ?_
    rotate_left
    ·intro hCont
     refine two_ (i := 3) (j := 7) (Ni := some 72) (Nj := some 76) #[true, true, true, true, true, false, true, false, false, false] #[true, true, true, false, true, false, true, true, false, false] rfl rfl rfl rfl (two_of HT_.out (by kernel_rfl)) (by decide) (by decide) (fun K hK => ?_) (fun K hK => ?_)
     ·skip
      refine lis 72 3 Ny664.out ?_
      intro v665 w47 ho48 hb
      have HO666 := Aside0.mk (Kd.R_lower (Kd.R_new' ho48 (Kd.R_lt (rb HO662.out))) (below_size BA)); replace HO662 := Aside0.mk (Kd.R_elder' (rb HO662.out) (Kd.R_base ho48) hb); replace BK654 := kb BK654 hb; replace BK655 := kb BK655 hb; replace BK657 := kb BK657 hb; replace HB := bs hb
      clear hb ho48
      obtain ⟨Ao49, co49, eo49⟩ := Kd.R_slice HO666.out
      (first | subst eo49 | (injection eo49 with f1_ f2_ f3_; have f4_ := f1_.symm; have f5_ := f3_.symm; clear f1_ f2_ f3_; subst f4_; subst f5_))
      refine hK.out _ _ (bc4 BK657.out) (fun hHeld => ?_)
      clear hK K
      refine nm 72 ?_
      refine pu 5 74 10 127 rfl rfl ?_
      refine one_ (i := 7) (N := some 76) (mk 10 255) rfl rfl (one_of HT_.out (by kernel_rfl)) (by decide) (fun K hK => ?_)
      refine goes_ Try.func59 (by kernel_rfl) rfl #[.int .i64 ((rd_T54 l0 ((rd_T54 l0 a1_2).f2)).f3), .int .i64 1, .int .i64 3] (by rfl) rfl rfl (by (try simp only [List.map_toArray, List.map_cons, List.map_nil]); first | done | rfl | (simp only [List.length_drop, List.length_take]; rfl)) ?_
      with_reducible refine (impl_within.calls ((rd_T54 l0 ((rd_T54 l0 a1_2).f2)).f3) 1 3 t667 _ A38.out).mono ?_
      rintro e w' ⟨rfl, ⟨nd, rfl⟩⟩
      refine ⟨_, rfl, ?_⟩
      refine hK.out _ _ (bc4 BK657.out) (fun hHeld => ?_)
      clear hK K
      refine nm 76 ?_
      exact norm_ (by simp only [putAll, Act.put, List.setIfInBounds_toArray, List.set_cons_zero, List.set_cons_succ]) (hCont (.slice Ao49 y664.length co49) _ ⟨hHeld, (rb (Kd.R_mono HO662.out (fun _ hk => hk.2))), (rb (Kd.R_mono HO666.out (fun _ hk => hk.2))), (bk BK654.out), (bk BK655.out), (bk BK657.out), BA⟩)
     ·skip
      refine goes_ Try.func59 (by kernel_rfl) rfl #[.int .i64 ((rd_T54 l0 ((rd_T54 l0 a1_2).f2)).f3), .int .i64 1, .int .i64 3] (by rfl) rfl rfl (by (try simp only [List.map_toArray, List.map_cons, List.map_nil]); first | done | rfl | (simp only [List.length_drop, List.length_take]; rfl)) ?_
      with_reducible refine (impl_within.calls ((rd_T54 l0 ((rd_T54 l0 a1_2).f2)).f3) 1 3 t667 _ A38.out).mono ?_
      rintro e w' ⟨rfl, ⟨nd, rfl⟩⟩
      refine ⟨_, rfl, ?_⟩
      refine hK.out _ _ (bc4 BK657.out) (fun hHeld => ?_)
      clear hK K
      refine nm 76 ?_
      refine one_ (i := 3) (N := some 72) (mk 10 223) rfl rfl (one_of HT_.out (by kernel_rfl)) (by decide) (fun K hK => ?_)
      refine lis 72 3 Ny664.out ?_
      intro v665 w47 ho48 hb
      have HO666 := Aside0.mk (Kd.R_lower (Kd.R_new' ho48 (Kd.R_lt (rb HO662.out))) (below_size BA)); replace HO662 := Aside0.mk (Kd.R_elder' (rb HO662.out) (Kd.R_base ho48) hb); replace BK654 := kb BK654 hb; replace BK655 := kb BK655 hb; replace BK657 := kb BK657 hb; replace HB := bs hb
      clear hb ho48
      obtain ⟨Ao49, co49, eo49⟩ := Kd.R_slice HO666.out
      (first | subst eo49 | (injection eo49 with f1_ f2_ f3_; have f4_ := f1_.symm; have f5_ := f3_.symm; clear f1_ f2_ f3_; subst f4_; subst f5_))
      refine hK.out _ _ (bc4 BK657.out) (fun hHeld => ?_)
      clear hK K
      refine nm 72 ?_
      refine pu 5 74 10 255 rfl rfl ?_
      exact norm_ (by simp only [putAll, Act.put, List.setIfInBounds_toArray, List.set_cons_zero, List.set_cons_succ]) (hCont (.slice Ao49 y664.length co49) _ ⟨hHeld, (rb (Kd.R_mono HO662.out (fun _ hk => hk.2))), (rb (Kd.R_mono HO666.out (fun _ hk => hk.2))), (bk BK654.out), (bk BK655.out), (bk BK657.out), BA⟩)
    rintro v665 w50 ⟨hS_, h0_, h1_, h2_, h3_, h4_, h5_⟩
    have n0_ : Aside0 (Kd.R (Kd.int .i64) 3 w50 w.heap.size (fun k_ => some k_ ≠ (v665 : Value).ownBlock) (.slice Ao44 y660.length co44) t663) := ⟨h0_⟩
    have n1_ : Aside0 (Kd.R (Kd.int .i64) 3 w50 w.heap.size (fun k_ => some k_ ≠ (.slice Ao44 y660.length co44 : Value).ownBlock) v665 y664) := ⟨h1_⟩
    have n2_ : Aside0 (w50.heap[gb654]? = some (.cells #[.string a1_0, .int .i64 a1_1, .int .i64 a1_2, .int .i64 a1_3] 54 (0, 0))) := ⟨h2_⟩
    have n3_ : Aside0 (w50.heap[gb655]? = some (.cells #[.slice none 0 0, .slice none 0 0, .int .i64 0] 57 (0, 0))) := ⟨h3_⟩
    have n4_ : Aside0 (w50.heap[gb657]? = some (.cells #[.string ((rd_T54 l0 a1_2).f0), .int .i64 ((rd_T54 l0 a1_2).f1), .int .i64 ((rd_T54 l0 a1_2).f2), .int .i64 ((rd_T54 l0 a1_2).f3)] 54 (0, 0))) := ⟨h4_⟩
    have n5_ : Aside0 (Below w.heap.size w w50) := ⟨h5_⟩
    clear HO662
    clear BK654
    clear BK655
    clear BK657
    clear HB
    clear h0_ h1_ h2_ h3_ h4_ h5_
    have HO662 := n0_
    have HO666 := n1_
    have BK654 := n2_
    have BK655 := n3_
    have BK657 := n4_
    have HB := n5_
    clear n0_ n1_ n2_ n3_ n4_ n5_
    have hHeld : w50.cell? ⟨gb657, 0, none⟩ = some (.string ((rd_T54 l0 a1_2).f0)) ∧ w50.cell? ⟨gb657, 1, none⟩ = some (.int .i64 ((rd_T54 l0 a1_2).f1)) ∧ w50.cell? ⟨gb657, 2, none⟩ = some (.int .i64 ((rd_T54 l0 a1_2).f2)) ∧ w50.cell? ⟨gb657, 3, none⟩ = some (.int .i64 ((rd_T54 l0 a1_2).f3)) := hS_
    obtain ⟨Ao51, co51, eo51⟩ := Kd.R_slice HO666.out
    (first | subst eo51 | (injection eo51 with f1_ f2_ f3_; have f4_ := f1_.symm; have f5_ := f3_.symm; clear f1_ f2_ f3_; subst f4_; subst f5_))
    refine norm_ (a' := ?_) ?_ ?_
    rotate_left
    ·simp only [putAll, Act.put, List.setIfInBounds_toArray, List.set_cons_zero, List.set_cons_succ]
     rfl
    refine one_ (i := 8) (N := none) (mk 10 511) rfl rfl (one_of HT_.out (by kernel_rfl)) (by decide) (fun K hK => ?_)
    have hs52 : w50.cell? ⟨gb655, 0, none⟩ = some (.slice none 0 0) := (blk_cell BK655.out 0).trans rfl
    have hfs52 := blk_frozen BK655.out 0
    have hns52_0 := NB654_655.out
    have hns52_2 := NB657_655.out
    have hms52_0 := NB655_654.out
    have hms52_2 := NB655_657.out
    have hs53 : w50.cell? ⟨gb655, 1, none⟩ = some (.slice none 0 0) := (blk_cell BK655.out 1).trans rfl
    have hfs53 := blk_frozen BK655.out 1
    have hns53_0 := NB654_655.out
    have hns53_2 := NB657_655.out
    have hms53_0 := NB655_654.out
    have hms53_2 := NB655_657.out
    have hs54 : w50.cell? ⟨gb655, 2, none⟩ = some (.int .i64 0) := (blk_cell BK655.out 2).trans rfl
    have hfs54 := blk_frozen BK655.out 2
    have hns54_0 := NB654_655.out
    have hns54_2 := NB657_655.out
    have hms54_0 := NB655_654.out
    have hms54_2 := NB655_657.out
    refine skip_ (w1 := ?_) (by rfl) rfl ?_ ?_
    rotate_left
    ·go_simp
     rfl
    refine hK.out _ _ ⟨((cell_far (p := ⟨gb655, _, none⟩) NB657_655.out _).trans (((cell_far (p := ⟨gb655, _, none⟩) NB657_655.out _).trans (((cell_far (p := ⟨gb655, _, none⟩) NB657_655.out _).trans (hHeld.1)))))), ((cell_far (p := ⟨gb655, _, none⟩) NB657_655.out _).trans (((cell_far (p := ⟨gb655, _, none⟩) NB657_655.out _).trans (((cell_far (p := ⟨gb655, _, none⟩) NB657_655.out _).trans (hHeld.2.1)))))), ((cell_far (p := ⟨gb655, _, none⟩) NB657_655.out _).trans (((cell_far (p := ⟨gb655, _, none⟩) NB657_655.out _).trans (((cell_far (p := ⟨gb655, _, none⟩) NB657_655.out _).trans (hHeld.2.2.1)))))), ((cell_far (p := ⟨gb655, _, none⟩) NB657_655.out _).trans (((cell_far (p := ⟨gb655, _, none⟩) NB657_655.out _).trans (((cell_far (p := ⟨gb655, _, none⟩) NB657_655.out _).trans (hHeld.2.2.2))))))⟩ (fun hHeld => ?_)
    clear hK K
    refine pu 9 7 10 1023 rfl rfl ?_
    refine done_ (done_of HT_.out (by kernel_rfl)) ?_
    try go_wp2
    refine bodyPost_ret (results_ct rfl _ _ gb655 57 #[.slice Ao51 y664.length co51, .slice Ao44 y660.length co44, .int .i64 1] (0, 0) _ rfl (bq BK655.out) Try.underlying57 rfl (by kernel_rfl)) rfl ?_
    exact ⟨_, _, EQ, rb (Kd.R_mono (Kd.R_far (p := ⟨gb655, 2, none⟩) (Kd.R_far (p := ⟨gb655, 1, none⟩) (Kd.R_far (p := ⟨gb655, 0, none⟩) (Kd.R_types HO666.out BK655.out (by decide)) (fun _ hk => hk.2) (.slice Ao51 y664.length co51)) (fun _ hk => hk.2) (.slice Ao44 y660.length co44)) (fun _ hk => hk.2) (.int .i64 1)) (fun _ hk => hk.1)), rb (Kd.R_mono (Kd.R_far (p := ⟨gb655, 2, none⟩) (Kd.R_far (p := ⟨gb655, 1, none⟩) (Kd.R_far (p := ⟨gb655, 0, none⟩) (Kd.R_types HO662.out BK655.out (by decide)) (fun _ hk => hk.2) (.slice Ao51 y664.length co51)) (fun _ hk => hk.2) (.slice Ao44 y660.length co44)) (fun _ hk => hk.2) (.int .i64 1)) (fun _ hk => hk.1)), BA⟩

/-! ### impl_sumTile_at10: function 103 -/
def impl_sumTile_at10.j0 : Nat → List (S54) → Int → Int → Bool → ByteArray → Int → Int → Int → Option (List Int × List Int × Int × Bool)
 | 0, _, _, _, _, _, _, _, _ => none
 | k + 1, x0, x8, x9, x51, x672000, x672001, x672002, x672003 => if x51 = true then (some (([] : List Int), ([] : List Int), 0, false)) else (if 0 ≤ x672002 then (if x672002 < (x0.length : Int) then ((slices_Sort_int_int.f k (([x672002, x9] : List Int))).bind fun t677 => ((impl_within.f ((rd_T54 x0 x672002).f3) 1 3).bind fun t681 => (some ((([x8, x672001] : List Int)), t677, 1, t681)))) else (none)) else (none))
def impl_sumTile_at10.f (k : Nat) (l0 : List (S54)) (a1_0 : ByteArray) (a1_1 : Int) (a1_2 : Int) (a1_3 : Int)  : Option (List Int × List Int × Int × Bool) := if 0 ≤ a1_1 then (if a1_1 < (l0.length : Int) then (if a1_0.toList = ([97, 100, 100] : List UInt8) then (if ((rd_T54 l0 a1_1).f0).toList = ([115, 104, 108] : List UInt8) then (if 0 ≤ ((rd_T54 l0 a1_1).f2) then (if ((rd_T54 l0 a1_1).f2) < (l0.length : Int) then (impl_sumTile_at10.j0 k l0 a1_2 a1_1 (((rd_T54 l0 ((rd_T54 l0 a1_1).f2)).f0).toList != ([99, 111, 110, 115, 116] : List UInt8)) ((rd_T54 l0 a1_1).f0) ((rd_T54 l0 a1_1).f1) ((rd_T54 l0 a1_1).f2) ((rd_T54 l0 a1_1).f3)) else (none)) else (none)) else (impl_sumTile_at10.j0 k l0 a1_2 a1_1 true ((rd_T54 l0 a1_1).f0) ((rd_T54 l0 a1_1).f1) ((rd_T54 l0 a1_1).f2) ((rd_T54 l0 a1_1).f3))) else (impl_sumTile_at10.j0 k l0 a1_2 a1_1 true ((rd_T54 l0 a1_1).f0) ((rd_T54 l0 a1_1).f1) ((rd_T54 l0 a1_1).f2) ((rd_T54 l0 a1_1).f3))) else (none)) else (none)
def impl_sumTile_at10.T14 : Bool × List (List Nat × List Nat) := (true, [([], []), ([], []), ([1], [1]), ([0, 2], [0, 2]), ([], []), ([3, 4], [3, 4]), ([], []), ([6], [6]), ([5, 7, 0, 1, 2, 3, 4, 5], [5]), ([7, 8, 0, 1, 2, 3, 4, 5, 6, 7, 8], [7])])
def impl_sumTile_at10.B14 : List Nat := [0, 0, 2, 7, 0, 31, 0, 64, 255, 511]
theorem impl_sumTile_at10.tab14 : rtab .any (opsOf Try.f103 14) = impl_sumTile_at10.T14 := by kernel_rfl
theorem impl_sumTile_at10.bits14 : waitsOk impl_sumTile_at10.T14.2 impl_sumTile_at10.B14 = true := by kernel_rfl
theorem impl_sumTile_at10.calls (k : Nat) (A0 : Option Addr) (c0 : Nat) (l0 : List (S54)) (a1_0 : ByteArray) (a1_1 : Int) (a1_2 : Int) (a1_3 : Int)  (r1 : List Int) (r2 : List Int) (r3 : Int) (r4 : Bool) (w : World) (hr0 : Kd.C k54 w A0 l0.length l0) (hc0 : l0.length ≤ c0) (h : impl_sumTile_at10.f k l0 a1_0 a1_1 a1_2 a1_3 = some (r1, r2, r3, r4)) :
  Calls Try.prog 103 #[.slice A0 l0.length c0, .agg #[.string a1_0, .int .i64 a1_1, .int .i64 a1_2, .int .i64 a1_3], .int .i64 10] w fun e w' => ∃ v0_ v1_ : Value, e = .returned (.tuple #[.agg #[v0_, v1_, .int .i64 r3], .bool r4]) ∧ Kd.R (Kd.int .i64) 3 w' w.heap.size (fun k_ => some k_ ≠ (v1_ : Value).ownBlock) v0_ r1 ∧ Kd.R (Kd.int .i64) 3 w' w.heap.size (fun k_ => some k_ ≠ (v0_ : Value).ownBlock) v1_ r2 ∧ Below w.heap.size w w' := by
 have hu54 := Try.underlying54
 have hu57 := Try.underlying57
 have HR0 := Aside0.mk hr0
 have HC0 := Aside0.mk hc0
 clear hr0 hc0
 have HB := Aside0.mk (Below.refl w.heap.size w)
 have H := h
 clear h
 unfold impl_sumTile_at10.f at H
 obtain ⟨c4, H⟩ := ifs H
 have c4b0 := decide_eq_true c4
 clear c4
 obtain ⟨c5, H⟩ := ifs H
 have c5b0 := decide_eq_true c5
 clear c5
 have HC6 := Aside0.mk H
 clear H
 go_enter Try.func103, Try.ntmps103
 try go_wp2_with (first | ((with_reducible refine gd 4 rfl ?_); refine bx 4 #[.string a1_0, .int .i64 a1_1, .int .i64 a1_2, .int .i64 a1_3] 54 ?_; intro gb668 hg w7 BK668 GW668 HB hb; have GE668 := GW668; clear hb hg) | ((with_reducible refine gd 6 rfl ?_); refine bx 6 #[.slice none 0 0, .slice none 0 0, .int .i64 0] 57 ?_; intro gb669 hg w8 BK669 GW669 HB hb; have GE669 := GW669; have NB668_669 := nbl hg (bk BK668.out); have NB669_668 := nbr hg (bk BK668.out); replace BK668 := kb BK668 hb; clear hb hg))
 replace BK668 := Aside0.mk (blk_drew BK668.out); replace BK669 := Aside0.mk (blk_drew BK669.out); replace HB := Aside0.mk (below_drew1 HB.out)
 refine start_ (n := 7) (S := C4 gb668 (.string a1_0) (.int .i64 a1_1) (.int .i64 a1_2) (.int .i64 a1_3)) (ds := []) (mk 7 0) (by kernel_rfl) rfl (by kernel_rfl) (bc4 BK668.out) (fun hHeld => ?_)
 generalize w8.drew = w9 at BK668 BK669 HB hHeld ⊢
 refine pu 0 14 7 1 rfl rfl ?_
 refine pu 2 16 7 5 rfl rfl ?_
 refine ta 1 15 7 7 rfl rfl ?_
 refine pu 4 8 7 23 rfl rfl ?_
 refine ta 3 17 7 31 rfl rfl ?_
 refine pu 5 9 7 63 rfl rfl ?_
 refine pu 6 10 7 127 rfl rfl ?_
 refine done_ (by kernel_rfl) ?_
 try go_wp2
 replace BK668 := Aside0.mk (blk_drew BK668.out); replace BK669 := Aside0.mk (blk_drew BK669.out); replace HB := Aside0.mk (below_drew1 HB.out)
 refine start_ (n := 6) (S := C4 gb668 (.string a1_0) (.int .i64 a1_1) (.int .i64 a1_2) (.int .i64 a1_3)) (ds := []) (mk 6 0) (by kernel_rfl) rfl (by kernel_rfl) (bc4 BK668.out) (fun hHeld => ?_)
 generalize w9.drew = w10 at BK668 BK669 HB hHeld ⊢
 refine pu 0 24 6 1 rfl rfl ?_
 refine pu 2 26 6 5 rfl rfl ?_
 refine ta 1 25 6 7 rfl rfl ?_
 refine pu 4 8 6 23 rfl rfl ?_
 refine ta 3 27 6 31 rfl rfl ?_
 refine pu 5 9 6 63 rfl rfl ?_
 refine done_ (by kernel_rfl) ?_
 have p670 : 0 ≤ (a1_1 : Int) := DT
 have q670 : a1_1 < (l0.length : Int) := DT
 obtain ⟨ad670, e670, hx670_0, hx670_1, hx670_2, hx670_3⟩ := at_T54 (Kd.C_below HR0.out HB.out) a1_1 p670 q670
 cases e670
 replace p670 := eq_true p670
 replace q670 := eq_true q670
 go_upto_region 7 with (first | ((with_reducible refine gd 11 rfl ?_); refine bx 11 #[.string (⟨#[]⟩ : ByteArray), .int .i64 0, .int .i64 0, .int .i64 0] 54 ?_; intro gb671 hg w11 BK671 GW671 HB hb; have GE671 := GW671; have NB668_671 := nbl hg (bk BK668.out); have NB671_668 := nbr hg (bk BK668.out); replace BK668 := kb BK668 hb; have NB669_671 := nbl hg (bk BK669.out); have NB671_669 := nbr hg (bk BK669.out); replace BK669 := kb BK669 hb; clear hb hg; have hnb12 := NB671_668.out; have hnc12 := NB668_671.out; have hnb13 := NB671_669.out; have hnc13 := NB669_671.out; obtain ⟨hcz14_0, hcz14_1, hcz14_2, hcz14_3⟩ := bc4 BK671.out; have hfz14 := blk_frozen BK671.out))
 (try simp only [Act.put, List.setIfInBounds_toArray, List.set_cons_zero, List.set_cons_succ])
 go_cut [51] (fun v51 wc => ∃ (kq : Nat) (x51_5 : Bool), v51 = .bool x51_5 ∧ Aside0 (impl_sumTile_at10.j0 kq l0 a1_2 a1_1 x51_5 ((rd_T54 l0 a1_1).f0) ((rd_T54 l0 a1_1).f1) ((rd_T54 l0 a1_1).f2) ((rd_T54 l0 a1_1).f3) = some (r1, r2, r3, r4)) ∧ Aside0 (kq ≤ k) ∧ Aside0 (wc.heap[gb668]? = some (.cells #[.string a1_0, .int .i64 a1_1, .int .i64 a1_2, .int .i64 a1_3] 54 (0, 0))) ∧ Aside0 (wc.heap[gb669]? = some (.cells #[(.slice none 0 0), (.slice none 0 0), .int .i64 0] 57 (0, 0))) ∧ Aside0 (wc.heap[gb671]? = some (.cells #[.string ((rd_T54 l0 a1_1).f0), .int .i64 ((rd_T54 l0 a1_1).f1), .int .i64 ((rd_T54 l0 a1_1).f2), .int .i64 ((rd_T54 l0 a1_1).f3)] 54 (0, 0))) ∧ Aside0 (Below w.heap.size w wc))
 case first =>
  have H := HC6.out
  clear HC6
  by_cases c15 : a1_0.toList = ([97, 100, 100] : List UInt8)
  ·rw [if_pos c15] at H
   have c15b0 := beq_iff_eq.mpr c15
   have c15b1 := bne_eq_false_iff_eq.mpr c15
   clear c15
   (first | rw [c15b0] | (simp only [i64_w, i32_w]; rw [c15b0]) | skip)
   by_cases c16 : ((rd_T54 l0 a1_1).f0).toList = ([115, 104, 108] : List UInt8)
   ·rw [if_pos c16] at H
    have c16b0 := beq_iff_eq.mpr c16
    have c16b1 := bne_eq_false_iff_eq.mpr c16
    clear c16
    obtain ⟨c17, H⟩ := ifs H
    have c17b0 := decide_eq_true c17
    clear c17
    obtain ⟨c18, H⟩ := ifs H
    have c18b0 := decide_eq_true c18
    clear c18
    have H' := Aside0.mk H
    clear H
    have hnb19 := NB668_669.out
    have hnc19 := NB669_668.out
    have hnb20 := NB668_671.out
    have hnc20 := NB671_668.out
    obtain ⟨hcz21_0, hcz21_1, hcz21_2, hcz21_3⟩ := bc4 BK668.out
    have hfz21 := blk_frozen BK668.out
    have hfz21_1 := blk_frozen BK668.out 1
    have hfz21_2 := blk_frozen BK668.out 2
    have hfz21_3 := blk_frozen BK668.out 3
    have hnb22 := NB671_669.out
    have hnc22 := NB669_671.out
    obtain ⟨hcz23_0, hcz23_1, hcz23_2, hcz23_3⟩ := bc4 BK671.out
    have hfz23 := blk_frozen BK671.out
    have hfz23_1 := blk_frozen BK671.out 1
    have hfz23_2 := blk_frozen BK671.out 2
    have hfz23_3 := blk_frozen BK671.out 3
    have p672 : 0 ≤ (((rd_T54 l0 a1_1).f2) : Int) := DT
    have q672 : ((rd_T54 l0 a1_1).f2) < (l0.length : Int) := DT
    obtain ⟨ad672, e672, hx672_0, hx672_1, hx672_2, hx672_3⟩ := at_T54 HR0.out ((rd_T54 l0 a1_1).f2) p672 q672
    obtain rfl : ad670 = ad672 := (by injection e672)
    have hn672_0 : ad670.block ≠ gb671 := Nat.ne_of_lt (Nat.lt_of_lt_of_le (by have := World.block_lt_of_cell? _ _ hx672_0; first | rwa [add_block] at this | exact this) GW671.out)
    have hn672_1 : ad670.block ≠ gb671 := Nat.ne_of_lt (Nat.lt_of_lt_of_le (by have := World.block_lt_of_cell? _ _ hx672_0; first | rwa [add_block] at this | exact this) GW671.out)
    have hn672_2 : ad670.block ≠ gb671 := Nat.ne_of_lt (Nat.lt_of_lt_of_le (by have := World.block_lt_of_cell? _ _ hx672_0; first | rwa [add_block] at this | exact this) GW671.out)
    have hn672_3 : ad670.block ≠ gb671 := Nat.ne_of_lt (Nat.lt_of_lt_of_le (by have := World.block_lt_of_cell? _ _ hx672_0; first | rwa [add_block] at this | exact this) GW671.out)
    replace hx672_0 := (HB.out.cell (World.block_lt_of_cell? w _ hx672_0)).trans hx672_0
    replace hx672_1 := (HB.out.cell (World.block_lt_of_cell? w _ hx672_1)).trans hx672_1
    replace hx672_2 := (HB.out.cell (World.block_lt_of_cell? w _ hx672_2)).trans hx672_2
    replace hx672_3 := (HB.out.cell (World.block_lt_of_cell? w _ hx672_3)).trans hx672_3
    replace hx672_0 := (cell_far (p := ⟨gb671, 0, none⟩) (by first | (rw [add_block]; exact hn672_0) | (show (Addr.add _ _).block ≠ _; rw [add_block]; exact hn672_0) | exact hn672_0) (.string ((rd_T54 l0 a1_1).f0))).trans hx672_0
    replace hx672_1 := (cell_far (p := ⟨gb671, 0, none⟩) (by first | (rw [add_block]; exact hn672_0) | (show (Addr.add _ _).block ≠ _; rw [add_block]; exact hn672_0) | exact hn672_0) (.string ((rd_T54 l0 a1_1).f0))).trans hx672_1
    replace hx672_2 := (cell_far (p := ⟨gb671, 0, none⟩) (by first | (rw [add_block]; exact hn672_0) | (show (Addr.add _ _).block ≠ _; rw [add_block]; exact hn672_0) | exact hn672_0) (.string ((rd_T54 l0 a1_1).f0))).trans hx672_2
    replace hx672_3 := (cell_far (p := ⟨gb671, 0, none⟩) (by first | (rw [add_block]; exact hn672_0) | (show (Addr.add _ _).block ≠ _; rw [add_block]; exact hn672_0) | exact hn672_0) (.string ((rd_T54 l0 a1_1).f0))).trans hx672_3
    replace hx672_0 := (cell_far (p := ⟨gb671, 1, none⟩) (by first | (rw [add_block]; exact hn672_1) | (show (Addr.add _ _).block ≠ _; rw [add_block]; exact hn672_1) | exact hn672_1) (.int .i64 ((rd_T54 l0 a1_1).f1))).trans hx672_0
    replace hx672_1 := (cell_far (p := ⟨gb671, 1, none⟩) (by first | (rw [add_block]; exact hn672_1) | (show (Addr.add _ _).block ≠ _; rw [add_block]; exact hn672_1) | exact hn672_1) (.int .i64 ((rd_T54 l0 a1_1).f1))).trans hx672_1
    replace hx672_2 := (cell_far (p := ⟨gb671, 1, none⟩) (by first | (rw [add_block]; exact hn672_1) | (show (Addr.add _ _).block ≠ _; rw [add_block]; exact hn672_1) | exact hn672_1) (.int .i64 ((rd_T54 l0 a1_1).f1))).trans hx672_2
    replace hx672_3 := (cell_far (p := ⟨gb671, 1, none⟩) (by first | (rw [add_block]; exact hn672_1) | (show (Addr.add _ _).block ≠ _; rw [add_block]; exact hn672_1) | exact hn672_1) (.int .i64 ((rd_T54 l0 a1_1).f1))).trans hx672_3
    replace hx672_0 := (cell_far (p := ⟨gb671, 2, none⟩) (by first | (rw [add_block]; exact hn672_2) | (show (Addr.add _ _).block ≠ _; rw [add_block]; exact hn672_2) | exact hn672_2) (.int .i64 ((rd_T54 l0 a1_1).f2))).trans hx672_0
    replace hx672_1 := (cell_far (p := ⟨gb671, 2, none⟩) (by first | (rw [add_block]; exact hn672_2) | (show (Addr.add _ _).block ≠ _; rw [add_block]; exact hn672_2) | exact hn672_2) (.int .i64 ((rd_T54 l0 a1_1).f2))).trans hx672_1
    replace hx672_2 := (cell_far (p := ⟨gb671, 2, none⟩) (by first | (rw [add_block]; exact hn672_2) | (show (Addr.add _ _).block ≠ _; rw [add_block]; exact hn672_2) | exact hn672_2) (.int .i64 ((rd_T54 l0 a1_1).f2))).trans hx672_2
    replace hx672_3 := (cell_far (p := ⟨gb671, 2, none⟩) (by first | (rw [add_block]; exact hn672_2) | (show (Addr.add _ _).block ≠ _; rw [add_block]; exact hn672_2) | exact hn672_2) (.int .i64 ((rd_T54 l0 a1_1).f2))).trans hx672_3
    replace hx672_0 := (cell_far (p := ⟨gb671, 3, none⟩) (by first | (rw [add_block]; exact hn672_3) | (show (Addr.add _ _).block ≠ _; rw [add_block]; exact hn672_3) | exact hn672_3) (.int .i64 ((rd_T54 l0 a1_1).f3))).trans hx672_0
    replace hx672_1 := (cell_far (p := ⟨gb671, 3, none⟩) (by first | (rw [add_block]; exact hn672_3) | (show (Addr.add _ _).block ≠ _; rw [add_block]; exact hn672_3) | exact hn672_3) (.int .i64 ((rd_T54 l0 a1_1).f3))).trans hx672_1
    replace hx672_2 := (cell_far (p := ⟨gb671, 3, none⟩) (by first | (rw [add_block]; exact hn672_3) | (show (Addr.add _ _).block ≠ _; rw [add_block]; exact hn672_3) | exact hn672_3) (.int .i64 ((rd_T54 l0 a1_1).f3))).trans hx672_2
    replace hx672_3 := (cell_far (p := ⟨gb671, 3, none⟩) (by first | (rw [add_block]; exact hn672_3) | (show (Addr.add _ _).block ≠ _; rw [add_block]; exact hn672_3) | exact hn672_3) (.int .i64 ((rd_T54 l0 a1_1).f3))).trans hx672_3
    clear hn672_0
    clear hn672_1
    clear hn672_2
    clear hn672_3
    replace p672 := eq_true p672
    replace q672 := eq_true q672
    go_wp2
    go_meet
    case rel => exact ⟨_, ((((rd_T54 l0 ((rd_T54 l0 a1_1).f2)).f0).toList != ([99, 111, 110, 115, 116] : List UInt8))), EQ1, H', ⟨by first | omega | exact Nat.le_refl _⟩, ⟨by (with_reducible repeat (first | refine blk_drewN ?_ _ | refine blk_drew ?_ | refine blk_alloc ?_ _)); refine blk_far ?_ NB668_671.out _; (with_reducible repeat (first | refine blk_drewN ?_ _ | refine blk_drew ?_ | refine blk_alloc ?_ _)); refine blk_far ?_ NB668_671.out _; (with_reducible repeat (first | refine blk_drewN ?_ _ | refine blk_drew ?_ | refine blk_alloc ?_ _)); refine blk_far ?_ NB668_671.out _; (with_reducible repeat (first | refine blk_drewN ?_ _ | refine blk_drew ?_ | refine blk_alloc ?_ _)); refine blk_far ?_ NB668_671.out _; (with_reducible repeat (first | refine blk_drewN ?_ _ | refine blk_drew ?_ | refine blk_alloc ?_ _)); exact BK668.out⟩, ⟨by (with_reducible repeat (first | refine blk_drewN ?_ _ | refine blk_drew ?_ | refine blk_alloc ?_ _)); refine blk_far ?_ NB669_671.out _; (with_reducible repeat (first | refine blk_drewN ?_ _ | refine blk_drew ?_ | refine blk_alloc ?_ _)); refine blk_far ?_ NB669_671.out _; (with_reducible repeat (first | refine blk_drewN ?_ _ | refine blk_drew ?_ | refine blk_alloc ?_ _)); refine blk_far ?_ NB669_671.out _; (with_reducible repeat (first | refine blk_drewN ?_ _ | refine blk_drew ?_ | refine blk_alloc ?_ _)); refine blk_far ?_ NB669_671.out _; (with_reducible repeat (first | refine blk_drewN ?_ _ | refine blk_drew ?_ | refine blk_alloc ?_ _)); exact BK669.out⟩, ⟨by (with_reducible repeat (first | refine blk_drewN ?_ _ | refine blk_drew ?_ | refine blk_alloc ?_ _)); refine blk_put (cs := #[.string ((rd_T54 l0 a1_1).f0), .int .i64 ((rd_T54 l0 a1_1).f1), .int .i64 ((rd_T54 l0 a1_1).f2), .int .i64 0]) ?_ 3 _ rfl; (with_reducible repeat (first | refine blk_drewN ?_ _ | refine blk_drew ?_ | refine blk_alloc ?_ _)); refine blk_put (cs := #[.string ((rd_T54 l0 a1_1).f0), .int .i64 ((rd_T54 l0 a1_1).f1), .int .i64 0, .int .i64 0]) ?_ 2 _ rfl; (with_reducible repeat (first | refine blk_drewN ?_ _ | refine blk_drew ?_ | refine blk_alloc ?_ _)); refine blk_put (cs := #[.string ((rd_T54 l0 a1_1).f0), .int .i64 0, .int .i64 0, .int .i64 0]) ?_ 1 _ rfl; (with_reducible repeat (first | refine blk_drewN ?_ _ | refine blk_drew ?_ | refine blk_alloc ?_ _)); refine blk_put (cs := #[.string (⟨#[]⟩ : ByteArray), .int .i64 0, .int .i64 0, .int .i64 0]) ?_ 0 _ rfl; (with_reducible repeat (first | refine blk_drewN ?_ _ | refine blk_drew ?_ | refine blk_alloc ?_ _)); exact BK671.out⟩, ⟨BA⟩⟩
   ·rw [if_neg c16] at H
    have c16b0 := beq_eq_false_iff_ne.mpr c16
    have c16b1 := bne_iff_ne.mpr c16
    have H' := Aside0.mk H
    clear H
    have hnb24 := NB668_669.out
    have hnc24 := NB669_668.out
    have hnb25 := NB668_671.out
    have hnc25 := NB671_668.out
    obtain ⟨hcz26_0, hcz26_1, hcz26_2, hcz26_3⟩ := bc4 BK668.out
    have hfz26 := blk_frozen BK668.out
    have hfz26_1 := blk_frozen BK668.out 1
    have hfz26_2 := blk_frozen BK668.out 2
    have hfz26_3 := blk_frozen BK668.out 3
    have hnb27 := NB671_669.out
    have hnc27 := NB669_671.out
    obtain ⟨hcz28_0, hcz28_1, hcz28_2, hcz28_3⟩ := bc4 BK671.out
    have hfz28 := blk_frozen BK671.out
    have hfz28_1 := blk_frozen BK671.out 1
    have hfz28_2 := blk_frozen BK671.out 2
    have hfz28_3 := blk_frozen BK671.out 3
    go_wp2
    go_meet
    case rel => exact ⟨_, (true), EQ1, H', ⟨by first | omega | exact Nat.le_refl _⟩, ⟨by (with_reducible repeat (first | refine blk_drewN ?_ _ | refine blk_drew ?_ | refine blk_alloc ?_ _)); refine blk_far ?_ NB668_671.out _; (with_reducible repeat (first | refine blk_drewN ?_ _ | refine blk_drew ?_ | refine blk_alloc ?_ _)); refine blk_far ?_ NB668_671.out _; (with_reducible repeat (first | refine blk_drewN ?_ _ | refine blk_drew ?_ | refine blk_alloc ?_ _)); refine blk_far ?_ NB668_671.out _; (with_reducible repeat (first | refine blk_drewN ?_ _ | refine blk_drew ?_ | refine blk_alloc ?_ _)); refine blk_far ?_ NB668_671.out _; (with_reducible repeat (first | refine blk_drewN ?_ _ | refine blk_drew ?_ | refine blk_alloc ?_ _)); exact BK668.out⟩, ⟨by (with_reducible repeat (first | refine blk_drewN ?_ _ | refine blk_drew ?_ | refine blk_alloc ?_ _)); refine blk_far ?_ NB669_671.out _; (with_reducible repeat (first | refine blk_drewN ?_ _ | refine blk_drew ?_ | refine blk_alloc ?_ _)); refine blk_far ?_ NB669_671.out _; (with_reducible repeat (first | refine blk_drewN ?_ _ | refine blk_drew ?_ | refine blk_alloc ?_ _)); refine blk_far ?_ NB669_671.out _; (with_reducible repeat (first | refine blk_drewN ?_ _ | refine blk_drew ?_ | refine blk_alloc ?_ _)); refine blk_far ?_ NB669_671.out _; (with_reducible repeat (first | refine blk_drewN ?_ _ | refine blk_drew ?_ | refine blk_alloc ?_ _)); exact BK669.out⟩, ⟨by (with_reducible repeat (first | refine blk_drewN ?_ _ | refine blk_drew ?_ | refine blk_alloc ?_ _)); refine blk_put (cs := #[.string ((rd_T54 l0 a1_1).f0), .int .i64 ((rd_T54 l0 a1_1).f1), .int .i64 ((rd_T54 l0 a1_1).f2), .int .i64 0]) ?_ 3 _ rfl; (with_reducible repeat (first | refine blk_drewN ?_ _ | refine blk_drew ?_ | refine blk_alloc ?_ _)); refine blk_put (cs := #[.string ((rd_T54 l0 a1_1).f0), .int .i64 ((rd_T54 l0 a1_1).f1), .int .i64 0, .int .i64 0]) ?_ 2 _ rfl; (with_reducible repeat (first | refine blk_drewN ?_ _ | refine blk_drew ?_ | refine blk_alloc ?_ _)); refine blk_put (cs := #[.string ((rd_T54 l0 a1_1).f0), .int .i64 0, .int .i64 0, .int .i64 0]) ?_ 1 _ rfl; (with_reducible repeat (first | refine blk_drewN ?_ _ | refine blk_drew ?_ | refine blk_alloc ?_ _)); refine blk_put (cs := #[.string (⟨#[]⟩ : ByteArray), .int .i64 0, .int .i64 0, .int .i64 0]) ?_ 0 _ rfl; (with_reducible repeat (first | refine blk_drewN ?_ _ | refine blk_drew ?_ | refine blk_alloc ?_ _)); exact BK671.out⟩, ⟨BA⟩⟩
  ·rw [if_neg c15] at H
   have c15b0 := beq_eq_false_iff_ne.mpr c15
   have c15b1 := bne_iff_ne.mpr c15
   (first | rw [c15b0] | (simp only [i64_w, i32_w]; rw [c15b0]) | skip)
   have H' := Aside0.mk H
   clear H
   have hnb29 := NB668_669.out
   have hnc29 := NB669_668.out
   have hnb30 := NB668_671.out
   have hnc30 := NB671_668.out
   obtain ⟨hcz31_0, hcz31_1, hcz31_2, hcz31_3⟩ := bc4 BK668.out
   have hfz31 := blk_frozen BK668.out
   have hfz31_1 := blk_frozen BK668.out 1
   have hfz31_2 := blk_frozen BK668.out 2
   have hfz31_3 := blk_frozen BK668.out 3
   go_wp2
   go_meet
   case rel => exact ⟨_, (true), EQ1, H', ⟨by first | omega | exact Nat.le_refl _⟩, ⟨by (with_reducible repeat (first | refine blk_drewN ?_ _ | refine blk_drew ?_ | refine blk_alloc ?_ _)); refine blk_far ?_ NB668_671.out _; (with_reducible repeat (first | refine blk_drewN ?_ _ | refine blk_drew ?_ | refine blk_alloc ?_ _)); refine blk_far ?_ NB668_671.out _; (with_reducible repeat (first | refine blk_drewN ?_ _ | refine blk_drew ?_ | refine blk_alloc ?_ _)); refine blk_far ?_ NB668_671.out _; (with_reducible repeat (first | refine blk_drewN ?_ _ | refine blk_drew ?_ | refine blk_alloc ?_ _)); refine blk_far ?_ NB668_671.out _; (with_reducible repeat (first | refine blk_drewN ?_ _ | refine blk_drew ?_ | refine blk_alloc ?_ _)); exact BK668.out⟩, ⟨by (with_reducible repeat (first | refine blk_drewN ?_ _ | refine blk_drew ?_ | refine blk_alloc ?_ _)); refine blk_far ?_ NB669_671.out _; (with_reducible repeat (first | refine blk_drewN ?_ _ | refine blk_drew ?_ | refine blk_alloc ?_ _)); refine blk_far ?_ NB669_671.out _; (with_reducible repeat (first | refine blk_drewN ?_ _ | refine blk_drew ?_ | refine blk_alloc ?_ _)); refine blk_far ?_ NB669_671.out _; (with_reducible repeat (first | refine blk_drewN ?_ _ | refine blk_drew ?_ | refine blk_alloc ?_ _)); refine blk_far ?_ NB669_671.out _; (with_reducible repeat (first | refine blk_drewN ?_ _ | refine blk_drew ?_ | refine blk_alloc ?_ _)); exact BK669.out⟩, ⟨by (with_reducible repeat (first | refine blk_drewN ?_ _ | refine blk_drew ?_ | refine blk_alloc ?_ _)); refine blk_put (cs := #[.string ((rd_T54 l0 a1_1).f0), .int .i64 ((rd_T54 l0 a1_1).f1), .int .i64 ((rd_T54 l0 a1_1).f2), .int .i64 0]) ?_ 3 _ rfl; (with_reducible repeat (first | refine blk_drewN ?_ _ | refine blk_drew ?_ | refine blk_alloc ?_ _)); refine blk_put (cs := #[.string ((rd_T54 l0 a1_1).f0), .int .i64 ((rd_T54 l0 a1_1).f1), .int .i64 0, .int .i64 0]) ?_ 2 _ rfl; (with_reducible repeat (first | refine blk_drewN ?_ _ | refine blk_drew ?_ | refine blk_alloc ?_ _)); refine blk_put (cs := #[.string ((rd_T54 l0 a1_1).f0), .int .i64 0, .int .i64 0, .int .i64 0]) ?_ 1 _ rfl; (with_reducible repeat (first | refine blk_drewN ?_ _ | refine blk_drew ?_ | refine blk_alloc ?_ _)); refine blk_put (cs := #[.string (⟨#[]⟩ : ByteArray), .int .i64 0, .int .i64 0, .int .i64 0]) ?_ 0 _ rfl; (with_reducible repeat (first | refine blk_drewN ?_ _ | refine blk_drew ?_ | refine blk_alloc ?_ _)); exact BK671.out⟩, ⟨BA⟩⟩
 case rest =>
  clear HC6
  (try clear c4b0); (try clear c5b0); (try clear c15b0); (try clear c15b1); (try clear c16b0); (try clear c16b1); (try clear c17b0); (try clear c18b0); (try clear hcz14_0); (try clear hcz14_1); (try clear hcz14_2); (try clear hcz14_3); (try clear hcz21_0); (try clear hcz21_1); (try clear hcz21_2); (try clear hcz21_3); (try clear hcz23_0); (try clear hcz23_1); (try clear hcz23_2); (try clear hcz23_3); (try clear hcz26_0); (try clear hcz26_1); (try clear hcz26_2); (try clear hcz26_3); (try clear hcz28_0); (try clear hcz28_1); (try clear hcz28_2); (try clear hcz28_3); (try clear hcz31_0); (try clear hcz31_1); (try clear hcz31_2); (try clear hcz31_3); (try clear hfz21_1); (try clear hfz21_2); (try clear hfz21_3); (try clear hfz23_1); (try clear hfz23_2); (try clear hfz23_3); (try clear hfz26_1); (try clear hfz26_2); (try clear hfz26_3); (try clear hfz28_1); (try clear hfz28_2); (try clear hfz28_3); (try clear hfz31_1); (try clear hfz31_2); (try clear hfz31_3); (try clear hx670_0); (try clear hx670_1); (try clear hx670_2); (try clear hx670_3); (try clear hx672_0); (try clear hx672_1); (try clear hx672_2); (try clear hx672_3); (try clear p670); (try clear p672); (try clear q670); (try clear q672)
  obtain ⟨kq, x51_5, rfl, HA, HJ5, BK668, BK669, BK671, HB⟩ := hcut
  cases kq with
  | zero => exact absurd HA.out (by simp [impl_sumTile_at10.j0])
  | succ kj5 =>
   have H := HA.out
   clear HA
   simp only [impl_sumTile_at10.j0] at H
   by_cases c32 : x51_5 = true
   ·subst c32
    rw [if_pos rfl] at H
    simp only [Option.some.injEq, Prod.mk.injEq] at H
    obtain ⟨rfl, rfl, rfl, rfl⟩ := H
    have hnb33 := NB669_668.out
    have hnc33 := NB668_669.out
    have hnb34 := NB669_671.out
    have hnc34 := NB671_669.out
    obtain ⟨hcz35_0, hcz35_1, hcz35_2⟩ := bc3 BK669.out
    have hfz35 := blk_frozen BK669.out
    have hfz35_1 := blk_frozen BK669.out 1
    have hfz35_2 := blk_frozen BK669.out 2
    go_wp2
    refine bodyPost_ret (results_ct rfl _ _ gb669 57 #[.slice none 0 0, .slice none 0 0, .int .i64 0] (0, 0) _ rfl (bq BK669.out) Try.underlying57 rfl (by kernel_rfl)) rfl ?_
    exact ⟨_, _, EQ, by first | exact Kd.R_nil _ _ _ _ _ | exact Kd.N_nil _ _ _ _ _ | exact Kd.V_nil _ _ _ _ _ | exact Kd.Q_nil _ _ _ _ _ | exact Kd.S_nil _ _ _ _ _, by first | exact Kd.R_nil _ _ _ _ _ | exact Kd.N_nil _ _ _ _ _ | exact Kd.V_nil _ _ _ _ _ | exact Kd.Q_nil _ _ _ _ _ | exact Kd.S_nil _ _ _ _ _, BA⟩
   ·replace c32 := Bool.eq_false_iff.mpr c32
    subst c32
    rw [if_neg (show ¬ (false = true) by decide)] at H
    obtain ⟨c36, H⟩ := ifs H
    have c36b0 := decide_eq_true c36
    clear c36
    obtain ⟨c37, H⟩ := ifs H
    have c37b0 := decide_eq_true c37
    clear c37
    obtain ⟨y674, hy674⟩ : ∃ y_ : List Int, y_ = (([((rd_T54 l0 a1_1).f2), a1_1] : List Int)) := ⟨_, rfl⟩
    replace H : ((slices_Sort_int_int.f kj5 y674).bind fun t677 => ((impl_within.f ((rd_T54 l0 ((rd_T54 l0 a1_1).f2)).f3) 1 3).bind fun t681 => (some ((([a1_2, ((rd_T54 l0 a1_1).f1)] : List Int)), t677, 1, t681)))) = some (r1, r2, r3, r4) := by first | (rw [hy674]; with_reducible exact H) | (have H2_ := (Option.bind_some _ _).symm.trans H; rw [hy674]; with_reducible exact H2_) | (have H2_ := (Option.bind_some _ _).symm.trans H; with_reducible exact H2_) | with_reducible exact H | (rw [hy674]; exact H) | exact H
    have Ny674 := Aside0.mk hy674
    clear hy674
    obtain ⟨t677, A38, H⟩ := ob H
    (try dsimp only at H)
    obtain ⟨y678, hy678⟩ : ∃ y_ : List Int, y_ = (([a1_2, ((rd_T54 l0 a1_1).f1)] : List Int)) := ⟨_, rfl⟩
    replace H : ((impl_within.f ((rd_T54 l0 ((rd_T54 l0 a1_1).f2)).f3) 1 3).bind fun t681 => (some (y678, t677, 1, t681))) = some (r1, r2, r3, r4) := by first | (rw [hy678]; with_reducible exact H) | (have H2_ := (Option.bind_some _ _).symm.trans H; rw [hy678]; with_reducible exact H2_) | (have H2_ := (Option.bind_some _ _).symm.trans H; with_reducible exact H2_) | with_reducible exact H | (rw [hy678]; exact H) | exact H
    have Ny678 := Aside0.mk hy678
    clear hy678
    obtain ⟨t681, A39, H⟩ := ob H
    (try dsimp only at H)
    simp only [Option.some.injEq, Prod.mk.injEq] at H
    obtain ⟨rfl, rfl, rfl, rfl⟩ := H
    have hnb40 := NB671_668.out
    have hnc40 := NB668_671.out
    have hnb41 := NB671_669.out
    have hnc41 := NB669_671.out
    obtain ⟨hcz42_0, hcz42_1, hcz42_2, hcz42_3⟩ := bc4 BK671.out
    have hfz42 := blk_frozen BK671.out
    have hfz42_1 := blk_frozen BK671.out 1
    have hfz42_2 := blk_frozen BK671.out 2
    have hfz42_3 := blk_frozen BK671.out 3
    have p673 : 0 ≤ (((rd_T54 l0 a1_1).f2) : Int) := DT
    have q673 : ((rd_T54 l0 a1_1).f2) < (l0.length : Int) := DT
    obtain ⟨ad673, e673, hx673_0, hx673_1, hx673_2, hx673_3⟩ := at_T54 (Kd.C_below HR0.out HB.out) ((rd_T54 l0 a1_1).f2) p673 q673
    obtain rfl : ad670 = ad673 := (by injection e673)
    replace p673 := eq_true p673
    replace q673 := eq_true q673
    try go_wp2_with (first | ((with_reducible refine gate_dst (N := 66) rfl ?_); refine li 66 3 Ny674.out ?_; intro v675 w43 ho44 hb; have HO676 := Aside0.mk (Kd.R_lower ho44 (below_size BA)); replace BK668 := kb BK668 hb; replace BK669 := kb BK669 hb; replace BK671 := kb BK671 hb; replace HB := bs hb; clear hb ho44; obtain ⟨Ao45, co45, eo45⟩ := Kd.R_slice HO676.out; subst eo45) | ((with_reducible refine gate_callee (f := 118) rfl ?_); refine gK (some 68) Try.func118 #[.slice Ao45 y674.length co45] rfl rfl rfl ?_; (with_reducible refine (slices_Sort_int_int.calls kj5 (fun k_ => some k_ = (.slice Ao45 y674.length co45 : Value).ownBlock) (.slice Ao45 y674.length co45) y674 t677 w _ ?side1 ?side2 A38.out).mono ?_); (case side1 => repeat (first | (with_reducible first | exact HB.out | apply below_alloc | apply pw_below_drewN | apply below_drew1 | refine below_set ?_ GE668.out | refine below_set ?_ GE669.out | refine below_set ?_ GE671.out) | exact HB.out)); (case side2 => exact Kd.R_tight rfl HO676.out); rintro e w46 ⟨rfl, hy0, hb, hkp⟩; refine ⟨_, rfl, ?_⟩; replace BK668 := Aside0.mk (blk_kept (bk BK668.out) hkp (fun hs_ => (fun e_ => (Kd.R_ne HO676.out BK668.out (by decide)) e_) hs_)); replace BK669 := Aside0.mk (blk_kept (bk BK669.out) hkp (fun hs_ => (fun e_ => (Kd.R_ne HO676.out BK669.out (by decide)) e_) hs_)); replace BK671 := Aside0.mk (blk_kept (bk BK671.out) hkp (fun hs_ => (fun e_ => (Kd.R_ne HO676.out BK671.out (by decide)) e_) hs_)); replace HO676 := Aside0.mk (Kd.R_reok rfl hy0 (fun k_ e_ => HO676.out.1 k_ e_)); replace HB := Aside0.mk (hb); (try clear hb); (try clear hkp); (try clear hy0)))
    replace HO676 := Aside0.mk (Kd.R_drew HO676.out); replace BK668 := Aside0.mk (blk_drew BK668.out); replace BK669 := Aside0.mk (blk_drew BK669.out); replace BK671 := Aside0.mk (blk_drew BK671.out); replace HB := Aside0.mk (below_drew1 HB.out)
    refine start_ (n := 10) (S := C4 gb671 (.string ((rd_T54 l0 a1_1).f0)) (.int .i64 ((rd_T54 l0 a1_1).f1)) (.int .i64 ((rd_T54 l0 a1_1).f2)) (.int .i64 ((rd_T54 l0 a1_1).f3))) (ds := []) (mk 10 0) (by kernel_rfl) rfl (by kernel_rfl) (bc4 BK671.out) (fun hHeld => ?_); refine with_tabW impl_sumTile_at10.tab14 impl_sumTile_at10.bits14 (fun HT_ HW_ => ?_)
    generalize w46.drew = w47 at HO676 BK668 BK669 BK671 HB hHeld ⊢
    refine pu 0 69 10 1 rfl rfl ?_
    refine pu 1 70 10 3 rfl rfl ?_
    refine pu 4 73 10 19 rfl rfl ?_
    refine pu 6 75 10 83 rfl rfl ?_
    refine ta 2 71 10 87 rfl rfl ?_
    refine join_ (σ := Value) 2 #[true, true, true, true, true, true, true, true, false, false] (fun s_ => [(72, s_), (76, .bool t681), (74, .agg #[s_, .slice Ao45 y674.length co45, .int .i64 1])]) (fun s_ w' => (w'.cell? ⟨gb671, 0, none⟩ = some (.string ((rd_T54 l0 a1_1).f0)) ∧ w'.cell? ⟨gb671, 1, none⟩ = some (.int .i64 ((rd_T54 l0 a1_1).f1)) ∧ w'.cell? ⟨gb671, 2, none⟩ = some (.int .i64 ((rd_T54 l0 a1_1).f2)) ∧ w'.cell? ⟨gb671, 3, none⟩ = some (.int .i64 ((rd_T54 l0 a1_1).f3))) ∧ (Kd.R (Kd.int .i64) 3 w' w.heap.size (fun k_ => some k_ ≠ (s_ : Value).ownBlock) (.slice Ao45 y674.length co45) t677) ∧ (Kd.R (Kd.int .i64) 3 w' w.heap.size (fun k_ => some k_ ≠ (.slice Ao45 y674.length co45 : Value).ownBlock) s_ y678) ∧ (w'.heap[gb668]? = some (.cells #[.string a1_0, .int .i64 a1_1, .int .i64 a1_2, .int .i64 a1_3] 54 (0, 0))) ∧ (w'.heap[gb669]? = some (.cells #[.slice none 0 0, .slice none 0 0, .int .i64 0] 57 (0, 0))) ∧ (w'.heap[gb671]? = some (.cells #[.string ((rd_T54 l0 a1_1).f0), .int .i64 ((rd_T54 l0 a1_1).f1), .int .i64 ((rd_T54 l0 a1_1).f2), .int .i64 ((rd_T54 l0 a1_1).f3)] 54 (0, 0))) ∧ (Below w.heap.size w w')) ?_ ?_
    rotate_left
    ·intro hCont
     refine two_ (i := 3) (j := 7) (Ni := some 72) (Nj := some 76) #[true, true, true, true, true, false, true, false, false, false] #[true, true, true, false, true, false, true, true, false, false] rfl rfl rfl rfl (two_of HT_.out (by kernel_rfl)) (by decide) (by decide) (fun K hK => ?_) (fun K hK => ?_)
     ·skip
      refine lis 72 3 Ny678.out ?_
      intro v679 w48 ho49 hb
      have HO680 := Aside0.mk (Kd.R_lower (Kd.R_new' ho49 (Kd.R_lt (rb HO676.out))) (below_size BA)); replace HO676 := Aside0.mk (Kd.R_elder' (rb HO676.out) (Kd.R_base ho49) hb); replace BK668 := kb BK668 hb; replace BK669 := kb BK669 hb; replace BK671 := kb BK671 hb; replace HB := bs hb
      clear hb ho49
      obtain ⟨Ao50, co50, eo50⟩ := Kd.R_slice HO680.out
      (first | subst eo50 | (injection eo50 with f1_ f2_ f3_; have f4_ := f1_.symm; have f5_ := f3_.symm; clear f1_ f2_ f3_; subst f4_; subst f5_))
      refine hK.out _ _ (bc4 BK671.out) (fun hHeld => ?_)
      clear hK K
      refine nm 72 ?_
      refine pu 5 74 10 127 rfl rfl ?_
      refine one_ (i := 7) (N := some 76) (mk 10 255) rfl rfl (one_of HT_.out (by kernel_rfl)) (by decide) (fun K hK => ?_)
      refine goes_ Try.func59 (by kernel_rfl) rfl #[.int .i64 ((rd_T54 l0 ((rd_T54 l0 a1_1).f2)).f3), .int .i64 1, .int .i64 3] (by rfl) rfl rfl (by (try simp only [List.map_toArray, List.map_cons, List.map_nil]); first | done | rfl | (simp only [List.length_drop, List.length_take]; rfl)) ?_
      with_reducible refine (impl_within.calls ((rd_T54 l0 ((rd_T54 l0 a1_1).f2)).f3) 1 3 t681 _ A39.out).mono ?_
      rintro e w' ⟨rfl, ⟨nd, rfl⟩⟩
      refine ⟨_, rfl, ?_⟩
      refine hK.out _ _ (bc4 BK671.out) (fun hHeld => ?_)
      clear hK K
      refine nm 76 ?_
      exact norm_ (by simp only [putAll, Act.put, List.setIfInBounds_toArray, List.set_cons_zero, List.set_cons_succ]) (hCont (.slice Ao50 y678.length co50) _ ⟨hHeld, (rb (Kd.R_mono HO676.out (fun _ hk => hk.2))), (rb (Kd.R_mono HO680.out (fun _ hk => hk.2))), (bk BK668.out), (bk BK669.out), (bk BK671.out), BA⟩)
     ·skip
      refine goes_ Try.func59 (by kernel_rfl) rfl #[.int .i64 ((rd_T54 l0 ((rd_T54 l0 a1_1).f2)).f3), .int .i64 1, .int .i64 3] (by rfl) rfl rfl (by (try simp only [List.map_toArray, List.map_cons, List.map_nil]); first | done | rfl | (simp only [List.length_drop, List.length_take]; rfl)) ?_
      with_reducible refine (impl_within.calls ((rd_T54 l0 ((rd_T54 l0 a1_1).f2)).f3) 1 3 t681 _ A39.out).mono ?_
      rintro e w' ⟨rfl, ⟨nd, rfl⟩⟩
      refine ⟨_, rfl, ?_⟩
      refine hK.out _ _ (bc4 BK671.out) (fun hHeld => ?_)
      clear hK K
      refine nm 76 ?_
      refine one_ (i := 3) (N := some 72) (mk 10 223) rfl rfl (one_of HT_.out (by kernel_rfl)) (by decide) (fun K hK => ?_)
      refine lis 72 3 Ny678.out ?_
      intro v679 w48 ho49 hb
      have HO680 := Aside0.mk (Kd.R_lower (Kd.R_new' ho49 (Kd.R_lt (rb HO676.out))) (below_size BA)); replace HO676 := Aside0.mk (Kd.R_elder' (rb HO676.out) (Kd.R_base ho49) hb); replace BK668 := kb BK668 hb; replace BK669 := kb BK669 hb; replace BK671 := kb BK671 hb; replace HB := bs hb
      clear hb ho49
      obtain ⟨Ao50, co50, eo50⟩ := Kd.R_slice HO680.out
      (first | subst eo50 | (injection eo50 with f1_ f2_ f3_; have f4_ := f1_.symm; have f5_ := f3_.symm; clear f1_ f2_ f3_; subst f4_; subst f5_))
      refine hK.out _ _ (bc4 BK671.out) (fun hHeld => ?_)
      clear hK K
      refine nm 72 ?_
      refine pu 5 74 10 255 rfl rfl ?_
      exact norm_ (by simp only [putAll, Act.put, List.setIfInBounds_toArray, List.set_cons_zero, List.set_cons_succ]) (hCont (.slice Ao50 y678.length co50) _ ⟨hHeld, (rb (Kd.R_mono HO676.out (fun _ hk => hk.2))), (rb (Kd.R_mono HO680.out (fun _ hk => hk.2))), (bk BK668.out), (bk BK669.out), (bk BK671.out), BA⟩)
    rintro v679 w51 ⟨hS_, h0_, h1_, h2_, h3_, h4_, h5_⟩
    have n0_ : Aside0 (Kd.R (Kd.int .i64) 3 w51 w.heap.size (fun k_ => some k_ ≠ (v679 : Value).ownBlock) (.slice Ao45 y674.length co45) t677) := ⟨h0_⟩
    have n1_ : Aside0 (Kd.R (Kd.int .i64) 3 w51 w.heap.size (fun k_ => some k_ ≠ (.slice Ao45 y674.length co45 : Value).ownBlock) v679 y678) := ⟨h1_⟩
    have n2_ : Aside0 (w51.heap[gb668]? = some (.cells #[.string a1_0, .int .i64 a1_1, .int .i64 a1_2, .int .i64 a1_3] 54 (0, 0))) := ⟨h2_⟩
    have n3_ : Aside0 (w51.heap[gb669]? = some (.cells #[.slice none 0 0, .slice none 0 0, .int .i64 0] 57 (0, 0))) := ⟨h3_⟩
    have n4_ : Aside0 (w51.heap[gb671]? = some (.cells #[.string ((rd_T54 l0 a1_1).f0), .int .i64 ((rd_T54 l0 a1_1).f1), .int .i64 ((rd_T54 l0 a1_1).f2), .int .i64 ((rd_T54 l0 a1_1).f3)] 54 (0, 0))) := ⟨h4_⟩
    have n5_ : Aside0 (Below w.heap.size w w51) := ⟨h5_⟩
    clear HO676
    clear BK668
    clear BK669
    clear BK671
    clear HB
    clear h0_ h1_ h2_ h3_ h4_ h5_
    have HO676 := n0_
    have HO680 := n1_
    have BK668 := n2_
    have BK669 := n3_
    have BK671 := n4_
    have HB := n5_
    clear n0_ n1_ n2_ n3_ n4_ n5_
    have hHeld : w51.cell? ⟨gb671, 0, none⟩ = some (.string ((rd_T54 l0 a1_1).f0)) ∧ w51.cell? ⟨gb671, 1, none⟩ = some (.int .i64 ((rd_T54 l0 a1_1).f1)) ∧ w51.cell? ⟨gb671, 2, none⟩ = some (.int .i64 ((rd_T54 l0 a1_1).f2)) ∧ w51.cell? ⟨gb671, 3, none⟩ = some (.int .i64 ((rd_T54 l0 a1_1).f3)) := hS_
    obtain ⟨Ao52, co52, eo52⟩ := Kd.R_slice HO680.out
    (first | subst eo52 | (injection eo52 with f1_ f2_ f3_; have f4_ := f1_.symm; have f5_ := f3_.symm; clear f1_ f2_ f3_; subst f4_; subst f5_))
    refine norm_ (a' := ?_) ?_ ?_
    rotate_left
    ·simp only [putAll, Act.put, List.setIfInBounds_toArray, List.set_cons_zero, List.set_cons_succ]
     rfl
    refine one_ (i := 8) (N := none) (mk 10 511) rfl rfl (one_of HT_.out (by kernel_rfl)) (by decide) (fun K hK => ?_)
    have hs53 : w51.cell? ⟨gb669, 0, none⟩ = some (.slice none 0 0) := (blk_cell BK669.out 0).trans rfl
    have hfs53 := blk_frozen BK669.out 0
    have hns53_0 := NB668_669.out
    have hns53_2 := NB671_669.out
    have hms53_0 := NB669_668.out
    have hms53_2 := NB669_671.out
    have hs54 : w51.cell? ⟨gb669, 1, none⟩ = some (.slice none 0 0) := (blk_cell BK669.out 1).trans rfl
    have hfs54 := blk_frozen BK669.out 1
    have hns54_0 := NB668_669.out
    have hns54_2 := NB671_669.out
    have hms54_0 := NB669_668.out
    have hms54_2 := NB669_671.out
    have hs55 : w51.cell? ⟨gb669, 2, none⟩ = some (.int .i64 0) := (blk_cell BK669.out 2).trans rfl
    have hfs55 := blk_frozen BK669.out 2
    have hns55_0 := NB668_669.out
    have hns55_2 := NB671_669.out
    have hms55_0 := NB669_668.out
    have hms55_2 := NB669_671.out
    refine skip_ (w1 := ?_) (by rfl) rfl ?_ ?_
    rotate_left
    ·go_simp
     rfl
    refine hK.out _ _ ⟨((cell_far (p := ⟨gb669, _, none⟩) NB671_669.out _).trans (((cell_far (p := ⟨gb669, _, none⟩) NB671_669.out _).trans (((cell_far (p := ⟨gb669, _, none⟩) NB671_669.out _).trans (hHeld.1)))))), ((cell_far (p := ⟨gb669, _, none⟩) NB671_669.out _).trans (((cell_far (p := ⟨gb669, _, none⟩) NB671_669.out _).trans (((cell_far (p := ⟨gb669, _, none⟩) NB671_669.out _).trans (hHeld.2.1)))))), ((cell_far (p := ⟨gb669, _, none⟩) NB671_669.out _).trans (((cell_far (p := ⟨gb669, _, none⟩) NB671_669.out _).trans (((cell_far (p := ⟨gb669, _, none⟩) NB671_669.out _).trans (hHeld.2.2.1)))))), ((cell_far (p := ⟨gb669, _, none⟩) NB671_669.out _).trans (((cell_far (p := ⟨gb669, _, none⟩) NB671_669.out _).trans (((cell_far (p := ⟨gb669, _, none⟩) NB671_669.out _).trans (hHeld.2.2.2))))))⟩ (fun hHeld => ?_)
    clear hK K
    refine pu 9 7 10 1023 rfl rfl ?_
    refine done_ (done_of HT_.out (by kernel_rfl)) ?_
    try go_wp2
    refine bodyPost_ret (results_ct rfl _ _ gb669 57 #[.slice Ao52 y678.length co52, .slice Ao45 y674.length co45, .int .i64 1] (0, 0) _ rfl (bq BK669.out) Try.underlying57 rfl (by kernel_rfl)) rfl ?_
    exact ⟨_, _, EQ, rb (Kd.R_mono (Kd.R_far (p := ⟨gb669, 2, none⟩) (Kd.R_far (p := ⟨gb669, 1, none⟩) (Kd.R_far (p := ⟨gb669, 0, none⟩) (Kd.R_types HO680.out BK669.out (by decide)) (fun _ hk => hk.2) (.slice Ao52 y678.length co52)) (fun _ hk => hk.2) (.slice Ao45 y674.length co45)) (fun _ hk => hk.2) (.int .i64 1)) (fun _ hk => hk.1)), rb (Kd.R_mono (Kd.R_far (p := ⟨gb669, 2, none⟩) (Kd.R_far (p := ⟨gb669, 1, none⟩) (Kd.R_far (p := ⟨gb669, 0, none⟩) (Kd.R_types HO676.out BK669.out (by decide)) (fun _ hk => hk.2) (.slice Ao52 y678.length co52)) (fun _ hk => hk.2) (.slice Ao45 y674.length co45)) (fun _ hk => hk.2) (.int .i64 1)) (fun _ hk => hk.1)), BA⟩

end Go.Proofs.Ytlmegefdnkjcbaa.Pa
