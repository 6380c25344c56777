-- Made by this session's program gen.py over the translation.
import Derived.Test.YtlmegefdnkjcbaaPa0
import Derived.Test.YtlmegefdnkjcbaaPa1
import Derived.Test.YtlmegefdnkjcbaaPa2
namespace Go.Proofs.Ytlmegefdnkjcbaa.Pa
open Go.RowKit Go.Proofs.YtlmegefdnkjcbaaW.PrintWords Go.Proofs.YtlmegefdnkjcbaaW.PrintLast Go.Proofs.YtlmegefdnkjcbaaW.PrintMore
attribute [local go_sem] max2_int min2_int max_two min_two max_three min_three max_four min_four   -- for this text's walks alone
set_option linter.unusedVariables false
set_option linter.unusedSimpArgs false
set_option maxHeartbeats 8000000
set_option maxRecDepth 100000

/-! ### spec_cvTile_at8: function 53 -/
def spec_cvTile_at8.j0 : Nat → Bool → ByteArray → Int → Int → Int → Option (List Int × List Int × Bool)
 | 0, _, _, _, _, _ => none
 | k + 1, x145, x255000, x255001, x255002, x255003 => if x145 = true then (some ((([x255002] : List Int)), (([x255001] : List Int)), true)) else (some (([] : List Int), ([] : List Int), false))
def spec_cvTile_at8.f (k : Nat) (l0 : List (S54)) (a1 : Int)  : Option (List Int × List Int × Bool) := if 0 ≤ a1 then (if a1 < (l0.length : Int) then (if ((rd_T54 l0 a1).f0).toList = ([109, 117, 108] : List UInt8) then (if 0 ≤ ((rd_T54 l0 a1).f1) then (if ((rd_T54 l0 a1).f1) < (l0.length : Int) then ((spec_cvConst.f k ((rd_T54 l0 ((rd_T54 l0 a1).f1)).f0) ((rd_T54 l0 ((rd_T54 l0 a1).f1)).f1) ((rd_T54 l0 ((rd_T54 l0 a1).f1)).f2) ((rd_T54 l0 ((rd_T54 l0 a1).f1)).f3) (([2, 4, 8, 16, 32] : List Int))).bind fun t259 => (spec_cvTile_at8.j0 k t259 ((rd_T54 l0 a1).f0) ((rd_T54 l0 a1).f1) ((rd_T54 l0 a1).f2) ((rd_T54 l0 a1).f3))) else (none)) else (none)) else (spec_cvTile_at8.j0 k false ((rd_T54 l0 a1).f0) ((rd_T54 l0 a1).f1) ((rd_T54 l0 a1).f2) ((rd_T54 l0 a1).f3))) else (none)) else (none)
def spec_cvTile_at8.T10 : Bool × List (List Nat × List Nat) := (true, [([], []), ([0], [0]), ([1], [1]), ([2], [2]), ([2], [2]), ([4, 2], [2, 4]), ([3, 5, 2, 2], [2, 3, 5]), ([2, 6], [2, 6]), ([7, 6], [7]), ([8], [8]), ([8], [8]), ([10, 8], [8, 10]), ([9, 11, 8], [8, 9, 11]), ([12, 8], [8, 12]), ([8, 8], [8]), ([13, 14, 14, 8], [8, 13, 14]), ([8, 15], [8, 15]), ([16, 15], [16])])
def spec_cvTile_at8.B10 : List Nat := [0, 1, 3, 7, 7, 23, 63, 127, 255, 511, 511, 1535, 4095, 8191, 511, 32767, 65535, 131071]
theorem spec_cvTile_at8.tab10 : rtab .any (opsOf Try.f53 10) = spec_cvTile_at8.T10 := by kernel_rfl
theorem spec_cvTile_at8.bits10 : waitsOk spec_cvTile_at8.T10.2 spec_cvTile_at8.B10 = true := by kernel_rfl
def spec_cvTile_at8.T12 : Bool × List (List Nat × List Nat) := (true, [([], []), ([0], [0]), ([1], [1]), ([2], [2]), ([2], [2]), ([4, 2], [2, 4]), ([3, 5, 2, 2], [2, 3, 5]), ([2, 6], [2, 6]), ([7, 6], [7]), ([8], [8]), ([8], [8]), ([10, 8], [8, 10]), ([9, 11, 8], [8, 9, 11]), ([12, 8], [8, 12]), ([8, 8], [8]), ([13, 14, 14, 8], [8, 13, 14]), ([8, 15], [8, 15]), ([16, 15], [16])])
def spec_cvTile_at8.B12 : List Nat := [0, 1, 3, 7, 7, 23, 63, 127, 255, 511, 511, 1535, 4095, 8191, 511, 32767, 65535, 131071]
theorem spec_cvTile_at8.tab12 : rtab .any (opsOf Try.f53 12) = spec_cvTile_at8.T12 := by kernel_rfl
theorem spec_cvTile_at8.bits12 : waitsOk spec_cvTile_at8.T12.2 spec_cvTile_at8.B12 = true := by kernel_rfl
def spec_cvTile_at8.T19 : Bool × List (List Nat × List Nat) := (true, [([], []), ([0], [0]), ([1], [1]), ([], []), ([3], [3]), ([4], [4]), ([2, 0, 1, 2], [2]), ([5, 6, 0, 1, 2, 3, 4, 5, 6], [5]), ([7, 0, 1, 2, 3, 4, 5, 6, 7], [])])
def spec_cvTile_at8.B19 : List Nat := [0, 1, 3, 0, 8, 24, 7, 127, 255]
theorem spec_cvTile_at8.tab19 : rtab .any (opsOf Try.f53 19) = spec_cvTile_at8.T19 := by kernel_rfl
theorem spec_cvTile_at8.bits19 : waitsOk spec_cvTile_at8.T19.2 spec_cvTile_at8.B19 = true := by kernel_rfl
theorem spec_cvTile_at8.calls (k : Nat) (A0 : Option Addr) (c0 : Nat) (l0 : List (S54)) (a1 : Int)  (r1 : List Int) (r2 : List Int) (r3 : Bool) (w : World) (hr0 : Kd.C k54 w A0 l0.length l0) (hc0 : l0.length ≤ c0) (h : spec_cvTile_at8.f k l0 a1 = some (r1, r2, r3)) :
  Calls Try.prog 53 #[.slice A0 l0.length c0, .int .i64 a1, .int .i64 8] w fun e w' => ∃ v0_ v1_ : Value, e = .returned (.tuple #[v0_, v1_, .bool r3]) ∧ Kd.R (Kd.int .i64) 3 w' w.heap.size (fun k_ => some k_ ≠ (v1_ : Value).ownBlock) v0_ r1 ∧ Kd.R (Kd.int .i64) 3 w' w.heap.size (fun k_ => some k_ ≠ (v0_ : Value).ownBlock) v1_ r2 ∧ Below w.heap.size w w' := by
 have hu54 := Try.underlying54
 have HR0 := Aside0.mk hr0
 have HC0 := Aside0.mk hc0
 clear hr0 hc0
 have HB := Aside0.mk (Below.refl w.heap.size w)
 have H := h
 clear h
 unfold spec_cvTile_at8.f at H
 obtain ⟨c4, H⟩ := ifs H
 have c4b0 := decide_eq_true c4
 clear c4
 obtain ⟨c5, H⟩ := ifs H
 have c5b0 := decide_eq_true c5
 clear c5
 have HC6 := Aside0.mk H
 clear H
 have p253 : 0 ≤ (a1 : Int) := DT
 have q253 : a1 < (l0.length : Int) := DT
 obtain ⟨ad253, e253, hx253_0, hx253_1, hx253_2, hx253_3⟩ := at_T54 HR0.out a1 p253 q253
 cases e253
 replace p253 := eq_true p253
 replace q253 := eq_true q253
 go_enter Try.func53, Try.ntmps53
 try go_wp2_with (first | ((with_reducible refine gd 9 rfl ?_); (try (refine gate_guard (by rfl) ?_; dsimp only)); refine bx 9 #[.string (⟨#[]⟩ : ByteArray), .int .i64 0, .int .i64 0, .int .i64 0] 54 ?_; intro gb254 hg w7 BK254 GW254 HB hb; have GE254 := GW254; clear hb hg; obtain ⟨hcz8_0, hcz8_1, hcz8_2, hcz8_3⟩ := bc4 BK254.out; have hfz8 := blk_frozen BK254.out))
 have n0_ : Aside0 (((((w7.setCell ⟨gb254, 0, none⟩ (.string ((rd_T54 l0 a1).f0))).setCell ⟨gb254, 1, none⟩ (.int .i64 ((rd_T54 l0 a1).f1))).setCell ⟨gb254, 2, none⟩ (.int .i64 ((rd_T54 l0 a1).f2))).setCell ⟨gb254, 3, none⟩ (.int .i64 ((rd_T54 l0 a1).f3))).heap[gb254]? = some (.cells #[.string ((rd_T54 l0 a1).f0), .int .i64 ((rd_T54 l0 a1).f1), .int .i64 ((rd_T54 l0 a1).f2), .int .i64 ((rd_T54 l0 a1).f3)] 54 (0, 0))) := ⟨by (with_reducible repeat (first | refine blk_drewN ?_ _ | refine blk_drew ?_ | refine blk_alloc ?_ _)); refine blk_put (cs := #[.string ((rd_T54 l0 a1).f0), .int .i64 ((rd_T54 l0 a1).f1), .int .i64 ((rd_T54 l0 a1).f2), .int .i64 0]) ?_ 3 _ rfl; (with_reducible repeat (first | refine blk_drewN ?_ _ | refine blk_drew ?_ | refine blk_alloc ?_ _)); refine blk_put (cs := #[.string ((rd_T54 l0 a1).f0), .int .i64 ((rd_T54 l0 a1).f1), .int .i64 0, .int .i64 0]) ?_ 2 _ rfl; (with_reducible repeat (first | refine blk_drewN ?_ _ | refine blk_drew ?_ | refine blk_alloc ?_ _)); refine blk_put (cs := #[.string ((rd_T54 l0 a1).f0), .int .i64 0, .int .i64 0, .int .i64 0]) ?_ 1 _ rfl; (with_reducible repeat (first | refine blk_drewN ?_ _ | refine blk_drew ?_ | refine blk_alloc ?_ _)); refine blk_put (cs := #[.string (⟨#[]⟩ : ByteArray), .int .i64 0, .int .i64 0, .int .i64 0]) ?_ 0 _ rfl; (with_reducible repeat (first | refine blk_drewN ?_ _ | refine blk_drew ?_ | refine blk_alloc ?_ _)); exact BK254.out⟩
 have n1_ : Aside0 (Below w.heap.size w ((((w7.setCell ⟨gb254, 0, none⟩ (.string ((rd_T54 l0 a1).f0))).setCell ⟨gb254, 1, none⟩ (.int .i64 ((rd_T54 l0 a1).f1))).setCell ⟨gb254, 2, none⟩ (.int .i64 ((rd_T54 l0 a1).f2))).setCell ⟨gb254, 3, none⟩ (.int .i64 ((rd_T54 l0 a1).f3)))) := ⟨BA⟩
 (try clear BK254)
 (try clear HB)
 generalize ((((w7.setCell ⟨gb254, 0, none⟩ (.string ((rd_T54 l0 a1).f0))).setCell ⟨gb254, 1, none⟩ (.int .i64 ((rd_T54 l0 a1).f1))).setCell ⟨gb254, 2, none⟩ (.int .i64 ((rd_T54 l0 a1).f2))).setCell ⟨gb254, 3, none⟩ (.int .i64 ((rd_T54 l0 a1).f3))) = w9 at n0_ n1_ ⊢
 have BK254 := n0_
 have HB := n1_
 clear n0_ n1_
 replace BK254 := Aside0.mk (blk_drew BK254.out); replace HB := Aside0.mk (below_drew1 HB.out)
 refine start_ (n := 18) (S := fun w' => True) (ds := []) (mk 18 0) (by kernel_rfl) rfl (by kernel_rfl) trivial (fun hHeld => ?_); refine with_tabW spec_cvTile_at8.tab10 spec_cvTile_at8.bits10 (fun HT_ HW_ => ?_)
 generalize w9.drew = w10 at BK254 HB hHeld ⊢
 refine pu 0 51 18 1 rfl rfl ?_
 refine pu 1 52 18 3 rfl rfl ?_
 refine pu 2 53 18 7 rfl rfl ?_
 refine pos [(3, some 54), (4, some 55), (5, some 56), (6, some 57)] 18 127 11 ?_
 refine pu 7 58 18 255 rfl rfl ?_
 refine pu 8 59 18 511 rfl rfl ?_
 refine pos [(9, some 60), (10, some 61), (11, some 62), (12, some 63), (13, some 64), (14, some 65), (15, some 66)] 18 65535 2 ?_
 refine pu 16 67 18 131071 rfl rfl ?_
 refine pu 17 50 18 262143 rfl rfl ?_
 refine done_ (done_of HT_.out (by kernel_rfl)) ?_
 try go_wp2
 replace BK254 := Aside0.mk (blk_drew BK254.out); replace HB := Aside0.mk (below_drew1 HB.out)
 refine start_ (n := 18) (S := fun w' => True) (ds := []) (mk 18 0) (by kernel_rfl) rfl (by kernel_rfl) trivial (fun hHeld => ?_); refine with_tabW spec_cvTile_at8.tab12 spec_cvTile_at8.bits12 (fun HT_ HW_ => ?_)
 generalize w10.drew = w11 at BK254 HB hHeld ⊢
 refine pu 0 75 18 1 rfl rfl ?_
 refine pu 1 76 18 3 rfl rfl ?_
 refine pu 2 77 18 7 rfl rfl ?_
 refine pos [(3, some 78), (4, some 79), (5, some 80), (6, some 81)] 18 127 11 ?_
 refine pu 7 82 18 255 rfl rfl ?_
 refine pu 8 83 18 511 rfl rfl ?_
 refine pos [(9, some 84), (10, some 85), (11, some 86), (12, some 87), (13, some 88), (14, some 89), (15, some 90)] 18 65535 2 ?_
 refine pu 16 91 18 131071 rfl rfl ?_
 refine pu 17 74 18 262143 rfl rfl ?_
 refine done_ (done_of HT_.out (by kernel_rfl)) ?_
 go_upto_region 18 with (fail)
 go_cut [145] (fun v145 wc => ∃ (kq : Nat) (x145_5 : Bool), v145 = .bool x145_5 ∧ Aside0 (spec_cvTile_at8.j0 kq x145_5 ((rd_T54 l0 a1).f0) ((rd_T54 l0 a1).f1) ((rd_T54 l0 a1).f2) ((rd_T54 l0 a1).f3) = some (r1, r2, r3)) ∧ Aside0 (kq ≤ k) ∧ Aside0 (wc.heap[gb254]? = some (.cells #[.string ((rd_T54 l0 a1).f0), .int .i64 ((rd_T54 l0 a1).f1), .int .i64 ((rd_T54 l0 a1).f2), .int .i64 ((rd_T54 l0 a1).f3)] 54 (0, 0))) ∧ Aside0 (Below w.heap.size w wc))
 case first =>
  have H := HC6.out
  clear HC6
  by_cases c12 : ((rd_T54 l0 a1).f0).toList = ([109, 117, 108] : List UInt8)
  ·rw [if_pos c12] at H
   have c12b0 := beq_iff_eq.mpr c12
   have c12b1 := bne_eq_false_iff_eq.mpr c12
   clear c12
   (first | rw [c12b0] | (simp only [i64_w, i32_w]; rw [c12b0]) | skip)
   obtain ⟨c13, H⟩ := ifs H
   have c13b0 := decide_eq_true c13
   clear c13
   obtain ⟨c14, H⟩ := ifs H
   have c14b0 := decide_eq_true c14
   clear c14
   obtain ⟨y256, hy256⟩ : ∃ y_ : List Int, y_ = (([2, 4, 8, 16, 32] : List Int)) := ⟨_, rfl⟩
   replace H : ((spec_cvConst.f k ((rd_T54 l0 ((rd_T54 l0 a1).f1)).f0) ((rd_T54 l0 ((rd_T54 l0 a1).f1)).f1) ((rd_T54 l0 ((rd_T54 l0 a1).f1)).f2) ((rd_T54 l0 ((rd_T54 l0 a1).f1)).f3) y256).bind fun t259 => (spec_cvTile_at8.j0 k t259 ((rd_T54 l0 a1).f0) ((rd_T54 l0 a1).f1) ((rd_T54 l0 a1).f2) ((rd_T54 l0 a1).f3))) = some (r1, r2, r3) := by first | (rw [hy256]; with_reducible exact H) | (have H2_ := (Option.bind_some _ _).symm.trans H; rw [hy256]; with_reducible exact H2_) | (have H2_ := (Option.bind_some _ _).symm.trans H; with_reducible exact H2_) | with_reducible exact H | (rw [hy256]; exact H) | exact H
   have Ny256 := Aside0.mk hy256
   clear hy256
   obtain ⟨t259, A15, H⟩ := ob H
   (try dsimp only at H)
   have H' := Aside0.mk H
   clear H
   obtain ⟨hcz16_0, hcz16_1, hcz16_2, hcz16_3⟩ := bc4 BK254.out
   have hfz16 := blk_frozen BK254.out
   have hfz16_1 := blk_frozen BK254.out 1
   have hfz16_2 := blk_frozen BK254.out 2
   have hfz16_3 := blk_frozen BK254.out 3
   have p255 : 0 ≤ (((rd_T54 l0 a1).f1) : Int) := DT
   have q255 : ((rd_T54 l0 a1).f1) < (l0.length : Int) := DT
   obtain ⟨ad255, e255, hx255_0, hx255_1, hx255_2, hx255_3⟩ := at_T54 (Kd.C_below HR0.out HB.out) ((rd_T54 l0 a1).f1) p255 q255
   obtain rfl : ad253 = ad255 := (by injection e255)
   replace p255 := eq_true p255
   replace q255 := eq_true q255
   go_wp2_with (first | ((with_reducible refine gate_dst (N := 159) rfl ?_); (try (refine gate_guard (by rfl) ?_; dsimp only)); refine li 159 3 Ny256.out ?_; intro v257 w17 ho18 hb; have HO258 := Aside0.mk (Kd.R_lower ho18 (below_size BA)); replace BK254 := kb BK254 hb; replace HB := bs hb; clear hb ho18; obtain ⟨Ao19, co19, eo19⟩ := Kd.R_slice HO258.out; subst eo19) | (go_at_call 82; (with_reducible refine (spec_cvConst.calls k ((rd_T54 l0 ((rd_T54 l0 a1).f1)).f0) ((rd_T54 l0 ((rd_T54 l0 a1).f1)).f1) ((rd_T54 l0 ((rd_T54 l0 a1).f1)).f2) ((rd_T54 l0 ((rd_T54 l0 a1).f1)).f3) _ _ y256 t259 _ ?side1 ?side2 A15.out).mono ?_); (case side1 => exact cb (Kd.R_reads' HO258.out).2.2); (case side2 => exact (Kd.R_reads' HO258.out).2.1); rintro e w20 ⟨rfl, hb⟩; replace HO258 := Aside0.mk (Kd.R_below (rb HO258.out) hb); replace BK254 := kb BK254 hb; replace HB := bs hb; (try clear hb)))
   go_meet
   case rel => exact ⟨_, (t259), EQ1, H', ⟨by first | omega | exact Nat.le_refl _⟩, ⟨by (with_reducible repeat (first | refine blk_drewN ?_ _ | refine blk_drew ?_ | refine blk_alloc ?_ _)); exact BK254.out⟩, ⟨BA⟩⟩
  ·rw [if_neg c12] at H
   have c12b0 := beq_eq_false_iff_ne.mpr c12
   have c12b1 := bne_iff_ne.mpr c12
   (first | rw [c12b0] | (simp only [i64_w, i32_w]; rw [c12b0]) | skip)
   have H' := Aside0.mk H
   clear H
   obtain ⟨hcz21_0, hcz21_1, hcz21_2, hcz21_3⟩ := bc4 BK254.out
   have hfz21 := blk_frozen BK254.out
   have hfz21_1 := blk_frozen BK254.out 1
   have hfz21_2 := blk_frozen BK254.out 2
   have hfz21_3 := blk_frozen BK254.out 3
   go_wp2
   go_meet
   case rel => exact ⟨_, (false), EQ1, H', ⟨by first | omega | exact Nat.le_refl _⟩, ⟨by (with_reducible repeat (first | refine blk_drewN ?_ _ | refine blk_drew ?_ | refine blk_alloc ?_ _)); exact BK254.out⟩, ⟨BA⟩⟩
 case rest =>
  clear HC6
  (try clear c4b0); (try clear c5b0); (try clear c12b0); (try clear c12b1); (try clear c13b0); (try clear c14b0); (try clear hcz16_0); (try clear hcz16_1); (try clear hcz16_2); (try clear hcz16_3); (try clear hcz21_0); (try clear hcz21_1); (try clear hcz21_2); (try clear hcz21_3); (try clear hcz8_0); (try clear hcz8_1); (try clear hcz8_2); (try clear hcz8_3); (try clear hfz16_1); (try clear hfz16_2); (try clear hfz16_3); (try clear hfz21_1); (try clear hfz21_2); (try clear hfz21_3); (try clear hx253_0); (try clear hx253_1); (try clear hx253_2); (try clear hx253_3); (try clear hx255_0); (try clear hx255_1); (try clear hx255_2); (try clear hx255_3); (try clear p253); (try clear p255); (try clear q253); (try clear q255)
  obtain ⟨kq, x145_5, rfl, HA, HJ5, BK254, HB⟩ := hcut
  cases kq with
  | zero => exact absurd HA.out (by simp [spec_cvTile_at8.j0])
  | succ kj5 =>
   have H := HA.out
   clear HA
   simp only [spec_cvTile_at8.j0] at H
   by_cases c22 : x145_5 = true
   ·subst c22
    rw [if_pos rfl] at H
    obtain ⟨y260, hy260⟩ : ∃ y_ : List Int, y_ = (([((rd_T54 l0 a1).f2)] : List Int)) := ⟨_, rfl⟩
    replace H : (some (y260, (([((rd_T54 l0 a1).f1)] : List Int)), true)) = some (r1, r2, r3) := by first | (rw [hy260]; with_reducible exact H) | (have H2_ := (Option.bind_some _ _).symm.trans H; rw [hy260]; with_reducible exact H2_) | (have H2_ := (Option.bind_some _ _).symm.trans H; with_reducible exact H2_) | with_reducible exact H | (rw [hy260]; exact H) | exact H
    have Ny260 := Aside0.mk hy260
    clear hy260
    obtain ⟨y263, hy263⟩ : ∃ y_ : List Int, y_ = (([((rd_T54 l0 a1).f1)] : List Int)) := ⟨_, rfl⟩
    replace H : (some (y260, y263, true)) = some (r1, r2, r3) := by first | (rw [hy263]; with_reducible exact H) | (have H2_ := (Option.bind_some _ _).symm.trans H; rw [hy263]; with_reducible exact H2_) | (have H2_ := (Option.bind_some _ _).symm.trans H; with_reducible exact H2_) | with_reducible exact H | (rw [hy263]; exact H) | exact H
    have Ny263 := Aside0.mk hy263
    clear hy263
    simp only [Option.some.injEq, Prod.mk.injEq] at H
    obtain ⟨rfl, rfl, rfl⟩ := H
    try go_wp2
    replace BK254 := Aside0.mk (blk_drew BK254.out); replace HB := Aside0.mk (below_drew1 HB.out)
    refine start_ (n := 9) (S := C4 gb254 (.string ((rd_T54 l0 a1).f0)) (.int .i64 ((rd_T54 l0 a1).f1)) (.int .i64 ((rd_T54 l0 a1).f2)) (.int .i64 ((rd_T54 l0 a1).f3))) (ds := []) (mk 9 0) (by kernel_rfl) rfl (by kernel_rfl) (bc4 BK254.out) (fun hHeld => ?_); refine with_tabW spec_cvTile_at8.tab19 spec_cvTile_at8.bits19 (fun HT_ HW_ => ?_)
    generalize wc.drew = w23 at BK254 HB hHeld ⊢
    refine pu 0 162 9 1 rfl rfl ?_
    refine pu 3 165 9 9 rfl rfl ?_
    refine ta 1 163 9 11 rfl rfl ?_
    refine ta 4 166 9 27 rfl rfl ?_
    refine join_ (σ := Value × Value) 2 #[true, true, true, true, true, true, true, false, false] (fun s_ => [(164, s_.1), (167, s_.2), (6, s_.1)]) (fun s_ w' => (w'.cell? ⟨gb254, 0, none⟩ = some (.string ((rd_T54 l0 a1).f0)) ∧ w'.cell? ⟨gb254, 1, none⟩ = some (.int .i64 ((rd_T54 l0 a1).f1)) ∧ w'.cell? ⟨gb254, 2, none⟩ = some (.int .i64 ((rd_T54 l0 a1).f2)) ∧ w'.cell? ⟨gb254, 3, none⟩ = some (.int .i64 ((rd_T54 l0 a1).f3))) ∧ (Kd.R (Kd.int .i64) 3 w' w.heap.size (fun k_ => some k_ ≠ (s_.2 : Value).ownBlock) s_.1 y260) ∧ (Kd.R (Kd.int .i64) 3 w' w.heap.size (fun k_ => some k_ ≠ (s_.1 : Value).ownBlock) s_.2 y263) ∧ (w'.heap[gb254]? = some (.cells #[.string ((rd_T54 l0 a1).f0), .int .i64 ((rd_T54 l0 a1).f1), .int .i64 ((rd_T54 l0 a1).f2), .int .i64 ((rd_T54 l0 a1).f3)] 54 (0, 0))) ∧ (Below w.heap.size w w')) ?_ ?_
    rotate_left
    ·intro hCont
     refine two_ (i := 2) (j := 5) (Ni := some 164) (Nj := some 167) #[true, true, true, true, true, false, false, false, false] #[true, true, false, true, true, true, false, false, false] rfl rfl rfl rfl (two_of HT_.out (by kernel_rfl)) (by decide) (by decide) (fun K hK => ?_) (fun K hK => ?_)
     ·skip
      refine lis 164 3 Ny260.out ?_
      intro v261 w24 ho25 hb
      have HO262 := Aside0.mk (Kd.R_lower ho25 (below_size BA)); replace BK254 := kb BK254 hb; replace HB := bs hb
      clear hb ho25
      refine hK.out _ _ (bc4 BK254.out) (fun hHeld => ?_)
      clear hK K
      refine nm 164 ?_
      refine pu 6 6 9 95 rfl rfl ?_
      refine one_ (i := 5) (N := some 167) (mk 9 127) rfl rfl (one_of HT_.out (by kernel_rfl)) (by decide) (fun K hK => ?_)
      refine lis 167 3 Ny263.out ?_
      intro v264 w26 ho27 hb
      have HO265 := Aside0.mk (Kd.R_lower (Kd.R_new' ho27 (Kd.R_lt (rb HO262.out))) (below_size BA)); replace HO262 := Aside0.mk (Kd.R_elder' (rb HO262.out) (Kd.R_base ho27) hb); replace BK254 := kb BK254 hb; replace HB := bs hb
      clear hb ho27
      refine hK.out _ _ (bc4 BK254.out) (fun hHeld => ?_)
      clear hK K
      refine nm 167 ?_
      exact norm_ (by simp only [putAll, Act.put, List.setIfInBounds_toArray, List.set_cons_zero, List.set_cons_succ]) (hCont (v261, v264) _ ⟨hHeld, (rb (Kd.R_mono HO262.out (fun _ hk => hk.2))), (rb (Kd.R_mono HO265.out (fun _ hk => hk.2))), (bk BK254.out), BA⟩)
     ·skip
      refine lis 167 3 Ny263.out ?_
      intro v264 w24 ho25 hb
      have HO265 := Aside0.mk (Kd.R_lower ho25 (below_size BA)); replace BK254 := kb BK254 hb; replace HB := bs hb
      clear hb ho25
      refine hK.out _ _ (bc4 BK254.out) (fun hHeld => ?_)
      clear hK K
      refine nm 167 ?_
      refine one_ (i := 2) (N := some 164) (mk 9 63) rfl rfl (one_of HT_.out (by kernel_rfl)) (by decide) (fun K hK => ?_)
      refine lis 164 3 Ny260.out ?_
      intro v261 w26 ho27 hb
      have HO262 := Aside0.mk (Kd.R_lower (Kd.R_new' ho27 (Kd.R_lt (rb HO265.out))) (below_size BA)); replace HO265 := Aside0.mk (Kd.R_elder' (rb HO265.out) (Kd.R_base ho27) hb); replace BK254 := kb BK254 hb; replace HB := bs hb
      clear hb ho27
      refine hK.out _ _ (bc4 BK254.out) (fun hHeld => ?_)
      clear hK K
      refine nm 164 ?_
      refine pu 6 6 9 127 rfl rfl ?_
      exact norm_ (by simp only [putAll, Act.put, List.setIfInBounds_toArray, List.set_cons_zero, List.set_cons_succ]) (hCont (v261, v264) _ ⟨hHeld, (rb (Kd.R_mono HO262.out (fun _ hk => hk.2))), (rb (Kd.R_mono HO265.out (fun _ hk => hk.2))), (bk BK254.out), BA⟩)
    rintro ⟨v261, v264⟩ w28 ⟨hS_, h0_, h1_, h2_, h3_⟩
    have n0_ : Aside0 (Kd.R (Kd.int .i64) 3 w28 w.heap.size (fun k_ => some k_ ≠ (v264 : Value).ownBlock) v261 y260) := ⟨h0_⟩
    have n1_ : Aside0 (Kd.R (Kd.int .i64) 3 w28 w.heap.size (fun k_ => some k_ ≠ (v261 : Value).ownBlock) v264 y263) := ⟨h1_⟩
    have n2_ : Aside0 (w28.heap[gb254]? = some (.cells #[.string ((rd_T54 l0 a1).f0), .int .i64 ((rd_T54 l0 a1).f1), .int .i64 ((rd_T54 l0 a1).f2), .int .i64 ((rd_T54 l0 a1).f3)] 54 (0, 0))) := ⟨h2_⟩
    have n3_ : Aside0 (Below w.heap.size w w28) := ⟨h3_⟩
    clear BK254
    clear HB
    clear h0_ h1_ h2_ h3_
    have HO262 := n0_
    have HO265 := n1_
    have BK254 := n2_
    have HB := n3_
    clear n0_ n1_ n2_ n3_
    have hHeld : w28.cell? ⟨gb254, 0, none⟩ = some (.string ((rd_T54 l0 a1).f0)) ∧ w28.cell? ⟨gb254, 1, none⟩ = some (.int .i64 ((rd_T54 l0 a1).f1)) ∧ w28.cell? ⟨gb254, 2, none⟩ = some (.int .i64 ((rd_T54 l0 a1).f2)) ∧ w28.cell? ⟨gb254, 3, none⟩ = some (.int .i64 ((rd_T54 l0 a1).f3)) := hS_
    refine norm_ (a' := ?_) ?_ ?_
    rotate_left
    ·simp only [putAll, Act.put, List.setIfInBounds_toArray, List.set_cons_zero, List.set_cons_succ]
     rfl
    refine pu 7 7 9 255 rfl rfl ?_
    refine pu 8 8 9 511 rfl rfl ?_
    refine done_ (done_of HT_.out (by kernel_rfl)) ?_
    try go_wp2
    go_ret3
    exact ⟨_, _, EQ, rb HO262.out, rb HO265.out, BA⟩
   ·replace c22 := Bool.eq_false_iff.mpr c22
    subst c22
    rw [if_neg (show ¬ (false = true) by decide)] at H
    simp only [Option.some.injEq, Prod.mk.injEq] at H
    obtain ⟨rfl, rfl, rfl⟩ := H
    go_wp2
    go_ret3
    exact ⟨_, _, EQ, by first | exact Kd.R_nil _ _ _ _ _ | exact Kd.N_nil _ _ _ _ _ | exact Kd.V_nil _ _ _ _ _ | exact Kd.Q_nil _ _ _ _ _ | exact Kd.S_nil _ _ _ _ _, by first | exact Kd.R_nil _ _ _ _ _ | exact Kd.N_nil _ _ _ _ _ | exact Kd.V_nil _ _ _ _ _ | exact Kd.Q_nil _ _ _ _ _ | exact Kd.S_nil _ _ _ _ _, BA⟩

/-! ### spec_cvTile_at9: function 53 -/
def spec_cvTile_at9.f (k : Nat) (l0 : List (S54)) (a1 : Int)  : Option (List Int × List Int × Bool) := if 0 ≤ a1 then (if a1 < (l0.length : Int) then (if ((rd_T54 l0 a1).f0).toList = ([97, 100, 100] : List UInt8) then ((spec_cvDeep.f k l0 ((rd_T54 l0 a1).f1) ((rd_T54 l0 a1).f2) (⟨#[115, 104, 108]⟩ : ByteArray) (([1, 2, 3] : List Int))).bind fun bt271 => (some (bt271.1, bt271.2.1, bt271.2.2))) else (some (([] : List Int), ([] : List Int), false))) else (none)) else (none)
def spec_cvTile_at9.T10 : Bool × List (List Nat × List Nat) := (true, [([], []), ([0], [0]), ([1], [1]), ([2], [2]), ([2], [2]), ([4, 2], [2, 4]), ([3, 5, 2, 2], [2, 3, 5]), ([2, 6], [2, 6]), ([7, 6], [7]), ([8], [8]), ([8], [8]), ([10, 8], [8, 10]), ([9, 11, 8], [8, 9, 11]), ([12, 8], [8, 12]), ([8, 8], [8]), ([13, 14, 14, 8], [8, 13, 14]), ([8, 15], [8, 15]), ([16, 15], [16])])
def spec_cvTile_at9.B10 : List Nat := [0, 1, 3, 7, 7, 23, 63, 127, 255, 511, 511, 1535, 4095, 8191, 511, 32767, 65535, 131071]
theorem spec_cvTile_at9.tab10 : rtab .any (opsOf Try.f53 10) = spec_cvTile_at9.T10 := by kernel_rfl
theorem spec_cvTile_at9.bits10 : waitsOk spec_cvTile_at9.T10.2 spec_cvTile_at9.B10 = true := by kernel_rfl
def spec_cvTile_at9.T12 : Bool × List (List Nat × List Nat) := (true, [([], []), ([0], [0]), ([1], [1]), ([2], [2]), ([2], [2]), ([4, 2], [2, 4]), ([3, 5, 2, 2], [2, 3, 5]), ([2, 6], [2, 6]), ([7, 6], [7]), ([8], [8]), ([8], [8]), ([10, 8], [8, 10]), ([9, 11, 8], [8, 9, 11]), ([12, 8], [8, 12]), ([8, 8], [8]), ([13, 14, 14, 8], [8, 13, 14]), ([8, 15], [8, 15]), ([16, 15], [16])])
def spec_cvTile_at9.B12 : List Nat := [0, 1, 3, 7, 7, 23, 63, 127, 255, 511, 511, 1535, 4095, 8191, 511, 32767, 65535, 131071]
theorem spec_cvTile_at9.tab12 : rtab .any (opsOf Try.f53 12) = spec_cvTile_at9.T12 := by kernel_rfl
theorem spec_cvTile_at9.bits12 : waitsOk spec_cvTile_at9.T12.2 spec_cvTile_at9.B12 = true := by kernel_rfl
theorem spec_cvTile_at9.calls (k : Nat) (A0 : Option Addr) (c0 : Nat) (l0 : List (S54)) (a1 : Int)  (r1 : List Int) (r2 : List Int) (r3 : Bool) (w : World) (hr0 : Kd.C k54 w A0 l0.length l0) (hc0 : l0.length ≤ c0) (h : spec_cvTile_at9.f k l0 a1 = some (r1, r2, r3)) :
  Calls Try.prog 53 #[.slice A0 l0.length c0, .int .i64 a1, .int .i64 9] w fun e w' => ∃ v0_ v1_ : Value, e = .returned (.tuple #[v0_, v1_, .bool r3]) ∧ Kd.R (Kd.int .i64) 3 w' w.heap.size (fun k_ => some k_ ≠ (v1_ : Value).ownBlock) v0_ r1 ∧ Kd.R (Kd.int .i64) 3 w' w.heap.size (fun k_ => some k_ ≠ (v0_ : Value).ownBlock) v1_ r2 ∧ Below w.heap.size w w' := by
 have hu54 := Try.underlying54
 have HR0 := Aside0.mk hr0
 have HC0 := Aside0.mk hc0
 clear hr0 hc0
 have HB := Aside0.mk (Below.refl w.heap.size w)
 have H := h
 clear h
 unfold spec_cvTile_at9.f at H
 obtain ⟨c4, H⟩ := ifs H
 have c4b0 := decide_eq_true c4
 clear c4
 obtain ⟨c5, H⟩ := ifs H
 have c5b0 := decide_eq_true c5
 clear c5
 by_cases c6 : ((rd_T54 l0 a1).f0).toList = ([97, 100, 100] : List UInt8)
 ·rw [if_pos c6] at H
  have c6b0 := beq_iff_eq.mpr c6
  have c6b1 := bne_eq_false_iff_eq.mpr c6
  clear c6
  obtain ⟨y268, hy268⟩ : ∃ y_ : List Int, y_ = (([1, 2, 3] : List Int)) := ⟨_, rfl⟩
  replace H : ((spec_cvDeep.f k l0 ((rd_T54 l0 a1).f1) ((rd_T54 l0 a1).f2) (⟨#[115, 104, 108]⟩ : ByteArray) y268).bind fun bt271 => (some (bt271.1, bt271.2.1, bt271.2.2))) = some (r1, r2, r3) := by first | (rw [hy268]; with_reducible exact H) | (have H2_ := (Option.bind_some _ _).symm.trans H; rw [hy268]; with_reducible exact H2_) | (have H2_ := (Option.bind_some _ _).symm.trans H; with_reducible exact H2_) | with_reducible exact H | (rw [hy268]; exact H) | exact H
  have Ny268 := Aside0.mk hy268
  clear hy268
  replace H := Option.bind_eq_some_iff.mp H
  obtain ⟨⟨t271, t272, t273⟩, A70, H⟩ := H
  (try dsimp only at H)
  have A7 := Aside0.mk A70
  clear A70
  simp only [Option.some.injEq, Prod.mk.injEq] at H
  obtain ⟨rfl, rfl, rfl⟩ := H
  have p266 : 0 ≤ (a1 : Int) := DT
  have q266 : a1 < (l0.length : Int) := DT
  obtain ⟨ad266, e266, hx266_0, hx266_1, hx266_2, hx266_3⟩ := at_T54 HR0.out a1 p266 q266
  cases e266
  replace p266 := eq_true p266
  replace q266 := eq_true q266
  go_enter Try.func53, Try.ntmps53
  try go_wp2_with (first | ((with_reducible refine gd 9 rfl ?_); (try (refine gate_guard (by rfl) ?_; dsimp only)); refine bx 9 #[.string (⟨#[]⟩ : ByteArray), .int .i64 0, .int .i64 0, .int .i64 0] 54 ?_; intro gb267 hg w8 BK267 GW267 HB hb; have GE267 := GW267; clear hb hg; obtain ⟨hcz9_0, hcz9_1, hcz9_2, hcz9_3⟩ := bc4 BK267.out; have hfz9 := blk_frozen BK267.out))
  have n0_ : Aside0 (((((w8.setCell ⟨gb267, 0, none⟩ (.string ((rd_T54 l0 a1).f0))).setCell ⟨gb267, 1, none⟩ (.int .i64 ((rd_T54 l0 a1).f1))).setCell ⟨gb267, 2, none⟩ (.int .i64 ((rd_T54 l0 a1).f2))).setCell ⟨gb267, 3, none⟩ (.int .i64 ((rd_T54 l0 a1).f3))).heap[gb267]? = some (.cells #[.string ((rd_T54 l0 a1).f0), .int .i64 ((rd_T54 l0 a1).f1), .int .i64 ((rd_T54 l0 a1).f2), .int .i64 ((rd_T54 l0 a1).f3)] 54 (0, 0))) := ⟨by (with_reducible repeat (first | refine blk_drewN ?_ _ | refine blk_drew ?_ | refine blk_alloc ?_ _)); refine blk_put (cs := #[.string ((rd_T54 l0 a1).f0), .int .i64 ((rd_T54 l0 a1).f1), .int .i64 ((rd_T54 l0 a1).f2), .int .i64 0]) ?_ 3 _ rfl; (with_reducible repeat (first | refine blk_drewN ?_ _ | refine blk_drew ?_ | refine blk_alloc ?_ _)); refine blk_put (cs := #[.string ((rd_T54 l0 a1).f0), .int .i64 ((rd_T54 l0 a1).f1), .int .i64 0, .int .i64 0]) ?_ 2 _ rfl; (with_reducible repeat (first | refine blk_drewN ?_ _ | refine blk_drew ?_ | refine blk_alloc ?_ _)); refine blk_put (cs := #[.string ((rd_T54 l0 a1).f0), .int .i64 0, .int .i64 0, .int .i64 0]) ?_ 1 _ rfl; (with_reducible repeat (first | refine blk_drewN ?_ _ | refine blk_drew ?_ | refine blk_alloc ?_ _)); refine blk_put (cs := #[.string (⟨#[]⟩ : ByteArray), .int .i64 0, .int .i64 0, .int .i64 0]) ?_ 0 _ rfl; (with_reducible repeat (first | refine blk_drewN ?_ _ | refine blk_drew ?_ | refine blk_alloc ?_ _)); exact BK267.out⟩
  have n1_ : Aside0 (Below w.heap.size w ((((w8.setCell ⟨gb267, 0, none⟩ (.string ((rd_T54 l0 a1).f0))).setCell ⟨gb267, 1, none⟩ (.int .i64 ((rd_T54 l0 a1).f1))).setCell ⟨gb267, 2, none⟩ (.int .i64 ((rd_T54 l0 a1).f2))).setCell ⟨gb267, 3, none⟩ (.int .i64 ((rd_T54 l0 a1).f3)))) := ⟨BA⟩
  (try clear BK267)
  (try clear HB)
  generalize ((((w8.setCell ⟨gb267, 0, none⟩ (.string ((rd_T54 l0 a1).f0))).setCell ⟨gb267, 1, none⟩ (.int .i64 ((rd_T54 l0 a1).f1))).setCell ⟨gb267, 2, none⟩ (.int .i64 ((rd_T54 l0 a1).f2))).setCell ⟨gb267, 3, none⟩ (.int .i64 ((rd_T54 l0 a1).f3))) = w10 at n0_ n1_ ⊢
  have BK267 := n0_
  have HB := n1_
  clear n0_ n1_
  replace BK267 := Aside0.mk (blk_drew BK267.out); replace HB := Aside0.mk (below_drew1 HB.out)
  refine start_ (n := 18) (S := fun w' => True) (ds := []) (mk 18 0) (by kernel_rfl) rfl (by kernel_rfl) trivial (fun hHeld => ?_); refine with_tabW spec_cvTile_at9.tab10 spec_cvTile_at9.bits10 (fun HT_ HW_ => ?_)
  generalize w10.drew = w11 at BK267 HB hHeld ⊢
  refine pu 0 51 18 1 rfl rfl ?_
  refine pu 1 52 18 3 rfl rfl ?_
  refine pu 2 53 18 7 rfl rfl ?_
  refine pos [(3, some 54), (4, some 55), (5, some 56), (6, some 57)] 18 127 11 ?_
  refine pu 7 58 18 255 rfl rfl ?_
  refine pu 8 59 18 511 rfl rfl ?_
  refine pos [(9, some 60), (10, some 61), (11, some 62), (12, some 63), (13, some 64), (14, some 65), (15, some 66)] 18 65535 2 ?_
  refine pu 16 67 18 131071 rfl rfl ?_
  refine pu 17 50 18 262143 rfl rfl ?_
  refine done_ (done_of HT_.out (by kernel_rfl)) ?_
  try go_wp2
  replace BK267 := Aside0.mk (blk_drew BK267.out); replace HB := Aside0.mk (below_drew1 HB.out)
  refine start_ (n := 18) (S := fun w' => True) (ds := []) (mk 18 0) (by kernel_rfl) rfl (by kernel_rfl) trivial (fun hHeld => ?_); refine with_tabW spec_cvTile_at9.tab12 spec_cvTile_at9.bits12 (fun HT_ HW_ => ?_)
  generalize w11.drew = w12 at BK267 HB hHeld ⊢
  refine pu 0 75 18 1 rfl rfl ?_
  refine pu 1 76 18 3 rfl rfl ?_
  refine pu 2 77 18 7 rfl rfl ?_
  refine pos [(3, some 78), (4, some 79), (5, some 80), (6, some 81)] 18 127 11 ?_
  refine pu 7 82 18 255 rfl rfl ?_
  refine pu 8 83 18 511 rfl rfl ?_
  refine pos [(9, some 84), (10, some 85), (11, some 86), (12, some 87), (13, some 88), (14, some 89), (15, some 90)] 18 65535 2 ?_
  refine pu 16 91 18 131071 rfl rfl ?_
  refine pu 17 74 18 262143 rfl rfl ?_
  refine done_ (done_of HT_.out (by kernel_rfl)) ?_
  obtain ⟨hcz13_0, hcz13_1, hcz13_2, hcz13_3⟩ := bc4 BK267.out
  have hfz13 := blk_frozen BK267.out
  have hfz13_1 := blk_frozen BK267.out 1
  have hfz13_2 := blk_frozen BK267.out 2
  have hfz13_3 := blk_frozen BK267.out 3
  try go_wp2_with (first | ((with_reducible refine gate_dst (N := 181) rfl ?_); (try (refine gate_guard (by rfl) ?_; dsimp only)); refine li 181 3 Ny268.out ?_; intro v269 w14 ho15 hb; have HO270 := Aside0.mk (Kd.R_lower ho15 (below_size BA)); replace BK267 := kb BK267 hb; replace HB := bs hb; clear hb ho15; obtain ⟨Ao16, co16, eo16⟩ := Kd.R_slice HO270.out; subst eo16) | ((with_reducible refine gate_callee (f := 84) rfl ?_); refine gK (some 182) Try.func84 #[.slice (some ad266) l0.length c0, .int .i64 ((rd_T54 l0 a1).f1), .int .i64 ((rd_T54 l0 a1).f2), .string (⟨#[115, 104, 108]⟩ : ByteArray), .slice Ao16 y268.length co16] rfl rfl rfl ?_; (with_reducible refine (spec_cvDeep.calls k _ _ l0 ((rd_T54 l0 a1).f1) ((rd_T54 l0 a1).f2) (⟨#[115, 104, 108]⟩ : ByteArray) _ _ y268 t271 t272 t273 _ ?side1 ?side2 ?side3 ?side4 A7.out).mono ?_); (case side1 => exact cb (Kd.C_below HR0.out HB.out)); (case side2 => exact HC0.out); (case side3 => exact cb (Kd.R_reads' HO270.out).2.2); (case side4 => exact (Kd.R_reads' HO270.out).2.1); rintro e w17 ⟨v274, v276, rfl, ho0, ho1, hb⟩; refine ⟨_, rfl, ?_⟩; have HO275 := Aside0.mk (Kd.R_lower (Kd.R_new' ho0 (Kd.R_lt (rb HO270.out))) (below_size BA)); have HO277 := Aside0.mk (Kd.R_lower (Kd.R_new' ho1 (Kd.R_lt (rb HO270.out))) (below_size BA)); replace HO270 := Aside0.mk (Kd.R_mono (Kd.R_told (Kd.R_told (Kd.R_old (rb HO270.out) hb) (Kd.R_base ho0)) (Kd.R_base ho1)) (fun _ h_ => h_.1)); replace BK267 := kb BK267 hb; replace HB := bs hb; (try clear hb); (try clear ho0); (try clear ho1)))
  go_ret3
  exact ⟨_, _, EQ, rb (Kd.R_mono HO275.out (fun _ hk => hk.1)), rb (Kd.R_mono HO277.out (fun _ hk => hk.1)), BA⟩
 ·rw [if_neg c6] at H
  have c6b0 := beq_eq_false_iff_ne.mpr c6
  have c6b1 := bne_iff_ne.mpr c6
  simp only [Option.some.injEq, Prod.mk.injEq] at H
  obtain ⟨rfl, rfl, rfl⟩ := H
  have p266 : 0 ≤ (a1 : Int) := DT
  have q266 : a1 < (l0.length : Int) := DT
  obtain ⟨ad266, e266, hx266_0, hx266_1, hx266_2, hx266_3⟩ := at_T54 HR0.out a1 p266 q266
  cases e266
  replace p266 := eq_true p266
  replace q266 := eq_true q266
  go_enter Try.func53, Try.ntmps53
  try go_wp2_with (first | ((with_reducible refine gd 9 rfl ?_); (try (refine gate_guard (by rfl) ?_; dsimp only)); refine bx 9 #[.string (⟨#[]⟩ : ByteArray), .int .i64 0, .int .i64 0, .int .i64 0] 54 ?_; intro gb267 hg w18 BK267 GW267 HB hb; have GE267 := GW267; clear hb hg; obtain ⟨hcz19_0, hcz19_1, hcz19_2, hcz19_3⟩ := bc4 BK267.out; have hfz19 := blk_frozen BK267.out))
  have n0_ : Aside0 (((((w18.setCell ⟨gb267, 0, none⟩ (.string ((rd_T54 l0 a1).f0))).setCell ⟨gb267, 1, none⟩ (.int .i64 ((rd_T54 l0 a1).f1))).setCell ⟨gb267, 2, none⟩ (.int .i64 ((rd_T54 l0 a1).f2))).setCell ⟨gb267, 3, none⟩ (.int .i64 ((rd_T54 l0 a1).f3))).heap[gb267]? = some (.cells #[.string ((rd_T54 l0 a1).f0), .int .i64 ((rd_T54 l0 a1).f1), .int .i64 ((rd_T54 l0 a1).f2), .int .i64 ((rd_T54 l0 a1).f3)] 54 (0, 0))) := ⟨by (with_reducible repeat (first | refine blk_drewN ?_ _ | refine blk_drew ?_ | refine blk_alloc ?_ _)); refine blk_put (cs := #[.string ((rd_T54 l0 a1).f0), .int .i64 ((rd_T54 l0 a1).f1), .int .i64 ((rd_T54 l0 a1).f2), .int .i64 0]) ?_ 3 _ rfl; (with_reducible repeat (first | refine blk_drewN ?_ _ | refine blk_drew ?_ | refine blk_alloc ?_ _)); refine blk_put (cs := #[.string ((rd_T54 l0 a1).f0), .int .i64 ((rd_T54 l0 a1).f1), .int .i64 0, .int .i64 0]) ?_ 2 _ rfl; (with_reducible repeat (first | refine blk_drewN ?_ _ | refine blk_drew ?_ | refine blk_alloc ?_ _)); refine blk_put (cs := #[.string ((rd_T54 l0 a1).f0), .int .i64 0, .int .i64 0, .int .i64 0]) ?_ 1 _ rfl; (with_reducible repeat (first | refine blk_drewN ?_ _ | refine blk_drew ?_ | refine blk_alloc ?_ _)); refine blk_put (cs := #[.string (⟨#[]⟩ : ByteArray), .int .i64 0, .int .i64 0, .int .i64 0]) ?_ 0 _ rfl; (with_reducible repeat (first | refine blk_drewN ?_ _ | refine blk_drew ?_ | refine blk_alloc ?_ _)); exact BK267.out⟩
  have n1_ : Aside0 (Below w.heap.size w ((((w18.setCell ⟨gb267, 0, none⟩ (.string ((rd_T54 l0 a1).f0))).setCell ⟨gb267, 1, none⟩ (.int .i64 ((rd_T54 l0 a1).f1))).setCell ⟨gb267, 2, none⟩ (.int .i64 ((rd_T54 l0 a1).f2))).setCell ⟨gb267, 3, none⟩ (.int .i64 ((rd_T54 l0 a1).f3)))) := ⟨BA⟩
  (try clear BK267)
  (try clear HB)
  generalize ((((w18.setCell ⟨gb267, 0, none⟩ (.string ((rd_T54 l0 a1).f0))).setCell ⟨gb267, 1, none⟩ (.int .i64 ((rd_T54 l0 a1).f1))).setCell ⟨gb267, 2, none⟩ (.int .i64 ((rd_T54 l0 a1).f2))).setCell ⟨gb267, 3, none⟩ (.int .i64 ((rd_T54 l0 a1).f3))) = w20 at n0_ n1_ ⊢
  have BK267 := n0_
  have HB := n1_
  clear n0_ n1_
  replace BK267 := Aside0.mk (blk_drew BK267.out); replace HB := Aside0.mk (below_drew1 HB.out)
  refine start_ (n := 18) (S := fun w' => True) (ds := []) (mk 18 0) (by kernel_rfl) rfl (by kernel_rfl) trivial (fun hHeld => ?_); refine with_tabW spec_cvTile_at9.tab10 spec_cvTile_at9.bits10 (fun HT_ HW_ => ?_)
  generalize w20.drew = w21 at BK267 HB hHeld ⊢
  refine pu 0 51 18 1 rfl rfl ?_
  refine pu 1 52 18 3 rfl rfl ?_
  refine pu 2 53 18 7 rfl rfl ?_
  refine pos [(3, some 54), (4, some 55), (5, some 56), (6, some 57)] 18 127 11 ?_
  refine pu 7 58 18 255 rfl rfl ?_
  refine pu 8 59 18 511 rfl rfl ?_
  refine pos [(9, some 60), (10, some 61), (11, some 62), (12, some 63), (13, some 64), (14, some 65), (15, some 66)] 18 65535 2 ?_
  refine pu 16 67 18 131071 rfl rfl ?_
  refine pu 17 50 18 262143 rfl rfl ?_
  refine done_ (done_of HT_.out (by kernel_rfl)) ?_
  try go_wp2
  replace BK267 := Aside0.mk (blk_drew BK267.out); replace HB := Aside0.mk (below_drew1 HB.out)
  refine start_ (n := 18) (S := fun w' => True) (ds := []) (mk 18 0) (by kernel_rfl) rfl (by kernel_rfl) trivial (fun hHeld => ?_); refine with_tabW spec_cvTile_at9.tab12 spec_cvTile_at9.bits12 (fun HT_ HW_ => ?_)
  generalize w21.drew = w22 at BK267 HB hHeld ⊢
  refine pu 0 75 18 1 rfl rfl ?_
  refine pu 1 76 18 3 rfl rfl ?_
  refine pu 2 77 18 7 rfl rfl ?_
  refine pos [(3, some 78), (4, some 79), (5, some 80), (6, some 81)] 18 127 11 ?_
  refine pu 7 82 18 255 rfl rfl ?_
  refine pu 8 83 18 511 rfl rfl ?_
  refine pos [(9, some 84), (10, some 85), (11, some 86), (12, some 87), (13, some 88), (14, some 89), (15, some 90)] 18 65535 2 ?_
  refine pu 16 91 18 131071 rfl rfl ?_
  refine pu 17 74 18 262143 rfl rfl ?_
  refine done_ (done_of HT_.out (by kernel_rfl)) ?_
  obtain ⟨hcz23_0, hcz23_1, hcz23_2, hcz23_3⟩ := bc4 BK267.out
  have hfz23 := blk_frozen BK267.out
  have hfz23_1 := blk_frozen BK267.out 1
  have hfz23_2 := blk_frozen BK267.out 2
  have hfz23_3 := blk_frozen BK267.out 3
  try go_wp2
  go_ret3
  exact ⟨_, _, EQ, by first | exact Kd.R_nil _ _ _ _ _ | exact Kd.N_nil _ _ _ _ _ | exact Kd.V_nil _ _ _ _ _ | exact Kd.Q_nil _ _ _ _ _ | exact Kd.S_nil _ _ _ _ _, by first | exact Kd.R_nil _ _ _ _ _ | exact Kd.N_nil _ _ _ _ _ | exact Kd.V_nil _ _ _ _ _ | exact Kd.Q_nil _ _ _ _ _ | exact Kd.S_nil _ _ _ _ _, BA⟩

/-! ### spec_cvTile_at10: function 53 -/
def spec_cvTile_at10.f (k : Nat) (l0 : List (S54)) (a1 : Int)  : Option (List Int × List Int × Bool) := if 0 ≤ a1 then (if a1 < (l0.length : Int) then (if ((rd_T54 l0 a1).f0).toList = ([97, 100, 100] : List UInt8) then ((spec_cvDeep.f k l0 ((rd_T54 l0 a1).f2) ((rd_T54 l0 a1).f1) (⟨#[115, 104, 108]⟩ : ByteArray) (([1, 2, 3] : List Int))).bind fun bt283 => (some (bt283.1, bt283.2.1, bt283.2.2))) else (some (([] : List Int), ([] : List Int), false))) else (none)) else (none)
def spec_cvTile_at10.T10 : Bool × List (List Nat × List Nat) := (true, [([], []), ([0], [0]), ([1], [1]), ([2], [2]), ([2], [2]), ([4, 2], [2, 4]), ([3, 5, 2, 2], [2, 3, 5]), ([2, 6], [2, 6]), ([7, 6], [7]), ([8], [8]), ([8], [8]), ([10, 8], [8, 10]), ([9, 11, 8], [8, 9, 11]), ([12, 8], [8, 12]), ([8, 8], [8]), ([13, 14, 14, 8], [8, 13, 14]), ([8, 15], [8, 15]), ([16, 15], [16])])
def spec_cvTile_at10.B10 : List Nat := [0, 1, 3, 7, 7, 23, 63, 127, 255, 511, 511, 1535, 4095, 8191, 511, 32767, 65535, 131071]
theorem spec_cvTile_at10.tab10 : rtab .any (opsOf Try.f53 10) = spec_cvTile_at10.T10 := by kernel_rfl
theorem spec_cvTile_at10.bits10 : waitsOk spec_cvTile_at10.T10.2 spec_cvTile_at10.B10 = true := by kernel_rfl
def spec_cvTile_at10.T12 : Bool × List (List Nat × List Nat) := (true, [([], []), ([0], [0]), ([1], [1]), ([2], [2]), ([2], [2]), ([4, 2], [2, 4]), ([3, 5, 2, 2], [2, 3, 5]), ([2, 6], [2, 6]), ([7, 6], [7]), ([8], [8]), ([8], [8]), ([10, 8], [8, 10]), ([9, 11, 8], [8, 9, 11]), ([12, 8], [8, 12]), ([8, 8], [8]), ([13, 14, 14, 8], [8, 13, 14]), ([8, 15], [8, 15]), ([16, 15], [16])])
def spec_cvTile_at10.B12 : List Nat := [0, 1, 3, 7, 7, 23, 63, 127, 255, 511, 511, 1535, 4095, 8191, 511, 32767, 65535, 131071]
theorem spec_cvTile_at10.tab12 : rtab .any (opsOf Try.f53 12) = spec_cvTile_at10.T12 := by kernel_rfl
theorem spec_cvTile_at10.bits12 : waitsOk spec_cvTile_at10.T12.2 spec_cvTile_at10.B12 = true := by kernel_rfl
theorem spec_cvTile_at10.calls (k : Nat) (A0 : Option Addr) (c0 : Nat) (l0 : List (S54)) (a1 : Int)  (r1 : List Int) (r2 : List Int) (r3 : Bool) (w : World) (hr0 : Kd.C k54 w A0 l0.length l0) (hc0 : l0.length ≤ c0) (h : spec_cvTile_at10.f k l0 a1 = some (r1, r2, r3)) :
  Calls Try.prog 53 #[.slice A0 l0.length c0, .int .i64 a1, .int .i64 10] w fun e w' => ∃ v0_ v1_ : Value, e = .returned (.tuple #[v0_, v1_, .bool r3]) ∧ Kd.R (Kd.int .i64) 3 w' w.heap.size (fun k_ => some k_ ≠ (v1_ : Value).ownBlock) v0_ r1 ∧ Kd.R (Kd.int .i64) 3 w' w.heap.size (fun k_ => some k_ ≠ (v0_ : Value).ownBlock) v1_ r2 ∧ Below w.heap.size w w' := by
 have hu54 := Try.underlying54
 have HR0 := Aside0.mk hr0
 have HC0 := Aside0.mk hc0
 clear hr0 hc0
 have HB := Aside0.mk (Below.refl w.heap.size w)
 have H := h
 clear h
 unfold spec_cvTile_at10.f at H
 obtain ⟨c4, H⟩ := ifs H
 have c4b0 := decide_eq_true c4
 clear c4
 obtain ⟨c5, H⟩ := ifs H
 have c5b0 := decide_eq_true c5
 clear c5
 by_cases c6 : ((rd_T54 l0 a1).f0).toList = ([97, 100, 100] : List UInt8)
 ·rw [if_pos c6] at H
  have c6b0 := beq_iff_eq.mpr c6
  have c6b1 := bne_eq_false_iff_eq.mpr c6
  clear c6
  obtain ⟨y280, hy280⟩ : ∃ y_ : List Int, y_ = (([1, 2, 3] : List Int)) := ⟨_, rfl⟩
  replace H : ((spec_cvDeep.f k l0 ((rd_T54 l0 a1).f2) ((rd_T54 l0 a1).f1) (⟨#[115, 104, 108]⟩ : ByteArray) y280).bind fun bt283 => (some (bt283.1, bt283.2.1, bt283.2.2))) = some (r1, r2, r3) := by first | (rw [hy280]; with_reducible exact H) | (have H2_ := (Option.bind_some _ _).symm.trans H; rw [hy280]; with_reducible exact H2_) | (have H2_ := (Option.bind_some _ _).symm.trans H; with_reducible exact H2_) | with_reducible exact H | (rw [hy280]; exact H) | exact H
  have Ny280 := Aside0.mk hy280
  clear hy280
  replace H := Option.bind_eq_some_iff.mp H
  obtain ⟨⟨t283, t284, t285⟩, A70, H⟩ := H
  (try dsimp only at H)
  have A7 := Aside0.mk A70
  clear A70
  simp only [Option.some.injEq, Prod.mk.injEq] at H
  obtain ⟨rfl, rfl, rfl⟩ := H
  have p278 : 0 ≤ (a1 : Int) := DT
  have q278 : a1 < (l0.length : Int) := DT
  obtain ⟨ad278, e278, hx278_0, hx278_1, hx278_2, hx278_3⟩ := at_T54 HR0.out a1 p278 q278
  cases e278
  replace p278 := eq_true p278
  replace q278 := eq_true q278
  go_enter Try.func53, Try.ntmps53
  try go_wp2_with (first | ((with_reducible refine gd 9 rfl ?_); (try (refine gate_guard (by rfl) ?_; dsimp only)); refine bx 9 #[.string (⟨#[]⟩ : ByteArray), .int .i64 0, .int .i64 0, .int .i64 0] 54 ?_; intro gb279 hg w8 BK279 GW279 HB hb; have GE279 := GW279; clear hb hg; obtain ⟨hcz9_0, hcz9_1, hcz9_2, hcz9_3⟩ := bc4 BK279.out; have hfz9 := blk_frozen BK279.out))
  have n0_ : Aside0 (((((w8.setCell ⟨gb279, 0, none⟩ (.string ((rd_T54 l0 a1).f0))).setCell ⟨gb279, 1, none⟩ (.int .i64 ((rd_T54 l0 a1).f1))).setCell ⟨gb279, 2, none⟩ (.int .i64 ((rd_T54 l0 a1).f2))).setCell ⟨gb279, 3, none⟩ (.int .i64 ((rd_T54 l0 a1).f3))).heap[gb279]? = some (.cells #[.string ((rd_T54 l0 a1).f0), .int .i64 ((rd_T54 l0 a1).f1), .int .i64 ((rd_T54 l0 a1).f2), .int .i64 ((rd_T54 l0 a1).f3)] 54 (0, 0))) := ⟨by (with_reducible repeat (first | refine blk_drewN ?_ _ | refine blk_drew ?_ | refine blk_alloc ?_ _)); refine blk_put (cs := #[.string ((rd_T54 l0 a1).f0), .int .i64 ((rd_T54 l0 a1).f1), .int .i64 ((rd_T54 l0 a1).f2), .int .i64 0]) ?_ 3 _ rfl; (with_reducible repeat (first | refine blk_drewN ?_ _ | refine blk_drew ?_ | refine blk_alloc ?_ _)); refine blk_put (cs := #[.string ((rd_T54 l0 a1).f0), .int .i64 ((rd_T54 l0 a1).f1), .int .i64 0, .int .i64 0]) ?_ 2 _ rfl; (with_reducible repeat (first | refine blk_drewN ?_ _ | refine blk_drew ?_ | refine blk_alloc ?_ _)); refine blk_put (cs := #[.string ((rd_T54 l0 a1).f0), .int .i64 0, .int .i64 0, .int .i64 0]) ?_ 1 _ rfl; (with_reducible repeat (first | refine blk_drewN ?_ _ | refine blk_drew ?_ | refine blk_alloc ?_ _)); refine blk_put (cs := #[.string (⟨#[]⟩ : ByteArray), .int .i64 0, .int .i64 0, .int .i64 0]) ?_ 0 _ rfl; (with_reducible repeat (first | refine blk_drewN ?_ _ | refine blk_drew ?_ | refine blk_alloc ?_ _)); exact BK279.out⟩
  have n1_ : Aside0 (Below w.heap.size w ((((w8.setCell ⟨gb279, 0, none⟩ (.string ((rd_T54 l0 a1).f0))).setCell ⟨gb279, 1, none⟩ (.int .i64 ((rd_T54 l0 a1).f1))).setCell ⟨gb279, 2, none⟩ (.int .i64 ((rd_T54 l0 a1).f2))).setCell ⟨gb279, 3, none⟩ (.int .i64 ((rd_T54 l0 a1).f3)))) := ⟨BA⟩
  (try clear BK279)
  (try clear HB)
  generalize ((((w8.setCell ⟨gb279, 0, none⟩ (.string ((rd_T54 l0 a1).f0))).setCell ⟨gb279, 1, none⟩ (.int .i64 ((rd_T54 l0 a1).f1))).setCell ⟨gb279, 2, none⟩ (.int .i64 ((rd_T54 l0 a1).f2))).setCell ⟨gb279, 3, none⟩ (.int .i64 ((rd_T54 l0 a1).f3))) = w10 at n0_ n1_ ⊢
  have BK279 := n0_
  have HB := n1_
  clear n0_ n1_
  replace BK279 := Aside0.mk (blk_drew BK279.out); replace HB := Aside0.mk (below_drew1 HB.out)
  refine start_ (n := 18) (S := fun w' => True) (ds := []) (mk 18 0) (by kernel_rfl) rfl (by kernel_rfl) trivial (fun hHeld => ?_); refine with_tabW spec_cvTile_at10.tab10 spec_cvTile_at10.bits10 (fun HT_ HW_ => ?_)
  generalize w10.drew = w11 at BK279 HB hHeld ⊢
  refine pu 0 51 18 1 rfl rfl ?_
  refine pu 1 52 18 3 rfl rfl ?_
  refine pu 2 53 18 7 rfl rfl ?_
  refine pos [(3, some 54), (4, some 55), (5, some 56), (6, some 57)] 18 127 11 ?_
  refine pu 7 58 18 255 rfl rfl ?_
  refine pu 8 59 18 511 rfl rfl ?_
  refine pos [(9, some 60), (10, some 61), (11, some 62), (12, some 63), (13, some 64), (14, some 65), (15, some 66)] 18 65535 2 ?_
  refine pu 16 67 18 131071 rfl rfl ?_
  refine pu 17 50 18 262143 rfl rfl ?_
  refine done_ (done_of HT_.out (by kernel_rfl)) ?_
  try go_wp2
  replace BK279 := Aside0.mk (blk_drew BK279.out); replace HB := Aside0.mk (below_drew1 HB.out)
  refine start_ (n := 18) (S := fun w' => True) (ds := []) (mk 18 0) (by kernel_rfl) rfl (by kernel_rfl) trivial (fun hHeld => ?_); refine with_tabW spec_cvTile_at10.tab12 spec_cvTile_at10.bits12 (fun HT_ HW_ => ?_)
  generalize w11.drew = w12 at BK279 HB hHeld ⊢
  refine pu 0 75 18 1 rfl rfl ?_
  refine pu 1 76 18 3 rfl rfl ?_
  refine pu 2 77 18 7 rfl rfl ?_
  refine pos [(3, some 78), (4, some 79), (5, some 80), (6, some 81)] 18 127 11 ?_
  refine pu 7 82 18 255 rfl rfl ?_
  refine pu 8 83 18 511 rfl rfl ?_
  refine pos [(9, some 84), (10, some 85), (11, some 86), (12, some 87), (13, some 88), (14, some 89), (15, some 90)] 18 65535 2 ?_
  refine pu 16 91 18 131071 rfl rfl ?_
  refine pu 17 74 18 262143 rfl rfl ?_
  refine done_ (done_of HT_.out (by kernel_rfl)) ?_
  obtain ⟨hcz13_0, hcz13_1, hcz13_2, hcz13_3⟩ := bc4 BK279.out
  have hfz13 := blk_frozen BK279.out
  have hfz13_1 := blk_frozen BK279.out 1
  have hfz13_2 := blk_frozen BK279.out 2
  have hfz13_3 := blk_frozen BK279.out 3
  try go_wp2_with (first | ((with_reducible refine gate_dst (N := 199) rfl ?_); (try (refine gate_guard (by rfl) ?_; dsimp only)); refine li 199 3 Ny280.out ?_; intro v281 w14 ho15 hb; have HO282 := Aside0.mk (Kd.R_lower ho15 (below_size BA)); replace BK279 := kb BK279 hb; replace HB := bs hb; clear hb ho15; obtain ⟨Ao16, co16, eo16⟩ := Kd.R_slice HO282.out; subst eo16) | ((with_reducible refine gate_callee (f := 84) rfl ?_); refine gK (some 200) Try.func84 #[.slice (some ad278) l0.length c0, .int .i64 ((rd_T54 l0 a1).f2), .int .i64 ((rd_T54 l0 a1).f1), .string (⟨#[115, 104, 108]⟩ : ByteArray), .slice Ao16 y280.length co16] rfl rfl rfl ?_; (with_reducible refine (spec_cvDeep.calls k _ _ l0 ((rd_T54 l0 a1).f2) ((rd_T54 l0 a1).f1) (⟨#[115, 104, 108]⟩ : ByteArray) _ _ y280 t283 t284 t285 _ ?side1 ?side2 ?side3 ?side4 A7.out).mono ?_); (case side1 => exact cb (Kd.C_below HR0.out HB.out)); (case side2 => exact HC0.out); (case side3 => exact cb (Kd.R_reads' HO282.out).2.2); (case side4 => exact (Kd.R_reads' HO282.out).2.1); rintro e w17 ⟨v286, v288, rfl, ho0, ho1, hb⟩; refine ⟨_, rfl, ?_⟩; have HO287 := Aside0.mk (Kd.R_lower (Kd.R_new' ho0 (Kd.R_lt (rb HO282.out))) (below_size BA)); have HO289 := Aside0.mk (Kd.R_lower (Kd.R_new' ho1 (Kd.R_lt (rb HO282.out))) (below_size BA)); replace HO282 := Aside0.mk (Kd.R_mono (Kd.R_told (Kd.R_told (Kd.R_old (rb HO282.out) hb) (Kd.R_base ho0)) (Kd.R_base ho1)) (fun _ h_ => h_.1)); replace BK279 := kb BK279 hb; replace HB := bs hb; (try clear hb); (try clear ho0); (try clear ho1)))
  go_ret3
  exact ⟨_, _, EQ, rb (Kd.R_mono HO287.out (fun _ hk => hk.1)), rb (Kd.R_mono HO289.out (fun _ hk => hk.1)), BA⟩
 ·rw [if_neg c6] at H
  have c6b0 := beq_eq_false_iff_ne.mpr c6
  have c6b1 := bne_iff_ne.mpr c6
  simp only [Option.some.injEq, Prod.mk.injEq] at H
  obtain ⟨rfl, rfl, rfl⟩ := H
  have p278 : 0 ≤ (a1 : Int) := DT
  have q278 : a1 < (l0.length : Int) := DT
  obtain ⟨ad278, e278, hx278_0, hx278_1, hx278_2, hx278_3⟩ := at_T54 HR0.out a1 p278 q278
  cases e278
  replace p278 := eq_true p278
  replace q278 := eq_true q278
  go_enter Try.func53, Try.ntmps53
  try go_wp2_with (first | ((with_reducible refine gd 9 rfl ?_); (try (refine gate_guard (by rfl) ?_; dsimp only)); refine bx 9 #[.string (⟨#[]⟩ : ByteArray), .int .i64 0, .int .i64 0, .int .i64 0] 54 ?_; intro gb279 hg w18 BK279 GW279 HB hb; have GE279 := GW279; clear hb hg; obtain ⟨hcz19_0, hcz19_1, hcz19_2, hcz19_3⟩ := bc4 BK279.out; have hfz19 := blk_frozen BK279.out))
  have n0_ : Aside0 (((((w18.setCell ⟨gb279, 0, none⟩ (.string ((rd_T54 l0 a1).f0))).setCell ⟨gb279, 1, none⟩ (.int .i64 ((rd_T54 l0 a1).f1))).setCell ⟨gb279, 2, none⟩ (.int .i64 ((rd_T54 l0 a1).f2))).setCell ⟨gb279, 3, none⟩ (.int .i64 ((rd_T54 l0 a1).f3))).heap[gb279]? = some (.cells #[.string ((rd_T54 l0 a1).f0), .int .i64 ((rd_T54 l0 a1).f1), .int .i64 ((rd_T54 l0 a1).f2), .int .i64 ((rd_T54 l0 a1).f3)] 54 (0, 0))) := ⟨by (with_reducible repeat (first | refine blk_drewN ?_ _ | refine blk_drew ?_ | refine blk_alloc ?_ _)); refine blk_put (cs := #[.string ((rd_T54 l0 a1).f0), .int .i64 ((rd_T54 l0 a1).f1), .int .i64 ((rd_T54 l0 a1).f2), .int .i64 0]) ?_ 3 _ rfl; (with_reducible repeat (first | refine blk_drewN ?_ _ | refine blk_drew ?_ | refine blk_alloc ?_ _)); refine blk_put (cs := #[.string ((rd_T54 l0 a1).f0), .int .i64 ((rd_T54 l0 a1).f1), .int .i64 0, .int .i64 0]) ?_ 2 _ rfl; (with_reducible repeat (first | refine blk_drewN ?_ _ | refine blk_drew ?_ | refine blk_alloc ?_ _)); refine blk_put (cs := #[.string ((rd_T54 l0 a1).f0), .int .i64 0, .int .i64 0, .int .i64 0]) ?_ 1 _ rfl; (with_reducible repeat (first | refine blk_drewN ?_ _ | refine blk_drew ?_ | refine blk_alloc ?_ _)); refine blk_put (cs := #[.string (⟨#[]⟩ : ByteArray), .int .i64 0, .int .i64 0, .int .i64 0]) ?_ 0 _ rfl; (with_reducible repeat (first | refine blk_drewN ?_ _ | refine blk_drew ?_ | refine blk_alloc ?_ _)); exact BK279.out⟩
  have n1_ : Aside0 (Below w.heap.size w ((((w18.setCell ⟨gb279, 0, none⟩ (.string ((rd_T54 l0 a1).f0))).setCell ⟨gb279, 1, none⟩ (.int .i64 ((rd_T54 l0 a1).f1))).setCell ⟨gb279, 2, none⟩ (.int .i64 ((rd_T54 l0 a1).f2))).setCell ⟨gb279, 3, none⟩ (.int .i64 ((rd_T54 l0 a1).f3)))) := ⟨BA⟩
  (try clear BK279)
  (try clear HB)
  generalize ((((w18.setCell ⟨gb279, 0, none⟩ (.string ((rd_T54 l0 a1).f0))).setCell ⟨gb279, 1, none⟩ (.int .i64 ((rd_T54 l0 a1).f1))).setCell ⟨gb279, 2, none⟩ (.int .i64 ((rd_T54 l0 a1).f2))).setCell ⟨gb279, 3, none⟩ (.int .i64 ((rd_T54 l0 a1).f3))) = w20 at n0_ n1_ ⊢
  have BK279 := n0_
  have HB := n1_
  clear n0_ n1_
  replace BK279 := Aside0.mk (blk_drew BK279.out); replace HB := Aside0.mk (below_drew1 HB.out)
  refine start_ (n := 18) (S := fun w' => True) (ds := []) (mk 18 0) (by kernel_rfl) rfl (by kernel_rfl) trivial (fun hHeld => ?_); refine with_tabW spec_cvTile_at10.tab10 spec_cvTile_at10.bits10 (fun HT_ HW_ => ?_)
  generalize w20.drew = w21 at BK279 HB hHeld ⊢
  refine pu 0 51 18 1 rfl rfl ?_
  refine pu 1 52 18 3 rfl rfl ?_
  refine pu 2 53 18 7 rfl rfl ?_
  refine pos [(3, some 54), (4, some 55), (5, some 56), (6, some 57)] 18 127 11 ?_
  refine pu 7 58 18 255 rfl rfl ?_
  refine pu 8 59 18 511 rfl rfl ?_
  refine pos [(9, some 60), (10, some 61), (11, some 62), (12, some 63), (13, some 64), (14, some 65), (15, some 66)] 18 65535 2 ?_
  refine pu 16 67 18 131071 rfl rfl ?_
  refine pu 17 50 18 262143 rfl rfl ?_
  refine done_ (done_of HT_.out (by kernel_rfl)) ?_
  try go_wp2
  replace BK279 := Aside0.mk (blk_drew BK279.out); replace HB := Aside0.mk (below_drew1 HB.out)
  refine start_ (n := 18) (S := fun w' => True) (ds := []) (mk 18 0) (by kernel_rfl) rfl (by kernel_rfl) trivial (fun hHeld => ?_); refine with_tabW spec_cvTile_at10.tab12 spec_cvTile_at10.bits12 (fun HT_ HW_ => ?_)
  generalize w21.drew = w22 at BK279 HB hHeld ⊢
  refine pu 0 75 18 1 rfl rfl ?_
  refine pu 1 76 18 3 rfl rfl ?_
  refine pu 2 77 18 7 rfl rfl ?_
  refine pos [(3, some 78), (4, some 79), (5, some 80), (6, some 81)] 18 127 11 ?_
  refine pu 7 82 18 255 rfl rfl ?_
  refine pu 8 83 18 511 rfl rfl ?_
  refine pos [(9, some 84), (10, some 85), (11, some 86), (12, some 87), (13, some 88), (14, some 89), (15, some 90)] 18 65535 2 ?_
  refine pu 16 91 18 131071 rfl rfl ?_
  refine pu 17 74 18 262143 rfl rfl ?_
  refine done_ (done_of HT_.out (by kernel_rfl)) ?_
  obtain ⟨hcz23_0, hcz23_1, hcz23_2, hcz23_3⟩ := bc4 BK279.out
  have hfz23 := blk_frozen BK279.out
  have hfz23_1 := blk_frozen BK279.out 1
  have hfz23_2 := blk_frozen BK279.out 2
  have hfz23_3 := blk_frozen BK279.out 3
  try go_wp2
  go_ret3
  exact ⟨_, _, EQ, by first | exact Kd.R_nil _ _ _ _ _ | exact Kd.N_nil _ _ _ _ _ | exact Kd.V_nil _ _ _ _ _ | exact Kd.Q_nil _ _ _ _ _ | exact Kd.S_nil _ _ _ _ _, by first | exact Kd.R_nil _ _ _ _ _ | exact Kd.N_nil _ _ _ _ _ | exact Kd.V_nil _ _ _ _ _ | exact Kd.Q_nil _ _ _ _ _ | exact Kd.S_nil _ _ _ _ _, BA⟩

/-! ### spec_cvTile_at11: function 53 -/
def spec_cvTile_at11.f (k : Nat) (l0 : List (S54)) (a1 : Int)  : Option (List Int × List Int × Bool) := if 0 ≤ a1 then (if a1 < (l0.length : Int) then (if ((rd_T54 l0 a1).f0).toList = ([97, 100, 100] : List UInt8) then ((spec_cvDeep.f k l0 ((rd_T54 l0 a1).f1) ((rd_T54 l0 a1).f2) (⟨#[109, 117, 108]⟩ : ByteArray) (([2, 4, 8] : List Int))).bind fun bt295 => (some (bt295.1, bt295.2.1, bt295.2.2))) else (some (([] : List Int), ([] : List Int), false))) else (none)) else (none)
def spec_cvTile_at11.T10 : Bool × List (List Nat × List Nat) := (true, [([], []), ([0], [0]), ([1], [1]), ([2], [2]), ([2], [2]), ([4, 2], [2, 4]), ([3, 5, 2, 2], [2, 3, 5]), ([2, 6], [2, 6]), ([7, 6], [7]), ([8], [8]), ([8], [8]), ([10, 8], [8, 10]), ([9, 11, 8], [8, 9, 11]), ([12, 8], [8, 12]), ([8, 8], [8]), ([13, 14, 14, 8], [8, 13, 14]), ([8, 15], [8, 15]), ([16, 15], [16])])
def spec_cvTile_at11.B10 : List Nat := [0, 1, 3, 7, 7, 23, 63, 127, 255, 511, 511, 1535, 4095, 8191, 511, 32767, 65535, 131071]
theorem spec_cvTile_at11.tab10 : rtab .any (opsOf Try.f53 10) = spec_cvTile_at11.T10 := by kernel_rfl
theorem spec_cvTile_at11.bits10 : waitsOk spec_cvTile_at11.T10.2 spec_cvTile_at11.B10 = true := by kernel_rfl
def spec_cvTile_at11.T12 : Bool × List (List Nat × List Nat) := (true, [([], []), ([0], [0]), ([1], [1]), ([2], [2]), ([2], [2]), ([4, 2], [2, 4]), ([3, 5, 2, 2], [2, 3, 5]), ([2, 6], [2, 6]), ([7, 6], [7]), ([8], [8]), ([8], [8]), ([10, 8], [8, 10]), ([9, 11, 8], [8, 9, 11]), ([12, 8], [8, 12]), ([8, 8], [8]), ([13, 14, 14, 8], [8, 13, 14]), ([8, 15], [8, 15]), ([16, 15], [16])])
def spec_cvTile_at11.B12 : List Nat := [0, 1, 3, 7, 7, 23, 63, 127, 255, 511, 511, 1535, 4095, 8191, 511, 32767, 65535, 131071]
theorem spec_cvTile_at11.tab12 : rtab .any (opsOf Try.f53 12) = spec_cvTile_at11.T12 := by kernel_rfl
theorem spec_cvTile_at11.bits12 : waitsOk spec_cvTile_at11.T12.2 spec_cvTile_at11.B12 = true := by kernel_rfl
theorem spec_cvTile_at11.calls (k : Nat) (A0 : Option Addr) (c0 : Nat) (l0 : List (S54)) (a1 : Int)  (r1 : List Int) (r2 : List Int) (r3 : Bool) (w : World) (hr0 : Kd.C k54 w A0 l0.length l0) (hc0 : l0.length ≤ c0) (h : spec_cvTile_at11.f k l0 a1 = some (r1, r2, r3)) :
  Calls Try.prog 53 #[.slice A0 l0.length c0, .int .i64 a1, .int .i64 11] w fun e w' => ∃ v0_ v1_ : Value, e = .returned (.tuple #[v0_, v1_, .bool r3]) ∧ Kd.R (Kd.int .i64) 3 w' w.heap.size (fun k_ => some k_ ≠ (v1_ : Value).ownBlock) v0_ r1 ∧ Kd.R (Kd.int .i64) 3 w' w.heap.size (fun k_ => some k_ ≠ (v0_ : Value).ownBlock) v1_ r2 ∧ Below w.heap.size w w' := by
 have hu54 := Try.underlying54
 have HR0 := Aside0.mk hr0
 have HC0 := Aside0.mk hc0
 clear hr0 hc0
 have HB := Aside0.mk (Below.refl w.heap.size w)
 have H := h
 clear h
 unfold spec_cvTile_at11.f at H
 obtain ⟨c4, H⟩ := ifs H
 have c4b0 := decide_eq_true c4
 clear c4
 obtain ⟨c5, H⟩ := ifs H
 have c5b0 := decide_eq_true c5
 clear c5
 by_cases c6 : ((rd_T54 l0 a1).f0).toList = ([97, 100, 100] : List UInt8)
 ·rw [if_pos c6] at H
  have c6b0 := beq_iff_eq.mpr c6
  have c6b1 := bne_eq_false_iff_eq.mpr c6
  clear c6
  obtain ⟨y292, hy292⟩ : ∃ y_ : List Int, y_ = (([2, 4, 8] : List Int)) := ⟨_, rfl⟩
  replace H : ((spec_cvDeep.f k l0 ((rd_T54 l0 a1).f1) ((rd_T54 l0 a1).f2) (⟨#[109, 117, 108]⟩ : ByteArray) y292).bind fun bt295 => (some (bt295.1, bt295.2.1, bt295.2.2))) = some (r1, r2, r3) := by first | (rw [hy292]; with_reducible exact H) | (have H2_ := (Option.bind_some _ _).symm.trans H; rw [hy292]; with_reducible exact H2_) | (have H2_ := (Option.bind_some _ _).symm.trans H; with_reducible exact H2_) | with_reducible exact H | (rw [hy292]; exact H) | exact H
  have Ny292 := Aside0.mk hy292
  clear hy292
  replace H := Option.bind_eq_some_iff.mp H
  obtain ⟨⟨t295, t296, t297⟩, A70, H⟩ := H
  (try dsimp only at H)
  have A7 := Aside0.mk A70
  clear A70
  simp only [Option.some.injEq, Prod.mk.injEq] at H
  obtain ⟨rfl, rfl, rfl⟩ := H
  have p290 : 0 ≤ (a1 : Int) := DT
  have q290 : a1 < (l0.length : Int) := DT
  obtain ⟨ad290, e290, hx290_0, hx290_1, hx290_2, hx290_3⟩ := at_T54 HR0.out a1 p290 q290
  cases e290
  replace p290 := eq_true p290
  replace q290 := eq_true q290
  go_enter Try.func53, Try.ntmps53
  try go_wp2_with (first | ((with_reducible refine gd 9 rfl ?_); (try (refine gate_guard (by rfl) ?_; dsimp only)); refine bx 9 #[.string (⟨#[]⟩ : ByteArray), .int .i64 0, .int .i64 0, .int .i64 0] 54 ?_; intro gb291 hg w8 BK291 GW291 HB hb; have GE291 := GW291; clear hb hg; obtain ⟨hcz9_0, hcz9_1, hcz9_2, hcz9_3⟩ := bc4 BK291.out; have hfz9 := blk_frozen BK291.out))
  have n0_ : Aside0 (((((w8.setCell ⟨gb291, 0, none⟩ (.string ((rd_T54 l0 a1).f0))).setCell ⟨gb291, 1, none⟩ (.int .i64 ((rd_T54 l0 a1).f1))).setCell ⟨gb291, 2, none⟩ (.int .i64 ((rd_T54 l0 a1).f2))).setCell ⟨gb291, 3, none⟩ (.int .i64 ((rd_T54 l0 a1).f3))).heap[gb291]? = some (.cells #[.string ((rd_T54 l0 a1).f0), .int .i64 ((rd_T54 l0 a1).f1), .int .i64 ((rd_T54 l0 a1).f2), .int .i64 ((rd_T54 l0 a1).f3)] 54 (0, 0))) := ⟨by (with_reducible repeat (first | refine blk_drewN ?_ _ | refine blk_drew ?_ | refine blk_alloc ?_ _)); refine blk_put (cs := #[.string ((rd_T54 l0 a1).f0), .int .i64 ((rd_T54 l0 a1).f1), .int .i64 ((rd_T54 l0 a1).f2), .int .i64 0]) ?_ 3 _ rfl; (with_reducible repeat (first | refine blk_drewN ?_ _ | refine blk_drew ?_ | refine blk_alloc ?_ _)); refine blk_put (cs := #[.string ((rd_T54 l0 a1).f0), .int .i64 ((rd_T54 l0 a1).f1), .int .i64 0, .int .i64 0]) ?_ 2 _ rfl; (with_reducible repeat (first | refine blk_drewN ?_ _ | refine blk_drew ?_ | refine blk_alloc ?_ _)); refine blk_put (cs := #[.string ((rd_T54 l0 a1).f0), .int .i64 0, .int .i64 0, .int .i64 0]) ?_ 1 _ rfl; (with_reducible repeat (first | refine blk_drewN ?_ _ | refine blk_drew ?_ | refine blk_alloc ?_ _)); refine blk_put (cs := #[.string (⟨#[]⟩ : ByteArray), .int .i64 0, .int .i64 0, .int .i64 0]) ?_ 0 _ rfl; (with_reducible repeat (first | refine blk_drewN ?_ _ | refine blk_drew ?_ | refine blk_alloc ?_ _)); exact BK291.out⟩
  have n1_ : Aside0 (Below w.heap.size w ((((w8.setCell ⟨gb291, 0, none⟩ (.string ((rd_T54 l0 a1).f0))).setCell ⟨gb291, 1, none⟩ (.int .i64 ((rd_T54 l0 a1).f1))).setCell ⟨gb291, 2, none⟩ (.int .i64 ((rd_T54 l0 a1).f2))).setCell ⟨gb291, 3, none⟩ (.int .i64 ((rd_T54 l0 a1).f3)))) := ⟨BA⟩
  (try clear BK291)
  (try clear HB)
  generalize ((((w8.setCell ⟨gb291, 0, none⟩ (.string ((rd_T54 l0 a1).f0))).setCell ⟨gb291, 1, none⟩ (.int .i64 ((rd_T54 l0 a1).f1))).setCell ⟨gb291, 2, none⟩ (.int .i64 ((rd_T54 l0 a1).f2))).setCell ⟨gb291, 3, none⟩ (.int .i64 ((rd_T54 l0 a1).f3))) = w10 at n0_ n1_ ⊢
  have BK291 := n0_
  have HB := n1_
  clear n0_ n1_
  replace BK291 := Aside0.mk (blk_drew BK291.out); replace HB := Aside0.mk (below_drew1 HB.out)
  refine start_ (n := 18) (S := fun w' => True) (ds := []) (mk 18 0) (by kernel_rfl) rfl (by kernel_rfl) trivial (fun hHeld => ?_); refine with_tabW spec_cvTile_at11.tab10 spec_cvTile_at11.bits10 (fun HT_ HW_ => ?_)
  generalize w10.drew = w11 at BK291 HB hHeld ⊢
  refine pu 0 51 18 1 rfl rfl ?_
  refine pu 1 52 18 3 rfl rfl ?_
  refine pu 2 53 18 7 rfl rfl ?_
  refine pos [(3, some 54), (4, some 55), (5, some 56), (6, some 57)] 18 127 11 ?_
  refine pu 7 58 18 255 rfl rfl ?_
  refine pu 8 59 18 511 rfl rfl ?_
  refine pos [(9, some 60), (10, some 61), (11, some 62), (12, some 63), (13, some 64), (14, some 65), (15, some 66)] 18 65535 2 ?_
  refine pu 16 67 18 131071 rfl rfl ?_
  refine pu 17 50 18 262143 rfl rfl ?_
  refine done_ (done_of HT_.out (by kernel_rfl)) ?_
  try go_wp2
  replace BK291 := Aside0.mk (blk_drew BK291.out); replace HB := Aside0.mk (below_drew1 HB.out)
  refine start_ (n := 18) (S := fun w' => True) (ds := []) (mk 18 0) (by kernel_rfl) rfl (by kernel_rfl) trivial (fun hHeld => ?_); refine with_tabW spec_cvTile_at11.tab12 spec_cvTile_at11.bits12 (fun HT_ HW_ => ?_)
  generalize w11.drew = w12 at BK291 HB hHeld ⊢
  refine pu 0 75 18 1 rfl rfl ?_
  refine pu 1 76 18 3 rfl rfl ?_
  refine pu 2 77 18 7 rfl rfl ?_
  refine pos [(3, some 78), (4, some 79), (5, some 80), (6, some 81)] 18 127 11 ?_
  refine pu 7 82 18 255 rfl rfl ?_
  refine pu 8 83 18 511 rfl rfl ?_
  refine pos [(9, some 84), (10, some 85), (11, some 86), (12, some 87), (13, some 88), (14, some 89), (15, some 90)] 18 65535 2 ?_
  refine pu 16 91 18 131071 rfl rfl ?_
  refine pu 17 74 18 262143 rfl rfl ?_
  refine done_ (done_of HT_.out (by kernel_rfl)) ?_
  obtain ⟨hcz13_0, hcz13_1, hcz13_2, hcz13_3⟩ := bc4 BK291.out
  have hfz13 := blk_frozen BK291.out
  have hfz13_1 := blk_frozen BK291.out 1
  have hfz13_2 := blk_frozen BK291.out 2
  have hfz13_3 := blk_frozen BK291.out 3
  try go_wp2_with (first | ((with_reducible refine gate_dst (N := 217) rfl ?_); (try (refine gate_guard (by rfl) ?_; dsimp only)); refine li 217 3 Ny292.out ?_; intro v293 w14 ho15 hb; have HO294 := Aside0.mk (Kd.R_lower ho15 (below_size BA)); replace BK291 := kb BK291 hb; replace HB := bs hb; clear hb ho15; obtain ⟨Ao16, co16, eo16⟩ := Kd.R_slice HO294.out; subst eo16) | ((with_reducible refine gate_callee (f := 84) rfl ?_); refine gK (some 218) Try.func84 #[.slice (some ad290) l0.length c0, .int .i64 ((rd_T54 l0 a1).f1), .int .i64 ((rd_T54 l0 a1).f2), .string (⟨#[109, 117, 108]⟩ : ByteArray), .slice Ao16 y292.length co16] rfl rfl rfl ?_; (with_reducible refine (spec_cvDeep.calls k _ _ l0 ((rd_T54 l0 a1).f1) ((rd_T54 l0 a1).f2) (⟨#[109, 117, 108]⟩ : ByteArray) _ _ y292 t295 t296 t297 _ ?side1 ?side2 ?side3 ?side4 A7.out).mono ?_); (case side1 => exact cb (Kd.C_below HR0.out HB.out)); (case side2 => exact HC0.out); (case side3 => exact cb (Kd.R_reads' HO294.out).2.2); (case side4 => exact (Kd.R_reads' HO294.out).2.1); rintro e w17 ⟨v298, v300, rfl, ho0, ho1, hb⟩; refine ⟨_, rfl, ?_⟩; have HO299 := Aside0.mk (Kd.R_lower (Kd.R_new' ho0 (Kd.R_lt (rb HO294.out))) (below_size BA)); have HO301 := Aside0.mk (Kd.R_lower (Kd.R_new' ho1 (Kd.R_lt (rb HO294.out))) (below_size BA)); replace HO294 := Aside0.mk (Kd.R_mono (Kd.R_told (Kd.R_told (Kd.R_old (rb HO294.out) hb) (Kd.R_base ho0)) (Kd.R_base ho1)) (fun _ h_ => h_.1)); replace BK291 := kb BK291 hb; replace HB := bs hb; (try clear hb); (try clear ho0); (try clear ho1)))
  go_ret3
  exact ⟨_, _, EQ, rb (Kd.R_mono HO299.out (fun _ hk => hk.1)), rb (Kd.R_mono HO301.out (fun _ hk => hk.1)), BA⟩
 ·rw [if_neg c6] at H
  have c6b0 := beq_eq_false_iff_ne.mpr c6
  have c6b1 := bne_iff_ne.mpr c6
  simp only [Option.some.injEq, Prod.mk.injEq] at H
  obtain ⟨rfl, rfl, rfl⟩ := H
  have p290 : 0 ≤ (a1 : Int) := DT
  have q290 : a1 < (l0.length : Int) := DT
  obtain ⟨ad290, e290, hx290_0, hx290_1, hx290_2, hx290_3⟩ := at_T54 HR0.out a1 p290 q290
  cases e290
  replace p290 := eq_true p290
  replace q290 := eq_true q290
  go_enter Try.func53, Try.ntmps53
  try go_wp2_with (first | ((with_reducible refine gd 9 rfl ?_); (try (refine gate_guard (by rfl) ?_; dsimp only)); refine bx 9 #[.string (⟨#[]⟩ : ByteArray), .int .i64 0, .int .i64 0, .int .i64 0] 54 ?_; intro gb291 hg w18 BK291 GW291 HB hb; have GE291 := GW291; clear hb hg; obtain ⟨hcz19_0, hcz19_1, hcz19_2, hcz19_3⟩ := bc4 BK291.out; have hfz19 := blk_frozen BK291.out))
  have n0_ : Aside0 (((((w18.setCell ⟨gb291, 0, none⟩ (.string ((rd_T54 l0 a1).f0))).setCell ⟨gb291, 1, none⟩ (.int .i64 ((rd_T54 l0 a1).f1))).setCell ⟨gb291, 2, none⟩ (.int .i64 ((rd_T54 l0 a1).f2))).setCell ⟨gb291, 3, none⟩ (.int .i64 ((rd_T54 l0 a1).f3))).heap[gb291]? = some (.cells #[.string ((rd_T54 l0 a1).f0), .int .i64 ((rd_T54 l0 a1).f1), .int .i64 ((rd_T54 l0 a1).f2), .int .i64 ((rd_T54 l0 a1).f3)] 54 (0, 0))) := ⟨by (with_reducible repeat (first | refine blk_drewN ?_ _ | refine blk_drew ?_ | refine blk_alloc ?_ _)); refine blk_put (cs := #[.string ((rd_T54 l0 a1).f0), .int .i64 ((rd_T54 l0 a1).f1), .int .i64 ((rd_T54 l0 a1).f2), .int .i64 0]) ?_ 3 _ rfl; (with_reducible repeat (first | refine blk_drewN ?_ _ | refine blk_drew ?_ | refine blk_alloc ?_ _)); refine blk_put (cs := #[.string ((rd_T54 l0 a1).f0), .int .i64 ((rd_T54 l0 a1).f1), .int .i64 0, .int .i64 0]) ?_ 2 _ rfl; (with_reducible repeat (first | refine blk_drewN ?_ _ | refine blk_drew ?_ | refine blk_alloc ?_ _)); refine blk_put (cs := #[.string ((rd_T54 l0 a1).f0), .int .i64 0, .int .i64 0, .int .i64 0]) ?_ 1 _ rfl; (with_reducible repeat (first | refine blk_drewN ?_ _ | refine blk_drew ?_ | refine blk_alloc ?_ _)); refine blk_put (cs := #[.string (⟨#[]⟩ : ByteArray), .int .i64 0, .int .i64 0, .int .i64 0]) ?_ 0 _ rfl; (with_reducible repeat (first | refine blk_drewN ?_ _ | refine blk_drew ?_ | refine blk_alloc ?_ _)); exact BK291.out⟩
  have n1_ : Aside0 (Below w.heap.size w ((((w18.setCell ⟨gb291, 0, none⟩ (.string ((rd_T54 l0 a1).f0))).setCell ⟨gb291, 1, none⟩ (.int .i64 ((rd_T54 l0 a1).f1))).setCell ⟨gb291, 2, none⟩ (.int .i64 ((rd_T54 l0 a1).f2))).setCell ⟨gb291, 3, none⟩ (.int .i64 ((rd_T54 l0 a1).f3)))) := ⟨BA⟩
  (try clear BK291)
  (try clear HB)
  generalize ((((w18.setCell ⟨gb291, 0, none⟩ (.string ((rd_T54 l0 a1).f0))).setCell ⟨gb291, 1, none⟩ (.int .i64 ((rd_T54 l0 a1).f1))).setCell ⟨gb291, 2, none⟩ (.int .i64 ((rd_T54 l0 a1).f2))).setCell ⟨gb291, 3, none⟩ (.int .i64 ((rd_T54 l0 a1).f3))) = w20 at n0_ n1_ ⊢
  have BK291 := n0_
  have HB := n1_
  clear n0_ n1_
  replace BK291 := Aside0.mk (blk_drew BK291.out); replace HB := Aside0.mk (below_drew1 HB.out)
  refine start_ (n := 18) (S := fun w' => True) (ds := []) (mk 18 0) (by kernel_rfl) rfl (by kernel_rfl) trivial (fun hHeld => ?_); refine with_tabW spec_cvTile_at11.tab10 spec_cvTile_at11.bits10 (fun HT_ HW_ => ?_)
  generalize w20.drew = w21 at BK291 HB hHeld ⊢
  refine pu 0 51 18 1 rfl rfl ?_
  refine pu 1 52 18 3 rfl rfl ?_
  refine pu 2 53 18 7 rfl rfl ?_
  refine pos [(3, some 54), (4, some 55), (5, some 56), (6, some 57)] 18 127 11 ?_
  refine pu 7 58 18 255 rfl rfl ?_
  refine pu 8 59 18 511 rfl rfl ?_
  refine pos [(9, some 60), (10, some 61), (11, some 62), (12, some 63), (13, some 64), (14, some 65), (15, some 66)] 18 65535 2 ?_
  refine pu 16 67 18 131071 rfl rfl ?_
  refine pu 17 50 18 262143 rfl rfl ?_
  refine done_ (done_of HT_.out (by kernel_rfl)) ?_
  try go_wp2
  replace BK291 := Aside0.mk (blk_drew BK291.out); replace HB := Aside0.mk (below_drew1 HB.out)
  refine start_ (n := 18) (S := fun w' => True) (ds := []) (mk 18 0) (by kernel_rfl) rfl (by kernel_rfl) trivial (fun hHeld => ?_); refine with_tabW spec_cvTile_at11.tab12 spec_cvTile_at11.bits12 (fun HT_ HW_ => ?_)
  generalize w21.drew = w22 at BK291 HB hHeld ⊢
  refine pu 0 75 18 1 rfl rfl ?_
  refine pu 1 76 18 3 rfl rfl ?_
  refine pu 2 77 18 7 rfl rfl ?_
  refine pos [(3, some 78), (4, some 79), (5, some 80), (6, some 81)] 18 127 11 ?_
  refine pu 7 82 18 255 rfl rfl ?_
  refine pu 8 83 18 511 rfl rfl ?_
  refine pos [(9, some 84), (10, some 85), (11, some 86), (12, some 87), (13, some 88), (14, some 89), (15, some 90)] 18 65535 2 ?_
  refine pu 16 91 18 131071 rfl rfl ?_
  refine pu 17 74 18 262143 rfl rfl ?_
  refine done_ (done_of HT_.out (by kernel_rfl)) ?_
  obtain ⟨hcz23_0, hcz23_1, hcz23_2, hcz23_3⟩ := bc4 BK291.out
  have hfz23 := blk_frozen BK291.out
  have hfz23_1 := blk_frozen BK291.out 1
  have hfz23_2 := blk_frozen BK291.out 2
  have hfz23_3 := blk_frozen BK291.out 3
  try go_wp2
  go_ret3
  exact ⟨_, _, EQ, by first | exact Kd.R_nil _ _ _ _ _ | exact Kd.N_nil _ _ _ _ _ | exact Kd.V_nil _ _ _ _ _ | exact Kd.Q_nil _ _ _ _ _ | exact Kd.S_nil _ _ _ _ _, by first | exact Kd.R_nil _ _ _ _ _ | exact Kd.N_nil _ _ _ _ _ | exact Kd.V_nil _ _ _ _ _ | exact Kd.Q_nil _ _ _ _ _ | exact Kd.S_nil _ _ _ _ _, BA⟩

/-! ### spec_cvTile_at12: function 53 -/
def spec_cvTile_at12.f (k : Nat) (l0 : List (S54)) (a1 : Int)  : Option (List Int × List Int × Bool) := if 0 ≤ a1 then (if a1 < (l0.length : Int) then (if ((rd_T54 l0 a1).f0).toList = ([97, 100, 100] : List UInt8) then ((spec_cvDeep.f k l0 ((rd_T54 l0 a1).f2) ((rd_T54 l0 a1).f1) (⟨#[109, 117, 108]⟩ : ByteArray) (([2, 4, 8] : List Int))).bind fun bt307 => (some (bt307.1, bt307.2.1, bt307.2.2))) else (some (([] : List Int), ([] : List Int), false))) else (none)) else (none)
def spec_cvTile_at12.T10 : Bool × List (List Nat × List Nat) := (true, [([], []), ([0], [0]), ([1], [1]), ([2], [2]), ([2], [2]), ([4, 2], [2, 4]), ([3, 5, 2, 2], [2, 3, 5]), ([2, 6], [2, 6]), ([7, 6], [7]), ([8], [8]), ([8], [8]), ([10, 8], [8, 10]), ([9, 11, 8], [8, 9, 11]), ([12, 8], [8, 12]), ([8, 8], [8]), ([13, 14, 14, 8], [8, 13, 14]), ([8, 15], [8, 15]), ([16, 15], [16])])
def spec_cvTile_at12.B10 : List Nat := [0, 1, 3, 7, 7, 23, 63, 127, 255, 511, 511, 1535, 4095, 8191, 511, 32767, 65535, 131071]
theorem spec_cvTile_at12.tab10 : rtab .any (opsOf Try.f53 10) = spec_cvTile_at12.T10 := by kernel_rfl
theorem spec_cvTile_at12.bits10 : waitsOk spec_cvTile_at12.T10.2 spec_cvTile_at12.B10 = true := by kernel_rfl
def spec_cvTile_at12.T12 : Bool × List (List Nat × List Nat) := (true, [([], []), ([0], [0]), ([1], [1]), ([2], [2]), ([2], [2]), ([4, 2], [2, 4]), ([3, 5, 2, 2], [2, 3, 5]), ([2, 6], [2, 6]), ([7, 6], [7]), ([8], [8]), ([8], [8]), ([10, 8], [8, 10]), ([9, 11, 8], [8, 9, 11]), ([12, 8], [8, 12]), ([8, 8], [8]), ([13, 14, 14, 8], [8, 13, 14]), ([8, 15], [8, 15]), ([16, 15], [16])])
def spec_cvTile_at12.B12 : List Nat := [0, 1, 3, 7, 7, 23, 63, 127, 255, 511, 511, 1535, 4095, 8191, 511, 32767, 65535, 131071]
theorem spec_cvTile_at12.tab12 : rtab .any (opsOf Try.f53 12) = spec_cvTile_at12.T12 := by kernel_rfl
theorem spec_cvTile_at12.bits12 : waitsOk spec_cvTile_at12.T12.2 spec_cvTile_at12.B12 = true := by kernel_rfl
theorem spec_cvTile_at12.calls (k : Nat) (A0 : Option Addr) (c0 : Nat) (l0 : List (S54)) (a1 : Int)  (r1 : List Int) (r2 : List Int) (r3 : Bool) (w : World) (hr0 : Kd.C k54 w A0 l0.length l0) (hc0 : l0.length ≤ c0) (h : spec_cvTile_at12.f k l0 a1 = some (r1, r2, r3)) :
  Calls Try.prog 53 #[.slice A0 l0.length c0, .int .i64 a1, .int .i64 12] w fun e w' => ∃ v0_ v1_ : Value, e = .returned (.tuple #[v0_, v1_, .bool r3]) ∧ Kd.R (Kd.int .i64) 3 w' w.heap.size (fun k_ => some k_ ≠ (v1_ : Value).ownBlock) v0_ r1 ∧ Kd.R (Kd.int .i64) 3 w' w.heap.size (fun k_ => some k_ ≠ (v0_ : Value).ownBlock) v1_ r2 ∧ Below w.heap.size w w' := by
 have hu54 := Try.underlying54
 have HR0 := Aside0.mk hr0
 have HC0 := Aside0.mk hc0
 clear hr0 hc0
 have HB := Aside0.mk (Below.refl w.heap.size w)
 have H := h
 clear h
 unfold spec_cvTile_at12.f at H
 obtain ⟨c4, H⟩ := ifs H
 have c4b0 := decide_eq_true c4
 clear c4
 obtain ⟨c5, H⟩ := ifs H
 have c5b0 := decide_eq_true c5
 clear c5
 by_cases c6 : ((rd_T54 l0 a1).f0).toList = ([97, 100, 100] : List UInt8)
 ·rw [if_pos c6] at H
  have c6b0 := beq_iff_eq.mpr c6
  have c6b1 := bne_eq_false_iff_eq.mpr c6
  clear c6
  obtain ⟨y304, hy304⟩ : ∃ y_ : List Int, y_ = (([2, 4, 8] : List Int)) := ⟨_, rfl⟩
  replace H : ((spec_cvDeep.f k l0 ((rd_T54 l0 a1).f2) ((rd_T54 l0 a1).f1) (⟨#[109, 117, 108]⟩ : ByteArray) y304).bind fun bt307 => (some (bt307.1, bt307.2.1, bt307.2.2))) = some (r1, r2, r3) := by first | (rw [hy304]; with_reducible exact H) | (have H2_ := (Option.bind_some _ _).symm.trans H; rw [hy304]; with_reducible exact H2_) | (have H2_ := (Option.bind_some _ _).symm.trans H; with_reducible exact H2_) | with_reducible exact H | (rw [hy304]; exact H) | exact H
  have Ny304 := Aside0.mk hy304
  clear hy304
  replace H := Option.bind_eq_some_iff.mp H
  obtain ⟨⟨t307, t308, t309⟩, A70, H⟩ := H
  (try dsimp only at H)
  have A7 := Aside0.mk A70
  clear A70
  simp only [Option.some.injEq, Prod.mk.injEq] at H
  obtain ⟨rfl, rfl, rfl⟩ := H
  have p302 : 0 ≤ (a1 : Int) := DT
  have q302 : a1 < (l0.length : Int) := DT
  obtain ⟨ad302, e302, hx302_0, hx302_1, hx302_2, hx302_3⟩ := at_T54 HR0.out a1 p302 q302
  cases e302
  replace p302 := eq_true p302
  replace q302 := eq_true q302
  go_enter Try.func53, Try.ntmps53
  try go_wp2_with (first | ((with_reducible refine gd 9 rfl ?_); (try (refine gate_guard (by rfl) ?_; dsimp only)); refine bx 9 #[.string (⟨#[]⟩ : ByteArray), .int .i64 0, .int .i64 0, .int .i64 0] 54 ?_; intro gb303 hg w8 BK303 GW303 HB hb; have GE303 := GW303; clear hb hg; obtain ⟨hcz9_0, hcz9_1, hcz9_2, hcz9_3⟩ := bc4 BK303.out; have hfz9 := blk_frozen BK303.out))
  have n0_ : Aside0 (((((w8.setCell ⟨gb303, 0, none⟩ (.string ((rd_T54 l0 a1).f0))).setCell ⟨gb303, 1, none⟩ (.int .i64 ((rd_T54 l0 a1).f1))).setCell ⟨gb303, 2, none⟩ (.int .i64 ((rd_T54 l0 a1).f2))).setCell ⟨gb303, 3, none⟩ (.int .i64 ((rd_T54 l0 a1).f3))).heap[gb303]? = some (.cells #[.string ((rd_T54 l0 a1).f0), .int .i64 ((rd_T54 l0 a1).f1), .int .i64 ((rd_T54 l0 a1).f2), .int .i64 ((rd_T54 l0 a1).f3)] 54 (0, 0))) := ⟨by (with_reducible repeat (first | refine blk_drewN ?_ _ | refine blk_drew ?_ | refine blk_alloc ?_ _)); refine blk_put (cs := #[.string ((rd_T54 l0 a1).f0), .int .i64 ((rd_T54 l0 a1).f1), .int .i64 ((rd_T54 l0 a1).f2), .int .i64 0]) ?_ 3 _ rfl; (with_reducible repeat (first | refine blk_drewN ?_ _ | refine blk_drew ?_ | refine blk_alloc ?_ _)); refine blk_put (cs := #[.string ((rd_T54 l0 a1).f0), .int .i64 ((rd_T54 l0 a1).f1), .int .i64 0, .int .i64 0]) ?_ 2 _ rfl; (with_reducible repeat (first | refine blk_drewN ?_ _ | refine blk_drew ?_ | refine blk_alloc ?_ _)); refine blk_put (cs := #[.string ((rd_T54 l0 a1).f0), .int .i64 0, .int .i64 0, .int .i64 0]) ?_ 1 _ rfl; (with_reducible repeat (first | refine blk_drewN ?_ _ | refine blk_drew ?_ | refine blk_alloc ?_ _)); refine blk_put (cs := #[.string (⟨#[]⟩ : ByteArray), .int .i64 0, .int .i64 0, .int .i64 0]) ?_ 0 _ rfl; (with_reducible repeat (first | refine blk_drewN ?_ _ | refine blk_drew ?_ | refine blk_alloc ?_ _)); exact BK303.out⟩
  have n1_ : Aside0 (Below w.heap.size w ((((w8.setCell ⟨gb303, 0, none⟩ (.string ((rd_T54 l0 a1).f0))).setCell ⟨gb303, 1, none⟩ (.int .i64 ((rd_T54 l0 a1).f1))).setCell ⟨gb303, 2, none⟩ (.int .i64 ((rd_T54 l0 a1).f2))).setCell ⟨gb303, 3, none⟩ (.int .i64 ((rd_T54 l0 a1).f3)))) := ⟨BA⟩
  (try clear BK303)
  (try clear HB)
  generalize ((((w8.setCell ⟨gb303, 0, none⟩ (.string ((rd_T54 l0 a1).f0))).setCell ⟨gb303, 1, none⟩ (.int .i64 ((rd_T54 l0 a1).f1))).setCell ⟨gb303, 2, none⟩ (.int .i64 ((rd_T54 l0 a1).f2))).setCell ⟨gb303, 3, none⟩ (.int .i64 ((rd_T54 l0 a1).f3))) = w10 at n0_ n1_ ⊢
  have BK303 := n0_
  have HB := n1_
  clear n0_ n1_
  replace BK303 := Aside0.mk (blk_drew BK303.out); replace HB := Aside0.mk (below_drew1 HB.out)
  refine start_ (n := 18) (S := fun w' => True) (ds := []) (mk 18 0) (by kernel_rfl) rfl (by kernel_rfl) trivial (fun hHeld => ?_); refine with_tabW spec_cvTile_at12.tab10 spec_cvTile_at12.bits10 (fun HT_ HW_ => ?_)
  generalize w10.drew = w11 at BK303 HB hHeld ⊢
  refine pu 0 51 18 1 rfl rfl ?_
  refine pu 1 52 18 3 rfl rfl ?_
  refine pu 2 53 18 7 rfl rfl ?_
  refine pos [(3, some 54), (4, some 55), (5, some 56), (6, some 57)] 18 127 11 ?_
  refine pu 7 58 18 255 rfl rfl ?_
  refine pu 8 59 18 511 rfl rfl ?_
  refine pos [(9, some 60), (10, some 61), (11, some 62), (12, some 63), (13, some 64), (14, some 65), (15, some 66)] 18 65535 2 ?_
  refine pu 16 67 18 131071 rfl rfl ?_
  refine pu 17 50 18 262143 rfl rfl ?_
  refine done_ (done_of HT_.out (by kernel_rfl)) ?_
  try go_wp2
  replace BK303 := Aside0.mk (blk_drew BK303.out); replace HB := Aside0.mk (below_drew1 HB.out)
  refine start_ (n := 18) (S := fun w' => True) (ds := []) (mk 18 0) (by kernel_rfl) rfl (by kernel_rfl) trivial (fun hHeld => ?_); refine with_tabW spec_cvTile_at12.tab12 spec_cvTile_at12.bits12 (fun HT_ HW_ => ?_)
  generalize w11.drew = w12 at BK303 HB hHeld ⊢
  refine pu 0 75 18 1 rfl rfl ?_
  refine pu 1 76 18 3 rfl rfl ?_
  refine pu 2 77 18 7 rfl rfl ?_
  refine pos [(3, some 78), (4, some 79), (5, some 80), (6, some 81)] 18 127 11 ?_
  refine pu 7 82 18 255 rfl rfl ?_
  refine pu 8 83 18 511 rfl rfl ?_
  refine pos [(9, some 84), (10, some 85), (11, some 86), (12, some 87), (13, some 88), (14, some 89), (15, some 90)] 18 65535 2 ?_
  refine pu 16 91 18 131071 rfl rfl ?_
  refine pu 17 74 18 262143 rfl rfl ?_
  refine done_ (done_of HT_.out (by kernel_rfl)) ?_
  obtain ⟨hcz13_0, hcz13_1, hcz13_2, hcz13_3⟩ := bc4 BK303.out
  have hfz13 := blk_frozen BK303.out
  have hfz13_1 := blk_frozen BK303.out 1
  have hfz13_2 := blk_frozen BK303.out 2
  have hfz13_3 := blk_frozen BK303.out 3
  try go_wp2_with (first | ((with_reducible refine gate_dst (N := 235) rfl ?_); (try (refine gate_guard (by rfl) ?_; dsimp only)); refine li 235 3 Ny304.out ?_; intro v305 w14 ho15 hb; have HO306 := Aside0.mk (Kd.R_lower ho15 (below_size BA)); replace BK303 := kb BK303 hb; replace HB := bs hb; clear hb ho15; obtain ⟨Ao16, co16, eo16⟩ := Kd.R_slice HO306.out; subst eo16) | ((with_reducible refine gate_callee (f := 84) rfl ?_); refine gK (some 236) Try.func84 #[.slice (some ad302) l0.length c0, .int .i64 ((rd_T54 l0 a1).f2), .int .i64 ((rd_T54 l0 a1).f1), .string (⟨#[109, 117, 108]⟩ : ByteArray), .slice Ao16 y304.length co16] rfl rfl rfl ?_; (with_reducible refine (spec_cvDeep.calls k _ _ l0 ((rd_T54 l0 a1).f2) ((rd_T54 l0 a1).f1) (⟨#[109, 117, 108]⟩ : ByteArray) _ _ y304 t307 t308 t309 _ ?side1 ?side2 ?side3 ?side4 A7.out).mono ?_); (case side1 => exact cb (Kd.C_below HR0.out HB.out)); (case side2 => exact HC0.out); (case side3 => exact cb (Kd.R_reads' HO306.out).2.2); (case side4 => exact (Kd.R_reads' HO306.out).2.1); rintro e w17 ⟨v310, v312, rfl, ho0, ho1, hb⟩; refine ⟨_, rfl, ?_⟩; have HO311 := Aside0.mk (Kd.R_lower (Kd.R_new' ho0 (Kd.R_lt (rb HO306.out))) (below_size BA)); have HO313 := Aside0.mk (Kd.R_lower (Kd.R_new' ho1 (Kd.R_lt (rb HO306.out))) (below_size BA)); replace HO306 := Aside0.mk (Kd.R_mono (Kd.R_told (Kd.R_told (Kd.R_old (rb HO306.out) hb) (Kd.R_base ho0)) (Kd.R_base ho1)) (fun _ h_ => h_.1)); replace BK303 := kb BK303 hb; replace HB := bs hb; (try clear hb); (try clear ho0); (try clear ho1)))
  go_ret3
  exact ⟨_, _, EQ, rb (Kd.R_mono HO311.out (fun _ hk => hk.1)), rb (Kd.R_mono HO313.out (fun _ hk => hk.1)), BA⟩
 ·rw [if_neg c6] at H
  have c6b0 := beq_eq_false_iff_ne.mpr c6
  have c6b1 := bne_iff_ne.mpr c6
  simp only [Option.some.injEq, Prod.mk.injEq] at H
  obtain ⟨rfl, rfl, rfl⟩ := H
  have p302 : 0 ≤ (a1 : Int) := DT
  have q302 : a1 < (l0.length : Int) := DT
  obtain ⟨ad302, e302, hx302_0, hx302_1, hx302_2, hx302_3⟩ := at_T54 HR0.out a1 p302 q302
  cases e302
  replace p302 := eq_true p302
  replace q302 := eq_true q302
  go_enter Try.func53, Try.ntmps53
  try go_wp2_with (first | ((with_reducible refine gd 9 rfl ?_); (try (refine gate_guard (by rfl) ?_; dsimp only)); refine bx 9 #[.string (⟨#[]⟩ : ByteArray), .int .i64 0, .int .i64 0, .int .i64 0] 54 ?_; intro gb303 hg w18 BK303 GW303 HB hb; have GE303 := GW303; clear hb hg; obtain ⟨hcz19_0, hcz19_1, hcz19_2, hcz19_3⟩ := bc4 BK303.out; have hfz19 := blk_frozen BK303.out))
  have n0_ : Aside0 (((((w18.setCell ⟨gb303, 0, none⟩ (.string ((rd_T54 l0 a1).f0))).setCell ⟨gb303, 1, none⟩ (.int .i64 ((rd_T54 l0 a1).f1))).setCell ⟨gb303, 2, none⟩ (.int .i64 ((rd_T54 l0 a1).f2))).setCell ⟨gb303, 3, none⟩ (.int .i64 ((rd_T54 l0 a1).f3))).heap[gb303]? = some (.cells #[.string ((rd_T54 l0 a1).f0), .int .i64 ((rd_T54 l0 a1).f1), .int .i64 ((rd_T54 l0 a1).f2), .int .i64 ((rd_T54 l0 a1).f3)] 54 (0, 0))) := ⟨by (with_reducible repeat (first | refine blk_drewN ?_ _ | refine blk_drew ?_ | refine blk_alloc ?_ _)); refine blk_put (cs := #[.string ((rd_T54 l0 a1).f0), .int .i64 ((rd_T54 l0 a1).f1), .int .i64 ((rd_T54 l0 a1).f2), .int .i64 0]) ?_ 3 _ rfl; (with_reducible repeat (first | refine blk_drewN ?_ _ | refine blk_drew ?_ | refine blk_alloc ?_ _)); refine blk_put (cs := #[.string ((rd_T54 l0 a1).f0), .int .i64 ((rd_T54 l0 a1).f1), .int .i64 0, .int .i64 0]) ?_ 2 _ rfl; (with_reducible repeat (first | refine blk_drewN ?_ _ | refine blk_drew ?_ | refine blk_alloc ?_ _)); refine blk_put (cs := #[.string ((rd_T54 l0 a1).f0), .int .i64 0, .int .i64 0, .int .i64 0]) ?_ 1 _ rfl; (with_reducible repeat (first | refine blk_drewN ?_ _ | refine blk_drew ?_ | refine blk_alloc ?_ _)); refine blk_put (cs := #[.string (⟨#[]⟩ : ByteArray), .int .i64 0, .int .i64 0, .int .i64 0]) ?_ 0 _ rfl; (with_reducible repeat (first | refine blk_drewN ?_ _ | refine blk_drew ?_ | refine blk_alloc ?_ _)); exact BK303.out⟩
  have n1_ : Aside0 (Below w.heap.size w ((((w18.setCell ⟨gb303, 0, none⟩ (.string ((rd_T54 l0 a1).f0))).setCell ⟨gb303, 1, none⟩ (.int .i64 ((rd_T54 l0 a1).f1))).setCell ⟨gb303, 2, none⟩ (.int .i64 ((rd_T54 l0 a1).f2))).setCell ⟨gb303, 3, none⟩ (.int .i64 ((rd_T54 l0 a1).f3)))) := ⟨BA⟩
  (try clear BK303)
  (try clear HB)
  generalize ((((w18.setCell ⟨gb303, 0, none⟩ (.string ((rd_T54 l0 a1).f0))).setCell ⟨gb303, 1, none⟩ (.int .i64 ((rd_T54 l0 a1).f1))).setCell ⟨gb303, 2, none⟩ (.int .i64 ((rd_T54 l0 a1).f2))).setCell ⟨gb303, 3, none⟩ (.int .i64 ((rd_T54 l0 a1).f3))) = w20 at n0_ n1_ ⊢
  have BK303 := n0_
  have HB := n1_
  clear n0_ n1_
  replace BK303 := Aside0.mk (blk_drew BK303.out); replace HB := Aside0.mk (below_drew1 HB.out)
  refine start_ (n := 18) (S := fun w' => True) (ds := []) (mk 18 0) (by kernel_rfl) rfl (by kernel_rfl) trivial (fun hHeld => ?_); refine with_tabW spec_cvTile_at12.tab10 spec_cvTile_at12.bits10 (fun HT_ HW_ => ?_)
  generalize w20.drew = w21 at BK303 HB hHeld ⊢
  refine pu 0 51 18 1 rfl rfl ?_
  refine pu 1 52 18 3 rfl rfl ?_
  refine pu 2 53 18 7 rfl rfl ?_
  refine pos [(3, some 54), (4, some 55), (5, some 56), (6, some 57)] 18 127 11 ?_
  refine pu 7 58 18 255 rfl rfl ?_
  refine pu 8 59 18 511 rfl rfl ?_
  refine pos [(9, some 60), (10, some 61), (11, some 62), (12, some 63), (13, some 64), (14, some 65), (15, some 66)] 18 65535 2 ?_
  refine pu 16 67 18 131071 rfl rfl ?_
  refine pu 17 50 18 262143 rfl rfl ?_
  refine done_ (done_of HT_.out (by kernel_rfl)) ?_
  try go_wp2
  replace BK303 := Aside0.mk (blk_drew BK303.out); replace HB := Aside0.mk (below_drew1 HB.out)
  refine start_ (n := 18) (S := fun w' => True) (ds := []) (mk 18 0) (by kernel_rfl) rfl (by kernel_rfl) trivial (fun hHeld => ?_); refine with_tabW spec_cvTile_at12.tab12 spec_cvTile_at12.bits12 (fun HT_ HW_ => ?_)
  generalize w21.drew = w22 at BK303 HB hHeld ⊢
  refine pu 0 75 18 1 rfl rfl ?_
  refine pu 1 76 18 3 rfl rfl ?_
  refine pu 2 77 18 7 rfl rfl ?_
  refine pos [(3, some 78), (4, some 79), (5, some 80), (6, some 81)] 18 127 11 ?_
  refine pu 7 82 18 255 rfl rfl ?_
  refine pu 8 83 18 511 rfl rfl ?_
  refine pos [(9, some 84), (10, some 85), (11, some 86), (12, some 87), (13, some 88), (14, some 89), (15, some 90)] 18 65535 2 ?_
  refine pu 16 91 18 131071 rfl rfl ?_
  refine pu 17 74 18 262143 rfl rfl ?_
  refine done_ (done_of HT_.out (by kernel_rfl)) ?_
  obtain ⟨hcz23_0, hcz23_1, hcz23_2, hcz23_3⟩ := bc4 BK303.out
  have hfz23 := blk_frozen BK303.out
  have hfz23_1 := blk_frozen BK303.out 1
  have hfz23_2 := blk_frozen BK303.out 2
  have hfz23_3 := blk_frozen BK303.out 3
  try go_wp2
  go_ret3
  exact ⟨_, _, EQ, by first | exact Kd.R_nil _ _ _ _ _ | exact Kd.N_nil _ _ _ _ _ | exact Kd.V_nil _ _ _ _ _ | exact Kd.Q_nil _ _ _ _ _ | exact Kd.S_nil _ _ _ _ _, by first | exact Kd.R_nil _ _ _ _ _ | exact Kd.N_nil _ _ _ _ _ | exact Kd.V_nil _ _ _ _ _ | exact Kd.Q_nil _ _ _ _ _ | exact Kd.S_nil _ _ _ _ _, BA⟩

/-! ### spec_cvTile: function 53 -/
def spec_cvTile.f (k : Nat) (l0 : List (S54)) (a1 : Int) (a2 : Int) : Option (List Int × List Int × Bool) := if a2 = 0 then spec_cvTile_at0.f l0 a1 else if a2 = 1 then spec_cvTile_at1.f l0 a1 else if a2 = 2 then spec_cvTile_at2.f l0 a1 else if a2 = 3 then spec_cvTile_at3.f k l0 a1 else if a2 = 4 then spec_cvTile_at4.f k l0 a1 else if a2 = 5 then spec_cvTile_at5.f k l0 a1 else if a2 = 6 then spec_cvTile_at6.f k l0 a1 else if a2 = 7 then spec_cvTile_at7.f k l0 a1 else if a2 = 8 then spec_cvTile_at8.f k l0 a1 else if a2 = 9 then spec_cvTile_at9.f k l0 a1 else if a2 = 10 then spec_cvTile_at10.f k l0 a1 else if a2 = 11 then spec_cvTile_at11.f k l0 a1 else if a2 = 12 then spec_cvTile_at12.f k l0 a1 else none
set_option maxRecDepth 100000 in
theorem spec_cvTile.calls (k : Nat) (A0 : Option Addr) (c0 : Nat) (l0 : List (S54)) (a1 : Int) (a2 : Int)  (r1 : List Int) (r2 : List Int) (r3 : Bool) (w : World) (hr0 : Kd.C k54 w A0 l0.length l0) (hc0 : l0.length ≤ c0) (h : spec_cvTile.f k l0 a1 a2 = some (r1, r2, r3)) :
  Calls Try.prog 53 #[.slice A0 l0.length c0, .int .i64 a1, .int .i64 a2] w fun e w' => ∃ v0_ v1_ : Value, e = .returned (.tuple #[v0_, v1_, .bool r3]) ∧ Kd.R (Kd.int .i64) 3 w' w.heap.size (fun k_ => some k_ ≠ (v1_ : Value).ownBlock) v0_ r1 ∧ Kd.R (Kd.int .i64) 3 w' w.heap.size (fun k_ => some k_ ≠ (v0_ : Value).ownBlock) v1_ r2 ∧ Below w.heap.size w w' := by
 unfold spec_cvTile.f at h
 by_cases cq_0 : a2 = 0
 ·subst cq_0
  rw [if_pos rfl] at h
  exact spec_cvTile_at0.calls A0 c0 l0 a1 r1 r2 r3 w hr0 hc0 h
 rw [if_neg cq_0] at h
 by_cases cq_1 : a2 = 1
 ·subst cq_1
  rw [if_pos rfl] at h
  exact spec_cvTile_at1.calls A0 c0 l0 a1 r1 r2 r3 w hr0 hc0 h
 rw [if_neg cq_1] at h
 by_cases cq_2 : a2 = 2
 ·subst cq_2
  rw [if_pos rfl] at h
  exact spec_cvTile_at2.calls A0 c0 l0 a1 r1 r2 r3 w hr0 hc0 h
 rw [if_neg cq_2] at h
 by_cases cq_3 : a2 = 3
 ·subst cq_3
  rw [if_pos rfl] at h
  exact spec_cvTile_at3.calls k A0 c0 l0 a1 r1 r2 r3 w hr0 hc0 h
 rw [if_neg cq_3] at h
 by_cases cq_4 : a2 = 4
 ·subst cq_4
  rw [if_pos rfl] at h
  exact spec_cvTile_at4.calls k A0 c0 l0 a1 r1 r2 r3 w hr0 hc0 h
 rw [if_neg cq_4] at h
 by_cases cq_5 : a2 = 5
 ·subst cq_5
  rw [if_pos rfl] at h
  exact spec_cvTile_at5.calls k A0 c0 l0 a1 r1 r2 r3 w hr0 hc0 h
 rw [if_neg cq_5] at h
 by_cases cq_6 : a2 = 6
 ·subst cq_6
  rw [if_pos rfl] at h
  exact spec_cvTile_at6.calls k A0 c0 l0 a1 r1 r2 r3 w hr0 hc0 h
 rw [if_neg cq_6] at h
 by_cases cq_7 : a2 = 7
 ·subst cq_7
  rw [if_pos rfl] at h
  exact spec_cvTile_at7.calls k A0 c0 l0 a1 r1 r2 r3 w hr0 hc0 h
 rw [if_neg cq_7] at h
 by_cases cq_8 : a2 = 8
 ·subst cq_8
  rw [if_pos rfl] at h
  exact spec_cvTile_at8.calls k A0 c0 l0 a1 r1 r2 r3 w hr0 hc0 h
 rw [if_neg cq_8] at h
 by_cases cq_9 : a2 = 9
 ·subst cq_9
  rw [if_pos rfl] at h
  exact spec_cvTile_at9.calls k A0 c0 l0 a1 r1 r2 r3 w hr0 hc0 h
 rw [if_neg cq_9] at h
 by_cases cq_10 : a2 = 10
 ·subst cq_10
  rw [if_pos rfl] at h
  exact spec_cvTile_at10.calls k A0 c0 l0 a1 r1 r2 r3 w hr0 hc0 h
 rw [if_neg cq_10] at h
 by_cases cq_11 : a2 = 11
 ·subst cq_11
  rw [if_pos rfl] at h
  exact spec_cvTile_at11.calls k A0 c0 l0 a1 r1 r2 r3 w hr0 hc0 h
 rw [if_neg cq_11] at h
 by_cases cq_12 : a2 = 12
 ·subst cq_12
  rw [if_pos rfl] at h
  exact spec_cvTile_at12.calls k A0 c0 l0 a1 r1 r2 r3 w hr0 hc0 h
 rw [if_neg cq_12] at h
 exact absurd h (by simp)

/-! ### spec_l1In: function 56 -/
def spec_l1In.f (a0 : Int) (a1 : Int) (a2 : Int) : Option (Bool) := if a0 ≥ a1 then (some (decide (a0 ≤ a2))) else (some false)
theorem spec_l1In.calls (a0 : Int) (a1 : Int) (a2 : Int) (r : Bool) (w : World) (h : spec_l1In.f a0 a1 a2 = some r) :
  Calls Try.prog 56 #[.int .i64 a0, .int .i64 a1, .int .i64 a2] w fun e w' => e = .returned (.bool r) ∧ Drawn0 w w' := by
 have H := h
 clear h
 unfold spec_l1In.f at H
 by_cases c4 : a0 ≥ a1
 ·rw [if_pos c4] at H
  have c4b0 := decide_eq_true c4
  clear c4
  obtain rfl := Option.some.inj H
  go_enter Try.func56, Try.ntmps56
  go_wp2
  go_ret
  exact ⟨EQ1, DA⟩
 ·rw [if_neg c4] at H
  have c4b0 := decide_eq_false c4
  clear c4
  obtain rfl := Option.some.inj H
  go_enter Try.func56, Try.ntmps56
  go_wp2
  go_ret
  exact ⟨EQ1, DA⟩

/-! ### spec_exWord: function 119 -/
def spec_exWord.f (a0 : Int) : Option (Bool) := (spec_l1In.f a0 0 63).bind fun t314 => (some t314)
theorem spec_exWord.calls (a0 : Int) (r : Bool) (w : World) (h : spec_exWord.f a0 = some r) :
  Calls Try.prog 119 #[.int .i64 a0] w fun e w' => e = .returned (.bool r) ∧ Drawn0 w w' := by
 have H := h
 clear h
 unfold spec_exWord.f at H
 obtain ⟨t314, A2, H⟩ := ob H
 (try dsimp only at H)
 obtain rfl := Option.some.inj H
 go_enter Try.func119, Try.ntmps119
 go_wp2_with (first | ((with_reducible refine gate_callee (f := 56) rfl ?_); refine gK (some 4) Try.func56 #[.int .i64 a0, .int .i64 0, .int .i64 63] rfl rfl rfl ?_; (with_reducible refine (spec_l1In.calls a0 0 63 t314 _ A2.out).mono ?_); rintro e w' ⟨rfl, ⟨nd, rfl⟩⟩; refine ⟨_, rfl, ?_⟩))
 go_ret
 exact ⟨EQ1, DA⟩

/-! ### spec_exNode: function 107 -/
def spec_exNode.f (k : Nat) (a0_0 : ByteArray) (a0_1 : Int) (a0_2 : Int) (a0_3 : Int) (a1 : Int) : Option (Bool) := if a0_0.toList = ([105, 110] : List UInt8) then (if a0_1 = 0 then (if a0_2 = 0 then ((spec_l1In.f a0_3 0 1).bind fun t316 => (some t316)) else (some false)) else (some false)) else (if a0_0.toList = ([99, 111, 110, 115, 116] : List UInt8) then (if a0_1 = 0 then (if a0_2 = 0 then ((spec_exWord.f a0_3).bind fun t317 => (some t317)) else (some false)) else (some false)) else ((spec_exOne.f a0_0).bind fun t318 => (if t318 = true then ((spec_l1In.f a0_1 0 (wrap64 (a1 - 1))).bind fun t319 => (if t319 = true then (if a0_2 = 0 then (some (a0_3 == 0)) else (some false)) else (some false))) else ((spec_exTwo.f k a0_0).bind fun t320 => (if t320 = true then ((spec_l1In.f a0_1 0 (wrap64 (a1 - 1))).bind fun t321 => (if t321 = true then ((spec_l1In.f a0_2 0 (wrap64 (a1 - 1))).bind fun t322 => (if t322 = true then (some (a0_3 == 0)) else (some false))) else (some false))) else (some false))))))
theorem spec_exNode.calls (k : Nat) (a0_0 : ByteArray) (a0_1 : Int) (a0_2 : Int) (a0_3 : Int) (a1 : Int) (r : Bool) (w : World) (h : spec_exNode.f k a0_0 a0_1 a0_2 a0_3 a1 = some r) :
  Calls Try.prog 107 #[.agg #[.string a0_0, .int .i64 a0_1, .int .i64 a0_2, .int .i64 a0_3], .int .i64 a1] w fun e w' => e = .returned (.bool r) ∧ Below w.heap.size w w' := by
 have hu54 := Try.underlying54
 have HB := Aside0.mk (Below.refl w.heap.size w)
 have H := h
 clear h
 unfold spec_exNode.f at H
 by_cases c3 : a0_0.toList = ([105, 110] : List UInt8)
 ·rw [if_pos c3] at H
  have c3b0 := beq_iff_eq.mpr c3
  have c3b1 := bne_eq_false_iff_eq.mpr c3
  clear c3
  by_cases c4 : a0_1 = 0
  ·rw [if_pos c4] at H
   have c4b0 := beq_iff_eq.mpr c4
   have c4b1 := bne_eq_false_iff_eq.mpr c4
   clear c4
   by_cases c5 : a0_2 = 0
   ·rw [if_pos c5] at H
    have c5b0 := beq_iff_eq.mpr c5
    have c5b1 := bne_eq_false_iff_eq.mpr c5
    clear c5
    obtain ⟨t316, A6, H⟩ := ob H
    (try dsimp only at H)
    obtain rfl := Option.some.inj H
    go_enter Try.func107, Try.ntmps107
    go_wp2_with (first | ((with_reducible refine gd 2 rfl ?_); refine bx 2 #[.string a0_0, .int .i64 a0_1, .int .i64 a0_2, .int .i64 a0_3] 54 ?_; intro gb315 hg w7 BK315 GW315 HB hb; have GE315 := GW315; clear hb hg; obtain ⟨hcz8_0, hcz8_1, hcz8_2, hcz8_3⟩ := bc4 BK315.out; have hfz8 := blk_frozen BK315.out) | (go_at_call 56; (with_reducible refine (spec_l1In.calls a0_3 0 1 t316 _ A6.out).mono ?_); rintro e w' ⟨rfl, ⟨nd, rfl⟩⟩))
    go_ret
    exact ⟨EQ, BA⟩
   ·rw [if_neg c5] at H
    have c5b0 := beq_eq_false_iff_ne.mpr c5
    have c5b1 := bne_iff_ne.mpr c5
    obtain rfl := Option.some.inj H
    go_enter Try.func107, Try.ntmps107
    go_wp2_with (first | ((with_reducible refine gd 2 rfl ?_); refine bx 2 #[.string a0_0, .int .i64 a0_1, .int .i64 a0_2, .int .i64 a0_3] 54 ?_; intro gb315 hg w9 BK315 GW315 HB hb; have GE315 := GW315; clear hb hg; obtain ⟨hcz10_0, hcz10_1, hcz10_2, hcz10_3⟩ := bc4 BK315.out; have hfz10 := blk_frozen BK315.out))
    go_ret
    exact ⟨EQ, BA⟩
  ·rw [if_neg c4] at H
   have c4b0 := beq_eq_false_iff_ne.mpr c4
   have c4b1 := bne_iff_ne.mpr c4
   obtain rfl := Option.some.inj H
   go_enter Try.func107, Try.ntmps107
   go_wp2_with (first | ((with_reducible refine gd 2 rfl ?_); refine bx 2 #[.string a0_0, .int .i64 a0_1, .int .i64 a0_2, .int .i64 a0_3] 54 ?_; intro gb315 hg w11 BK315 GW315 HB hb; have GE315 := GW315; clear hb hg; obtain ⟨hcz12_0, hcz12_1, hcz12_2, hcz12_3⟩ := bc4 BK315.out; have hfz12 := blk_frozen BK315.out))
   go_ret
   exact ⟨EQ, BA⟩
 ·rw [if_neg c3] at H
  have c3b0 := beq_eq_false_iff_ne.mpr c3
  have c3b1 := bne_iff_ne.mpr c3
  by_cases c13 : a0_0.toList = ([99, 111, 110, 115, 116] : List UInt8)
  ·rw [if_pos c13] at H
   have c13b0 := beq_iff_eq.mpr c13
   have c13b1 := bne_eq_false_iff_eq.mpr c13
   clear c13
   by_cases c14 : a0_1 = 0
   ·rw [if_pos c14] at H
    have c14b0 := beq_iff_eq.mpr c14
    have c14b1 := bne_eq_false_iff_eq.mpr c14
    clear c14
    by_cases c15 : a0_2 = 0
    ·rw [if_pos c15] at H
     have c15b0 := beq_iff_eq.mpr c15
     have c15b1 := bne_eq_false_iff_eq.mpr c15
     clear c15
     obtain ⟨t317, A16, H⟩ := ob H
     (try dsimp only at H)
     obtain rfl := Option.some.inj H
     go_enter Try.func107, Try.ntmps107
     go_wp2_with (first | ((with_reducible refine gd 2 rfl ?_); refine bx 2 #[.string a0_0, .int .i64 a0_1, .int .i64 a0_2, .int .i64 a0_3] 54 ?_; intro gb315 hg w17 BK315 GW315 HB hb; have GE315 := GW315; clear hb hg; obtain ⟨hcz18_0, hcz18_1, hcz18_2, hcz18_3⟩ := bc4 BK315.out; have hfz18 := blk_frozen BK315.out) | (go_at_call 119; (with_reducible refine (spec_exWord.calls a0_3 t317 _ A16.out).mono ?_); rintro e w' ⟨rfl, ⟨nd, rfl⟩⟩))
     go_ret
     exact ⟨EQ, BA⟩
    ·rw [if_neg c15] at H
     have c15b0 := beq_eq_false_iff_ne.mpr c15
     have c15b1 := bne_iff_ne.mpr c15
     obtain rfl := Option.some.inj H
     go_enter Try.func107, Try.ntmps107
     go_wp2_with (first | ((with_reducible refine gd 2 rfl ?_); refine bx 2 #[.string a0_0, .int .i64 a0_1, .int .i64 a0_2, .int .i64 a0_3] 54 ?_; intro gb315 hg w19 BK315 GW315 HB hb; have GE315 := GW315; clear hb hg; obtain ⟨hcz20_0, hcz20_1, hcz20_2, hcz20_3⟩ := bc4 BK315.out; have hfz20 := blk_frozen BK315.out))
     go_ret
     exact ⟨EQ, BA⟩
   ·rw [if_neg c14] at H
    have c14b0 := beq_eq_false_iff_ne.mpr c14
    have c14b1 := bne_iff_ne.mpr c14
    obtain rfl := Option.some.inj H
    go_enter Try.func107, Try.ntmps107
    go_wp2_with (first | ((with_reducible refine gd 2 rfl ?_); refine bx 2 #[.string a0_0, .int .i64 a0_1, .int .i64 a0_2, .int .i64 a0_3] 54 ?_; intro gb315 hg w21 BK315 GW315 HB hb; have GE315 := GW315; clear hb hg; obtain ⟨hcz22_0, hcz22_1, hcz22_2, hcz22_3⟩ := bc4 BK315.out; have hfz22 := blk_frozen BK315.out))
    go_ret
    exact ⟨EQ, BA⟩
  ·rw [if_neg c13] at H
   have c13b0 := beq_eq_false_iff_ne.mpr c13
   have c13b1 := bne_iff_ne.mpr c13
   obtain ⟨t318, A23, H⟩ := ob H
   (try dsimp only at H)
   by_cases c24 : t318 = true
   ·subst c24
    rw [if_pos rfl] at H
    obtain ⟨t319, A25, H⟩ := ob H
    (try dsimp only at H)
    by_cases c26 : t319 = true
    ·subst c26
     rw [if_pos rfl] at H
     by_cases c27 : a0_2 = 0
     ·rw [if_pos c27] at H
      have c27b0 := beq_iff_eq.mpr c27
      have c27b1 := bne_eq_false_iff_eq.mpr c27
      clear c27
      obtain rfl := Option.some.inj H
      go_enter Try.func107, Try.ntmps107
      go_wp2_with (first | ((with_reducible refine gd 2 rfl ?_); refine bx 2 #[.string a0_0, .int .i64 a0_1, .int .i64 a0_2, .int .i64 a0_3] 54 ?_; intro gb315 hg w28 BK315 GW315 HB hb; have GE315 := GW315; clear hb hg; obtain ⟨hcz29_0, hcz29_1, hcz29_2, hcz29_3⟩ := bc4 BK315.out; have hfz29 := blk_frozen BK315.out) | ((with_reducible refine gate_callee (f := 79) rfl ?_); refine gK (some 42) Try.func79 #[.string a0_0] rfl rfl rfl ?_; (with_reducible refine (spec_exOne.calls a0_0 true _ A23.out).mono ?_); rintro e w' ⟨rfl, ⟨nd, rfl⟩⟩; refine ⟨_, rfl, ?_⟩) | ((with_reducible refine gate_callee (f := 56) rfl ?_); refine gK (some 47) Try.func56 #[.int .i64 a0_1, .int .i64 0, .int .i64 (wrap64 (a1 - 1))] rfl rfl rfl ?_; (with_reducible refine (spec_l1In.calls a0_1 0 (wrap64 (a1 - 1)) true _ A25.out).mono ?_); rintro e w' ⟨rfl, ⟨nd, rfl⟩⟩; refine ⟨_, rfl, ?_⟩))
      go_ret
      exact ⟨EQ, BA⟩
     ·rw [if_neg c27] at H
      have c27b0 := beq_eq_false_iff_ne.mpr c27
      have c27b1 := bne_iff_ne.mpr c27
      obtain rfl := Option.some.inj H
      go_enter Try.func107, Try.ntmps107
      go_wp2_with (first | ((with_reducible refine gd 2 rfl ?_); refine bx 2 #[.string a0_0, .int .i64 a0_1, .int .i64 a0_2, .int .i64 a0_3] 54 ?_; intro gb315 hg w30 BK315 GW315 HB hb; have GE315 := GW315; clear hb hg; obtain ⟨hcz31_0, hcz31_1, hcz31_2, hcz31_3⟩ := bc4 BK315.out; have hfz31 := blk_frozen BK315.out) | ((with_reducible refine gate_callee (f := 79) rfl ?_); refine gK (some 42) Try.func79 #[.string a0_0] rfl rfl rfl ?_; (with_reducible refine (spec_exOne.calls a0_0 true _ A23.out).mono ?_); rintro e w' ⟨rfl, ⟨nd, rfl⟩⟩; refine ⟨_, rfl, ?_⟩) | ((with_reducible refine gate_callee (f := 56) rfl ?_); refine gK (some 47) Try.func56 #[.int .i64 a0_1, .int .i64 0, .int .i64 (wrap64 (a1 - 1))] rfl rfl rfl ?_; (with_reducible refine (spec_l1In.calls a0_1 0 (wrap64 (a1 - 1)) true _ A25.out).mono ?_); rintro e w' ⟨rfl, ⟨nd, rfl⟩⟩; refine ⟨_, rfl, ?_⟩))
      go_ret
      exact ⟨EQ, BA⟩
    ·replace c26 := Bool.eq_false_iff.mpr c26
     subst c26
     rw [if_neg (show ¬ (false = true) by decide)] at H
     obtain rfl := Option.some.inj H
     go_enter Try.func107, Try.ntmps107
     go_wp2_with (first | ((with_reducible refine gd 2 rfl ?_); refine bx 2 #[.string a0_0, .int .i64 a0_1, .int .i64 a0_2, .int .i64 a0_3] 54 ?_; intro gb315 hg w32 BK315 GW315 HB hb; have GE315 := GW315; clear hb hg; obtain ⟨hcz33_0, hcz33_1, hcz33_2, hcz33_3⟩ := bc4 BK315.out; have hfz33 := blk_frozen BK315.out) | ((with_reducible refine gate_callee (f := 79) rfl ?_); refine gK (some 42) Try.func79 #[.string a0_0] rfl rfl rfl ?_; (with_reducible refine (spec_exOne.calls a0_0 true _ A23.out).mono ?_); rintro e w' ⟨rfl, ⟨nd, rfl⟩⟩; refine ⟨_, rfl, ?_⟩) | ((with_reducible refine gate_callee (f := 56) rfl ?_); refine gK (some 47) Try.func56 #[.int .i64 a0_1, .int .i64 0, .int .i64 (wrap64 (a1 - 1))] rfl rfl rfl ?_; (with_reducible refine (spec_l1In.calls a0_1 0 (wrap64 (a1 - 1)) false _ A25.out).mono ?_); rintro e w' ⟨rfl, ⟨nd, rfl⟩⟩; refine ⟨_, rfl, ?_⟩))
     go_ret
     exact ⟨EQ, BA⟩
   ·replace c24 := Bool.eq_false_iff.mpr c24
    subst c24
    rw [if_neg (show ¬ (false = true) by decide)] at H
    obtain ⟨t320, A34, H⟩ := ob H
    (try dsimp only at H)
    by_cases c35 : t320 = true
    ·subst c35
     rw [if_pos rfl] at H
     obtain ⟨t321, A36, H⟩ := ob H
     (try dsimp only at H)
     by_cases c37 : t321 = true
     ·subst c37
      rw [if_pos rfl] at H
      obtain ⟨t322, A38, H⟩ := ob H
      (try dsimp only at H)
      by_cases c39 : t322 = true
      ·subst c39
       rw [if_pos rfl] at H
       obtain rfl := Option.some.inj H
       go_enter Try.func107, Try.ntmps107
       go_wp2_with (first | ((with_reducible refine gd 2 rfl ?_); refine bx 2 #[.string a0_0, .int .i64 a0_1, .int .i64 a0_2, .int .i64 a0_3] 54 ?_; intro gb315 hg w40 BK315 GW315 HB hb; have GE315 := GW315; clear hb hg; obtain ⟨hcz41_0, hcz41_1, hcz41_2, hcz41_3⟩ := bc4 BK315.out; have hfz41 := blk_frozen BK315.out) | ((with_reducible refine gate_callee (f := 79) rfl ?_); refine gK (some 42) Try.func79 #[.string a0_0] rfl rfl rfl ?_; (with_reducible refine (spec_exOne.calls a0_0 false _ A23.out).mono ?_); rintro e w' ⟨rfl, ⟨nd, rfl⟩⟩; refine ⟨_, rfl, ?_⟩) | ((with_reducible refine gate_callee (f := 80) rfl ?_); refine gK (some 60) Try.func80 #[.string a0_0] rfl rfl rfl ?_; (with_reducible refine (spec_exTwo.calls k a0_0 true _ A34.out).mono ?_); rintro e w42 ⟨rfl, hb⟩; refine ⟨_, rfl, ?_⟩; replace BK315 := kb BK315 hb; replace HB := bs hb; (try clear hb); obtain ⟨hcz43_0, hcz43_1, hcz43_2, hcz43_3⟩ := bc4 BK315.out; have hfz43 := blk_frozen BK315.out) | (go_at_call 56; (with_reducible refine (spec_l1In.calls a0_1 0 (wrap64 (a1 - 1)) true _ A36.out).mono ?_); rintro e w' ⟨rfl, ⟨nd, rfl⟩⟩) | (go_at_call 56; (with_reducible refine (spec_l1In.calls a0_2 0 (wrap64 (a1 - 1)) true _ A38.out).mono ?_); rintro e w' ⟨rfl, ⟨nd, rfl⟩⟩))
       go_ret
       exact ⟨EQ, BA⟩
      ·replace c39 := Bool.eq_false_iff.mpr c39
       subst c39
       rw [if_neg (show ¬ (false = true) by decide)] at H
       obtain rfl := Option.some.inj H
       go_enter Try.func107, Try.ntmps107
       go_wp2_with (first | ((with_reducible refine gd 2 rfl ?_); refine bx 2 #[.string a0_0, .int .i64 a0_1, .int .i64 a0_2, .int .i64 a0_3] 54 ?_; intro gb315 hg w44 BK315 GW315 HB hb; have GE315 := GW315; clear hb hg; obtain ⟨hcz45_0, hcz45_1, hcz45_2, hcz45_3⟩ := bc4 BK315.out; have hfz45 := blk_frozen BK315.out) | ((with_reducible refine gate_callee (f := 79) rfl ?_); refine gK (some 42) Try.func79 #[.string a0_0] rfl rfl rfl ?_; (with_reducible refine (spec_exOne.calls a0_0 false _ A23.out).mono ?_); rintro e w' ⟨rfl, ⟨nd, rfl⟩⟩; refine ⟨_, rfl, ?_⟩) | ((with_reducible refine gate_callee (f := 80) rfl ?_); refine gK (some 60) Try.func80 #[.string a0_0] rfl rfl rfl ?_; (with_reducible refine (spec_exTwo.calls k a0_0 true _ A34.out).mono ?_); rintro e w46 ⟨rfl, hb⟩; refine ⟨_, rfl, ?_⟩; replace BK315 := kb BK315 hb; replace HB := bs hb; (try clear hb); obtain ⟨hcz47_0, hcz47_1, hcz47_2, hcz47_3⟩ := bc4 BK315.out; have hfz47 := blk_frozen BK315.out) | (go_at_call 56; (with_reducible refine (spec_l1In.calls a0_1 0 (wrap64 (a1 - 1)) true _ A36.out).mono ?_); rintro e w' ⟨rfl, ⟨nd, rfl⟩⟩) | (go_at_call 56; (with_reducible refine (spec_l1In.calls a0_2 0 (wrap64 (a1 - 1)) false _ A38.out).mono ?_); rintro e w' ⟨rfl, ⟨nd, rfl⟩⟩))
       go_ret
       exact ⟨EQ, BA⟩
     ·replace c37 := Bool.eq_false_iff.mpr c37
      subst c37
      rw [if_neg (show ¬ (false = true) by decide)] at H
      obtain rfl := Option.some.inj H
      go_enter Try.func107, Try.ntmps107
      go_wp2_with (first | ((with_reducible refine gd 2 rfl ?_); refine bx 2 #[.string a0_0, .int .i64 a0_1, .int .i64 a0_2, .int .i64 a0_3] 54 ?_; intro gb315 hg w48 BK315 GW315 HB hb; have GE315 := GW315; clear hb hg; obtain ⟨hcz49_0, hcz49_1, hcz49_2, hcz49_3⟩ := bc4 BK315.out; have hfz49 := blk_frozen BK315.out) | ((with_reducible refine gate_callee (f := 79) rfl ?_); refine gK (some 42) Try.func79 #[.string a0_0] rfl rfl rfl ?_; (with_reducible refine (spec_exOne.calls a0_0 false _ A23.out).mono ?_); rintro e w' ⟨rfl, ⟨nd, rfl⟩⟩; refine ⟨_, rfl, ?_⟩) | ((with_reducible refine gate_callee (f := 80) rfl ?_); refine gK (some 60) Try.func80 #[.string a0_0] rfl rfl rfl ?_; (with_reducible refine (spec_exTwo.calls k a0_0 true _ A34.out).mono ?_); rintro e w50 ⟨rfl, hb⟩; refine ⟨_, rfl, ?_⟩; replace BK315 := kb BK315 hb; replace HB := bs hb; (try clear hb); obtain ⟨hcz51_0, hcz51_1, hcz51_2, hcz51_3⟩ := bc4 BK315.out; have hfz51 := blk_frozen BK315.out) | (go_at_call 56; (with_reducible refine (spec_l1In.calls a0_1 0 (wrap64 (a1 - 1)) false _ A36.out).mono ?_); rintro e w' ⟨rfl, ⟨nd, rfl⟩⟩))
      go_ret
      exact ⟨EQ, BA⟩
    ·replace c35 := Bool.eq_false_iff.mpr c35
     subst c35
     rw [if_neg (show ¬ (false = true) by decide)] at H
     obtain rfl := Option.some.inj H
     go_enter Try.func107, Try.ntmps107
     go_wp2_with (first | ((with_reducible refine gd 2 rfl ?_); refine bx 2 #[.string a0_0, .int .i64 a0_1, .int .i64 a0_2, .int .i64 a0_3] 54 ?_; intro gb315 hg w52 BK315 GW315 HB hb; have GE315 := GW315; clear hb hg; obtain ⟨hcz53_0, hcz53_1, hcz53_2, hcz53_3⟩ := bc4 BK315.out; have hfz53 := blk_frozen BK315.out) | ((with_reducible refine gate_callee (f := 79) rfl ?_); refine gK (some 42) Try.func79 #[.string a0_0] rfl rfl rfl ?_; (with_reducible refine (spec_exOne.calls a0_0 false _ A23.out).mono ?_); rintro e w' ⟨rfl, ⟨nd, rfl⟩⟩; refine ⟨_, rfl, ?_⟩) | ((with_reducible refine gate_callee (f := 80) rfl ?_); refine gK (some 60) Try.func80 #[.string a0_0] rfl rfl rfl ?_; (with_reducible refine (spec_exTwo.calls k a0_0 false _ A34.out).mono ?_); rintro e w54 ⟨rfl, hb⟩; refine ⟨_, rfl, ?_⟩; replace BK315 := kb BK315 hb; replace HB := bs hb; (try clear hb)))
     go_ret
     exact ⟨EQ, BA⟩

/-! ### spec_exParts: function 120 -/
def spec_exParts.f (k : Nat) (a0_0 : ByteArray) (a0_1 : Int) (a0_2 : Int) (a0_3 : Int) : Option (List Int) := (spec_exOne.f a0_0).bind fun t324 => (if t324 = true then (some (([a0_1] : List Int))) else ((spec_exTwo.f k a0_0).bind fun t328 => (if t328 = true then (some (([a0_1, a0_2] : List Int))) else (some ([] : List Int)))))
theorem spec_exParts.calls (k : Nat) (a0_0 : ByteArray) (a0_1 : Int) (a0_2 : Int) (a0_3 : Int) (r : List Int) (w : World) (h : spec_exParts.f k a0_0 a0_1 a0_2 a0_3 = some r) :
  Calls Try.prog 120 #[.agg #[.string a0_0, .int .i64 a0_1, .int .i64 a0_2, .int .i64 a0_3]] w fun e w' => ∃ v0_ : Value, e = .returned (v0_) ∧ Kd.R (Kd.int .i64) 3 w' w.heap.size (fun _ => True) v0_ r ∧ Below w.heap.size w w' := by
 have hu54 := Try.underlying54
 have HB := Aside0.mk (Below.refl w.heap.size w)
 have H := h
 clear h
 unfold spec_exParts.f at H
 obtain ⟨t324, A2, H⟩ := ob H
 (try dsimp only at H)
 by_cases c3 : t324 = true
 ·subst c3
  rw [if_pos rfl] at H
  obtain ⟨y325, hy325⟩ : ∃ y_ : List Int, y_ = (([a0_1] : List Int)) := ⟨_, rfl⟩
  replace H : (some y325) = some r := by first | (rw [hy325]; with_reducible exact H) | (have H2_ := (Option.bind_some _ _).symm.trans H; rw [hy325]; with_reducible exact H2_) | (have H2_ := (Option.bind_some _ _).symm.trans H; with_reducible exact H2_) | with_reducible exact H | (rw [hy325]; exact H) | exact H
  have Ny325 := Aside0.mk hy325
  clear hy325
  obtain rfl := Option.some.inj H
  go_enter Try.func120, Try.ntmps120
  go_wp2_with (first | ((with_reducible refine gd 1 rfl ?_); refine bx 1 #[.string a0_0, .int .i64 a0_1, .int .i64 a0_2, .int .i64 a0_3] 54 ?_; intro gb323 hg w4 BK323 GW323 HB hb; have GE323 := GW323; clear hb hg; obtain ⟨hcz5_0, hcz5_1, hcz5_2, hcz5_3⟩ := bc4 BK323.out; have hfz5 := blk_frozen BK323.out) | ((with_reducible refine gate_callee (f := 79) rfl ?_); refine gK (some 6) Try.func79 #[.string a0_0] rfl rfl rfl ?_; (with_reducible refine (spec_exOne.calls a0_0 true _ A2.out).mono ?_); rintro e w' ⟨rfl, ⟨nd, rfl⟩⟩; refine ⟨_, rfl, ?_⟩) | ((with_reducible refine gate_dst (N := 9) rfl ?_); refine li 9 3 Ny325.out ?_; intro v326 w6 ho7 hb; have HO327 := Aside0.mk (Kd.R_lower ho7 (below_size BA)); replace BK323 := kb BK323 hb; replace HB := bs hb; clear hb ho7))
  go_ret
  exact ⟨_, EQ, rb HO327.out, BA⟩
 ·replace c3 := Bool.eq_false_iff.mpr c3
  subst c3
  rw [if_neg (show ¬ (false = true) by decide)] at H
  obtain ⟨t328, A8, H⟩ := ob H
  (try dsimp only at H)
  by_cases c9 : t328 = true
  ·subst c9
   rw [if_pos rfl] at H
   obtain ⟨y329, hy329⟩ : ∃ y_ : List Int, y_ = (([a0_1, a0_2] : List Int)) := ⟨_, rfl⟩
   replace H : (some y329) = some r := by first | (rw [hy329]; with_reducible exact H) | (have H2_ := (Option.bind_some _ _).symm.trans H; rw [hy329]; with_reducible exact H2_) | (have H2_ := (Option.bind_some _ _).symm.trans H; with_reducible exact H2_) | with_reducible exact H | (rw [hy329]; exact H) | exact H
   have Ny329 := Aside0.mk hy329
   clear hy329
   obtain rfl := Option.some.inj H
   go_enter Try.func120, Try.ntmps120
   go_wp2_with (first | ((with_reducible refine gd 1 rfl ?_); refine bx 1 #[.string a0_0, .int .i64 a0_1, .int .i64 a0_2, .int .i64 a0_3] 54 ?_; intro gb323 hg w10 BK323 GW323 HB hb; have GE323 := GW323; clear hb hg; obtain ⟨hcz11_0, hcz11_1, hcz11_2, hcz11_3⟩ := bc4 BK323.out; have hfz11 := blk_frozen BK323.out) | ((with_reducible refine gate_callee (f := 79) rfl ?_); refine gK (some 6) Try.func79 #[.string a0_0] rfl rfl rfl ?_; (with_reducible refine (spec_exOne.calls a0_0 false _ A2.out).mono ?_); rintro e w' ⟨rfl, ⟨nd, rfl⟩⟩; refine ⟨_, rfl, ?_⟩) | ((with_reducible refine gate_callee (f := 80) rfl ?_); refine gK (some 13) Try.func80 #[.string a0_0] rfl rfl rfl ?_; (with_reducible refine (spec_exTwo.calls k a0_0 true _ A8.out).mono ?_); rintro e w12 ⟨rfl, hb⟩; refine ⟨_, rfl, ?_⟩; replace BK323 := kb BK323 hb; replace HB := bs hb; (try clear hb); obtain ⟨hcz13_0, hcz13_1, hcz13_2, hcz13_3⟩ := bc4 BK323.out; have hfz13 := blk_frozen BK323.out) | ((with_reducible refine gate_dst (N := 18) rfl ?_); refine li 18 3 Ny329.out ?_; intro v330 w14 ho15 hb; have HO331 := Aside0.mk (Kd.R_lower ho15 (below_size BA)); replace BK323 := kb BK323 hb; replace HB := bs hb; clear hb ho15))
   go_ret
   exact ⟨_, EQ, rb HO331.out, BA⟩
  ·replace c9 := Bool.eq_false_iff.mpr c9
   subst c9
   rw [if_neg (show ¬ (false = true) by decide)] at H
   obtain rfl := Option.some.inj H
   go_enter Try.func120, Try.ntmps120
   go_wp2_with (first | ((with_reducible refine gd 1 rfl ?_); refine bx 1 #[.string a0_0, .int .i64 a0_1, .int .i64 a0_2, .int .i64 a0_3] 54 ?_; intro gb323 hg w16 BK323 GW323 HB hb; have GE323 := GW323; clear hb hg; obtain ⟨hcz17_0, hcz17_1, hcz17_2, hcz17_3⟩ := bc4 BK323.out; have hfz17 := blk_frozen BK323.out) | ((with_reducible refine gate_callee (f := 79) rfl ?_); refine gK (some 6) Try.func79 #[.string a0_0] rfl rfl rfl ?_; (with_reducible refine (spec_exOne.calls a0_0 false _ A2.out).mono ?_); rintro e w' ⟨rfl, ⟨nd, rfl⟩⟩; refine ⟨_, rfl, ?_⟩) | ((with_reducible refine gate_callee (f := 80) rfl ?_); refine gK (some 13) Try.func80 #[.string a0_0] rfl rfl rfl ?_; (with_reducible refine (spec_exTwo.calls k a0_0 false _ A8.out).mono ?_); rintro e w18 ⟨rfl, hb⟩; refine ⟨_, rfl, ?_⟩; replace BK323 := kb BK323 hb; replace HB := bs hb; (try clear hb)))
   go_ret
   exact ⟨_, EQ, by first | exact Kd.R_nil _ _ _ _ _ | exact Kd.N_nil _ _ _ _ _ | exact Kd.V_nil _ _ _ _ _ | exact Kd.Q_nil _ _ _ _ _ | exact Kd.S_nil _ _ _ _ _, BA⟩

end Go.Proofs.Ytlmegefdnkjcbaa.Pa
