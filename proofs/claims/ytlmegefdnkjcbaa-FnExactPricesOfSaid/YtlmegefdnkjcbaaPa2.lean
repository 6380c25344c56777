-- Made by this session's program gen.py over the translation.
import Derived.Test.YtlmegefdnkjcbaaPa0
import Derived.Test.YtlmegefdnkjcbaaPa1
namespace Go.Proofs.Ytlmegefdnkjcbaa.Pa
open Go.RowKit Go.Proofs.YtlmegefdnkjcbaaW.PrintWords Go.Proofs.YtlmegefdnkjcbaaW.PrintLast Go.Proofs.YtlmegefdnkjcbaaW.PrintMore
attribute [local go_sem] max2_int min2_int max_two min_two max_three min_three max_four min_four   -- for this text's walks alone
set_option linter.unusedVariables false
set_option linter.unusedSimpArgs false
set_option maxHeartbeats 8000000
set_option maxRecDepth 100000

/-! ### spec_cvTile_at4: function 53 -/
def spec_cvTile_at4.j0 : Nat → Bool → ByteArray → Int → Int → Int → Option (List Int × List Int × Bool)
 | 0, _, _, _, _, _ => none
 | k + 1, x50, x191000, x191001, x191002, x191003 => if x50 = true then (some ((([x191001] : List Int)), (([x191002] : List Int)), true)) else (some (([] : List Int), ([] : List Int), false))
def spec_cvTile_at4.f (k : Nat) (l0 : List (S54)) (a1 : Int)  : Option (List Int × List Int × Bool) := if 0 ≤ a1 then (if a1 < (l0.length : Int) then ((spec_l1HasS.f k (([(⟨#[97, 100, 100]⟩ : ByteArray), (⟨#[115, 117, 98]⟩ : ByteArray), (⟨#[97, 110, 100]⟩ : ByteArray), (⟨#[120, 111, 114]⟩ : ByteArray)] : List ByteArray)) ((rd_T54 l0 a1).f0)).bind fun t194 => (if t194 = true then (if 0 ≤ ((rd_T54 l0 a1).f2) then (if ((rd_T54 l0 a1).f2) < (l0.length : Int) then ((spec_cvWords.f k).bind fun t196 => ((spec_cvConst.f k ((rd_T54 l0 ((rd_T54 l0 a1).f2)).f0) ((rd_T54 l0 ((rd_T54 l0 a1).f2)).f1) ((rd_T54 l0 ((rd_T54 l0 a1).f2)).f2) ((rd_T54 l0 ((rd_T54 l0 a1).f2)).f3) t196).bind fun t199 => (spec_cvTile_at4.j0 k t199 ((rd_T54 l0 a1).f0) ((rd_T54 l0 a1).f1) ((rd_T54 l0 a1).f2) ((rd_T54 l0 a1).f3)))) else (none)) else (none)) else (spec_cvTile_at4.j0 k false ((rd_T54 l0 a1).f0) ((rd_T54 l0 a1).f1) ((rd_T54 l0 a1).f2) ((rd_T54 l0 a1).f3)))) else (none)) else (none)
def spec_cvTile_at4.T10 : Bool × List (List Nat × List Nat) := (true, [([], []), ([0], [0]), ([1], [1]), ([2], [2]), ([2], [2]), ([4, 2], [2, 4]), ([3, 5, 2, 2], [2, 3, 5]), ([2, 6], [2, 6]), ([7, 6], [7]), ([8], [8]), ([8], [8]), ([10, 8], [8, 10]), ([9, 11, 8], [8, 9, 11]), ([12, 8], [8, 12]), ([8, 8], [8]), ([13, 14, 14, 8], [8, 13, 14]), ([8, 15], [8, 15]), ([16, 15], [16])])
def spec_cvTile_at4.B10 : List Nat := [0, 1, 3, 7, 7, 23, 63, 127, 255, 511, 511, 1535, 4095, 8191, 511, 32767, 65535, 131071]
theorem spec_cvTile_at4.tab10 : rtab .any (opsOf Try.f53 10) = spec_cvTile_at4.T10 := by kernel_rfl
theorem spec_cvTile_at4.bits10 : waitsOk spec_cvTile_at4.T10.2 spec_cvTile_at4.B10 = true := by kernel_rfl
def spec_cvTile_at4.T11 : Bool × List (List Nat × List Nat) := (true, [([], []), ([0], [0]), ([1], [1]), ([], []), ([3], [3]), ([4], [4]), ([2, 0, 1, 2], [2]), ([5, 6, 0, 1, 2, 3, 4, 5, 6], [5]), ([7, 0, 1, 2, 3, 4, 5, 6, 7], [])])
def spec_cvTile_at4.B11 : List Nat := [0, 1, 3, 0, 8, 24, 7, 127, 255]
theorem spec_cvTile_at4.tab11 : rtab .any (opsOf Try.f53 11) = spec_cvTile_at4.T11 := by kernel_rfl
theorem spec_cvTile_at4.bits11 : waitsOk spec_cvTile_at4.T11.2 spec_cvTile_at4.B11 = true := by kernel_rfl
def spec_cvTile_at4.T12 : Bool × List (List Nat × List Nat) := (true, [([], []), ([0], [0]), ([1], [1]), ([2], [2]), ([2], [2]), ([4, 2], [2, 4]), ([3, 5, 2, 2], [2, 3, 5]), ([2, 6], [2, 6]), ([7, 6], [7]), ([8], [8]), ([8], [8]), ([10, 8], [8, 10]), ([9, 11, 8], [8, 9, 11]), ([12, 8], [8, 12]), ([8, 8], [8]), ([13, 14, 14, 8], [8, 13, 14]), ([8, 15], [8, 15]), ([16, 15], [16])])
def spec_cvTile_at4.B12 : List Nat := [0, 1, 3, 7, 7, 23, 63, 127, 255, 511, 511, 1535, 4095, 8191, 511, 32767, 65535, 131071]
theorem spec_cvTile_at4.tab12 : rtab .any (opsOf Try.f53 12) = spec_cvTile_at4.T12 := by kernel_rfl
theorem spec_cvTile_at4.bits12 : waitsOk spec_cvTile_at4.T12.2 spec_cvTile_at4.B12 = true := by kernel_rfl
theorem spec_cvTile_at4.calls (k : Nat) (A0 : Option Addr) (c0 : Nat) (l0 : List (S54)) (a1 : Int)  (r1 : List Int) (r2 : List Int) (r3 : Bool) (w : World) (hr0 : Kd.C k54 w A0 l0.length l0) (hc0 : l0.length ≤ c0) (h : spec_cvTile_at4.f k l0 a1 = some (r1, r2, r3)) :
  Calls Try.prog 53 #[.slice A0 l0.length c0, .int .i64 a1, .int .i64 4] w fun e w' => ∃ v0_ v1_ : Value, e = .returned (.tuple #[v0_, v1_, .bool r3]) ∧ Kd.R (Kd.int .i64) 3 w' w.heap.size (fun k_ => some k_ ≠ (v1_ : Value).ownBlock) v0_ r1 ∧ Kd.R (Kd.int .i64) 3 w' w.heap.size (fun k_ => some k_ ≠ (v0_ : Value).ownBlock) v1_ r2 ∧ Below w.heap.size w w' := by
 have hu54 := Try.underlying54
 have HR0 := Aside0.mk hr0
 have HC0 := Aside0.mk hc0
 clear hr0 hc0
 have HB := Aside0.mk (Below.refl w.heap.size w)
 have H := h
 clear h
 unfold spec_cvTile_at4.f at H
 obtain ⟨c4, H⟩ := ifs H
 have c4b0 := decide_eq_true c4
 clear c4
 obtain ⟨c5, H⟩ := ifs H
 have c5b0 := decide_eq_true c5
 clear c5
 have HC6 := Aside0.mk H
 clear H
 have p189 : 0 ≤ (a1 : Int) := DT
 have q189 : a1 < (l0.length : Int) := DT
 obtain ⟨ad189, e189, hx189_0, hx189_1, hx189_2, hx189_3⟩ := at_T54 HR0.out a1 p189 q189
 cases e189
 replace p189 := eq_true p189
 replace q189 := eq_true q189
 go_enter Try.func53, Try.ntmps53
 go_upto_region 10 with (first | ((with_reducible refine gd 9 rfl ?_); (try (refine gate_guard (by rfl) ?_; dsimp only)); refine bx 9 #[.string (⟨#[]⟩ : ByteArray), .int .i64 0, .int .i64 0, .int .i64 0] 54 ?_; intro gb190 hg w7 BK190 GW190 HB hb; have GE190 := GW190; clear hb hg; obtain ⟨hcz8_0, hcz8_1, hcz8_2, hcz8_3⟩ := bc4 BK190.out; have hfz8 := blk_frozen BK190.out))
 (try simp only [Act.put, List.setIfInBounds_toArray, List.set_cons_zero, List.set_cons_succ])
 go_cut [50] (fun v50 wc => ∃ (kq : Nat) (x50_5 : Bool), v50 = .bool x50_5 ∧ Aside0 (spec_cvTile_at4.j0 kq x50_5 ((rd_T54 l0 a1).f0) ((rd_T54 l0 a1).f1) ((rd_T54 l0 a1).f2) ((rd_T54 l0 a1).f3) = some (r1, r2, r3)) ∧ Aside0 (kq ≤ k) ∧ Aside0 (wc.heap[gb190]? = some (.cells #[.string ((rd_T54 l0 a1).f0), .int .i64 ((rd_T54 l0 a1).f1), .int .i64 ((rd_T54 l0 a1).f2), .int .i64 ((rd_T54 l0 a1).f3)] 54 (0, 0))) ∧ Aside0 (Below w.heap.size w wc))
 case first =>
  have H := HC6.out
  clear HC6
  obtain ⟨y191, hy191⟩ : ∃ y_ : List ByteArray, y_ = (([(⟨#[97, 100, 100]⟩ : ByteArray), (⟨#[115, 117, 98]⟩ : ByteArray), (⟨#[97, 110, 100]⟩ : ByteArray), (⟨#[120, 111, 114]⟩ : ByteArray)] : List ByteArray)) := ⟨_, rfl⟩
  replace H : ((spec_l1HasS.f k y191 ((rd_T54 l0 a1).f0)).bind fun t194 => (if t194 = true then (if 0 ≤ ((rd_T54 l0 a1).f2) then (if ((rd_T54 l0 a1).f2) < (l0.length : Int) then ((spec_cvWords.f k).bind fun t196 => ((spec_cvConst.f k ((rd_T54 l0 ((rd_T54 l0 a1).f2)).f0) ((rd_T54 l0 ((rd_T54 l0 a1).f2)).f1) ((rd_T54 l0 ((rd_T54 l0 a1).f2)).f2) ((rd_T54 l0 ((rd_T54 l0 a1).f2)).f3) t196).bind fun t199 => (spec_cvTile_at4.j0 k t199 ((rd_T54 l0 a1).f0) ((rd_T54 l0 a1).f1) ((rd_T54 l0 a1).f2) ((rd_T54 l0 a1).f3)))) else (none)) else (none)) else (spec_cvTile_at4.j0 k false ((rd_T54 l0 a1).f0) ((rd_T54 l0 a1).f1) ((rd_T54 l0 a1).f2) ((rd_T54 l0 a1).f3)))) = some (r1, r2, r3) := by first | (rw [hy191]; with_reducible exact H) | (have H2_ := (Option.bind_some _ _).symm.trans H; rw [hy191]; with_reducible exact H2_) | (have H2_ := (Option.bind_some _ _).symm.trans H; with_reducible exact H2_) | with_reducible exact H | (rw [hy191]; exact H) | exact H
  have Ny191 := Aside0.mk hy191
  clear hy191
  obtain ⟨t194, A9, H⟩ := ob H
  (try dsimp only at H)
  by_cases c10 : t194 = true
  ·subst c10
   rw [if_pos rfl] at H
   obtain ⟨c11, H⟩ := ifs H
   have c11b0 := decide_eq_true c11
   clear c11
   (first | rw [c11b0] | (simp only [i64_w, i32_w]; rw [c11b0]) | skip)
   obtain ⟨c12, H⟩ := ifs H
   have c12b0 := decide_eq_true c12
   clear c12
   obtain ⟨t196, A13, H⟩ := ob H
   (try dsimp only at H)
   obtain ⟨t199, A14, H⟩ := ob H
   (try dsimp only at H)
   have H' := Aside0.mk H
   clear H
   try go_wp2
   have n0_ : Aside0 (((((w7.setCell ⟨gb190, 0, none⟩ (.string ((rd_T54 l0 a1).f0))).setCell ⟨gb190, 1, none⟩ (.int .i64 ((rd_T54 l0 a1).f1))).setCell ⟨gb190, 2, none⟩ (.int .i64 ((rd_T54 l0 a1).f2))).setCell ⟨gb190, 3, none⟩ (.int .i64 ((rd_T54 l0 a1).f3))).heap[gb190]? = some (.cells #[.string ((rd_T54 l0 a1).f0), .int .i64 ((rd_T54 l0 a1).f1), .int .i64 ((rd_T54 l0 a1).f2), .int .i64 ((rd_T54 l0 a1).f3)] 54 (0, 0))) := ⟨by (with_reducible repeat (first | refine blk_drewN ?_ _ | refine blk_drew ?_ | refine blk_alloc ?_ _)); refine blk_put (cs := #[.string ((rd_T54 l0 a1).f0), .int .i64 ((rd_T54 l0 a1).f1), .int .i64 ((rd_T54 l0 a1).f2), .int .i64 0]) ?_ 3 _ rfl; (with_reducible repeat (first | refine blk_drewN ?_ _ | refine blk_drew ?_ | refine blk_alloc ?_ _)); refine blk_put (cs := #[.string ((rd_T54 l0 a1).f0), .int .i64 ((rd_T54 l0 a1).f1), .int .i64 0, .int .i64 0]) ?_ 2 _ rfl; (with_reducible repeat (first | refine blk_drewN ?_ _ | refine blk_drew ?_ | refine blk_alloc ?_ _)); refine blk_put (cs := #[.string ((rd_T54 l0 a1).f0), .int .i64 0, .int .i64 0, .int .i64 0]) ?_ 1 _ rfl; (with_reducible repeat (first | refine blk_drewN ?_ _ | refine blk_drew ?_ | refine blk_alloc ?_ _)); refine blk_put (cs := #[.string (⟨#[]⟩ : ByteArray), .int .i64 0, .int .i64 0, .int .i64 0]) ?_ 0 _ rfl; (with_reducible repeat (first | refine blk_drewN ?_ _ | refine blk_drew ?_ | refine blk_alloc ?_ _)); exact BK190.out⟩
   have n1_ : Aside0 (Below w.heap.size w ((((w7.setCell ⟨gb190, 0, none⟩ (.string ((rd_T54 l0 a1).f0))).setCell ⟨gb190, 1, none⟩ (.int .i64 ((rd_T54 l0 a1).f1))).setCell ⟨gb190, 2, none⟩ (.int .i64 ((rd_T54 l0 a1).f2))).setCell ⟨gb190, 3, none⟩ (.int .i64 ((rd_T54 l0 a1).f3)))) := ⟨BA⟩
   (try clear BK190)
   (try clear HB)
   generalize ((((w7.setCell ⟨gb190, 0, none⟩ (.string ((rd_T54 l0 a1).f0))).setCell ⟨gb190, 1, none⟩ (.int .i64 ((rd_T54 l0 a1).f1))).setCell ⟨gb190, 2, none⟩ (.int .i64 ((rd_T54 l0 a1).f2))).setCell ⟨gb190, 3, none⟩ (.int .i64 ((rd_T54 l0 a1).f3))) = w15 at n0_ n1_ ⊢
   have BK190 := n0_
   have HB := n1_
   clear n0_ n1_
   replace BK190 := Aside0.mk (blk_drew BK190.out); replace HB := Aside0.mk (below_drew1 HB.out)
   have p195 : 0 ≤ (((rd_T54 l0 a1).f2) : Int) := DT
   have q195 : ((rd_T54 l0 a1).f2) < (l0.length : Int) := DT
   obtain ⟨ad195, e195, hx195_0, hx195_1, hx195_2, hx195_3⟩ := at_T54 HR0.out ((rd_T54 l0 a1).f2) p195 q195
   have hw195_3 := hx195_3
   have hw195_2 := hx195_2
   have hw195_1 := hx195_1
   have hw195_0 := hx195_0
   obtain rfl : ad189 = ad195 := (by injection e195)
   replace hx195_0 := (HB.out.cell (World.block_lt_of_cell? w _ hx195_0)).trans hx195_0
   replace hx195_1 := (HB.out.cell (World.block_lt_of_cell? w _ hx195_1)).trans hx195_1
   replace hx195_2 := (HB.out.cell (World.block_lt_of_cell? w _ hx195_2)).trans hx195_2
   replace hx195_3 := (HB.out.cell (World.block_lt_of_cell? w _ hx195_3)).trans hx195_3
   replace p195 := eq_true p195
   replace q195 := eq_true q195
   refine start_ (n := 18) (S := fun w' => w'.cell? ⟨gb190, 0, none⟩ = some (.string ((rd_T54 l0 a1).f0)) ∧ w'.cell? ⟨gb190, 1, none⟩ = some (.int .i64 ((rd_T54 l0 a1).f1)) ∧ w'.cell? ⟨gb190, 2, none⟩ = some (.int .i64 ((rd_T54 l0 a1).f2)) ∧ w'.cell? ⟨gb190, 3, none⟩ = some (.int .i64 ((rd_T54 l0 a1).f3)) ∧ w'.cell? (ad189.add ((((rd_T54 l0 a1).f2)).toNat * 4)) = some (.string ((rd_T54 l0 ((rd_T54 l0 a1).f2)).f0)) ∧ w'.cell? ⟨(ad189.add ((((rd_T54 l0 a1).f2)).toNat * 4)).block, (ad189.add ((((rd_T54 l0 a1).f2)).toNat * 4)).off + 1, none⟩ = some (.int .i64 ((rd_T54 l0 ((rd_T54 l0 a1).f2)).f1)) ∧ w'.cell? ⟨(ad189.add ((((rd_T54 l0 a1).f2)).toNat * 4)).block, (ad189.add ((((rd_T54 l0 a1).f2)).toNat * 4)).off + 2, none⟩ = some (.int .i64 ((rd_T54 l0 ((rd_T54 l0 a1).f2)).f2)) ∧ w'.cell? ⟨(ad189.add ((((rd_T54 l0 a1).f2)).toNat * 4)).block, (ad189.add ((((rd_T54 l0 a1).f2)).toNat * 4)).off + 3, none⟩ = some (.int .i64 ((rd_T54 l0 ((rd_T54 l0 a1).f2)).f3))) (ds := []) (mk 18 0) (by kernel_rfl) rfl (by kernel_rfl) ⟨(blk_cell BK190.out 0).trans rfl, (blk_cell BK190.out 1).trans rfl, (blk_cell BK190.out 2).trans rfl, (blk_cell BK190.out 3).trans rfl, ((HB.out.cell (World.block_lt_of_cell? w _ hw195_0)).trans hw195_0), ((HB.out.cell (World.block_lt_of_cell? w _ hw195_1)).trans hw195_1), ((HB.out.cell (World.block_lt_of_cell? w _ hw195_2)).trans hw195_2), ((HB.out.cell (World.block_lt_of_cell? w _ hw195_3)).trans hw195_3)⟩ (fun hHeld => ?_); refine with_tabW spec_cvTile_at4.tab10 spec_cvTile_at4.bits10 (fun HT_ HW_ => ?_)
   generalize w15.drew = w16 at BK190 HB hx195_0 hx195_1 hx195_2 hx195_3 hHeld ⊢
   refine pu 0 51 18 1 rfl rfl ?_
   refine pu 1 52 18 3 rfl rfl ?_
   refine pu 2 53 18 7 rfl rfl ?_
   refine pu 4 55 18 23 rfl rfl ?_
   refine ta 5 56 18 55 rfl rfl ?_
   refine one_ (i := 3) (N := some 54) (mk 18 63) rfl rfl (one_of HT_.out (by kernel_rfl)) (by decide) (fun K hK => ?_)
   refine lss 54 9 Ny191.out ?_
   intro v192 w17 ho18 hb
   have HO193 := Aside0.mk (Kd.R_lower ho18 (below_size BA)); replace BK190 := kb BK190 hb; replace HB := bs hb
   clear hb ho18
   obtain ⟨Ao19, co19, eo19⟩ := Kd.R_slice HO193.out
   (first | subst eo19 | (injection eo19 with f1_ f2_ f3_; have f4_ := f1_.symm; have f5_ := f3_.symm; clear f1_ f2_ f3_; subst f4_; subst f5_))
   refine hK.out _ _ ⟨(blk_cell BK190.out 0).trans rfl, (blk_cell BK190.out 1).trans rfl, (blk_cell BK190.out 2).trans rfl, (blk_cell BK190.out 3).trans rfl, ((HB.out.cell (World.block_lt_of_cell? w _ hw195_0)).trans hw195_0), ((HB.out.cell (World.block_lt_of_cell? w _ hw195_1)).trans hw195_1), ((HB.out.cell (World.block_lt_of_cell? w _ hw195_2)).trans hw195_2), ((HB.out.cell (World.block_lt_of_cell? w _ hw195_3)).trans hw195_3)⟩ (fun hHeld => ?_)
   clear hK K
   refine nm 54 ?_
   refine one_ (i := 6) (N := some 57) (mk 18 127) rfl rfl (one_of HT_.out (by kernel_rfl)) (by decide) (fun K hK => ?_)
   refine goes_ Try.func81 (by kernel_rfl) rfl #[.slice Ao19 y191.length co19, .string ((rd_T54 l0 a1).f0)] (by rfl) rfl rfl (by (try simp only [List.map_toArray, List.map_cons, List.map_nil]); first | done | rfl | (simp only [List.length_drop, List.length_take]; rfl)) ?_
   with_reducible refine (spec_l1HasS.calls k _ _ y191 ((rd_T54 l0 a1).f0) true _ ?side1 ?side2 A9.out).mono ?_
   (case side1 => exact cb (Kd.R_reads' HO193.out).2.2)
   (case side2 => exact (Kd.R_reads' HO193.out).2.1)
   rintro e w' ⟨rfl, ⟨nd, rfl⟩⟩
   refine ⟨_, rfl, ?_⟩
   refine hK.out _ _ ⟨(blk_cell BK190.out 0).trans rfl, (blk_cell BK190.out 1).trans rfl, (blk_cell BK190.out 2).trans rfl, (blk_cell BK190.out 3).trans rfl, ((HB.out.cell (World.block_lt_of_cell? w _ hw195_0)).trans hw195_0), ((HB.out.cell (World.block_lt_of_cell? w _ hw195_1)).trans hw195_1), ((HB.out.cell (World.block_lt_of_cell? w _ hw195_2)).trans hw195_2), ((HB.out.cell (World.block_lt_of_cell? w _ hw195_3)).trans hw195_3)⟩ (fun hHeld => ?_)
   clear hK K
   refine nm 57 ?_
   refine pu 7 58 18 255 rfl rfl ?_
   refine pu 8 59 18 511 rfl rfl ?_
   refine pu 9 60 18 1023 rfl rfl ?_
   refine pu 10 61 18 2047 rfl rfl ?_
   refine ta 11 62 18 4095 rfl rfl ?_
   refine pu 12 63 18 8191 rfl rfl ?_
   refine ta 13 64 18 16383 rfl rfl ?_
   refine one_ (i := 14) (N := some 65) (mk 18 32767) rfl rfl (one_of HT_.out (by kernel_rfl)) (by decide) (fun K hK => ?_)
   refine goes_ Try.func83 (by kernel_rfl) rfl #[] (by rfl) rfl rfl (by (try simp only [List.map_toArray, List.map_cons, List.map_nil]); first | done | rfl | (simp only [List.length_drop, List.length_take]; rfl)) ?_
   with_reducible refine (spec_cvWords.calls k  t196 _ A13.out).mono ?_
   rintro e w20 ⟨v197, rfl, ho0, hb⟩
   refine ⟨_, rfl, ?_⟩
   replace HO193 := Aside0.mk (Kd.R_below (rb HO193.out) hb); have HO198 := Aside0.mk (Kd.R_lower ho0 (below_size BA)); replace BK190 := kb BK190 hb; replace HB := bs hb
   (try clear hb)
   (try clear hk)
   (try clear ho0)
   obtain ⟨Ao21, co21, eo21⟩ := Kd.R_slice HO198.out
   (first | subst eo21 | (injection eo21 with f1_ f2_ f3_; have f4_ := f1_.symm; have f5_ := f3_.symm; clear f1_ f2_ f3_; subst f4_; subst f5_))
   refine hK.out _ _ ⟨(blk_cell BK190.out 0).trans rfl, (blk_cell BK190.out 1).trans rfl, (blk_cell BK190.out 2).trans rfl, (blk_cell BK190.out 3).trans rfl, ((HB.out.cell (World.block_lt_of_cell? w _ hw195_0)).trans hw195_0), ((HB.out.cell (World.block_lt_of_cell? w _ hw195_1)).trans hw195_1), ((HB.out.cell (World.block_lt_of_cell? w _ hw195_2)).trans hw195_2), ((HB.out.cell (World.block_lt_of_cell? w _ hw195_3)).trans hw195_3)⟩ (fun hHeld => ?_)
   clear hK K
   refine nm 65 ?_
   refine one_ (i := 15) (N := some 66) (mk 18 65535) rfl rfl (one_of HT_.out (by kernel_rfl)) (by decide) (fun K hK => ?_)
   refine goes_ Try.func82 (by kernel_rfl) rfl #[.agg #[.string ((rd_T54 l0 ((rd_T54 l0 a1).f2)).f0), .int .i64 ((rd_T54 l0 ((rd_T54 l0 a1).f2)).f1), .int .i64 ((rd_T54 l0 ((rd_T54 l0 a1).f2)).f2), .int .i64 ((rd_T54 l0 ((rd_T54 l0 a1).f2)).f3)], .slice Ao21 t196.length co21] (by rfl) rfl rfl (by (try simp only [List.map_toArray, List.map_cons, List.map_nil]); first | done | rfl | (simp only [List.length_drop, List.length_take]; rfl)) ?_
   with_reducible refine (spec_cvConst.calls k ((rd_T54 l0 ((rd_T54 l0 a1).f2)).f0) ((rd_T54 l0 ((rd_T54 l0 a1).f2)).f1) ((rd_T54 l0 ((rd_T54 l0 a1).f2)).f2) ((rd_T54 l0 ((rd_T54 l0 a1).f2)).f3) _ _ t196 t199 _ ?side1 ?side2 A14.out).mono ?_
   (case side1 => exact cb (Kd.R_reads' HO198.out).2.2)
   (case side2 => exact (Kd.R_reads' HO198.out).2.1)
   rintro e w22 ⟨rfl, hb⟩
   refine ⟨_, rfl, ?_⟩
   replace HO193 := Aside0.mk (Kd.R_below (rb HO193.out) hb); replace HO198 := Aside0.mk (Kd.R_below (rb HO198.out) hb); replace BK190 := kb BK190 hb; replace HB := bs hb
   (try clear hb)
   (try clear hk)
   refine hK.out _ _ ⟨(blk_cell BK190.out 0).trans rfl, (blk_cell BK190.out 1).trans rfl, (blk_cell BK190.out 2).trans rfl, (blk_cell BK190.out 3).trans rfl, ((HB.out.cell (World.block_lt_of_cell? w _ hw195_0)).trans hw195_0), ((HB.out.cell (World.block_lt_of_cell? w _ hw195_1)).trans hw195_1), ((HB.out.cell (World.block_lt_of_cell? w _ hw195_2)).trans hw195_2), ((HB.out.cell (World.block_lt_of_cell? w _ hw195_3)).trans hw195_3)⟩ (fun hHeld => ?_)
   clear hK K
   refine nm 66 ?_
   refine pu 16 67 18 131071 rfl rfl ?_
   refine pu 17 50 18 262143 rfl rfl ?_
   refine done_ (done_of HT_.out (by kernel_rfl)) ?_
   try go_wp2
   go_meet
   case rel => exact ⟨_, (t199), EQ1, H', ⟨by first | omega | exact Nat.le_refl _⟩, ⟨by (with_reducible repeat (first | refine blk_drewN ?_ _ | refine blk_drew ?_ | refine blk_alloc ?_ _)); exact BK190.out⟩, ⟨BA⟩⟩
  ·replace c10 := Bool.eq_false_iff.mpr c10
   subst c10
   rw [if_neg (show ¬ (false = true) by decide)] at H
   have H' := Aside0.mk H
   clear H
   try go_wp2
   have n0_ : Aside0 (((((w7.setCell ⟨gb190, 0, none⟩ (.string ((rd_T54 l0 a1).f0))).setCell ⟨gb190, 1, none⟩ (.int .i64 ((rd_T54 l0 a1).f1))).setCell ⟨gb190, 2, none⟩ (.int .i64 ((rd_T54 l0 a1).f2))).setCell ⟨gb190, 3, none⟩ (.int .i64 ((rd_T54 l0 a1).f3))).heap[gb190]? = some (.cells #[.string ((rd_T54 l0 a1).f0), .int .i64 ((rd_T54 l0 a1).f1), .int .i64 ((rd_T54 l0 a1).f2), .int .i64 ((rd_T54 l0 a1).f3)] 54 (0, 0))) := ⟨by (with_reducible repeat (first | refine blk_drewN ?_ _ | refine blk_drew ?_ | refine blk_alloc ?_ _)); refine blk_put (cs := #[.string ((rd_T54 l0 a1).f0), .int .i64 ((rd_T54 l0 a1).f1), .int .i64 ((rd_T54 l0 a1).f2), .int .i64 0]) ?_ 3 _ rfl; (with_reducible repeat (first | refine blk_drewN ?_ _ | refine blk_drew ?_ | refine blk_alloc ?_ _)); refine blk_put (cs := #[.string ((rd_T54 l0 a1).f0), .int .i64 ((rd_T54 l0 a1).f1), .int .i64 0, .int .i64 0]) ?_ 2 _ rfl; (with_reducible repeat (first | refine blk_drewN ?_ _ | refine blk_drew ?_ | refine blk_alloc ?_ _)); refine blk_put (cs := #[.string ((rd_T54 l0 a1).f0), .int .i64 0, .int .i64 0, .int .i64 0]) ?_ 1 _ rfl; (with_reducible repeat (first | refine blk_drewN ?_ _ | refine blk_drew ?_ | refine blk_alloc ?_ _)); refine blk_put (cs := #[.string (⟨#[]⟩ : ByteArray), .int .i64 0, .int .i64 0, .int .i64 0]) ?_ 0 _ rfl; (with_reducible repeat (first | refine blk_drewN ?_ _ | refine blk_drew ?_ | refine blk_alloc ?_ _)); exact BK190.out⟩
   have n1_ : Aside0 (Below w.heap.size w ((((w7.setCell ⟨gb190, 0, none⟩ (.string ((rd_T54 l0 a1).f0))).setCell ⟨gb190, 1, none⟩ (.int .i64 ((rd_T54 l0 a1).f1))).setCell ⟨gb190, 2, none⟩ (.int .i64 ((rd_T54 l0 a1).f2))).setCell ⟨gb190, 3, none⟩ (.int .i64 ((rd_T54 l0 a1).f3)))) := ⟨BA⟩
   (try clear BK190)
   (try clear HB)
   generalize ((((w7.setCell ⟨gb190, 0, none⟩ (.string ((rd_T54 l0 a1).f0))).setCell ⟨gb190, 1, none⟩ (.int .i64 ((rd_T54 l0 a1).f1))).setCell ⟨gb190, 2, none⟩ (.int .i64 ((rd_T54 l0 a1).f2))).setCell ⟨gb190, 3, none⟩ (.int .i64 ((rd_T54 l0 a1).f3))) = w23 at n0_ n1_ ⊢
   have BK190 := n0_
   have HB := n1_
   clear n0_ n1_
   replace BK190 := Aside0.mk (blk_drew BK190.out); replace HB := Aside0.mk (below_drew1 HB.out)
   refine start_ (n := 18) (S := C4 gb190 (.string ((rd_T54 l0 a1).f0)) (.int .i64 ((rd_T54 l0 a1).f1)) (.int .i64 ((rd_T54 l0 a1).f2)) (.int .i64 ((rd_T54 l0 a1).f3))) (ds := []) (mk 18 0) (by kernel_rfl) rfl (by kernel_rfl) (bc4 BK190.out) (fun hHeld => ?_); refine with_tabW spec_cvTile_at4.tab10 spec_cvTile_at4.bits10 (fun HT_ HW_ => ?_)
   generalize w23.drew = w24 at BK190 HB hHeld ⊢
   refine pu 0 51 18 1 rfl rfl ?_
   refine pu 1 52 18 3 rfl rfl ?_
   refine pu 2 53 18 7 rfl rfl ?_
   refine pu 4 55 18 23 rfl rfl ?_
   refine ta 5 56 18 55 rfl rfl ?_
   refine one_ (i := 3) (N := some 54) (mk 18 63) rfl rfl (one_of HT_.out (by kernel_rfl)) (by decide) (fun K hK => ?_)
   refine lss 54 9 Ny191.out ?_
   intro v192 w25 ho26 hb
   have HO193 := Aside0.mk (Kd.R_lower ho26 (below_size BA)); replace BK190 := kb BK190 hb; replace HB := bs hb
   clear hb ho26
   obtain ⟨Ao27, co27, eo27⟩ := Kd.R_slice HO193.out
   (first | subst eo27 | (injection eo27 with f1_ f2_ f3_; have f4_ := f1_.symm; have f5_ := f3_.symm; clear f1_ f2_ f3_; subst f4_; subst f5_))
   refine hK.out _ _ (bc4 BK190.out) (fun hHeld => ?_)
   clear hK K
   refine nm 54 ?_
   refine one_ (i := 6) (N := some 57) (mk 18 127) rfl rfl (one_of HT_.out (by kernel_rfl)) (by decide) (fun K hK => ?_)
   refine goes_ Try.func81 (by kernel_rfl) rfl #[.slice Ao27 y191.length co27, .string ((rd_T54 l0 a1).f0)] (by rfl) rfl rfl (by (try simp only [List.map_toArray, List.map_cons, List.map_nil]); first | done | rfl | (simp only [List.length_drop, List.length_take]; rfl)) ?_
   with_reducible refine (spec_l1HasS.calls k _ _ y191 ((rd_T54 l0 a1).f0) false _ ?side1 ?side2 A9.out).mono ?_
   (case side1 => exact cb (Kd.R_reads' HO193.out).2.2)
   (case side2 => exact (Kd.R_reads' HO193.out).2.1)
   rintro e w' ⟨rfl, ⟨nd, rfl⟩⟩
   refine ⟨_, rfl, ?_⟩
   refine hK.out _ _ (bc4 BK190.out) (fun hHeld => ?_)
   clear hK K
   refine nm 57 ?_
   refine pu 7 58 18 255 rfl rfl ?_
   refine pu 8 59 18 511 rfl rfl ?_
   refine pos [(9, some 60), (10, some 61), (11, some 62), (12, some 63), (13, some 64), (14, some 65), (15, some 66)] 18 65535 2 ?_
   refine pu 16 67 18 131071 rfl rfl ?_
   refine pu 17 50 18 262143 rfl rfl ?_
   refine done_ (done_of HT_.out (by kernel_rfl)) ?_
   try go_wp2
   go_meet
   case rel => exact ⟨_, (false), EQ1, H', ⟨by first | omega | exact Nat.le_refl _⟩, ⟨by (with_reducible repeat (first | refine blk_drewN ?_ _ | refine blk_drew ?_ | refine blk_alloc ?_ _)); exact BK190.out⟩, ⟨BA⟩⟩
 case rest =>
  clear HC6
  (try clear c4b0); (try clear c5b0); (try clear c10); (try clear c11b0); (try clear c12b0); (try clear hcz8_0); (try clear hcz8_1); (try clear hcz8_2); (try clear hcz8_3); (try clear hx189_0); (try clear hx189_1); (try clear hx189_2); (try clear hx189_3); (try clear hx195_0); (try clear hx195_1); (try clear hx195_2); (try clear hx195_3); (try clear p189); (try clear p195); (try clear q189); (try clear q195)
  obtain ⟨kq, x50_5, rfl, HA, HJ5, BK190, HB⟩ := hcut
  cases kq with
  | zero => exact absurd HA.out (by simp [spec_cvTile_at4.j0])
  | succ kj5 =>
   have H := HA.out
   clear HA
   simp only [spec_cvTile_at4.j0] at H
   by_cases c28 : x50_5 = true
   ·subst c28
    rw [if_pos rfl] at H
    obtain ⟨y200, hy200⟩ : ∃ y_ : List Int, y_ = (([((rd_T54 l0 a1).f1)] : List Int)) := ⟨_, rfl⟩
    replace H : (some (y200, (([((rd_T54 l0 a1).f2)] : List Int)), true)) = some (r1, r2, r3) := by first | (rw [hy200]; with_reducible exact H) | (have H2_ := (Option.bind_some _ _).symm.trans H; rw [hy200]; with_reducible exact H2_) | (have H2_ := (Option.bind_some _ _).symm.trans H; with_reducible exact H2_) | with_reducible exact H | (rw [hy200]; exact H) | exact H
    have Ny200 := Aside0.mk hy200
    clear hy200
    obtain ⟨y203, hy203⟩ : ∃ y_ : List Int, y_ = (([((rd_T54 l0 a1).f2)] : List Int)) := ⟨_, rfl⟩
    replace H : (some (y200, y203, true)) = some (r1, r2, r3) := by first | (rw [hy203]; with_reducible exact H) | (have H2_ := (Option.bind_some _ _).symm.trans H; rw [hy203]; with_reducible exact H2_) | (have H2_ := (Option.bind_some _ _).symm.trans H; with_reducible exact H2_) | with_reducible exact H | (rw [hy203]; exact H) | exact H
    have Ny203 := Aside0.mk hy203
    clear hy203
    simp only [Option.some.injEq, Prod.mk.injEq] at H
    obtain ⟨rfl, rfl, rfl⟩ := H
    try go_wp2
    replace BK190 := Aside0.mk (blk_drew BK190.out); replace HB := Aside0.mk (below_drew1 HB.out)
    refine start_ (n := 9) (S := C4 gb190 (.string ((rd_T54 l0 a1).f0)) (.int .i64 ((rd_T54 l0 a1).f1)) (.int .i64 ((rd_T54 l0 a1).f2)) (.int .i64 ((rd_T54 l0 a1).f3))) (ds := []) (mk 9 0) (by kernel_rfl) rfl (by kernel_rfl) (bc4 BK190.out) (fun hHeld => ?_); refine with_tabW spec_cvTile_at4.tab11 spec_cvTile_at4.bits11 (fun HT_ HW_ => ?_)
    generalize wc.drew = w29 at BK190 HB hHeld ⊢
    refine pu 0 68 9 1 rfl rfl ?_
    refine pu 3 71 9 9 rfl rfl ?_
    refine ta 1 69 9 11 rfl rfl ?_
    refine ta 4 72 9 27 rfl rfl ?_
    refine join_ (σ := Value × Value) 2 #[true, true, true, true, true, true, true, false, false] (fun s_ => [(70, s_.1), (73, s_.2), (6, s_.1)]) (fun s_ w' => (w'.cell? ⟨gb190, 0, none⟩ = some (.string ((rd_T54 l0 a1).f0)) ∧ w'.cell? ⟨gb190, 1, none⟩ = some (.int .i64 ((rd_T54 l0 a1).f1)) ∧ w'.cell? ⟨gb190, 2, none⟩ = some (.int .i64 ((rd_T54 l0 a1).f2)) ∧ w'.cell? ⟨gb190, 3, none⟩ = some (.int .i64 ((rd_T54 l0 a1).f3))) ∧ (Kd.R (Kd.int .i64) 3 w' w.heap.size (fun k_ => some k_ ≠ (s_.2 : Value).ownBlock) s_.1 y200) ∧ (Kd.R (Kd.int .i64) 3 w' w.heap.size (fun k_ => some k_ ≠ (s_.1 : Value).ownBlock) s_.2 y203) ∧ (w'.heap[gb190]? = some (.cells #[.string ((rd_T54 l0 a1).f0), .int .i64 ((rd_T54 l0 a1).f1), .int .i64 ((rd_T54 l0 a1).f2), .int .i64 ((rd_T54 l0 a1).f3)] 54 (0, 0))) ∧ (Below w.heap.size w w')) ?_ ?_
    rotate_left
    ·intro hCont
     refine two_ (i := 2) (j := 5) (Ni := some 70) (Nj := some 73) #[true, true, true, true, true, false, false, false, false] #[true, true, false, true, true, true, false, false, false] rfl rfl rfl rfl (two_of HT_.out (by kernel_rfl)) (by decide) (by decide) (fun K hK => ?_) (fun K hK => ?_)
     ·skip
      refine lis 70 3 Ny200.out ?_
      intro v201 w30 ho31 hb
      have HO202 := Aside0.mk (Kd.R_lower ho31 (below_size BA)); replace BK190 := kb BK190 hb; replace HB := bs hb
      clear hb ho31
      refine hK.out _ _ (bc4 BK190.out) (fun hHeld => ?_)
      clear hK K
      refine nm 70 ?_
      refine pu 6 6 9 95 rfl rfl ?_
      refine one_ (i := 5) (N := some 73) (mk 9 127) rfl rfl (one_of HT_.out (by kernel_rfl)) (by decide) (fun K hK => ?_)
      refine lis 73 3 Ny203.out ?_
      intro v204 w32 ho33 hb
      have HO205 := Aside0.mk (Kd.R_lower (Kd.R_new' ho33 (Kd.R_lt (rb HO202.out))) (below_size BA)); replace HO202 := Aside0.mk (Kd.R_elder' (rb HO202.out) (Kd.R_base ho33) hb); replace BK190 := kb BK190 hb; replace HB := bs hb
      clear hb ho33
      refine hK.out _ _ (bc4 BK190.out) (fun hHeld => ?_)
      clear hK K
      refine nm 73 ?_
      exact norm_ (by simp only [putAll, Act.put, List.setIfInBounds_toArray, List.set_cons_zero, List.set_cons_succ]) (hCont (v201, v204) _ ⟨hHeld, (rb (Kd.R_mono HO202.out (fun _ hk => hk.2))), (rb (Kd.R_mono HO205.out (fun _ hk => hk.2))), (bk BK190.out), BA⟩)
     ·skip
      refine lis 73 3 Ny203.out ?_
      intro v204 w30 ho31 hb
      have HO205 := Aside0.mk (Kd.R_lower ho31 (below_size BA)); replace BK190 := kb BK190 hb; replace HB := bs hb
      clear hb ho31
      refine hK.out _ _ (bc4 BK190.out) (fun hHeld => ?_)
      clear hK K
      refine nm 73 ?_
      refine one_ (i := 2) (N := some 70) (mk 9 63) rfl rfl (one_of HT_.out (by kernel_rfl)) (by decide) (fun K hK => ?_)
      refine lis 70 3 Ny200.out ?_
      intro v201 w32 ho33 hb
      have HO202 := Aside0.mk (Kd.R_lower (Kd.R_new' ho33 (Kd.R_lt (rb HO205.out))) (below_size BA)); replace HO205 := Aside0.mk (Kd.R_elder' (rb HO205.out) (Kd.R_base ho33) hb); replace BK190 := kb BK190 hb; replace HB := bs hb
      clear hb ho33
      refine hK.out _ _ (bc4 BK190.out) (fun hHeld => ?_)
      clear hK K
      refine nm 70 ?_
      refine pu 6 6 9 127 rfl rfl ?_
      exact norm_ (by simp only [putAll, Act.put, List.setIfInBounds_toArray, List.set_cons_zero, List.set_cons_succ]) (hCont (v201, v204) _ ⟨hHeld, (rb (Kd.R_mono HO202.out (fun _ hk => hk.2))), (rb (Kd.R_mono HO205.out (fun _ hk => hk.2))), (bk BK190.out), BA⟩)
    rintro ⟨v201, v204⟩ w34 ⟨hS_, h0_, h1_, h2_, h3_⟩
    have n0_ : Aside0 (Kd.R (Kd.int .i64) 3 w34 w.heap.size (fun k_ => some k_ ≠ (v204 : Value).ownBlock) v201 y200) := ⟨h0_⟩
    have n1_ : Aside0 (Kd.R (Kd.int .i64) 3 w34 w.heap.size (fun k_ => some k_ ≠ (v201 : Value).ownBlock) v204 y203) := ⟨h1_⟩
    have n2_ : Aside0 (w34.heap[gb190]? = some (.cells #[.string ((rd_T54 l0 a1).f0), .int .i64 ((rd_T54 l0 a1).f1), .int .i64 ((rd_T54 l0 a1).f2), .int .i64 ((rd_T54 l0 a1).f3)] 54 (0, 0))) := ⟨h2_⟩
    have n3_ : Aside0 (Below w.heap.size w w34) := ⟨h3_⟩
    clear BK190
    clear HB
    clear h0_ h1_ h2_ h3_
    have HO202 := n0_
    have HO205 := n1_
    have BK190 := n2_
    have HB := n3_
    clear n0_ n1_ n2_ n3_
    have hHeld : w34.cell? ⟨gb190, 0, none⟩ = some (.string ((rd_T54 l0 a1).f0)) ∧ w34.cell? ⟨gb190, 1, none⟩ = some (.int .i64 ((rd_T54 l0 a1).f1)) ∧ w34.cell? ⟨gb190, 2, none⟩ = some (.int .i64 ((rd_T54 l0 a1).f2)) ∧ w34.cell? ⟨gb190, 3, none⟩ = some (.int .i64 ((rd_T54 l0 a1).f3)) := hS_
    refine norm_ (a' := ?_) ?_ ?_
    rotate_left
    ·simp only [putAll, Act.put, List.setIfInBounds_toArray, List.set_cons_zero, List.set_cons_succ]
     rfl
    refine pu 7 7 9 255 rfl rfl ?_
    refine pu 8 8 9 511 rfl rfl ?_
    refine done_ (done_of HT_.out (by kernel_rfl)) ?_
    try go_wp2
    go_ret3
    exact ⟨_, _, EQ, rb HO202.out, rb HO205.out, BA⟩
   ·replace c28 := Bool.eq_false_iff.mpr c28
    subst c28
    rw [if_neg (show ¬ (false = true) by decide)] at H
    simp only [Option.some.injEq, Prod.mk.injEq] at H
    obtain ⟨rfl, rfl, rfl⟩ := H
    try go_wp2
    replace BK190 := Aside0.mk (blk_drew BK190.out); replace HB := Aside0.mk (below_drew1 HB.out)
    refine start_ (n := 18) (S := fun w' => True) (ds := []) (mk 18 0) (by kernel_rfl) rfl (by kernel_rfl) trivial (fun hHeld => ?_); refine with_tabW spec_cvTile_at4.tab12 spec_cvTile_at4.bits12 (fun HT_ HW_ => ?_)
    generalize wc.drew = w35 at BK190 HB hHeld ⊢
    refine pu 0 75 18 1 rfl rfl ?_
    refine pu 1 76 18 3 rfl rfl ?_
    refine pu 2 77 18 7 rfl rfl ?_
    refine pos [(3, some 78), (4, some 79), (5, some 80), (6, some 81)] 18 127 11 ?_
    refine pu 7 82 18 255 rfl rfl ?_
    refine pu 8 83 18 511 rfl rfl ?_
    refine pos [(9, some 84), (10, some 85), (11, some 86), (12, some 87), (13, some 88), (14, some 89), (15, some 90)] 18 65535 2 ?_
    refine pu 16 91 18 131071 rfl rfl ?_
    refine pu 17 74 18 262143 rfl rfl ?_
    refine done_ (done_of HT_.out (by kernel_rfl)) ?_
    try go_wp2
    go_ret3
    exact ⟨_, _, EQ, by first | exact Kd.R_nil _ _ _ _ _ | exact Kd.N_nil _ _ _ _ _ | exact Kd.V_nil _ _ _ _ _ | exact Kd.Q_nil _ _ _ _ _ | exact Kd.S_nil _ _ _ _ _, by first | exact Kd.R_nil _ _ _ _ _ | exact Kd.N_nil _ _ _ _ _ | exact Kd.V_nil _ _ _ _ _ | exact Kd.Q_nil _ _ _ _ _ | exact Kd.S_nil _ _ _ _ _, BA⟩

/-! ### spec_cvTile_at5: function 53 -/
def spec_cvTile_at5.j0 : Nat → Bool → ByteArray → Int → Int → Int → Option (List Int × List Int × Bool)
 | 0, _, _, _, _, _ => none
 | k + 1, x74, x208000, x208001, x208002, x208003 => if x74 = true then (some ((([x208002] : List Int)), (([x208001] : List Int)), true)) else (some (([] : List Int), ([] : List Int), false))
def spec_cvTile_at5.f (k : Nat) (l0 : List (S54)) (a1 : Int)  : Option (List Int × List Int × Bool) := if 0 ≤ a1 then (if a1 < (l0.length : Int) then ((spec_l1HasS.f k (([(⟨#[97, 100, 100]⟩ : ByteArray), (⟨#[97, 110, 100]⟩ : ByteArray), (⟨#[120, 111, 114]⟩ : ByteArray)] : List ByteArray)) ((rd_T54 l0 a1).f0)).bind fun t211 => (if t211 = true then (if 0 ≤ ((rd_T54 l0 a1).f1) then (if ((rd_T54 l0 a1).f1) < (l0.length : Int) then ((spec_cvWords.f k).bind fun t213 => ((spec_cvConst.f k ((rd_T54 l0 ((rd_T54 l0 a1).f1)).f0) ((rd_T54 l0 ((rd_T54 l0 a1).f1)).f1) ((rd_T54 l0 ((rd_T54 l0 a1).f1)).f2) ((rd_T54 l0 ((rd_T54 l0 a1).f1)).f3) t213).bind fun t216 => (spec_cvTile_at5.j0 k t216 ((rd_T54 l0 a1).f0) ((rd_T54 l0 a1).f1) ((rd_T54 l0 a1).f2) ((rd_T54 l0 a1).f3)))) else (none)) else (none)) else (spec_cvTile_at5.j0 k false ((rd_T54 l0 a1).f0) ((rd_T54 l0 a1).f1) ((rd_T54 l0 a1).f2) ((rd_T54 l0 a1).f3)))) else (none)) else (none)
def spec_cvTile_at5.T10 : Bool × List (List Nat × List Nat) := (true, [([], []), ([0], [0]), ([1], [1]), ([2], [2]), ([2], [2]), ([4, 2], [2, 4]), ([3, 5, 2, 2], [2, 3, 5]), ([2, 6], [2, 6]), ([7, 6], [7]), ([8], [8]), ([8], [8]), ([10, 8], [8, 10]), ([9, 11, 8], [8, 9, 11]), ([12, 8], [8, 12]), ([8, 8], [8]), ([13, 14, 14, 8], [8, 13, 14]), ([8, 15], [8, 15]), ([16, 15], [16])])
def spec_cvTile_at5.B10 : List Nat := [0, 1, 3, 7, 7, 23, 63, 127, 255, 511, 511, 1535, 4095, 8191, 511, 32767, 65535, 131071]
theorem spec_cvTile_at5.tab10 : rtab .any (opsOf Try.f53 10) = spec_cvTile_at5.T10 := by kernel_rfl
theorem spec_cvTile_at5.bits10 : waitsOk spec_cvTile_at5.T10.2 spec_cvTile_at5.B10 = true := by kernel_rfl
def spec_cvTile_at5.T12 : Bool × List (List Nat × List Nat) := (true, [([], []), ([0], [0]), ([1], [1]), ([2], [2]), ([2], [2]), ([4, 2], [2, 4]), ([3, 5, 2, 2], [2, 3, 5]), ([2, 6], [2, 6]), ([7, 6], [7]), ([8], [8]), ([8], [8]), ([10, 8], [8, 10]), ([9, 11, 8], [8, 9, 11]), ([12, 8], [8, 12]), ([8, 8], [8]), ([13, 14, 14, 8], [8, 13, 14]), ([8, 15], [8, 15]), ([16, 15], [16])])
def spec_cvTile_at5.B12 : List Nat := [0, 1, 3, 7, 7, 23, 63, 127, 255, 511, 511, 1535, 4095, 8191, 511, 32767, 65535, 131071]
theorem spec_cvTile_at5.tab12 : rtab .any (opsOf Try.f53 12) = spec_cvTile_at5.T12 := by kernel_rfl
theorem spec_cvTile_at5.bits12 : waitsOk spec_cvTile_at5.T12.2 spec_cvTile_at5.B12 = true := by kernel_rfl
def spec_cvTile_at5.T13 : Bool × List (List Nat × List Nat) := (true, [([], []), ([0], [0]), ([1], [1]), ([], []), ([3], [3]), ([4], [4]), ([2, 0, 1, 2], [2]), ([5, 6, 0, 1, 2, 3, 4, 5, 6], [5]), ([7, 0, 1, 2, 3, 4, 5, 6, 7], [])])
def spec_cvTile_at5.B13 : List Nat := [0, 1, 3, 0, 8, 24, 7, 127, 255]
theorem spec_cvTile_at5.tab13 : rtab .any (opsOf Try.f53 13) = spec_cvTile_at5.T13 := by kernel_rfl
theorem spec_cvTile_at5.bits13 : waitsOk spec_cvTile_at5.T13.2 spec_cvTile_at5.B13 = true := by kernel_rfl
theorem spec_cvTile_at5.calls (k : Nat) (A0 : Option Addr) (c0 : Nat) (l0 : List (S54)) (a1 : Int)  (r1 : List Int) (r2 : List Int) (r3 : Bool) (w : World) (hr0 : Kd.C k54 w A0 l0.length l0) (hc0 : l0.length ≤ c0) (h : spec_cvTile_at5.f k l0 a1 = some (r1, r2, r3)) :
  Calls Try.prog 53 #[.slice A0 l0.length c0, .int .i64 a1, .int .i64 5] w fun e w' => ∃ v0_ v1_ : Value, e = .returned (.tuple #[v0_, v1_, .bool r3]) ∧ Kd.R (Kd.int .i64) 3 w' w.heap.size (fun k_ => some k_ ≠ (v1_ : Value).ownBlock) v0_ r1 ∧ Kd.R (Kd.int .i64) 3 w' w.heap.size (fun k_ => some k_ ≠ (v0_ : Value).ownBlock) v1_ r2 ∧ Below w.heap.size w w' := by
 have hu54 := Try.underlying54
 have HR0 := Aside0.mk hr0
 have HC0 := Aside0.mk hc0
 clear hr0 hc0
 have HB := Aside0.mk (Below.refl w.heap.size w)
 have H := h
 clear h
 unfold spec_cvTile_at5.f at H
 obtain ⟨c4, H⟩ := ifs H
 have c4b0 := decide_eq_true c4
 clear c4
 obtain ⟨c5, H⟩ := ifs H
 have c5b0 := decide_eq_true c5
 clear c5
 have HC6 := Aside0.mk H
 clear H
 have p206 : 0 ≤ (a1 : Int) := DT
 have q206 : a1 < (l0.length : Int) := DT
 obtain ⟨ad206, e206, hx206_0, hx206_1, hx206_2, hx206_3⟩ := at_T54 HR0.out a1 p206 q206
 cases e206
 replace p206 := eq_true p206
 replace q206 := eq_true q206
 go_enter Try.func53, Try.ntmps53
 try go_wp2_with (first | ((with_reducible refine gd 9 rfl ?_); (try (refine gate_guard (by rfl) ?_; dsimp only)); refine bx 9 #[.string (⟨#[]⟩ : ByteArray), .int .i64 0, .int .i64 0, .int .i64 0] 54 ?_; intro gb207 hg w7 BK207 GW207 HB hb; have GE207 := GW207; clear hb hg; obtain ⟨hcz8_0, hcz8_1, hcz8_2, hcz8_3⟩ := bc4 BK207.out; have hfz8 := blk_frozen BK207.out))
 have n0_ : Aside0 (((((w7.setCell ⟨gb207, 0, none⟩ (.string ((rd_T54 l0 a1).f0))).setCell ⟨gb207, 1, none⟩ (.int .i64 ((rd_T54 l0 a1).f1))).setCell ⟨gb207, 2, none⟩ (.int .i64 ((rd_T54 l0 a1).f2))).setCell ⟨gb207, 3, none⟩ (.int .i64 ((rd_T54 l0 a1).f3))).heap[gb207]? = some (.cells #[.string ((rd_T54 l0 a1).f0), .int .i64 ((rd_T54 l0 a1).f1), .int .i64 ((rd_T54 l0 a1).f2), .int .i64 ((rd_T54 l0 a1).f3)] 54 (0, 0))) := ⟨by (with_reducible repeat (first | refine blk_drewN ?_ _ | refine blk_drew ?_ | refine blk_alloc ?_ _)); refine blk_put (cs := #[.string ((rd_T54 l0 a1).f0), .int .i64 ((rd_T54 l0 a1).f1), .int .i64 ((rd_T54 l0 a1).f2), .int .i64 0]) ?_ 3 _ rfl; (with_reducible repeat (first | refine blk_drewN ?_ _ | refine blk_drew ?_ | refine blk_alloc ?_ _)); refine blk_put (cs := #[.string ((rd_T54 l0 a1).f0), .int .i64 ((rd_T54 l0 a1).f1), .int .i64 0, .int .i64 0]) ?_ 2 _ rfl; (with_reducible repeat (first | refine blk_drewN ?_ _ | refine blk_drew ?_ | refine blk_alloc ?_ _)); refine blk_put (cs := #[.string ((rd_T54 l0 a1).f0), .int .i64 0, .int .i64 0, .int .i64 0]) ?_ 1 _ rfl; (with_reducible repeat (first | refine blk_drewN ?_ _ | refine blk_drew ?_ | refine blk_alloc ?_ _)); refine blk_put (cs := #[.string (⟨#[]⟩ : ByteArray), .int .i64 0, .int .i64 0, .int .i64 0]) ?_ 0 _ rfl; (with_reducible repeat (first | refine blk_drewN ?_ _ | refine blk_drew ?_ | refine blk_alloc ?_ _)); exact BK207.out⟩
 have n1_ : Aside0 (Below w.heap.size w ((((w7.setCell ⟨gb207, 0, none⟩ (.string ((rd_T54 l0 a1).f0))).setCell ⟨gb207, 1, none⟩ (.int .i64 ((rd_T54 l0 a1).f1))).setCell ⟨gb207, 2, none⟩ (.int .i64 ((rd_T54 l0 a1).f2))).setCell ⟨gb207, 3, none⟩ (.int .i64 ((rd_T54 l0 a1).f3)))) := ⟨BA⟩
 (try clear BK207)
 (try clear HB)
 generalize ((((w7.setCell ⟨gb207, 0, none⟩ (.string ((rd_T54 l0 a1).f0))).setCell ⟨gb207, 1, none⟩ (.int .i64 ((rd_T54 l0 a1).f1))).setCell ⟨gb207, 2, none⟩ (.int .i64 ((rd_T54 l0 a1).f2))).setCell ⟨gb207, 3, none⟩ (.int .i64 ((rd_T54 l0 a1).f3))) = w9 at n0_ n1_ ⊢
 have BK207 := n0_
 have HB := n1_
 clear n0_ n1_
 replace BK207 := Aside0.mk (blk_drew BK207.out); replace HB := Aside0.mk (below_drew1 HB.out)
 refine start_ (n := 18) (S := fun w' => True) (ds := []) (mk 18 0) (by kernel_rfl) rfl (by kernel_rfl) trivial (fun hHeld => ?_); refine with_tabW spec_cvTile_at5.tab10 spec_cvTile_at5.bits10 (fun HT_ HW_ => ?_)
 generalize w9.drew = w10 at BK207 HB hHeld ⊢
 refine pu 0 51 18 1 rfl rfl ?_
 refine pu 1 52 18 3 rfl rfl ?_
 refine pu 2 53 18 7 rfl rfl ?_
 refine pos [(3, some 54), (4, some 55), (5, some 56), (6, some 57)] 18 127 11 ?_
 refine pu 7 58 18 255 rfl rfl ?_
 refine pu 8 59 18 511 rfl rfl ?_
 refine pos [(9, some 60), (10, some 61), (11, some 62), (12, some 63), (13, some 64), (14, some 65), (15, some 66)] 18 65535 2 ?_
 refine pu 16 67 18 131071 rfl rfl ?_
 refine pu 17 50 18 262143 rfl rfl ?_
 refine done_ (done_of HT_.out (by kernel_rfl)) ?_
 go_upto_region 12 with (fail)
 go_cut [74] (fun v74 wc => ∃ (kq : Nat) (x74_5 : Bool), v74 = .bool x74_5 ∧ Aside0 (spec_cvTile_at5.j0 kq x74_5 ((rd_T54 l0 a1).f0) ((rd_T54 l0 a1).f1) ((rd_T54 l0 a1).f2) ((rd_T54 l0 a1).f3) = some (r1, r2, r3)) ∧ Aside0 (kq ≤ k) ∧ Aside0 (wc.heap[gb207]? = some (.cells #[.string ((rd_T54 l0 a1).f0), .int .i64 ((rd_T54 l0 a1).f1), .int .i64 ((rd_T54 l0 a1).f2), .int .i64 ((rd_T54 l0 a1).f3)] 54 (0, 0))) ∧ Aside0 (Below w.heap.size w wc))
 case first =>
  have H := HC6.out
  clear HC6
  obtain ⟨y208, hy208⟩ : ∃ y_ : List ByteArray, y_ = (([(⟨#[97, 100, 100]⟩ : ByteArray), (⟨#[97, 110, 100]⟩ : ByteArray), (⟨#[120, 111, 114]⟩ : ByteArray)] : List ByteArray)) := ⟨_, rfl⟩
  replace H : ((spec_l1HasS.f k y208 ((rd_T54 l0 a1).f0)).bind fun t211 => (if t211 = true then (if 0 ≤ ((rd_T54 l0 a1).f1) then (if ((rd_T54 l0 a1).f1) < (l0.length : Int) then ((spec_cvWords.f k).bind fun t213 => ((spec_cvConst.f k ((rd_T54 l0 ((rd_T54 l0 a1).f1)).f0) ((rd_T54 l0 ((rd_T54 l0 a1).f1)).f1) ((rd_T54 l0 ((rd_T54 l0 a1).f1)).f2) ((rd_T54 l0 ((rd_T54 l0 a1).f1)).f3) t213).bind fun t216 => (spec_cvTile_at5.j0 k t216 ((rd_T54 l0 a1).f0) ((rd_T54 l0 a1).f1) ((rd_T54 l0 a1).f2) ((rd_T54 l0 a1).f3)))) else (none)) else (none)) else (spec_cvTile_at5.j0 k false ((rd_T54 l0 a1).f0) ((rd_T54 l0 a1).f1) ((rd_T54 l0 a1).f2) ((rd_T54 l0 a1).f3)))) = some (r1, r2, r3) := by first | (rw [hy208]; with_reducible exact H) | (have H2_ := (Option.bind_some _ _).symm.trans H; rw [hy208]; with_reducible exact H2_) | (have H2_ := (Option.bind_some _ _).symm.trans H; with_reducible exact H2_) | with_reducible exact H | (rw [hy208]; exact H) | exact H
  have Ny208 := Aside0.mk hy208
  clear hy208
  obtain ⟨t211, A11, H⟩ := ob H
  (try dsimp only at H)
  by_cases c12 : t211 = true
  ·subst c12
   rw [if_pos rfl] at H
   obtain ⟨c13, H⟩ := ifs H
   have c13b0 := decide_eq_true c13
   clear c13
   (first | rw [c13b0] | (simp only [i64_w, i32_w]; rw [c13b0]) | skip)
   obtain ⟨c14, H⟩ := ifs H
   have c14b0 := decide_eq_true c14
   clear c14
   obtain ⟨t213, A15, H⟩ := ob H
   (try dsimp only at H)
   obtain ⟨t216, A16, H⟩ := ob H
   (try dsimp only at H)
   have H' := Aside0.mk H
   clear H
   try go_wp2
   replace BK207 := Aside0.mk (blk_drew BK207.out); replace HB := Aside0.mk (below_drew1 HB.out)
   have p212 : 0 ≤ (((rd_T54 l0 a1).f1) : Int) := DT
   have q212 : ((rd_T54 l0 a1).f1) < (l0.length : Int) := DT
   obtain ⟨ad212, e212, hx212_0, hx212_1, hx212_2, hx212_3⟩ := at_T54 HR0.out ((rd_T54 l0 a1).f1) p212 q212
   have hw212_3 := hx212_3
   have hw212_2 := hx212_2
   have hw212_1 := hx212_1
   have hw212_0 := hx212_0
   obtain rfl : ad206 = ad212 := (by injection e212)
   replace hx212_0 := (HB.out.cell (World.block_lt_of_cell? w _ hx212_0)).trans hx212_0
   replace hx212_1 := (HB.out.cell (World.block_lt_of_cell? w _ hx212_1)).trans hx212_1
   replace hx212_2 := (HB.out.cell (World.block_lt_of_cell? w _ hx212_2)).trans hx212_2
   replace hx212_3 := (HB.out.cell (World.block_lt_of_cell? w _ hx212_3)).trans hx212_3
   replace p212 := eq_true p212
   replace q212 := eq_true q212
   refine start_ (n := 18) (S := fun w' => w'.cell? ⟨gb207, 0, none⟩ = some (.string ((rd_T54 l0 a1).f0)) ∧ w'.cell? ⟨gb207, 1, none⟩ = some (.int .i64 ((rd_T54 l0 a1).f1)) ∧ w'.cell? ⟨gb207, 2, none⟩ = some (.int .i64 ((rd_T54 l0 a1).f2)) ∧ w'.cell? ⟨gb207, 3, none⟩ = some (.int .i64 ((rd_T54 l0 a1).f3)) ∧ w'.cell? (ad206.add ((((rd_T54 l0 a1).f1)).toNat * 4)) = some (.string ((rd_T54 l0 ((rd_T54 l0 a1).f1)).f0)) ∧ w'.cell? ⟨(ad206.add ((((rd_T54 l0 a1).f1)).toNat * 4)).block, (ad206.add ((((rd_T54 l0 a1).f1)).toNat * 4)).off + 1, none⟩ = some (.int .i64 ((rd_T54 l0 ((rd_T54 l0 a1).f1)).f1)) ∧ w'.cell? ⟨(ad206.add ((((rd_T54 l0 a1).f1)).toNat * 4)).block, (ad206.add ((((rd_T54 l0 a1).f1)).toNat * 4)).off + 2, none⟩ = some (.int .i64 ((rd_T54 l0 ((rd_T54 l0 a1).f1)).f2)) ∧ w'.cell? ⟨(ad206.add ((((rd_T54 l0 a1).f1)).toNat * 4)).block, (ad206.add ((((rd_T54 l0 a1).f1)).toNat * 4)).off + 3, none⟩ = some (.int .i64 ((rd_T54 l0 ((rd_T54 l0 a1).f1)).f3))) (ds := []) (mk 18 0) (by kernel_rfl) rfl (by kernel_rfl) ⟨(blk_cell BK207.out 0).trans rfl, (blk_cell BK207.out 1).trans rfl, (blk_cell BK207.out 2).trans rfl, (blk_cell BK207.out 3).trans rfl, ((HB.out.cell (World.block_lt_of_cell? w _ hw212_0)).trans hw212_0), ((HB.out.cell (World.block_lt_of_cell? w _ hw212_1)).trans hw212_1), ((HB.out.cell (World.block_lt_of_cell? w _ hw212_2)).trans hw212_2), ((HB.out.cell (World.block_lt_of_cell? w _ hw212_3)).trans hw212_3)⟩ (fun hHeld => ?_); refine with_tabW spec_cvTile_at5.tab12 spec_cvTile_at5.bits12 (fun HT_ HW_ => ?_)
   generalize w10.drew = w17 at BK207 HB hx212_0 hx212_1 hx212_2 hx212_3 hHeld ⊢
   refine pu 0 75 18 1 rfl rfl ?_
   refine pu 1 76 18 3 rfl rfl ?_
   refine pu 2 77 18 7 rfl rfl ?_
   refine pu 4 79 18 23 rfl rfl ?_
   refine ta 5 80 18 55 rfl rfl ?_
   refine one_ (i := 3) (N := some 78) (mk 18 63) rfl rfl (one_of HT_.out (by kernel_rfl)) (by decide) (fun K hK => ?_)
   refine lss 78 9 Ny208.out ?_
   intro v209 w18 ho19 hb
   have HO210 := Aside0.mk (Kd.R_lower ho19 (below_size BA)); replace BK207 := kb BK207 hb; replace HB := bs hb
   clear hb ho19
   obtain ⟨Ao20, co20, eo20⟩ := Kd.R_slice HO210.out
   (first | subst eo20 | (injection eo20 with f1_ f2_ f3_; have f4_ := f1_.symm; have f5_ := f3_.symm; clear f1_ f2_ f3_; subst f4_; subst f5_))
   refine hK.out _ _ ⟨(blk_cell BK207.out 0).trans rfl, (blk_cell BK207.out 1).trans rfl, (blk_cell BK207.out 2).trans rfl, (blk_cell BK207.out 3).trans rfl, ((HB.out.cell (World.block_lt_of_cell? w _ hw212_0)).trans hw212_0), ((HB.out.cell (World.block_lt_of_cell? w _ hw212_1)).trans hw212_1), ((HB.out.cell (World.block_lt_of_cell? w _ hw212_2)).trans hw212_2), ((HB.out.cell (World.block_lt_of_cell? w _ hw212_3)).trans hw212_3)⟩ (fun hHeld => ?_)
   clear hK K
   refine nm 78 ?_
   refine one_ (i := 6) (N := some 81) (mk 18 127) rfl rfl (one_of HT_.out (by kernel_rfl)) (by decide) (fun K hK => ?_)
   refine goes_ Try.func81 (by kernel_rfl) rfl #[.slice Ao20 y208.length co20, .string ((rd_T54 l0 a1).f0)] (by rfl) rfl rfl (by (try simp only [List.map_toArray, List.map_cons, List.map_nil]); first | done | rfl | (simp only [List.length_drop, List.length_take]; rfl)) ?_
   with_reducible refine (spec_l1HasS.calls k _ _ y208 ((rd_T54 l0 a1).f0) true _ ?side1 ?side2 A11.out).mono ?_
   (case side1 => exact cb (Kd.R_reads' HO210.out).2.2)
   (case side2 => exact (Kd.R_reads' HO210.out).2.1)
   rintro e w' ⟨rfl, ⟨nd, rfl⟩⟩
   refine ⟨_, rfl, ?_⟩
   refine hK.out _ _ ⟨(blk_cell BK207.out 0).trans rfl, (blk_cell BK207.out 1).trans rfl, (blk_cell BK207.out 2).trans rfl, (blk_cell BK207.out 3).trans rfl, ((HB.out.cell (World.block_lt_of_cell? w _ hw212_0)).trans hw212_0), ((HB.out.cell (World.block_lt_of_cell? w _ hw212_1)).trans hw212_1), ((HB.out.cell (World.block_lt_of_cell? w _ hw212_2)).trans hw212_2), ((HB.out.cell (World.block_lt_of_cell? w _ hw212_3)).trans hw212_3)⟩ (fun hHeld => ?_)
   clear hK K
   refine nm 81 ?_
   refine pu 7 82 18 255 rfl rfl ?_
   refine pu 8 83 18 511 rfl rfl ?_
   refine pu 9 84 18 1023 rfl rfl ?_
   refine pu 10 85 18 2047 rfl rfl ?_
   refine ta 11 86 18 4095 rfl rfl ?_
   refine pu 12 87 18 8191 rfl rfl ?_
   refine ta 13 88 18 16383 rfl rfl ?_
   refine one_ (i := 14) (N := some 89) (mk 18 32767) rfl rfl (one_of HT_.out (by kernel_rfl)) (by decide) (fun K hK => ?_)
   refine goes_ Try.func83 (by kernel_rfl) rfl #[] (by rfl) rfl rfl (by (try simp only [List.map_toArray, List.map_cons, List.map_nil]); first | done | rfl | (simp only [List.length_drop, List.length_take]; rfl)) ?_
   with_reducible refine (spec_cvWords.calls k  t213 _ A15.out).mono ?_
   rintro e w21 ⟨v214, rfl, ho0, hb⟩
   refine ⟨_, rfl, ?_⟩
   replace HO210 := Aside0.mk (Kd.R_below (rb HO210.out) hb); have HO215 := Aside0.mk (Kd.R_lower ho0 (below_size BA)); replace BK207 := kb BK207 hb; replace HB := bs hb
   (try clear hb)
   (try clear hk)
   (try clear ho0)
   obtain ⟨Ao22, co22, eo22⟩ := Kd.R_slice HO215.out
   (first | subst eo22 | (injection eo22 with f1_ f2_ f3_; have f4_ := f1_.symm; have f5_ := f3_.symm; clear f1_ f2_ f3_; subst f4_; subst f5_))
   refine hK.out _ _ ⟨(blk_cell BK207.out 0).trans rfl, (blk_cell BK207.out 1).trans rfl, (blk_cell BK207.out 2).trans rfl, (blk_cell BK207.out 3).trans rfl, ((HB.out.cell (World.block_lt_of_cell? w _ hw212_0)).trans hw212_0), ((HB.out.cell (World.block_lt_of_cell? w _ hw212_1)).trans hw212_1), ((HB.out.cell (World.block_lt_of_cell? w _ hw212_2)).trans hw212_2), ((HB.out.cell (World.block_lt_of_cell? w _ hw212_3)).trans hw212_3)⟩ (fun hHeld => ?_)
   clear hK K
   refine nm 89 ?_
   refine one_ (i := 15) (N := some 90) (mk 18 65535) rfl rfl (one_of HT_.out (by kernel_rfl)) (by decide) (fun K hK => ?_)
   refine goes_ Try.func82 (by kernel_rfl) rfl #[.agg #[.string ((rd_T54 l0 ((rd_T54 l0 a1).f1)).f0), .int .i64 ((rd_T54 l0 ((rd_T54 l0 a1).f1)).f1), .int .i64 ((rd_T54 l0 ((rd_T54 l0 a1).f1)).f2), .int .i64 ((rd_T54 l0 ((rd_T54 l0 a1).f1)).f3)], .slice Ao22 t213.length co22] (by rfl) rfl rfl (by (try simp only [List.map_toArray, List.map_cons, List.map_nil]); first | done | rfl | (simp only [List.length_drop, List.length_take]; rfl)) ?_
   with_reducible refine (spec_cvConst.calls k ((rd_T54 l0 ((rd_T54 l0 a1).f1)).f0) ((rd_T54 l0 ((rd_T54 l0 a1).f1)).f1) ((rd_T54 l0 ((rd_T54 l0 a1).f1)).f2) ((rd_T54 l0 ((rd_T54 l0 a1).f1)).f3) _ _ t213 t216 _ ?side1 ?side2 A16.out).mono ?_
   (case side1 => exact cb (Kd.R_reads' HO215.out).2.2)
   (case side2 => exact (Kd.R_reads' HO215.out).2.1)
   rintro e w23 ⟨rfl, hb⟩
   refine ⟨_, rfl, ?_⟩
   replace HO210 := Aside0.mk (Kd.R_below (rb HO210.out) hb); replace HO215 := Aside0.mk (Kd.R_below (rb HO215.out) hb); replace BK207 := kb BK207 hb; replace HB := bs hb
   (try clear hb)
   (try clear hk)
   refine hK.out _ _ ⟨(blk_cell BK207.out 0).trans rfl, (blk_cell BK207.out 1).trans rfl, (blk_cell BK207.out 2).trans rfl, (blk_cell BK207.out 3).trans rfl, ((HB.out.cell (World.block_lt_of_cell? w _ hw212_0)).trans hw212_0), ((HB.out.cell (World.block_lt_of_cell? w _ hw212_1)).trans hw212_1), ((HB.out.cell (World.block_lt_of_cell? w _ hw212_2)).trans hw212_2), ((HB.out.cell (World.block_lt_of_cell? w _ hw212_3)).trans hw212_3)⟩ (fun hHeld => ?_)
   clear hK K
   refine nm 90 ?_
   refine pu 16 91 18 131071 rfl rfl ?_
   refine pu 17 74 18 262143 rfl rfl ?_
   refine done_ (done_of HT_.out (by kernel_rfl)) ?_
   try go_wp2
   go_meet
   case rel => exact ⟨_, (t216), EQ1, H', ⟨by first | omega | exact Nat.le_refl _⟩, ⟨by (with_reducible repeat (first | refine blk_drewN ?_ _ | refine blk_drew ?_ | refine blk_alloc ?_ _)); exact BK207.out⟩, ⟨BA⟩⟩
  ·replace c12 := Bool.eq_false_iff.mpr c12
   subst c12
   rw [if_neg (show ¬ (false = true) by decide)] at H
   have H' := Aside0.mk H
   clear H
   try go_wp2
   replace BK207 := Aside0.mk (blk_drew BK207.out); replace HB := Aside0.mk (below_drew1 HB.out)
   refine start_ (n := 18) (S := C4 gb207 (.string ((rd_T54 l0 a1).f0)) (.int .i64 ((rd_T54 l0 a1).f1)) (.int .i64 ((rd_T54 l0 a1).f2)) (.int .i64 ((rd_T54 l0 a1).f3))) (ds := []) (mk 18 0) (by kernel_rfl) rfl (by kernel_rfl) (bc4 BK207.out) (fun hHeld => ?_); refine with_tabW spec_cvTile_at5.tab12 spec_cvTile_at5.bits12 (fun HT_ HW_ => ?_)
   generalize w10.drew = w24 at BK207 HB hHeld ⊢
   refine pu 0 75 18 1 rfl rfl ?_
   refine pu 1 76 18 3 rfl rfl ?_
   refine pu 2 77 18 7 rfl rfl ?_
   refine pu 4 79 18 23 rfl rfl ?_
   refine ta 5 80 18 55 rfl rfl ?_
   refine one_ (i := 3) (N := some 78) (mk 18 63) rfl rfl (one_of HT_.out (by kernel_rfl)) (by decide) (fun K hK => ?_)
   refine lss 78 9 Ny208.out ?_
   intro v209 w25 ho26 hb
   have HO210 := Aside0.mk (Kd.R_lower ho26 (below_size BA)); replace BK207 := kb BK207 hb; replace HB := bs hb
   clear hb ho26
   obtain ⟨Ao27, co27, eo27⟩ := Kd.R_slice HO210.out
   (first | subst eo27 | (injection eo27 with f1_ f2_ f3_; have f4_ := f1_.symm; have f5_ := f3_.symm; clear f1_ f2_ f3_; subst f4_; subst f5_))
   refine hK.out _ _ (bc4 BK207.out) (fun hHeld => ?_)
   clear hK K
   refine nm 78 ?_
   refine one_ (i := 6) (N := some 81) (mk 18 127) rfl rfl (one_of HT_.out (by kernel_rfl)) (by decide) (fun K hK => ?_)
   refine goes_ Try.func81 (by kernel_rfl) rfl #[.slice Ao27 y208.length co27, .string ((rd_T54 l0 a1).f0)] (by rfl) rfl rfl (by (try simp only [List.map_toArray, List.map_cons, List.map_nil]); first | done | rfl | (simp only [List.length_drop, List.length_take]; rfl)) ?_
   with_reducible refine (spec_l1HasS.calls k _ _ y208 ((rd_T54 l0 a1).f0) false _ ?side1 ?side2 A11.out).mono ?_
   (case side1 => exact cb (Kd.R_reads' HO210.out).2.2)
   (case side2 => exact (Kd.R_reads' HO210.out).2.1)
   rintro e w' ⟨rfl, ⟨nd, rfl⟩⟩
   refine ⟨_, rfl, ?_⟩
   refine hK.out _ _ (bc4 BK207.out) (fun hHeld => ?_)
   clear hK K
   refine nm 81 ?_
   refine pu 7 82 18 255 rfl rfl ?_
   refine pu 8 83 18 511 rfl rfl ?_
   refine pos [(9, some 84), (10, some 85), (11, some 86), (12, some 87), (13, some 88), (14, some 89), (15, some 90)] 18 65535 2 ?_
   refine pu 16 91 18 131071 rfl rfl ?_
   refine pu 17 74 18 262143 rfl rfl ?_
   refine done_ (done_of HT_.out (by kernel_rfl)) ?_
   try go_wp2
   go_meet
   case rel => exact ⟨_, (false), EQ1, H', ⟨by first | omega | exact Nat.le_refl _⟩, ⟨by (with_reducible repeat (first | refine blk_drewN ?_ _ | refine blk_drew ?_ | refine blk_alloc ?_ _)); exact BK207.out⟩, ⟨BA⟩⟩
 case rest =>
  clear HC6
  (try clear c4b0); (try clear c5b0); (try clear c12); (try clear c13b0); (try clear c14b0); (try clear hcz8_0); (try clear hcz8_1); (try clear hcz8_2); (try clear hcz8_3); (try clear hx206_0); (try clear hx206_1); (try clear hx206_2); (try clear hx206_3); (try clear hx212_0); (try clear hx212_1); (try clear hx212_2); (try clear hx212_3); (try clear p206); (try clear p212); (try clear q206); (try clear q212)
  obtain ⟨kq, x74_5, rfl, HA, HJ5, BK207, HB⟩ := hcut
  cases kq with
  | zero => exact absurd HA.out (by simp [spec_cvTile_at5.j0])
  | succ kj5 =>
   have H := HA.out
   clear HA
   simp only [spec_cvTile_at5.j0] at H
   by_cases c28 : x74_5 = true
   ·subst c28
    rw [if_pos rfl] at H
    obtain ⟨y217, hy217⟩ : ∃ y_ : List Int, y_ = (([((rd_T54 l0 a1).f2)] : List Int)) := ⟨_, rfl⟩
    replace H : (some (y217, (([((rd_T54 l0 a1).f1)] : List Int)), true)) = some (r1, r2, r3) := by first | (rw [hy217]; with_reducible exact H) | (have H2_ := (Option.bind_some _ _).symm.trans H; rw [hy217]; with_reducible exact H2_) | (have H2_ := (Option.bind_some _ _).symm.trans H; with_reducible exact H2_) | with_reducible exact H | (rw [hy217]; exact H) | exact H
    have Ny217 := Aside0.mk hy217
    clear hy217
    obtain ⟨y220, hy220⟩ : ∃ y_ : List Int, y_ = (([((rd_T54 l0 a1).f1)] : List Int)) := ⟨_, rfl⟩
    replace H : (some (y217, y220, true)) = some (r1, r2, r3) := by first | (rw [hy220]; with_reducible exact H) | (have H2_ := (Option.bind_some _ _).symm.trans H; rw [hy220]; with_reducible exact H2_) | (have H2_ := (Option.bind_some _ _).symm.trans H; with_reducible exact H2_) | with_reducible exact H | (rw [hy220]; exact H) | exact H
    have Ny220 := Aside0.mk hy220
    clear hy220
    simp only [Option.some.injEq, Prod.mk.injEq] at H
    obtain ⟨rfl, rfl, rfl⟩ := H
    try go_wp2
    replace BK207 := Aside0.mk (blk_drew BK207.out); replace HB := Aside0.mk (below_drew1 HB.out)
    refine start_ (n := 9) (S := C4 gb207 (.string ((rd_T54 l0 a1).f0)) (.int .i64 ((rd_T54 l0 a1).f1)) (.int .i64 ((rd_T54 l0 a1).f2)) (.int .i64 ((rd_T54 l0 a1).f3))) (ds := []) (mk 9 0) (by kernel_rfl) rfl (by kernel_rfl) (bc4 BK207.out) (fun hHeld => ?_); refine with_tabW spec_cvTile_at5.tab13 spec_cvTile_at5.bits13 (fun HT_ HW_ => ?_)
    generalize wc.drew = w29 at BK207 HB hHeld ⊢
    refine pu 0 92 9 1 rfl rfl ?_
    refine pu 3 95 9 9 rfl rfl ?_
    refine ta 1 93 9 11 rfl rfl ?_
    refine ta 4 96 9 27 rfl rfl ?_
    refine join_ (σ := Value × Value) 2 #[true, true, true, true, true, true, true, false, false] (fun s_ => [(94, s_.1), (97, s_.2), (6, s_.1)]) (fun s_ w' => (w'.cell? ⟨gb207, 0, none⟩ = some (.string ((rd_T54 l0 a1).f0)) ∧ w'.cell? ⟨gb207, 1, none⟩ = some (.int .i64 ((rd_T54 l0 a1).f1)) ∧ w'.cell? ⟨gb207, 2, none⟩ = some (.int .i64 ((rd_T54 l0 a1).f2)) ∧ w'.cell? ⟨gb207, 3, none⟩ = some (.int .i64 ((rd_T54 l0 a1).f3))) ∧ (Kd.R (Kd.int .i64) 3 w' w.heap.size (fun k_ => some k_ ≠ (s_.2 : Value).ownBlock) s_.1 y217) ∧ (Kd.R (Kd.int .i64) 3 w' w.heap.size (fun k_ => some k_ ≠ (s_.1 : Value).ownBlock) s_.2 y220) ∧ (w'.heap[gb207]? = some (.cells #[.string ((rd_T54 l0 a1).f0), .int .i64 ((rd_T54 l0 a1).f1), .int .i64 ((rd_T54 l0 a1).f2), .int .i64 ((rd_T54 l0 a1).f3)] 54 (0, 0))) ∧ (Below w.heap.size w w')) ?_ ?_
    rotate_left
    ·intro hCont
     refine two_ (i := 2) (j := 5) (Ni := some 94) (Nj := some 97) #[true, true, true, true, true, false, false, false, false] #[true, true, false, true, true, true, false, false, false] rfl rfl rfl rfl (two_of HT_.out (by kernel_rfl)) (by decide) (by decide) (fun K hK => ?_) (fun K hK => ?_)
     ·skip
      refine lis 94 3 Ny217.out ?_
      intro v218 w30 ho31 hb
      have HO219 := Aside0.mk (Kd.R_lower ho31 (below_size BA)); replace BK207 := kb BK207 hb; replace HB := bs hb
      clear hb ho31
      refine hK.out _ _ (bc4 BK207.out) (fun hHeld => ?_)
      clear hK K
      refine nm 94 ?_
      refine pu 6 6 9 95 rfl rfl ?_
      refine one_ (i := 5) (N := some 97) (mk 9 127) rfl rfl (one_of HT_.out (by kernel_rfl)) (by decide) (fun K hK => ?_)
      refine lis 97 3 Ny220.out ?_
      intro v221 w32 ho33 hb
      have HO222 := Aside0.mk (Kd.R_lower (Kd.R_new' ho33 (Kd.R_lt (rb HO219.out))) (below_size BA)); replace HO219 := Aside0.mk (Kd.R_elder' (rb HO219.out) (Kd.R_base ho33) hb); replace BK207 := kb BK207 hb; replace HB := bs hb
      clear hb ho33
      refine hK.out _ _ (bc4 BK207.out) (fun hHeld => ?_)
      clear hK K
      refine nm 97 ?_
      exact norm_ (by simp only [putAll, Act.put, List.setIfInBounds_toArray, List.set_cons_zero, List.set_cons_succ]) (hCont (v218, v221) _ ⟨hHeld, (rb (Kd.R_mono HO219.out (fun _ hk => hk.2))), (rb (Kd.R_mono HO222.out (fun _ hk => hk.2))), (bk BK207.out), BA⟩)
     ·skip
      refine lis 97 3 Ny220.out ?_
      intro v221 w30 ho31 hb
      have HO222 := Aside0.mk (Kd.R_lower ho31 (below_size BA)); replace BK207 := kb BK207 hb; replace HB := bs hb
      clear hb ho31
      refine hK.out _ _ (bc4 BK207.out) (fun hHeld => ?_)
      clear hK K
      refine nm 97 ?_
      refine one_ (i := 2) (N := some 94) (mk 9 63) rfl rfl (one_of HT_.out (by kernel_rfl)) (by decide) (fun K hK => ?_)
      refine lis 94 3 Ny217.out ?_
      intro v218 w32 ho33 hb
      have HO219 := Aside0.mk (Kd.R_lower (Kd.R_new' ho33 (Kd.R_lt (rb HO222.out))) (below_size BA)); replace HO222 := Aside0.mk (Kd.R_elder' (rb HO222.out) (Kd.R_base ho33) hb); replace BK207 := kb BK207 hb; replace HB := bs hb
      clear hb ho33
      refine hK.out _ _ (bc4 BK207.out) (fun hHeld => ?_)
      clear hK K
      refine nm 94 ?_
      refine pu 6 6 9 127 rfl rfl ?_
      exact norm_ (by simp only [putAll, Act.put, List.setIfInBounds_toArray, List.set_cons_zero, List.set_cons_succ]) (hCont (v218, v221) _ ⟨hHeld, (rb (Kd.R_mono HO219.out (fun _ hk => hk.2))), (rb (Kd.R_mono HO222.out (fun _ hk => hk.2))), (bk BK207.out), BA⟩)
    rintro ⟨v218, v221⟩ w34 ⟨hS_, h0_, h1_, h2_, h3_⟩
    have n0_ : Aside0 (Kd.R (Kd.int .i64) 3 w34 w.heap.size (fun k_ => some k_ ≠ (v221 : Value).ownBlock) v218 y217) := ⟨h0_⟩
    have n1_ : Aside0 (Kd.R (Kd.int .i64) 3 w34 w.heap.size (fun k_ => some k_ ≠ (v218 : Value).ownBlock) v221 y220) := ⟨h1_⟩
    have n2_ : Aside0 (w34.heap[gb207]? = some (.cells #[.string ((rd_T54 l0 a1).f0), .int .i64 ((rd_T54 l0 a1).f1), .int .i64 ((rd_T54 l0 a1).f2), .int .i64 ((rd_T54 l0 a1).f3)] 54 (0, 0))) := ⟨h2_⟩
    have n3_ : Aside0 (Below w.heap.size w w34) := ⟨h3_⟩
    clear BK207
    clear HB
    clear h0_ h1_ h2_ h3_
    have HO219 := n0_
    have HO222 := n1_
    have BK207 := n2_
    have HB := n3_
    clear n0_ n1_ n2_ n3_
    have hHeld : w34.cell? ⟨gb207, 0, none⟩ = some (.string ((rd_T54 l0 a1).f0)) ∧ w34.cell? ⟨gb207, 1, none⟩ = some (.int .i64 ((rd_T54 l0 a1).f1)) ∧ w34.cell? ⟨gb207, 2, none⟩ = some (.int .i64 ((rd_T54 l0 a1).f2)) ∧ w34.cell? ⟨gb207, 3, none⟩ = some (.int .i64 ((rd_T54 l0 a1).f3)) := hS_
    refine norm_ (a' := ?_) ?_ ?_
    rotate_left
    ·simp only [putAll, Act.put, List.setIfInBounds_toArray, List.set_cons_zero, List.set_cons_succ]
     rfl
    refine pu 7 7 9 255 rfl rfl ?_
    refine pu 8 8 9 511 rfl rfl ?_
    refine done_ (done_of HT_.out (by kernel_rfl)) ?_
    try go_wp2
    go_ret3
    exact ⟨_, _, EQ, rb HO219.out, rb HO222.out, BA⟩
   ·replace c28 := Bool.eq_false_iff.mpr c28
    subst c28
    rw [if_neg (show ¬ (false = true) by decide)] at H
    simp only [Option.some.injEq, Prod.mk.injEq] at H
    obtain ⟨rfl, rfl, rfl⟩ := H
    go_wp2
    go_ret3
    exact ⟨_, _, EQ, by first | exact Kd.R_nil _ _ _ _ _ | exact Kd.N_nil _ _ _ _ _ | exact Kd.V_nil _ _ _ _ _ | exact Kd.Q_nil _ _ _ _ _ | exact Kd.S_nil _ _ _ _ _, by first | exact Kd.R_nil _ _ _ _ _ | exact Kd.N_nil _ _ _ _ _ | exact Kd.V_nil _ _ _ _ _ | exact Kd.Q_nil _ _ _ _ _ | exact Kd.S_nil _ _ _ _ _, BA⟩

/-! ### spec_cvTile_at6: function 53 -/
def spec_cvTile_at6.j0 : Nat → Bool → ByteArray → Int → Int → Int → Option (List Int × List Int × Bool)
 | 0, _, _, _, _, _ => none
 | k + 1, x98, x225000, x225001, x225002, x225003 => if x98 = true then (some ((([x225001] : List Int)), (([x225002] : List Int)), true)) else (some (([] : List Int), ([] : List Int), false))
def spec_cvTile_at6.f (k : Nat) (l0 : List (S54)) (a1 : Int)  : Option (List Int × List Int × Bool) := if 0 ≤ a1 then (if a1 < (l0.length : Int) then ((spec_l1HasS.f k (([(⟨#[115, 104, 108]⟩ : ByteArray), (⟨#[115, 104, 114]⟩ : ByteArray)] : List ByteArray)) ((rd_T54 l0 a1).f0)).bind fun t228 => (if t228 = true then (if 0 ≤ ((rd_T54 l0 a1).f2) then (if ((rd_T54 l0 a1).f2) < (l0.length : Int) then ((spec_cvConst.f k ((rd_T54 l0 ((rd_T54 l0 a1).f2)).f0) ((rd_T54 l0 ((rd_T54 l0 a1).f2)).f1) ((rd_T54 l0 ((rd_T54 l0 a1).f2)).f2) ((rd_T54 l0 ((rd_T54 l0 a1).f2)).f3) (([1, 2, 3, 4, 5] : List Int))).bind fun t233 => (spec_cvTile_at6.j0 k t233 ((rd_T54 l0 a1).f0) ((rd_T54 l0 a1).f1) ((rd_T54 l0 a1).f2) ((rd_T54 l0 a1).f3))) else (none)) else (none)) else (spec_cvTile_at6.j0 k false ((rd_T54 l0 a1).f0) ((rd_T54 l0 a1).f1) ((rd_T54 l0 a1).f2) ((rd_T54 l0 a1).f3)))) else (none)) else (none)
def spec_cvTile_at6.T10 : Bool × List (List Nat × List Nat) := (true, [([], []), ([0], [0]), ([1], [1]), ([2], [2]), ([2], [2]), ([4, 2], [2, 4]), ([3, 5, 2, 2], [2, 3, 5]), ([2, 6], [2, 6]), ([7, 6], [7]), ([8], [8]), ([8], [8]), ([10, 8], [8, 10]), ([9, 11, 8], [8, 9, 11]), ([12, 8], [8, 12]), ([8, 8], [8]), ([13, 14, 14, 8], [8, 13, 14]), ([8, 15], [8, 15]), ([16, 15], [16])])
def spec_cvTile_at6.B10 : List Nat := [0, 1, 3, 7, 7, 23, 63, 127, 255, 511, 511, 1535, 4095, 8191, 511, 32767, 65535, 131071]
theorem spec_cvTile_at6.tab10 : rtab .any (opsOf Try.f53 10) = spec_cvTile_at6.T10 := by kernel_rfl
theorem spec_cvTile_at6.bits10 : waitsOk spec_cvTile_at6.T10.2 spec_cvTile_at6.B10 = true := by kernel_rfl
def spec_cvTile_at6.T12 : Bool × List (List Nat × List Nat) := (true, [([], []), ([0], [0]), ([1], [1]), ([2], [2]), ([2], [2]), ([4, 2], [2, 4]), ([3, 5, 2, 2], [2, 3, 5]), ([2, 6], [2, 6]), ([7, 6], [7]), ([8], [8]), ([8], [8]), ([10, 8], [8, 10]), ([9, 11, 8], [8, 9, 11]), ([12, 8], [8, 12]), ([8, 8], [8]), ([13, 14, 14, 8], [8, 13, 14]), ([8, 15], [8, 15]), ([16, 15], [16])])
def spec_cvTile_at6.B12 : List Nat := [0, 1, 3, 7, 7, 23, 63, 127, 255, 511, 511, 1535, 4095, 8191, 511, 32767, 65535, 131071]
theorem spec_cvTile_at6.tab12 : rtab .any (opsOf Try.f53 12) = spec_cvTile_at6.T12 := by kernel_rfl
theorem spec_cvTile_at6.bits12 : waitsOk spec_cvTile_at6.T12.2 spec_cvTile_at6.B12 = true := by kernel_rfl
def spec_cvTile_at6.T15 : Bool × List (List Nat × List Nat) := (true, [([], []), ([0], [0]), ([1], [1]), ([], []), ([3], [3]), ([4], [4]), ([2, 0, 1, 2], [2]), ([5, 6, 0, 1, 2, 3, 4, 5, 6], [5]), ([7, 0, 1, 2, 3, 4, 5, 6, 7], [])])
def spec_cvTile_at6.B15 : List Nat := [0, 1, 3, 0, 8, 24, 7, 127, 255]
theorem spec_cvTile_at6.tab15 : rtab .any (opsOf Try.f53 15) = spec_cvTile_at6.T15 := by kernel_rfl
theorem spec_cvTile_at6.bits15 : waitsOk spec_cvTile_at6.T15.2 spec_cvTile_at6.B15 = true := by kernel_rfl
theorem spec_cvTile_at6.calls (k : Nat) (A0 : Option Addr) (c0 : Nat) (l0 : List (S54)) (a1 : Int)  (r1 : List Int) (r2 : List Int) (r3 : Bool) (w : World) (hr0 : Kd.C k54 w A0 l0.length l0) (hc0 : l0.length ≤ c0) (h : spec_cvTile_at6.f k l0 a1 = some (r1, r2, r3)) :
  Calls Try.prog 53 #[.slice A0 l0.length c0, .int .i64 a1, .int .i64 6] w fun e w' => ∃ v0_ v1_ : Value, e = .returned (.tuple #[v0_, v1_, .bool r3]) ∧ Kd.R (Kd.int .i64) 3 w' w.heap.size (fun k_ => some k_ ≠ (v1_ : Value).ownBlock) v0_ r1 ∧ Kd.R (Kd.int .i64) 3 w' w.heap.size (fun k_ => some k_ ≠ (v0_ : Value).ownBlock) v1_ r2 ∧ Below w.heap.size w w' := by
 have hu54 := Try.underlying54
 have HR0 := Aside0.mk hr0
 have HC0 := Aside0.mk hc0
 clear hr0 hc0
 have HB := Aside0.mk (Below.refl w.heap.size w)
 have H := h
 clear h
 unfold spec_cvTile_at6.f at H
 obtain ⟨c4, H⟩ := ifs H
 have c4b0 := decide_eq_true c4
 clear c4
 obtain ⟨c5, H⟩ := ifs H
 have c5b0 := decide_eq_true c5
 clear c5
 have HC6 := Aside0.mk H
 clear H
 have p223 : 0 ≤ (a1 : Int) := DT
 have q223 : a1 < (l0.length : Int) := DT
 obtain ⟨ad223, e223, hx223_0, hx223_1, hx223_2, hx223_3⟩ := at_T54 HR0.out a1 p223 q223
 cases e223
 replace p223 := eq_true p223
 replace q223 := eq_true q223
 go_enter Try.func53, Try.ntmps53
 try go_wp2_with (first | ((with_reducible refine gd 9 rfl ?_); (try (refine gate_guard (by rfl) ?_; dsimp only)); refine bx 9 #[.string (⟨#[]⟩ : ByteArray), .int .i64 0, .int .i64 0, .int .i64 0] 54 ?_; intro gb224 hg w7 BK224 GW224 HB hb; have GE224 := GW224; clear hb hg; obtain ⟨hcz8_0, hcz8_1, hcz8_2, hcz8_3⟩ := bc4 BK224.out; have hfz8 := blk_frozen BK224.out))
 have n0_ : Aside0 (((((w7.setCell ⟨gb224, 0, none⟩ (.string ((rd_T54 l0 a1).f0))).setCell ⟨gb224, 1, none⟩ (.int .i64 ((rd_T54 l0 a1).f1))).setCell ⟨gb224, 2, none⟩ (.int .i64 ((rd_T54 l0 a1).f2))).setCell ⟨gb224, 3, none⟩ (.int .i64 ((rd_T54 l0 a1).f3))).heap[gb224]? = some (.cells #[.string ((rd_T54 l0 a1).f0), .int .i64 ((rd_T54 l0 a1).f1), .int .i64 ((rd_T54 l0 a1).f2), .int .i64 ((rd_T54 l0 a1).f3)] 54 (0, 0))) := ⟨by (with_reducible repeat (first | refine blk_drewN ?_ _ | refine blk_drew ?_ | refine blk_alloc ?_ _)); refine blk_put (cs := #[.string ((rd_T54 l0 a1).f0), .int .i64 ((rd_T54 l0 a1).f1), .int .i64 ((rd_T54 l0 a1).f2), .int .i64 0]) ?_ 3 _ rfl; (with_reducible repeat (first | refine blk_drewN ?_ _ | refine blk_drew ?_ | refine blk_alloc ?_ _)); refine blk_put (cs := #[.string ((rd_T54 l0 a1).f0), .int .i64 ((rd_T54 l0 a1).f1), .int .i64 0, .int .i64 0]) ?_ 2 _ rfl; (with_reducible repeat (first | refine blk_drewN ?_ _ | refine blk_drew ?_ | refine blk_alloc ?_ _)); refine blk_put (cs := #[.string ((rd_T54 l0 a1).f0), .int .i64 0, .int .i64 0, .int .i64 0]) ?_ 1 _ rfl; (with_reducible repeat (first | refine blk_drewN ?_ _ | refine blk_drew ?_ | refine blk_alloc ?_ _)); refine blk_put (cs := #[.string (⟨#[]⟩ : ByteArray), .int .i64 0, .int .i64 0, .int .i64 0]) ?_ 0 _ rfl; (with_reducible repeat (first | refine blk_drewN ?_ _ | refine blk_drew ?_ | refine blk_alloc ?_ _)); exact BK224.out⟩
 have n1_ : Aside0 (Below w.heap.size w ((((w7.setCell ⟨gb224, 0, none⟩ (.string ((rd_T54 l0 a1).f0))).setCell ⟨gb224, 1, none⟩ (.int .i64 ((rd_T54 l0 a1).f1))).setCell ⟨gb224, 2, none⟩ (.int .i64 ((rd_T54 l0 a1).f2))).setCell ⟨gb224, 3, none⟩ (.int .i64 ((rd_T54 l0 a1).f3)))) := ⟨BA⟩
 (try clear BK224)
 (try clear HB)
 generalize ((((w7.setCell ⟨gb224, 0, none⟩ (.string ((rd_T54 l0 a1).f0))).setCell ⟨gb224, 1, none⟩ (.int .i64 ((rd_T54 l0 a1).f1))).setCell ⟨gb224, 2, none⟩ (.int .i64 ((rd_T54 l0 a1).f2))).setCell ⟨gb224, 3, none⟩ (.int .i64 ((rd_T54 l0 a1).f3))) = w9 at n0_ n1_ ⊢
 have BK224 := n0_
 have HB := n1_
 clear n0_ n1_
 replace BK224 := Aside0.mk (blk_drew BK224.out); replace HB := Aside0.mk (below_drew1 HB.out)
 refine start_ (n := 18) (S := fun w' => True) (ds := []) (mk 18 0) (by kernel_rfl) rfl (by kernel_rfl) trivial (fun hHeld => ?_); refine with_tabW spec_cvTile_at6.tab10 spec_cvTile_at6.bits10 (fun HT_ HW_ => ?_)
 generalize w9.drew = w10 at BK224 HB hHeld ⊢
 refine pu 0 51 18 1 rfl rfl ?_
 refine pu 1 52 18 3 rfl rfl ?_
 refine pu 2 53 18 7 rfl rfl ?_
 refine pos [(3, some 54), (4, some 55), (5, some 56), (6, some 57)] 18 127 11 ?_
 refine pu 7 58 18 255 rfl rfl ?_
 refine pu 8 59 18 511 rfl rfl ?_
 refine pos [(9, some 60), (10, some 61), (11, some 62), (12, some 63), (13, some 64), (14, some 65), (15, some 66)] 18 65535 2 ?_
 refine pu 16 67 18 131071 rfl rfl ?_
 refine pu 17 50 18 262143 rfl rfl ?_
 refine done_ (done_of HT_.out (by kernel_rfl)) ?_
 try go_wp2
 replace BK224 := Aside0.mk (blk_drew BK224.out); replace HB := Aside0.mk (below_drew1 HB.out)
 refine start_ (n := 18) (S := fun w' => True) (ds := []) (mk 18 0) (by kernel_rfl) rfl (by kernel_rfl) trivial (fun hHeld => ?_); refine with_tabW spec_cvTile_at6.tab12 spec_cvTile_at6.bits12 (fun HT_ HW_ => ?_)
 generalize w10.drew = w11 at BK224 HB hHeld ⊢
 refine pu 0 75 18 1 rfl rfl ?_
 refine pu 1 76 18 3 rfl rfl ?_
 refine pu 2 77 18 7 rfl rfl ?_
 refine pos [(3, some 78), (4, some 79), (5, some 80), (6, some 81)] 18 127 11 ?_
 refine pu 7 82 18 255 rfl rfl ?_
 refine pu 8 83 18 511 rfl rfl ?_
 refine pos [(9, some 84), (10, some 85), (11, some 86), (12, some 87), (13, some 88), (14, some 89), (15, some 90)] 18 65535 2 ?_
 refine pu 16 91 18 131071 rfl rfl ?_
 refine pu 17 74 18 262143 rfl rfl ?_
 refine done_ (done_of HT_.out (by kernel_rfl)) ?_
 go_upto_region 14 with (fail)
 go_cut [98] (fun v98 wc => ∃ (kq : Nat) (x98_5 : Bool), v98 = .bool x98_5 ∧ Aside0 (spec_cvTile_at6.j0 kq x98_5 ((rd_T54 l0 a1).f0) ((rd_T54 l0 a1).f1) ((rd_T54 l0 a1).f2) ((rd_T54 l0 a1).f3) = some (r1, r2, r3)) ∧ Aside0 (kq ≤ k) ∧ Aside0 (wc.heap[gb224]? = some (.cells #[.string ((rd_T54 l0 a1).f0), .int .i64 ((rd_T54 l0 a1).f1), .int .i64 ((rd_T54 l0 a1).f2), .int .i64 ((rd_T54 l0 a1).f3)] 54 (0, 0))) ∧ Aside0 (Below w.heap.size w wc))
 case first =>
  have H := HC6.out
  clear HC6
  obtain ⟨y225, hy225⟩ : ∃ y_ : List ByteArray, y_ = (([(⟨#[115, 104, 108]⟩ : ByteArray), (⟨#[115, 104, 114]⟩ : ByteArray)] : List ByteArray)) := ⟨_, rfl⟩
  replace H : ((spec_l1HasS.f k y225 ((rd_T54 l0 a1).f0)).bind fun t228 => (if t228 = true then (if 0 ≤ ((rd_T54 l0 a1).f2) then (if ((rd_T54 l0 a1).f2) < (l0.length : Int) then ((spec_cvConst.f k ((rd_T54 l0 ((rd_T54 l0 a1).f2)).f0) ((rd_T54 l0 ((rd_T54 l0 a1).f2)).f1) ((rd_T54 l0 ((rd_T54 l0 a1).f2)).f2) ((rd_T54 l0 ((rd_T54 l0 a1).f2)).f3) (([1, 2, 3, 4, 5] : List Int))).bind fun t233 => (spec_cvTile_at6.j0 k t233 ((rd_T54 l0 a1).f0) ((rd_T54 l0 a1).f1) ((rd_T54 l0 a1).f2) ((rd_T54 l0 a1).f3))) else (none)) else (none)) else (spec_cvTile_at6.j0 k false ((rd_T54 l0 a1).f0) ((rd_T54 l0 a1).f1) ((rd_T54 l0 a1).f2) ((rd_T54 l0 a1).f3)))) = some (r1, r2, r3) := by first | (rw [hy225]; with_reducible exact H) | (have H2_ := (Option.bind_some _ _).symm.trans H; rw [hy225]; with_reducible exact H2_) | (have H2_ := (Option.bind_some _ _).symm.trans H; with_reducible exact H2_) | with_reducible exact H | (rw [hy225]; exact H) | exact H
  have Ny225 := Aside0.mk hy225
  clear hy225
  obtain ⟨t228, A12, H⟩ := ob H
  (try dsimp only at H)
  by_cases c13 : t228 = true
  ·subst c13
   rw [if_pos rfl] at H
   obtain ⟨c14, H⟩ := ifs H
   have c14b0 := decide_eq_true c14
   clear c14
   (first | rw [c14b0] | (simp only [i64_w, i32_w]; rw [c14b0]) | skip)
   obtain ⟨c15, H⟩ := ifs H
   have c15b0 := decide_eq_true c15
   clear c15
   obtain ⟨y230, hy230⟩ : ∃ y_ : List Int, y_ = (([1, 2, 3, 4, 5] : List Int)) := ⟨_, rfl⟩
   replace H : ((spec_cvConst.f k ((rd_T54 l0 ((rd_T54 l0 a1).f2)).f0) ((rd_T54 l0 ((rd_T54 l0 a1).f2)).f1) ((rd_T54 l0 ((rd_T54 l0 a1).f2)).f2) ((rd_T54 l0 ((rd_T54 l0 a1).f2)).f3) y230).bind fun t233 => (spec_cvTile_at6.j0 k t233 ((rd_T54 l0 a1).f0) ((rd_T54 l0 a1).f1) ((rd_T54 l0 a1).f2) ((rd_T54 l0 a1).f3))) = some (r1, r2, r3) := by first | (rw [hy230]; with_reducible exact H) | (have H2_ := (Option.bind_some _ _).symm.trans H; rw [hy230]; with_reducible exact H2_) | (have H2_ := (Option.bind_some _ _).symm.trans H; with_reducible exact H2_) | with_reducible exact H | (rw [hy230]; exact H) | exact H
   have Ny230 := Aside0.mk hy230
   clear hy230
   obtain ⟨t233, A16, H⟩ := ob H
   (try dsimp only at H)
   have H' := Aside0.mk H
   clear H
   go_wp2_with (first | ((with_reducible refine gate_dst (N := 102) rfl ?_); (try (refine gate_guard (by rfl) ?_; dsimp only)); refine ls 102 9 Ny225.out ?_; intro v226 w17 ho18 hb; have HO227 := Aside0.mk (Kd.R_lower ho18 (below_size BA)); replace BK224 := kb BK224 hb; replace HB := bs hb; clear hb ho18; obtain ⟨hcz19_0, hcz19_1, hcz19_2, hcz19_3⟩ := bc4 BK224.out; have hfz19 := blk_frozen BK224.out; obtain ⟨Ao20, co20, eo20⟩ := Kd.R_slice HO227.out; subst eo20) | (go_at_call 81; (with_reducible refine (spec_l1HasS.calls k _ _ y225 ((rd_T54 l0 a1).f0) true _ ?side1 ?side2 A12.out).mono ?_); (case side1 => exact cb (Kd.R_reads' HO227.out).2.2); (case side2 => exact (Kd.R_reads' HO227.out).2.1); rintro e w' ⟨rfl, ⟨nd, rfl⟩⟩; have p229 : 0 ≤ (((rd_T54 l0 a1).f2) : Int) := DT; have q229 : ((rd_T54 l0 a1).f2) < (l0.length : Int) := DT; obtain ⟨ad229, e229, hx229_0, hx229_1, hx229_2, hx229_3⟩ := at_T54 (Kd.C_below HR0.out HB.out) ((rd_T54 l0 a1).f2) p229 q229; obtain rfl : ad223 = ad229 := (by injection e229); replace p229 := eq_true p229; replace q229 := eq_true q229) | ((with_reducible refine gate_dst (N := 113) rfl ?_); (try (refine gate_guard (by rfl) ?_; dsimp only)); refine li 113 3 Ny230.out ?_; intro v231 w21 ho22 hb; replace HO227 := Aside0.mk (Kd.R_below (rb HO227.out) hb); have HO232 := Aside0.mk (Kd.R_lower ho22 (below_size BA)); replace BK224 := kb BK224 hb; replace HB := bs hb; clear hb ho22; obtain ⟨Ao23, co23, eo23⟩ := Kd.R_slice HO232.out; subst eo23) | (go_at_call 82; (with_reducible refine (spec_cvConst.calls k ((rd_T54 l0 ((rd_T54 l0 a1).f2)).f0) ((rd_T54 l0 ((rd_T54 l0 a1).f2)).f1) ((rd_T54 l0 ((rd_T54 l0 a1).f2)).f2) ((rd_T54 l0 ((rd_T54 l0 a1).f2)).f3) _ _ y230 t233 _ ?side1 ?side2 A16.out).mono ?_); (case side1 => exact cb (Kd.R_reads' HO232.out).2.2); (case side2 => exact (Kd.R_reads' HO232.out).2.1); rintro e w24 ⟨rfl, hb⟩; replace HO227 := Aside0.mk (Kd.R_below (rb HO227.out) hb); replace HO232 := Aside0.mk (Kd.R_below (rb HO232.out) hb); replace BK224 := kb BK224 hb; replace HB := bs hb; (try clear hb)))
   go_meet
   case rel => exact ⟨_, (t233), EQ1, H', ⟨by first | omega | exact Nat.le_refl _⟩, ⟨by (with_reducible repeat (first | refine blk_drewN ?_ _ | refine blk_drew ?_ | refine blk_alloc ?_ _)); exact BK224.out⟩, ⟨BA⟩⟩
  ·replace c13 := Bool.eq_false_iff.mpr c13
   subst c13
   rw [if_neg (show ¬ (false = true) by decide)] at H
   have H' := Aside0.mk H
   clear H
   go_wp2_with (first | ((with_reducible refine gate_dst (N := 102) rfl ?_); (try (refine gate_guard (by rfl) ?_; dsimp only)); refine ls 102 9 Ny225.out ?_; intro v226 w25 ho26 hb; have HO227 := Aside0.mk (Kd.R_lower ho26 (below_size BA)); replace BK224 := kb BK224 hb; replace HB := bs hb; clear hb ho26; obtain ⟨hcz27_0, hcz27_1, hcz27_2, hcz27_3⟩ := bc4 BK224.out; have hfz27 := blk_frozen BK224.out; obtain ⟨Ao28, co28, eo28⟩ := Kd.R_slice HO227.out; subst eo28) | (go_at_call 81; (with_reducible refine (spec_l1HasS.calls k _ _ y225 ((rd_T54 l0 a1).f0) false _ ?side1 ?side2 A12.out).mono ?_); (case side1 => exact cb (Kd.R_reads' HO227.out).2.2); (case side2 => exact (Kd.R_reads' HO227.out).2.1); rintro e w' ⟨rfl, ⟨nd, rfl⟩⟩))
   go_meet
   case rel => exact ⟨_, (false), EQ1, H', ⟨by first | omega | exact Nat.le_refl _⟩, ⟨by (with_reducible repeat (first | refine blk_drewN ?_ _ | refine blk_drew ?_ | refine blk_alloc ?_ _)); exact BK224.out⟩, ⟨BA⟩⟩
 case rest =>
  clear HC6
  (try clear c4b0); (try clear c5b0); (try clear c13); (try clear c14b0); (try clear c15b0); (try clear hcz19_0); (try clear hcz19_1); (try clear hcz19_2); (try clear hcz19_3); (try clear hcz27_0); (try clear hcz27_1); (try clear hcz27_2); (try clear hcz27_3); (try clear hcz8_0); (try clear hcz8_1); (try clear hcz8_2); (try clear hcz8_3); (try clear hx223_0); (try clear hx223_1); (try clear hx223_2); (try clear hx223_3); (try clear hx229_0); (try clear hx229_1); (try clear hx229_2); (try clear hx229_3); (try clear p223); (try clear p229); (try clear q223); (try clear q229)
  obtain ⟨kq, x98_5, rfl, HA, HJ5, BK224, HB⟩ := hcut
  cases kq with
  | zero => exact absurd HA.out (by simp [spec_cvTile_at6.j0])
  | succ kj5 =>
   have H := HA.out
   clear HA
   simp only [spec_cvTile_at6.j0] at H
   by_cases c29 : x98_5 = true
   ·subst c29
    rw [if_pos rfl] at H
    obtain ⟨y234, hy234⟩ : ∃ y_ : List Int, y_ = (([((rd_T54 l0 a1).f1)] : List Int)) := ⟨_, rfl⟩
    replace H : (some (y234, (([((rd_T54 l0 a1).f2)] : List Int)), true)) = some (r1, r2, r3) := by first | (rw [hy234]; with_reducible exact H) | (have H2_ := (Option.bind_some _ _).symm.trans H; rw [hy234]; with_reducible exact H2_) | (have H2_ := (Option.bind_some _ _).symm.trans H; with_reducible exact H2_) | with_reducible exact H | (rw [hy234]; exact H) | exact H
    have Ny234 := Aside0.mk hy234
    clear hy234
    obtain ⟨y237, hy237⟩ : ∃ y_ : List Int, y_ = (([((rd_T54 l0 a1).f2)] : List Int)) := ⟨_, rfl⟩
    replace H : (some (y234, y237, true)) = some (r1, r2, r3) := by first | (rw [hy237]; with_reducible exact H) | (have H2_ := (Option.bind_some _ _).symm.trans H; rw [hy237]; with_reducible exact H2_) | (have H2_ := (Option.bind_some _ _).symm.trans H; with_reducible exact H2_) | with_reducible exact H | (rw [hy237]; exact H) | exact H
    have Ny237 := Aside0.mk hy237
    clear hy237
    simp only [Option.some.injEq, Prod.mk.injEq] at H
    obtain ⟨rfl, rfl, rfl⟩ := H
    try go_wp2
    replace BK224 := Aside0.mk (blk_drew BK224.out); replace HB := Aside0.mk (below_drew1 HB.out)
    refine start_ (n := 9) (S := C4 gb224 (.string ((rd_T54 l0 a1).f0)) (.int .i64 ((rd_T54 l0 a1).f1)) (.int .i64 ((rd_T54 l0 a1).f2)) (.int .i64 ((rd_T54 l0 a1).f3))) (ds := []) (mk 9 0) (by kernel_rfl) rfl (by kernel_rfl) (bc4 BK224.out) (fun hHeld => ?_); refine with_tabW spec_cvTile_at6.tab15 spec_cvTile_at6.bits15 (fun HT_ HW_ => ?_)
    generalize wc.drew = w30 at BK224 HB hHeld ⊢
    refine pu 0 116 9 1 rfl rfl ?_
    refine pu 3 119 9 9 rfl rfl ?_
    refine ta 1 117 9 11 rfl rfl ?_
    refine ta 4 120 9 27 rfl rfl ?_
    refine join_ (σ := Value × Value) 2 #[true, true, true, true, true, true, true, false, false] (fun s_ => [(118, s_.1), (121, s_.2), (6, s_.1)]) (fun s_ w' => (w'.cell? ⟨gb224, 0, none⟩ = some (.string ((rd_T54 l0 a1).f0)) ∧ w'.cell? ⟨gb224, 1, none⟩ = some (.int .i64 ((rd_T54 l0 a1).f1)) ∧ w'.cell? ⟨gb224, 2, none⟩ = some (.int .i64 ((rd_T54 l0 a1).f2)) ∧ w'.cell? ⟨gb224, 3, none⟩ = some (.int .i64 ((rd_T54 l0 a1).f3))) ∧ (Kd.R (Kd.int .i64) 3 w' w.heap.size (fun k_ => some k_ ≠ (s_.2 : Value).ownBlock) s_.1 y234) ∧ (Kd.R (Kd.int .i64) 3 w' w.heap.size (fun k_ => some k_ ≠ (s_.1 : Value).ownBlock) s_.2 y237) ∧ (w'.heap[gb224]? = some (.cells #[.string ((rd_T54 l0 a1).f0), .int .i64 ((rd_T54 l0 a1).f1), .int .i64 ((rd_T54 l0 a1).f2), .int .i64 ((rd_T54 l0 a1).f3)] 54 (0, 0))) ∧ (Below w.heap.size w w')) ?_ ?_
    rotate_left
    ·intro hCont
     refine two_ (i := 2) (j := 5) (Ni := some 118) (Nj := some 121) #[true, true, true, true, true, false, false, false, false] #[true, true, false, true, true, true, false, false, false] rfl rfl rfl rfl (two_of HT_.out (by kernel_rfl)) (by decide) (by decide) (fun K hK => ?_) (fun K hK => ?_)
     ·skip
      refine lis 118 3 Ny234.out ?_
      intro v235 w31 ho32 hb
      have HO236 := Aside0.mk (Kd.R_lower ho32 (below_size BA)); replace BK224 := kb BK224 hb; replace HB := bs hb
      clear hb ho32
      refine hK.out _ _ (bc4 BK224.out) (fun hHeld => ?_)
      clear hK K
      refine nm 118 ?_
      refine pu 6 6 9 95 rfl rfl ?_
      refine one_ (i := 5) (N := some 121) (mk 9 127) rfl rfl (one_of HT_.out (by kernel_rfl)) (by decide) (fun K hK => ?_)
      refine lis 121 3 Ny237.out ?_
      intro v238 w33 ho34 hb
      have HO239 := Aside0.mk (Kd.R_lower (Kd.R_new' ho34 (Kd.R_lt (rb HO236.out))) (below_size BA)); replace HO236 := Aside0.mk (Kd.R_elder' (rb HO236.out) (Kd.R_base ho34) hb); replace BK224 := kb BK224 hb; replace HB := bs hb
      clear hb ho34
      refine hK.out _ _ (bc4 BK224.out) (fun hHeld => ?_)
      clear hK K
      refine nm 121 ?_
      exact norm_ (by simp only [putAll, Act.put, List.setIfInBounds_toArray, List.set_cons_zero, List.set_cons_succ]) (hCont (v235, v238) _ ⟨hHeld, (rb (Kd.R_mono HO236.out (fun _ hk => hk.2))), (rb (Kd.R_mono HO239.out (fun _ hk => hk.2))), (bk BK224.out), BA⟩)
     ·skip
      refine lis 121 3 Ny237.out ?_
      intro v238 w31 ho32 hb
      have HO239 := Aside0.mk (Kd.R_lower ho32 (below_size BA)); replace BK224 := kb BK224 hb; replace HB := bs hb
      clear hb ho32
      refine hK.out _ _ (bc4 BK224.out) (fun hHeld => ?_)
      clear hK K
      refine nm 121 ?_
      refine one_ (i := 2) (N := some 118) (mk 9 63) rfl rfl (one_of HT_.out (by kernel_rfl)) (by decide) (fun K hK => ?_)
      refine lis 118 3 Ny234.out ?_
      intro v235 w33 ho34 hb
      have HO236 := Aside0.mk (Kd.R_lower (Kd.R_new' ho34 (Kd.R_lt (rb HO239.out))) (below_size BA)); replace HO239 := Aside0.mk (Kd.R_elder' (rb HO239.out) (Kd.R_base ho34) hb); replace BK224 := kb BK224 hb; replace HB := bs hb
      clear hb ho34
      refine hK.out _ _ (bc4 BK224.out) (fun hHeld => ?_)
      clear hK K
      refine nm 118 ?_
      refine pu 6 6 9 127 rfl rfl ?_
      exact norm_ (by simp only [putAll, Act.put, List.setIfInBounds_toArray, List.set_cons_zero, List.set_cons_succ]) (hCont (v235, v238) _ ⟨hHeld, (rb (Kd.R_mono HO236.out (fun _ hk => hk.2))), (rb (Kd.R_mono HO239.out (fun _ hk => hk.2))), (bk BK224.out), BA⟩)
    rintro ⟨v235, v238⟩ w35 ⟨hS_, h0_, h1_, h2_, h3_⟩
    have n0_ : Aside0 (Kd.R (Kd.int .i64) 3 w35 w.heap.size (fun k_ => some k_ ≠ (v238 : Value).ownBlock) v235 y234) := ⟨h0_⟩
    have n1_ : Aside0 (Kd.R (Kd.int .i64) 3 w35 w.heap.size (fun k_ => some k_ ≠ (v235 : Value).ownBlock) v238 y237) := ⟨h1_⟩
    have n2_ : Aside0 (w35.heap[gb224]? = some (.cells #[.string ((rd_T54 l0 a1).f0), .int .i64 ((rd_T54 l0 a1).f1), .int .i64 ((rd_T54 l0 a1).f2), .int .i64 ((rd_T54 l0 a1).f3)] 54 (0, 0))) := ⟨h2_⟩
    have n3_ : Aside0 (Below w.heap.size w w35) := ⟨h3_⟩
    clear BK224
    clear HB
    clear h0_ h1_ h2_ h3_
    have HO236 := n0_
    have HO239 := n1_
    have BK224 := n2_
    have HB := n3_
    clear n0_ n1_ n2_ n3_
    have hHeld : w35.cell? ⟨gb224, 0, none⟩ = some (.string ((rd_T54 l0 a1).f0)) ∧ w35.cell? ⟨gb224, 1, none⟩ = some (.int .i64 ((rd_T54 l0 a1).f1)) ∧ w35.cell? ⟨gb224, 2, none⟩ = some (.int .i64 ((rd_T54 l0 a1).f2)) ∧ w35.cell? ⟨gb224, 3, none⟩ = some (.int .i64 ((rd_T54 l0 a1).f3)) := hS_
    refine norm_ (a' := ?_) ?_ ?_
    rotate_left
    ·simp only [putAll, Act.put, List.setIfInBounds_toArray, List.set_cons_zero, List.set_cons_succ]
     rfl
    refine pu 7 7 9 255 rfl rfl ?_
    refine pu 8 8 9 511 rfl rfl ?_
    refine done_ (done_of HT_.out (by kernel_rfl)) ?_
    try go_wp2
    go_ret3
    exact ⟨_, _, EQ, rb HO236.out, rb HO239.out, BA⟩
   ·replace c29 := Bool.eq_false_iff.mpr c29
    subst c29
    rw [if_neg (show ¬ (false = true) by decide)] at H
    simp only [Option.some.injEq, Prod.mk.injEq] at H
    obtain ⟨rfl, rfl, rfl⟩ := H
    go_wp2
    go_ret3
    exact ⟨_, _, EQ, by first | exact Kd.R_nil _ _ _ _ _ | exact Kd.N_nil _ _ _ _ _ | exact Kd.V_nil _ _ _ _ _ | exact Kd.Q_nil _ _ _ _ _ | exact Kd.S_nil _ _ _ _ _, by first | exact Kd.R_nil _ _ _ _ _ | exact Kd.N_nil _ _ _ _ _ | exact Kd.V_nil _ _ _ _ _ | exact Kd.Q_nil _ _ _ _ _ | exact Kd.S_nil _ _ _ _ _, BA⟩

/-! ### spec_cvTile_at7: function 53 -/
def spec_cvTile_at7.j0 : Nat → Bool → ByteArray → Int → Int → Int → Option (List Int × List Int × Bool)
 | 0, _, _, _, _, _ => none
 | k + 1, x122, x242000, x242001, x242002, x242003 => if x122 = true then (some ((([x242001] : List Int)), (([x242002] : List Int)), true)) else (some (([] : List Int), ([] : List Int), false))
def spec_cvTile_at7.f (k : Nat) (l0 : List (S54)) (a1 : Int)  : Option (List Int × List Int × Bool) := if 0 ≤ a1 then (if a1 < (l0.length : Int) then (if ((rd_T54 l0 a1).f0).toList = ([109, 117, 108] : List UInt8) then (if 0 ≤ ((rd_T54 l0 a1).f2) then (if ((rd_T54 l0 a1).f2) < (l0.length : Int) then ((spec_cvConst.f k ((rd_T54 l0 ((rd_T54 l0 a1).f2)).f0) ((rd_T54 l0 ((rd_T54 l0 a1).f2)).f1) ((rd_T54 l0 ((rd_T54 l0 a1).f2)).f2) ((rd_T54 l0 ((rd_T54 l0 a1).f2)).f3) (([2, 4, 8, 16, 32] : List Int))).bind fun t246 => (spec_cvTile_at7.j0 k t246 ((rd_T54 l0 a1).f0) ((rd_T54 l0 a1).f1) ((rd_T54 l0 a1).f2) ((rd_T54 l0 a1).f3))) else (none)) else (none)) else (spec_cvTile_at7.j0 k false ((rd_T54 l0 a1).f0) ((rd_T54 l0 a1).f1) ((rd_T54 l0 a1).f2) ((rd_T54 l0 a1).f3))) else (none)) else (none)
def spec_cvTile_at7.T10 : Bool × List (List Nat × List Nat) := (true, [([], []), ([0], [0]), ([1], [1]), ([2], [2]), ([2], [2]), ([4, 2], [2, 4]), ([3, 5, 2, 2], [2, 3, 5]), ([2, 6], [2, 6]), ([7, 6], [7]), ([8], [8]), ([8], [8]), ([10, 8], [8, 10]), ([9, 11, 8], [8, 9, 11]), ([12, 8], [8, 12]), ([8, 8], [8]), ([13, 14, 14, 8], [8, 13, 14]), ([8, 15], [8, 15]), ([16, 15], [16])])
def spec_cvTile_at7.B10 : List Nat := [0, 1, 3, 7, 7, 23, 63, 127, 255, 511, 511, 1535, 4095, 8191, 511, 32767, 65535, 131071]
theorem spec_cvTile_at7.tab10 : rtab .any (opsOf Try.f53 10) = spec_cvTile_at7.T10 := by kernel_rfl
theorem spec_cvTile_at7.bits10 : waitsOk spec_cvTile_at7.T10.2 spec_cvTile_at7.B10 = true := by kernel_rfl
def spec_cvTile_at7.T12 : Bool × List (List Nat × List Nat) := (true, [([], []), ([0], [0]), ([1], [1]), ([2], [2]), ([2], [2]), ([4, 2], [2, 4]), ([3, 5, 2, 2], [2, 3, 5]), ([2, 6], [2, 6]), ([7, 6], [7]), ([8], [8]), ([8], [8]), ([10, 8], [8, 10]), ([9, 11, 8], [8, 9, 11]), ([12, 8], [8, 12]), ([8, 8], [8]), ([13, 14, 14, 8], [8, 13, 14]), ([8, 15], [8, 15]), ([16, 15], [16])])
def spec_cvTile_at7.B12 : List Nat := [0, 1, 3, 7, 7, 23, 63, 127, 255, 511, 511, 1535, 4095, 8191, 511, 32767, 65535, 131071]
theorem spec_cvTile_at7.tab12 : rtab .any (opsOf Try.f53 12) = spec_cvTile_at7.T12 := by kernel_rfl
theorem spec_cvTile_at7.bits12 : waitsOk spec_cvTile_at7.T12.2 spec_cvTile_at7.B12 = true := by kernel_rfl
def spec_cvTile_at7.T17 : Bool × List (List Nat × List Nat) := (true, [([], []), ([0], [0]), ([1], [1]), ([], []), ([3], [3]), ([4], [4]), ([2, 0, 1, 2], [2]), ([5, 6, 0, 1, 2, 3, 4, 5, 6], [5]), ([7, 0, 1, 2, 3, 4, 5, 6, 7], [])])
def spec_cvTile_at7.B17 : List Nat := [0, 1, 3, 0, 8, 24, 7, 127, 255]
theorem spec_cvTile_at7.tab17 : rtab .any (opsOf Try.f53 17) = spec_cvTile_at7.T17 := by kernel_rfl
theorem spec_cvTile_at7.bits17 : waitsOk spec_cvTile_at7.T17.2 spec_cvTile_at7.B17 = true := by kernel_rfl
theorem spec_cvTile_at7.calls (k : Nat) (A0 : Option Addr) (c0 : Nat) (l0 : List (S54)) (a1 : Int)  (r1 : List Int) (r2 : List Int) (r3 : Bool) (w : World) (hr0 : Kd.C k54 w A0 l0.length l0) (hc0 : l0.length ≤ c0) (h : spec_cvTile_at7.f k l0 a1 = some (r1, r2, r3)) :
  Calls Try.prog 53 #[.slice A0 l0.length c0, .int .i64 a1, .int .i64 7] w fun e w' => ∃ v0_ v1_ : Value, e = .returned (.tuple #[v0_, v1_, .bool r3]) ∧ Kd.R (Kd.int .i64) 3 w' w.heap.size (fun k_ => some k_ ≠ (v1_ : Value).ownBlock) v0_ r1 ∧ Kd.R (Kd.int .i64) 3 w' w.heap.size (fun k_ => some k_ ≠ (v0_ : Value).ownBlock) v1_ r2 ∧ Below w.heap.size w w' := by
 have hu54 := Try.underlying54
 have HR0 := Aside0.mk hr0
 have HC0 := Aside0.mk hc0
 clear hr0 hc0
 have HB := Aside0.mk (Below.refl w.heap.size w)
 have H := h
 clear h
 unfold spec_cvTile_at7.f at H
 obtain ⟨c4, H⟩ := ifs H
 have c4b0 := decide_eq_true c4
 clear c4
 obtain ⟨c5, H⟩ := ifs H
 have c5b0 := decide_eq_true c5
 clear c5
 have HC6 := Aside0.mk H
 clear H
 have p240 : 0 ≤ (a1 : Int) := DT
 have q240 : a1 < (l0.length : Int) := DT
 obtain ⟨ad240, e240, hx240_0, hx240_1, hx240_2, hx240_3⟩ := at_T54 HR0.out a1 p240 q240
 cases e240
 replace p240 := eq_true p240
 replace q240 := eq_true q240
 go_enter Try.func53, Try.ntmps53
 try go_wp2_with (first | ((with_reducible refine gd 9 rfl ?_); (try (refine gate_guard (by rfl) ?_; dsimp only)); refine bx 9 #[.string (⟨#[]⟩ : ByteArray), .int .i64 0, .int .i64 0, .int .i64 0] 54 ?_; intro gb241 hg w7 BK241 GW241 HB hb; have GE241 := GW241; clear hb hg; obtain ⟨hcz8_0, hcz8_1, hcz8_2, hcz8_3⟩ := bc4 BK241.out; have hfz8 := blk_frozen BK241.out))
 have n0_ : Aside0 (((((w7.setCell ⟨gb241, 0, none⟩ (.string ((rd_T54 l0 a1).f0))).setCell ⟨gb241, 1, none⟩ (.int .i64 ((rd_T54 l0 a1).f1))).setCell ⟨gb241, 2, none⟩ (.int .i64 ((rd_T54 l0 a1).f2))).setCell ⟨gb241, 3, none⟩ (.int .i64 ((rd_T54 l0 a1).f3))).heap[gb241]? = some (.cells #[.string ((rd_T54 l0 a1).f0), .int .i64 ((rd_T54 l0 a1).f1), .int .i64 ((rd_T54 l0 a1).f2), .int .i64 ((rd_T54 l0 a1).f3)] 54 (0, 0))) := ⟨by (with_reducible repeat (first | refine blk_drewN ?_ _ | refine blk_drew ?_ | refine blk_alloc ?_ _)); refine blk_put (cs := #[.string ((rd_T54 l0 a1).f0), .int .i64 ((rd_T54 l0 a1).f1), .int .i64 ((rd_T54 l0 a1).f2), .int .i64 0]) ?_ 3 _ rfl; (with_reducible repeat (first | refine blk_drewN ?_ _ | refine blk_drew ?_ | refine blk_alloc ?_ _)); refine blk_put (cs := #[.string ((rd_T54 l0 a1).f0), .int .i64 ((rd_T54 l0 a1).f1), .int .i64 0, .int .i64 0]) ?_ 2 _ rfl; (with_reducible repeat (first | refine blk_drewN ?_ _ | refine blk_drew ?_ | refine blk_alloc ?_ _)); refine blk_put (cs := #[.string ((rd_T54 l0 a1).f0), .int .i64 0, .int .i64 0, .int .i64 0]) ?_ 1 _ rfl; (with_reducible repeat (first | refine blk_drewN ?_ _ | refine blk_drew ?_ | refine blk_alloc ?_ _)); refine blk_put (cs := #[.string (⟨#[]⟩ : ByteArray), .int .i64 0, .int .i64 0, .int .i64 0]) ?_ 0 _ rfl; (with_reducible repeat (first | refine blk_drewN ?_ _ | refine blk_drew ?_ | refine blk_alloc ?_ _)); exact BK241.out⟩
 have n1_ : Aside0 (Below w.heap.size w ((((w7.setCell ⟨gb241, 0, none⟩ (.string ((rd_T54 l0 a1).f0))).setCell ⟨gb241, 1, none⟩ (.int .i64 ((rd_T54 l0 a1).f1))).setCell ⟨gb241, 2, none⟩ (.int .i64 ((rd_T54 l0 a1).f2))).setCell ⟨gb241, 3, none⟩ (.int .i64 ((rd_T54 l0 a1).f3)))) := ⟨BA⟩
 (try clear BK241)
 (try clear HB)
 generalize ((((w7.setCell ⟨gb241, 0, none⟩ (.string ((rd_T54 l0 a1).f0))).setCell ⟨gb241, 1, none⟩ (.int .i64 ((rd_T54 l0 a1).f1))).setCell ⟨gb241, 2, none⟩ (.int .i64 ((rd_T54 l0 a1).f2))).setCell ⟨gb241, 3, none⟩ (.int .i64 ((rd_T54 l0 a1).f3))) = w9 at n0_ n1_ ⊢
 have BK241 := n0_
 have HB := n1_
 clear n0_ n1_
 replace BK241 := Aside0.mk (blk_drew BK241.out); replace HB := Aside0.mk (below_drew1 HB.out)
 refine start_ (n := 18) (S := fun w' => True) (ds := []) (mk 18 0) (by kernel_rfl) rfl (by kernel_rfl) trivial (fun hHeld => ?_); refine with_tabW spec_cvTile_at7.tab10 spec_cvTile_at7.bits10 (fun HT_ HW_ => ?_)
 generalize w9.drew = w10 at BK241 HB hHeld ⊢
 refine pu 0 51 18 1 rfl rfl ?_
 refine pu 1 52 18 3 rfl rfl ?_
 refine pu 2 53 18 7 rfl rfl ?_
 refine pos [(3, some 54), (4, some 55), (5, some 56), (6, some 57)] 18 127 11 ?_
 refine pu 7 58 18 255 rfl rfl ?_
 refine pu 8 59 18 511 rfl rfl ?_
 refine pos [(9, some 60), (10, some 61), (11, some 62), (12, some 63), (13, some 64), (14, some 65), (15, some 66)] 18 65535 2 ?_
 refine pu 16 67 18 131071 rfl rfl ?_
 refine pu 17 50 18 262143 rfl rfl ?_
 refine done_ (done_of HT_.out (by kernel_rfl)) ?_
 try go_wp2
 replace BK241 := Aside0.mk (blk_drew BK241.out); replace HB := Aside0.mk (below_drew1 HB.out)
 refine start_ (n := 18) (S := fun w' => True) (ds := []) (mk 18 0) (by kernel_rfl) rfl (by kernel_rfl) trivial (fun hHeld => ?_); refine with_tabW spec_cvTile_at7.tab12 spec_cvTile_at7.bits12 (fun HT_ HW_ => ?_)
 generalize w10.drew = w11 at BK241 HB hHeld ⊢
 refine pu 0 75 18 1 rfl rfl ?_
 refine pu 1 76 18 3 rfl rfl ?_
 refine pu 2 77 18 7 rfl rfl ?_
 refine pos [(3, some 78), (4, some 79), (5, some 80), (6, some 81)] 18 127 11 ?_
 refine pu 7 82 18 255 rfl rfl ?_
 refine pu 8 83 18 511 rfl rfl ?_
 refine pos [(9, some 84), (10, some 85), (11, some 86), (12, some 87), (13, some 88), (14, some 89), (15, some 90)] 18 65535 2 ?_
 refine pu 16 91 18 131071 rfl rfl ?_
 refine pu 17 74 18 262143 rfl rfl ?_
 refine done_ (done_of HT_.out (by kernel_rfl)) ?_
 go_upto_region 16 with (fail)
 go_cut [122] (fun v122 wc => ∃ (kq : Nat) (x122_5 : Bool), v122 = .bool x122_5 ∧ Aside0 (spec_cvTile_at7.j0 kq x122_5 ((rd_T54 l0 a1).f0) ((rd_T54 l0 a1).f1) ((rd_T54 l0 a1).f2) ((rd_T54 l0 a1).f3) = some (r1, r2, r3)) ∧ Aside0 (kq ≤ k) ∧ Aside0 (wc.heap[gb241]? = some (.cells #[.string ((rd_T54 l0 a1).f0), .int .i64 ((rd_T54 l0 a1).f1), .int .i64 ((rd_T54 l0 a1).f2), .int .i64 ((rd_T54 l0 a1).f3)] 54 (0, 0))) ∧ Aside0 (Below w.heap.size w wc))
 case first =>
  have H := HC6.out
  clear HC6
  by_cases c12 : ((rd_T54 l0 a1).f0).toList = ([109, 117, 108] : List UInt8)
  ·rw [if_pos c12] at H
   have c12b0 := beq_iff_eq.mpr c12
   have c12b1 := bne_eq_false_iff_eq.mpr c12
   clear c12
   (first | rw [c12b0] | (simp only [i64_w, i32_w]; rw [c12b0]) | skip)
   obtain ⟨c13, H⟩ := ifs H
   have c13b0 := decide_eq_true c13
   clear c13
   obtain ⟨c14, H⟩ := ifs H
   have c14b0 := decide_eq_true c14
   clear c14
   obtain ⟨y243, hy243⟩ : ∃ y_ : List Int, y_ = (([2, 4, 8, 16, 32] : List Int)) := ⟨_, rfl⟩
   replace H : ((spec_cvConst.f k ((rd_T54 l0 ((rd_T54 l0 a1).f2)).f0) ((rd_T54 l0 ((rd_T54 l0 a1).f2)).f1) ((rd_T54 l0 ((rd_T54 l0 a1).f2)).f2) ((rd_T54 l0 ((rd_T54 l0 a1).f2)).f3) y243).bind fun t246 => (spec_cvTile_at7.j0 k t246 ((rd_T54 l0 a1).f0) ((rd_T54 l0 a1).f1) ((rd_T54 l0 a1).f2) ((rd_T54 l0 a1).f3))) = some (r1, r2, r3) := by first | (rw [hy243]; with_reducible exact H) | (have H2_ := (Option.bind_some _ _).symm.trans H; rw [hy243]; with_reducible exact H2_) | (have H2_ := (Option.bind_some _ _).symm.trans H; with_reducible exact H2_) | with_reducible exact H | (rw [hy243]; exact H) | exact H
   have Ny243 := Aside0.mk hy243
   clear hy243
   obtain ⟨t246, A15, H⟩ := ob H
   (try dsimp only at H)
   have H' := Aside0.mk H
   clear H
   obtain ⟨hcz16_0, hcz16_1, hcz16_2, hcz16_3⟩ := bc4 BK241.out
   have hfz16 := blk_frozen BK241.out
   have hfz16_1 := blk_frozen BK241.out 1
   have hfz16_2 := blk_frozen BK241.out 2
   have hfz16_3 := blk_frozen BK241.out 3
   have p242 : 0 ≤ (((rd_T54 l0 a1).f2) : Int) := DT
   have q242 : ((rd_T54 l0 a1).f2) < (l0.length : Int) := DT
   obtain ⟨ad242, e242, hx242_0, hx242_1, hx242_2, hx242_3⟩ := at_T54 (Kd.C_below HR0.out HB.out) ((rd_T54 l0 a1).f2) p242 q242
   obtain rfl : ad240 = ad242 := (by injection e242)
   replace p242 := eq_true p242
   replace q242 := eq_true q242
   go_wp2_with (first | ((with_reducible refine gate_dst (N := 136) rfl ?_); (try (refine gate_guard (by rfl) ?_; dsimp only)); refine li 136 3 Ny243.out ?_; intro v244 w17 ho18 hb; have HO245 := Aside0.mk (Kd.R_lower ho18 (below_size BA)); replace BK241 := kb BK241 hb; replace HB := bs hb; clear hb ho18; obtain ⟨Ao19, co19, eo19⟩ := Kd.R_slice HO245.out; subst eo19) | (go_at_call 82; (with_reducible refine (spec_cvConst.calls k ((rd_T54 l0 ((rd_T54 l0 a1).f2)).f0) ((rd_T54 l0 ((rd_T54 l0 a1).f2)).f1) ((rd_T54 l0 ((rd_T54 l0 a1).f2)).f2) ((rd_T54 l0 ((rd_T54 l0 a1).f2)).f3) _ _ y243 t246 _ ?side1 ?side2 A15.out).mono ?_); (case side1 => exact cb (Kd.R_reads' HO245.out).2.2); (case side2 => exact (Kd.R_reads' HO245.out).2.1); rintro e w20 ⟨rfl, hb⟩; replace HO245 := Aside0.mk (Kd.R_below (rb HO245.out) hb); replace BK241 := kb BK241 hb; replace HB := bs hb; (try clear hb)))
   go_meet
   case rel => exact ⟨_, (t246), EQ1, H', ⟨by first | omega | exact Nat.le_refl _⟩, ⟨by (with_reducible repeat (first | refine blk_drewN ?_ _ | refine blk_drew ?_ | refine blk_alloc ?_ _)); exact BK241.out⟩, ⟨BA⟩⟩
  ·rw [if_neg c12] at H
   have c12b0 := beq_eq_false_iff_ne.mpr c12
   have c12b1 := bne_iff_ne.mpr c12
   (first | rw [c12b0] | (simp only [i64_w, i32_w]; rw [c12b0]) | skip)
   have H' := Aside0.mk H
   clear H
   obtain ⟨hcz21_0, hcz21_1, hcz21_2, hcz21_3⟩ := bc4 BK241.out
   have hfz21 := blk_frozen BK241.out
   have hfz21_1 := blk_frozen BK241.out 1
   have hfz21_2 := blk_frozen BK241.out 2
   have hfz21_3 := blk_frozen BK241.out 3
   go_wp2
   go_meet
   case rel => exact ⟨_, (false), EQ1, H', ⟨by first | omega | exact Nat.le_refl _⟩, ⟨by (with_reducible repeat (first | refine blk_drewN ?_ _ | refine blk_drew ?_ | refine blk_alloc ?_ _)); exact BK241.out⟩, ⟨BA⟩⟩
 case rest =>
  clear HC6
  (try clear c4b0); (try clear c5b0); (try clear c12b0); (try clear c12b1); (try clear c13b0); (try clear c14b0); (try clear hcz16_0); (try clear hcz16_1); (try clear hcz16_2); (try clear hcz16_3); (try clear hcz21_0); (try clear hcz21_1); (try clear hcz21_2); (try clear hcz21_3); (try clear hcz8_0); (try clear hcz8_1); (try clear hcz8_2); (try clear hcz8_3); (try clear hfz16_1); (try clear hfz16_2); (try clear hfz16_3); (try clear hfz21_1); (try clear hfz21_2); (try clear hfz21_3); (try clear hx240_0); (try clear hx240_1); (try clear hx240_2); (try clear hx240_3); (try clear hx242_0); (try clear hx242_1); (try clear hx242_2); (try clear hx242_3); (try clear p240); (try clear p242); (try clear q240); (try clear q242)
  obtain ⟨kq, x122_5, rfl, HA, HJ5, BK241, HB⟩ := hcut
  cases kq with
  | zero => exact absurd HA.out (by simp [spec_cvTile_at7.j0])
  | succ kj5 =>
   have H := HA.out
   clear HA
   simp only [spec_cvTile_at7.j0] at H
   by_cases c22 : x122_5 = true
   ·subst c22
    rw [if_pos rfl] at H
    obtain ⟨y247, hy247⟩ : ∃ y_ : List Int, y_ = (([((rd_T54 l0 a1).f1)] : List Int)) := ⟨_, rfl⟩
    replace H : (some (y247, (([((rd_T54 l0 a1).f2)] : List Int)), true)) = some (r1, r2, r3) := by first | (rw [hy247]; with_reducible exact H) | (have H2_ := (Option.bind_some _ _).symm.trans H; rw [hy247]; with_reducible exact H2_) | (have H2_ := (Option.bind_some _ _).symm.trans H; with_reducible exact H2_) | with_reducible exact H | (rw [hy247]; exact H) | exact H
    have Ny247 := Aside0.mk hy247
    clear hy247
    obtain ⟨y250, hy250⟩ : ∃ y_ : List Int, y_ = (([((rd_T54 l0 a1).f2)] : List Int)) := ⟨_, rfl⟩
    replace H : (some (y247, y250, true)) = some (r1, r2, r3) := by first | (rw [hy250]; with_reducible exact H) | (have H2_ := (Option.bind_some _ _).symm.trans H; rw [hy250]; with_reducible exact H2_) | (have H2_ := (Option.bind_some _ _).symm.trans H; with_reducible exact H2_) | with_reducible exact H | (rw [hy250]; exact H) | exact H
    have Ny250 := Aside0.mk hy250
    clear hy250
    simp only [Option.some.injEq, Prod.mk.injEq] at H
    obtain ⟨rfl, rfl, rfl⟩ := H
    try go_wp2
    replace BK241 := Aside0.mk (blk_drew BK241.out); replace HB := Aside0.mk (below_drew1 HB.out)
    refine start_ (n := 9) (S := C4 gb241 (.string ((rd_T54 l0 a1).f0)) (.int .i64 ((rd_T54 l0 a1).f1)) (.int .i64 ((rd_T54 l0 a1).f2)) (.int .i64 ((rd_T54 l0 a1).f3))) (ds := []) (mk 9 0) (by kernel_rfl) rfl (by kernel_rfl) (bc4 BK241.out) (fun hHeld => ?_); refine with_tabW spec_cvTile_at7.tab17 spec_cvTile_at7.bits17 (fun HT_ HW_ => ?_)
    generalize wc.drew = w23 at BK241 HB hHeld ⊢
    refine pu 0 139 9 1 rfl rfl ?_
    refine pu 3 142 9 9 rfl rfl ?_
    refine ta 1 140 9 11 rfl rfl ?_
    refine ta 4 143 9 27 rfl rfl ?_
    refine join_ (σ := Value × Value) 2 #[true, true, true, true, true, true, true, false, false] (fun s_ => [(141, s_.1), (144, s_.2), (6, s_.1)]) (fun s_ w' => (w'.cell? ⟨gb241, 0, none⟩ = some (.string ((rd_T54 l0 a1).f0)) ∧ w'.cell? ⟨gb241, 1, none⟩ = some (.int .i64 ((rd_T54 l0 a1).f1)) ∧ w'.cell? ⟨gb241, 2, none⟩ = some (.int .i64 ((rd_T54 l0 a1).f2)) ∧ w'.cell? ⟨gb241, 3, none⟩ = some (.int .i64 ((rd_T54 l0 a1).f3))) ∧ (Kd.R (Kd.int .i64) 3 w' w.heap.size (fun k_ => some k_ ≠ (s_.2 : Value).ownBlock) s_.1 y247) ∧ (Kd.R (Kd.int .i64) 3 w' w.heap.size (fun k_ => some k_ ≠ (s_.1 : Value).ownBlock) s_.2 y250) ∧ (w'.heap[gb241]? = some (.cells #[.string ((rd_T54 l0 a1).f0), .int .i64 ((rd_T54 l0 a1).f1), .int .i64 ((rd_T54 l0 a1).f2), .int .i64 ((rd_T54 l0 a1).f3)] 54 (0, 0))) ∧ (Below w.heap.size w w')) ?_ ?_
    rotate_left
    ·intro hCont
     refine two_ (i := 2) (j := 5) (Ni := some 141) (Nj := some 144) #[true, true, true, true, true, false, false, false, false] #[true, true, false, true, true, true, false, false, false] rfl rfl rfl rfl (two_of HT_.out (by kernel_rfl)) (by decide) (by decide) (fun K hK => ?_) (fun K hK => ?_)
     ·skip
      refine lis 141 3 Ny247.out ?_
      intro v248 w24 ho25 hb
      have HO249 := Aside0.mk (Kd.R_lower ho25 (below_size BA)); replace BK241 := kb BK241 hb; replace HB := bs hb
      clear hb ho25
      refine hK.out _ _ (bc4 BK241.out) (fun hHeld => ?_)
      clear hK K
      refine nm 141 ?_
      refine pu 6 6 9 95 rfl rfl ?_
      refine one_ (i := 5) (N := some 144) (mk 9 127) rfl rfl (one_of HT_.out (by kernel_rfl)) (by decide) (fun K hK => ?_)
      refine lis 144 3 Ny250.out ?_
      intro v251 w26 ho27 hb
      have HO252 := Aside0.mk (Kd.R_lower (Kd.R_new' ho27 (Kd.R_lt (rb HO249.out))) (below_size BA)); replace HO249 := Aside0.mk (Kd.R_elder' (rb HO249.out) (Kd.R_base ho27) hb); replace BK241 := kb BK241 hb; replace HB := bs hb
      clear hb ho27
      refine hK.out _ _ (bc4 BK241.out) (fun hHeld => ?_)
      clear hK K
      refine nm 144 ?_
      exact norm_ (by simp only [putAll, Act.put, List.setIfInBounds_toArray, List.set_cons_zero, List.set_cons_succ]) (hCont (v248, v251) _ ⟨hHeld, (rb (Kd.R_mono HO249.out (fun _ hk => hk.2))), (rb (Kd.R_mono HO252.out (fun _ hk => hk.2))), (bk BK241.out), BA⟩)
     ·skip
      refine lis 144 3 Ny250.out ?_
      intro v251 w24 ho25 hb
      have HO252 := Aside0.mk (Kd.R_lower ho25 (below_size BA)); replace BK241 := kb BK241 hb; replace HB := bs hb
      clear hb ho25
      refine hK.out _ _ (bc4 BK241.out) (fun hHeld => ?_)
      clear hK K
      refine nm 144 ?_
      refine one_ (i := 2) (N := some 141) (mk 9 63) rfl rfl (one_of HT_.out (by kernel_rfl)) (by decide) (fun K hK => ?_)
      refine lis 141 3 Ny247.out ?_
      intro v248 w26 ho27 hb
      have HO249 := Aside0.mk (Kd.R_lower (Kd.R_new' ho27 (Kd.R_lt (rb HO252.out))) (below_size BA)); replace HO252 := Aside0.mk (Kd.R_elder' (rb HO252.out) (Kd.R_base ho27) hb); replace BK241 := kb BK241 hb; replace HB := bs hb
      clear hb ho27
      refine hK.out _ _ (bc4 BK241.out) (fun hHeld => ?_)
      clear hK K
      refine nm 141 ?_
      refine pu 6 6 9 127 rfl rfl ?_
      exact norm_ (by simp only [putAll, Act.put, List.setIfInBounds_toArray, List.set_cons_zero, List.set_cons_succ]) (hCont (v248, v251) _ ⟨hHeld, (rb (Kd.R_mono HO249.out (fun _ hk => hk.2))), (rb (Kd.R_mono HO252.out (fun _ hk => hk.2))), (bk BK241.out), BA⟩)
    rintro ⟨v248, v251⟩ w28 ⟨hS_, h0_, h1_, h2_, h3_⟩
    have n0_ : Aside0 (Kd.R (Kd.int .i64) 3 w28 w.heap.size (fun k_ => some k_ ≠ (v251 : Value).ownBlock) v248 y247) := ⟨h0_⟩
    have n1_ : Aside0 (Kd.R (Kd.int .i64) 3 w28 w.heap.size (fun k_ => some k_ ≠ (v248 : Value).ownBlock) v251 y250) := ⟨h1_⟩
    have n2_ : Aside0 (w28.heap[gb241]? = some (.cells #[.string ((rd_T54 l0 a1).f0), .int .i64 ((rd_T54 l0 a1).f1), .int .i64 ((rd_T54 l0 a1).f2), .int .i64 ((rd_T54 l0 a1).f3)] 54 (0, 0))) := ⟨h2_⟩
    have n3_ : Aside0 (Below w.heap.size w w28) := ⟨h3_⟩
    clear BK241
    clear HB
    clear h0_ h1_ h2_ h3_
    have HO249 := n0_
    have HO252 := n1_
    have BK241 := n2_
    have HB := n3_
    clear n0_ n1_ n2_ n3_
    have hHeld : w28.cell? ⟨gb241, 0, none⟩ = some (.string ((rd_T54 l0 a1).f0)) ∧ w28.cell? ⟨gb241, 1, none⟩ = some (.int .i64 ((rd_T54 l0 a1).f1)) ∧ w28.cell? ⟨gb241, 2, none⟩ = some (.int .i64 ((rd_T54 l0 a1).f2)) ∧ w28.cell? ⟨gb241, 3, none⟩ = some (.int .i64 ((rd_T54 l0 a1).f3)) := hS_
    refine norm_ (a' := ?_) ?_ ?_
    rotate_left
    ·simp only [putAll, Act.put, List.setIfInBounds_toArray, List.set_cons_zero, List.set_cons_succ]
     rfl
    refine pu 7 7 9 255 rfl rfl ?_
    refine pu 8 8 9 511 rfl rfl ?_
    refine done_ (done_of HT_.out (by kernel_rfl)) ?_
    try go_wp2
    go_ret3
    exact ⟨_, _, EQ, rb HO249.out, rb HO252.out, BA⟩
   ·replace c22 := Bool.eq_false_iff.mpr c22
    subst c22
    rw [if_neg (show ¬ (false = true) by decide)] at H
    simp only [Option.some.injEq, Prod.mk.injEq] at H
    obtain ⟨rfl, rfl, rfl⟩ := H
    go_wp2
    go_ret3
    exact ⟨_, _, EQ, by first | exact Kd.R_nil _ _ _ _ _ | exact Kd.N_nil _ _ _ _ _ | exact Kd.V_nil _ _ _ _ _ | exact Kd.Q_nil _ _ _ _ _ | exact Kd.S_nil _ _ _ _ _, by first | exact Kd.R_nil _ _ _ _ _ | exact Kd.N_nil _ _ _ _ _ | exact Kd.V_nil _ _ _ _ _ | exact Kd.Q_nil _ _ _ _ _ | exact Kd.S_nil _ _ _ _ _, BA⟩

end Go.Proofs.Ytlmegefdnkjcbaa.Pa
