-- Made by this session's program gen.py over the translation.
import Derived.Test.YtlmegefdnkjcbaaPa0
import Derived.Test.YtlmegefdnkjcbaaPa3
import Derived.Test.YtlmegefdnkjcbaaPa4
import Derived.Test.YtlmegefdnkjcbaaPa5
import Derived.Test.YtlmegefdnkjcbaaPa9
namespace Go.Proofs.Ytlmegefdnkjcbaa.Pa
open Go.RowKit Go.Proofs.YtlmegefdnkjcbaaW.PrintWords Go.Proofs.YtlmegefdnkjcbaaW.PrintLast Go.Proofs.YtlmegefdnkjcbaaW.PrintMore
attribute [local go_sem] max2_int min2_int max_two min_two max_three min_three max_four min_four   -- for this text's walks alone
set_option linter.unusedVariables false
set_option linter.unusedSimpArgs false
set_option maxHeartbeats 8000000
set_option maxRecDepth 100000

/-! ### spec_cvAt: function 48 -/
def spec_cvAt.f (k : Nat) (l0 : List (S54)) (a1 : Int) (a2 : Int) : Option (Bool) := (spec_cvTree.f k l0).bind fun t363 => (if t363 = true then ((spec_l1In.f a1 0 (wrap64 ((l0.length : Int) - 1))).bind fun t364 => (if t364 = true then ((spec_l1In.f a2 0 12).bind fun t365 => (if t365 = true then ((spec_cvTile.f k l0 a1 a2).bind fun bt366 => (some bt366.2.2)) else (some false))) else (some false))) else (some false))
theorem spec_cvAt.calls (k : Nat) (A0 : Option Addr) (c0 : Nat) (l0 : List (S54)) (a1 : Int) (a2 : Int) (r : Bool) (w : World) (hr0 : Kd.C k54 w A0 l0.length l0) (hc0 : l0.length ≤ c0) (h : spec_cvAt.f k l0 a1 a2 = some r) :
  Calls Try.prog 48 #[.slice A0 l0.length c0, .int .i64 a1, .int .i64 a2] w fun e w' => e = .returned (.bool r) ∧ Below w.heap.size w w' := by
 have HR0 := Aside0.mk hr0
 have HC0 := Aside0.mk hc0
 clear hr0 hc0
 have HB := Aside0.mk (Below.refl w.heap.size w)
 have H := h
 clear h
 unfold spec_cvAt.f at H
 obtain ⟨t363, A4, H⟩ := ob H
 (try dsimp only at H)
 by_cases c5 : t363 = true
 ·subst c5
  rw [if_pos rfl] at H
  obtain ⟨t364, A6, H⟩ := ob H
  (try dsimp only at H)
  by_cases c7 : t364 = true
  ·subst c7
   rw [if_pos rfl] at H
   obtain ⟨t365, A8, H⟩ := ob H
   (try dsimp only at H)
   by_cases c9 : t365 = true
   ·subst c9
    rw [if_pos rfl] at H
    replace H := Option.bind_eq_some_iff.mp H
    obtain ⟨⟨t366, t367, t368⟩, A100, H⟩ := H
    (try dsimp only at H)
    have A10 := Aside0.mk A100
    clear A100
    obtain rfl := Option.some.inj H
    go_enter Try.func48, Try.ntmps48
    go_wp2_with (first | ((with_reducible refine gate_callee (f := 55) rfl ?_); refine gK (some 11) Try.func55 #[.slice A0 l0.length c0] rfl rfl rfl ?_; (with_reducible refine (spec_cvTree.calls k _ _ l0 true _ ?side1 ?side2 A4.out).mono ?_); (case side1 => exact cb HR0.out); (case side2 => exact HC0.out); rintro e w11 ⟨rfl, hb⟩; refine ⟨_, rfl, ?_⟩; replace HB := bs hb; (try clear hb)) | (go_at_call 56; (with_reducible refine (spec_l1In.calls a1 0 (wrap64 ((l0.length : Int) - 1)) true _ A6.out).mono ?_); rintro e w' ⟨rfl, ⟨nd, rfl⟩⟩) | (go_at_call 56; (with_reducible refine (spec_l1In.calls a2 0 12 true _ A8.out).mono ?_); rintro e w' ⟨rfl, ⟨nd, rfl⟩⟩) | ((with_reducible refine gate_callee (f := 53) rfl ?_); refine gK (some 30) Try.func53 #[.slice A0 l0.length c0, .int .i64 a1, .int .i64 a2] rfl rfl rfl ?_; (with_reducible refine (spec_cvTile.calls k _ _ l0 a1 a2 t366 t367 t368 _ ?side1 ?side2 A10.out).mono ?_); (case side1 => exact cb (Kd.C_below HR0.out BA)); (case side2 => exact HC0.out); rintro e w12 ⟨v369, v371, rfl, ho0, ho1, hb⟩; refine ⟨_, rfl, ?_⟩; have HO370 := Aside0.mk (Kd.R_lower ho0 (below_size BA)); have HO372 := Aside0.mk (Kd.R_lower ho1 (below_size BA)); replace HB := bs hb; (try clear hb); (try clear ho0); (try clear ho1)))
    go_ret
    exact ⟨EQ, BA⟩
   ·replace c9 := Bool.eq_false_iff.mpr c9
    subst c9
    rw [if_neg (show ¬ (false = true) by decide)] at H
    obtain rfl := Option.some.inj H
    go_enter Try.func48, Try.ntmps48
    go_wp2_with (first | ((with_reducible refine gate_callee (f := 55) rfl ?_); refine gK (some 11) Try.func55 #[.slice A0 l0.length c0] rfl rfl rfl ?_; (with_reducible refine (spec_cvTree.calls k _ _ l0 true _ ?side1 ?side2 A4.out).mono ?_); (case side1 => exact cb HR0.out); (case side2 => exact HC0.out); rintro e w13 ⟨rfl, hb⟩; refine ⟨_, rfl, ?_⟩; replace HB := bs hb; (try clear hb)) | (go_at_call 56; (with_reducible refine (spec_l1In.calls a1 0 (wrap64 ((l0.length : Int) - 1)) true _ A6.out).mono ?_); rintro e w' ⟨rfl, ⟨nd, rfl⟩⟩) | (go_at_call 56; (with_reducible refine (spec_l1In.calls a2 0 12 false _ A8.out).mono ?_); rintro e w' ⟨rfl, ⟨nd, rfl⟩⟩))
    go_ret
    exact ⟨EQ, BA⟩
  ·replace c7 := Bool.eq_false_iff.mpr c7
   subst c7
   rw [if_neg (show ¬ (false = true) by decide)] at H
   obtain rfl := Option.some.inj H
   go_enter Try.func48, Try.ntmps48
   go_wp2_with (first | ((with_reducible refine gate_callee (f := 55) rfl ?_); refine gK (some 11) Try.func55 #[.slice A0 l0.length c0] rfl rfl rfl ?_; (with_reducible refine (spec_cvTree.calls k _ _ l0 true _ ?side1 ?side2 A4.out).mono ?_); (case side1 => exact cb HR0.out); (case side2 => exact HC0.out); rintro e w14 ⟨rfl, hb⟩; refine ⟨_, rfl, ?_⟩; replace HB := bs hb; (try clear hb)) | (go_at_call 56; (with_reducible refine (spec_l1In.calls a1 0 (wrap64 ((l0.length : Int) - 1)) false _ A6.out).mono ?_); rintro e w' ⟨rfl, ⟨nd, rfl⟩⟩))
   go_ret
   exact ⟨EQ, BA⟩
 ·replace c5 := Bool.eq_false_iff.mpr c5
  subst c5
  rw [if_neg (show ¬ (false = true) by decide)] at H
  obtain rfl := Option.some.inj H
  go_enter Try.func48, Try.ntmps48
  go_wp2_with (first | ((with_reducible refine gate_callee (f := 55) rfl ?_); refine gK (some 11) Try.func55 #[.slice A0 l0.length c0] rfl rfl rfl ?_; (with_reducible refine (spec_cvTree.calls k _ _ l0 false _ ?side1 ?side2 A4.out).mono ?_); (case side1 => exact cb HR0.out); (case side2 => exact HC0.out); rintro e w15 ⟨rfl, hb⟩; refine ⟨_, rfl, ?_⟩; replace HB := bs hb; (try clear hb)))
  go_ret
  exact ⟨EQ, BA⟩

/-! ### impl_toldTile: function 51 -/
def impl_toldTile.j0 : Nat → List (S54) → Int → Int → Bool → Option (List Int × List Int × Int × Bool)
 | 0, _, _, _, _ => none
 | k + 1, x0, x1, x2, x25 => if x25 = true then (some (([] : List Int), ([] : List Int), 0, false)) else ((impl_tileAt.f k x0 x1 x2).bind fun bt854 => (if bt854.2.2.2 = true then (some (bt854.1, bt854.2.1, bt854.2.2.1, true)) else (some (([] : List Int), ([] : List Int), 0, false))))
def impl_toldTile.f (k : Nat) (l0 : List (S54)) (a1 : Int) (a2 : Int) : Option (List Int × List Int × Int × Bool) := (impl_isTree.f k l0).bind fun t851 => (if t851 = true then ((impl_within.f a1 0 (wrap64 ((l0.length : Int) - 1))).bind fun t852 => (if t852 = true then ((impl_within.f a2 0 12).bind fun t853 => (impl_toldTile.j0 k l0 a1 a2 (!t853))) else (impl_toldTile.j0 k l0 a1 a2 true))) else (impl_toldTile.j0 k l0 a1 a2 true))
theorem impl_toldTile.calls (k : Nat) (A0 : Option Addr) (c0 : Nat) (l0 : List (S54)) (a1 : Int) (a2 : Int) (r1 : List Int) (r2 : List Int) (r3 : Int) (r4 : Bool) (w : World) (hr0 : Kd.C k54 w A0 l0.length l0) (hc0 : l0.length ≤ c0) (h : impl_toldTile.f k l0 a1 a2 = some (r1, r2, r3, r4)) :
  Calls Try.prog 51 #[.slice A0 l0.length c0, .int .i64 a1, .int .i64 a2] w fun e w' => ∃ v0_ v1_ : Value, e = .returned (.tuple #[.agg #[v0_, v1_, .int .i64 r3], .bool r4]) ∧ Kd.R (Kd.int .i64) 3 w' w.heap.size (fun k_ => some k_ ≠ (v1_ : Value).ownBlock) v0_ r1 ∧ Kd.R (Kd.int .i64) 3 w' w.heap.size (fun k_ => some k_ ≠ (v0_ : Value).ownBlock) v1_ r2 ∧ Below w.heap.size w w' := by
 have hu57 := Try.underlying57
 have HR0 := Aside0.mk hr0
 have HC0 := Aside0.mk hc0
 clear hr0 hc0
 have HB := Aside0.mk (Below.refl w.heap.size w)
 have H := h
 clear h
 unfold impl_toldTile.f at H
 have HC4 := Aside0.mk H
 clear H
 go_enter Try.func51, Try.ntmps51
 go_upto_region 1 with (first | ((with_reducible refine gd 6 rfl ?_); (try (refine gate_guard (by rfl) ?_; dsimp only)); refine bx 6 #[.slice none 0 0, .slice none 0 0, .int .i64 0] 57 ?_; intro gb850 hg w5 BK850 GW850 HB hb; have GE850 := GW850; clear hb hg))
 (try simp only [Act.put, List.setIfInBounds_toArray, List.set_cons_zero, List.set_cons_succ])
 go_cut [25] (fun v25 wc => ∃ (kq : Nat) (x25_3 : Bool), v25 = .bool x25_3 ∧ Aside0 (impl_toldTile.j0 kq l0 a1 a2 x25_3 = some (r1, r2, r3, r4)) ∧ Aside0 (kq ≤ k) ∧ Aside0 (wc.heap[gb850]? = some (.cells #[(.slice none 0 0), (.slice none 0 0), .int .i64 0] 57 (0, 0))) ∧ Aside0 (Below w.heap.size w wc))
 case first =>
  have H := HC4.out
  clear HC4
  obtain ⟨t851, A6, H⟩ := ob H
  (try dsimp only at H)
  by_cases c7 : t851 = true
  ·subst c7
   rw [if_pos rfl] at H
   obtain ⟨t852, A8, H⟩ := ob H
   (try dsimp only at H)
   by_cases c9 : t852 = true
   ·subst c9
    rw [if_pos rfl] at H
    obtain ⟨t853, A10, H⟩ := ob H
    (try dsimp only at H)
    have H' := Aside0.mk H
    clear H
    go_wp2_with (first | ((with_reducible refine gate_callee (f := 58) rfl ?_); refine gK (some 11) Try.func58 #[.slice A0 l0.length c0] rfl rfl rfl ?_; (with_reducible refine (impl_isTree.calls k _ _ l0 true _ ?side1 ?side2 A6.out).mono ?_); (case side1 => exact cb (Kd.C_below HR0.out HB.out)); (case side2 => exact HC0.out); rintro e w11 ⟨rfl, hb⟩; refine ⟨_, rfl, ?_⟩; replace BK850 := kb BK850 hb; replace HB := bs hb; (try clear hb)) | (go_at_call 59; (with_reducible refine (impl_within.calls a1 0 (wrap64 ((l0.length : Int) - 1)) true _ A8.out).mono ?_); rintro e w' ⟨rfl, ⟨nd, rfl⟩⟩) | (go_at_call 59; (with_reducible refine (impl_within.calls a2 0 12 t853 _ A10.out).mono ?_); rintro e w' ⟨rfl, ⟨nd, rfl⟩⟩))
    go_meet
    case rel => exact ⟨_, (!t853), EQ1, H', ⟨by first | omega | exact Nat.le_refl _⟩, ⟨by (with_reducible repeat (first | refine blk_drewN ?_ _ | refine blk_drew ?_ | refine blk_alloc ?_ _)); exact BK850.out⟩, ⟨BA⟩⟩
   ·replace c9 := Bool.eq_false_iff.mpr c9
    subst c9
    rw [if_neg (show ¬ (false = true) by decide)] at H
    have H' := Aside0.mk H
    clear H
    go_wp2_with (first | ((with_reducible refine gate_callee (f := 58) rfl ?_); refine gK (some 11) Try.func58 #[.slice A0 l0.length c0] rfl rfl rfl ?_; (with_reducible refine (impl_isTree.calls k _ _ l0 true _ ?side1 ?side2 A6.out).mono ?_); (case side1 => exact cb (Kd.C_below HR0.out HB.out)); (case side2 => exact HC0.out); rintro e w12 ⟨rfl, hb⟩; refine ⟨_, rfl, ?_⟩; replace BK850 := kb BK850 hb; replace HB := bs hb; (try clear hb)) | (go_at_call 59; (with_reducible refine (impl_within.calls a1 0 (wrap64 ((l0.length : Int) - 1)) false _ A8.out).mono ?_); rintro e w' ⟨rfl, ⟨nd, rfl⟩⟩))
    go_meet
    case rel => exact ⟨_, (true), EQ1, H', ⟨by first | omega | exact Nat.le_refl _⟩, ⟨by (with_reducible repeat (first | refine blk_drewN ?_ _ | refine blk_drew ?_ | refine blk_alloc ?_ _)); exact BK850.out⟩, ⟨BA⟩⟩
  ·replace c7 := Bool.eq_false_iff.mpr c7
   subst c7
   rw [if_neg (show ¬ (false = true) by decide)] at H
   have H' := Aside0.mk H
   clear H
   go_wp2_with (first | ((with_reducible refine gate_callee (f := 58) rfl ?_); refine gK (some 11) Try.func58 #[.slice A0 l0.length c0] rfl rfl rfl ?_; (with_reducible refine (impl_isTree.calls k _ _ l0 false _ ?side1 ?side2 A6.out).mono ?_); (case side1 => exact cb (Kd.C_below HR0.out HB.out)); (case side2 => exact HC0.out); rintro e w13 ⟨rfl, hb⟩; refine ⟨_, rfl, ?_⟩; replace BK850 := kb BK850 hb; replace HB := bs hb; (try clear hb)))
   go_meet
   case rel => exact ⟨_, (true), EQ1, H', ⟨by first | omega | exact Nat.le_refl _⟩, ⟨by (with_reducible repeat (first | refine blk_drewN ?_ _ | refine blk_drew ?_ | refine blk_alloc ?_ _)); exact BK850.out⟩, ⟨BA⟩⟩
 case rest =>
  clear HC4
  (try clear c7); (try clear c9)
  obtain ⟨kq, x25_3, rfl, HA, HJ3, BK850, HB⟩ := hcut
  cases kq with
  | zero => exact absurd HA.out (by simp [impl_toldTile.j0])
  | succ kj3 =>
   have H := HA.out
   clear HA
   simp only [impl_toldTile.j0] at H
   by_cases c14 : x25_3 = true
   ·subst c14
    rw [if_pos rfl] at H
    simp only [Option.some.injEq, Prod.mk.injEq] at H
    obtain ⟨rfl, rfl, rfl, rfl⟩ := H
    obtain ⟨hcz15_0, hcz15_1, hcz15_2⟩ := bc3 BK850.out
    have hfz15 := blk_frozen BK850.out
    have hfz15_1 := blk_frozen BK850.out 1
    have hfz15_2 := blk_frozen BK850.out 2
    go_wp2
    refine bodyPost_ret (results_ct rfl _ _ gb850 57 #[.slice none 0 0, .slice none 0 0, .int .i64 0] (0, 0) _ rfl (bq BK850.out) Try.underlying57 rfl (by kernel_rfl)) rfl ?_
    exact ⟨_, _, EQ, by first | exact Kd.R_nil _ _ _ _ _ | exact Kd.N_nil _ _ _ _ _ | exact Kd.V_nil _ _ _ _ _ | exact Kd.Q_nil _ _ _ _ _ | exact Kd.S_nil _ _ _ _ _, by first | exact Kd.R_nil _ _ _ _ _ | exact Kd.N_nil _ _ _ _ _ | exact Kd.V_nil _ _ _ _ _ | exact Kd.Q_nil _ _ _ _ _ | exact Kd.S_nil _ _ _ _ _, BA⟩
   ·replace c14 := Bool.eq_false_iff.mpr c14
    subst c14
    rw [if_neg (show ¬ (false = true) by decide)] at H
    replace H := Option.bind_eq_some_iff.mp H
    obtain ⟨⟨t854, t857, t860, t861⟩, A160, H⟩ := H
    (try dsimp only at H)
    have A16 := Aside0.mk A160
    clear A160
    by_cases c17 : t861 = true
    ·subst c17
     rw [if_pos rfl] at H
     simp only [Option.some.injEq, Prod.mk.injEq] at H
     obtain ⟨rfl, rfl, rfl, rfl⟩ := H
     go_wp2_with (first | ((with_reducible refine gate_callee (f := 78) rfl ?_); refine gK (some 31) Try.func78 #[.slice A0 l0.length c0, .int .i64 a1, .int .i64 a2] rfl rfl rfl ?_; (with_reducible refine (impl_tileAt.calls kj3 _ _ l0 a1 a2 t854 t857 t860 true _ ?side1 ?side2 A16.out).mono ?_); (case side1 => exact cb (Kd.C_below HR0.out HB.out)); (case side2 => exact HC0.out); rintro e w18 ⟨v855, v858, rfl, ho0, ho1, hb⟩; refine ⟨_, rfl, ?_⟩; have HO856 := Aside0.mk (Kd.R_lower ho0 (below_size BA)); have HO859 := Aside0.mk (Kd.R_lower ho1 (below_size BA)); replace BK850 := kb BK850 hb; replace HB := bs hb; (try clear hb); (try clear ho0); (try clear ho1)) | ((with_reducible refine gd 8 rfl ?_); (try (refine gate_guard (by rfl) ?_; dsimp only)); refine bx 8 #[.slice none 0 0, .slice none 0 0, .int .i64 0] 57 ?_; intro gb862 hg w19 BK862 GW862 HB hb; replace HO856 := Aside0.mk (Kd.R_below (rb HO856.out) hb); replace HO859 := Aside0.mk (Kd.R_below (rb HO859.out) hb); have GE862 := GW862; have NB850_862 := nbl hg (bk BK850.out); have NB862_850 := nbr hg (bk BK850.out); replace BK850 := kb BK850 hb; clear hb hg; obtain ⟨Ao20, co20, eo20⟩ := Kd.R_slice HO856.out; subst eo20; have hnb21 := NB862_850.out; have hnc21 := NB850_862.out; obtain ⟨hcz22_0, hcz22_1, hcz22_2⟩ := bc3 BK862.out; have hfz22 := blk_frozen BK862.out; obtain ⟨Ao23, co23, eo23⟩ := Kd.R_slice HO859.out; subst eo23; obtain ⟨hcz24_0, hcz24_1, hcz24_2⟩ := bc3 BK850.out; have hfz24 := blk_frozen BK850.out))
     refine bodyPost_ret (results_ct rfl _ _ gb850 57 #[.slice Ao20 t854.length co20, .slice Ao23 t857.length co23, .int .i64 t860] (0, 0) _ rfl (bq BK850.out) Try.underlying57 rfl (by kernel_rfl)) rfl ?_
     exact ⟨_, _, EQ, rb (Kd.R_mono (Kd.R_far (p := ⟨gb850, 2, none⟩) (Kd.R_far (p := ⟨gb850, 1, none⟩) (Kd.R_far (p := ⟨gb850, 0, none⟩) (Kd.R_far (p := ⟨gb862, 2, none⟩) (Kd.R_far (p := ⟨gb862, 1, none⟩) (Kd.R_far (p := ⟨gb862, 0, none⟩) (Kd.R_types (Kd.R_types HO856.out BK862.out (by decide)) BK850.out (by decide)) (fun _ hk => by first | exact hk.1.2 | exact hk.1 | exact hk.2) (.slice Ao20 t854.length co20)) (fun _ hk => by first | exact hk.1.2 | exact hk.1 | exact hk.2) (.slice Ao23 t857.length co23)) (fun _ hk => by first | exact hk.1.2 | exact hk.1 | exact hk.2) (.int .i64 t860)) (fun _ hk => hk.2) (.slice Ao20 t854.length co20)) (fun _ hk => hk.2) (.slice Ao23 t857.length co23)) (fun _ hk => hk.2) (.int .i64 t860)) (fun _ hk => hk.1.1)), rb (Kd.R_mono (Kd.R_far (p := ⟨gb850, 2, none⟩) (Kd.R_far (p := ⟨gb850, 1, none⟩) (Kd.R_far (p := ⟨gb850, 0, none⟩) (Kd.R_far (p := ⟨gb862, 2, none⟩) (Kd.R_far (p := ⟨gb862, 1, none⟩) (Kd.R_far (p := ⟨gb862, 0, none⟩) (Kd.R_types (Kd.R_types HO859.out BK862.out (by decide)) BK850.out (by decide)) (fun _ hk => by first | exact hk.1.2 | exact hk.1 | exact hk.2) (.slice Ao20 t854.length co20)) (fun _ hk => by first | exact hk.1.2 | exact hk.1 | exact hk.2) (.slice Ao23 t857.length co23)) (fun _ hk => by first | exact hk.1.2 | exact hk.1 | exact hk.2) (.int .i64 t860)) (fun _ hk => hk.2) (.slice Ao20 t854.length co20)) (fun _ hk => hk.2) (.slice Ao23 t857.length co23)) (fun _ hk => hk.2) (.int .i64 t860)) (fun _ hk => hk.1.1)), BA⟩
    ·replace c17 := Bool.eq_false_iff.mpr c17
     subst c17
     rw [if_neg (show ¬ (false = true) by decide)] at H
     simp only [Option.some.injEq, Prod.mk.injEq] at H
     obtain ⟨rfl, rfl, rfl, rfl⟩ := H
     go_wp2_with (first | ((with_reducible refine gate_callee (f := 78) rfl ?_); refine gK (some 31) Try.func78 #[.slice A0 l0.length c0, .int .i64 a1, .int .i64 a2] rfl rfl rfl ?_; (with_reducible refine (impl_tileAt.calls kj3 _ _ l0 a1 a2 t854 t857 t860 false _ ?side1 ?side2 A16.out).mono ?_); (case side1 => exact cb (Kd.C_below HR0.out HB.out)); (case side2 => exact HC0.out); rintro e w25 ⟨v855, v858, rfl, ho0, ho1, hb⟩; refine ⟨_, rfl, ?_⟩; have HO856 := Aside0.mk (Kd.R_lower ho0 (below_size BA)); have HO859 := Aside0.mk (Kd.R_lower ho1 (below_size BA)); replace BK850 := kb BK850 hb; replace HB := bs hb; (try clear hb); (try clear ho0); (try clear ho1)) | ((with_reducible refine gd 8 rfl ?_); (try (refine gate_guard (by rfl) ?_; dsimp only)); refine bx 8 #[.slice none 0 0, .slice none 0 0, .int .i64 0] 57 ?_; intro gb862 hg w26 BK862 GW862 HB hb; replace HO856 := Aside0.mk (Kd.R_below (rb HO856.out) hb); replace HO859 := Aside0.mk (Kd.R_below (rb HO859.out) hb); have GE862 := GW862; have NB850_862 := nbl hg (bk BK850.out); have NB862_850 := nbr hg (bk BK850.out); replace BK850 := kb BK850 hb; clear hb hg; obtain ⟨Ao27, co27, eo27⟩ := Kd.R_slice HO856.out; subst eo27; have hnb28 := NB862_850.out; have hnc28 := NB850_862.out; obtain ⟨hcz29_0, hcz29_1, hcz29_2⟩ := bc3 BK862.out; have hfz29 := blk_frozen BK862.out; obtain ⟨Ao30, co30, eo30⟩ := Kd.R_slice HO859.out; subst eo30; obtain ⟨hcz31_0, hcz31_1, hcz31_2⟩ := bc3 BK850.out; have hfz31 := blk_frozen BK850.out))
     refine bodyPost_ret (results_ct rfl _ _ gb850 57 #[.slice none 0 0, .slice none 0 0, .int .i64 0] (0, 0) _ rfl (bq BK850.out) Try.underlying57 rfl (by kernel_rfl)) rfl ?_
     exact ⟨_, _, EQ, by first | exact Kd.R_nil _ _ _ _ _ | exact Kd.N_nil _ _ _ _ _ | exact Kd.V_nil _ _ _ _ _ | exact Kd.Q_nil _ _ _ _ _ | exact Kd.S_nil _ _ _ _ _, by first | exact Kd.R_nil _ _ _ _ _ | exact Kd.N_nil _ _ _ _ _ | exact Kd.V_nil _ _ _ _ _ | exact Kd.Q_nil _ _ _ _ _ | exact Kd.S_nil _ _ _ _ _, BA⟩

end Go.Proofs.Ytlmegefdnkjcbaa.Pa
