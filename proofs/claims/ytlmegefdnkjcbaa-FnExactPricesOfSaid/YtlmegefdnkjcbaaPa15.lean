-- Made by this session's program gen.py over the translation.
import Derived.Test.YtlmegefdnkjcbaaPa0
import Derived.Test.YtlmegefdnkjcbaaPa3
import Derived.Test.YtlmegefdnkjcbaaPa12
namespace Go.Proofs.Ytlmegefdnkjcbaa.Pa
open Go.RowKit Go.Proofs.YtlmegefdnkjcbaaW.PrintWords Go.Proofs.YtlmegefdnkjcbaaW.PrintLast Go.Proofs.YtlmegefdnkjcbaaW.PrintMore
attribute [local go_sem] max2_int min2_int max_two min_two max_three min_three max_four min_four   -- for this text's walks alone
set_option linter.unusedVariables false
set_option linter.unusedSimpArgs false
set_option maxHeartbeats 8000000
set_option maxRecDepth 100000

/-! ### spec_cvWith: function 92 -/
def spec_cvWith.l0 : Nat → List Int → Int → List Int → Int → Int → Option (Int)
 | 0, _, _, _, _, _ => none
 | k + 1, x3, x9, x27, x28, x29 => if x29 < x28 then (if 0 ≤ x29 then (if x29 < (x27.length : Int) then (if 0 ≤ (rd x27 x29) then (if (rd x27 x29) < (x3.length : Int) then (spec_cvWith.l0 k x3 (wrap64 (x9 + (rd x3 (rd x27 x29)))) x27 x28 (wrap64 (x29 + 1))) else (none)) else (none)) else (none)) else (none)) else (some x9)
def spec_cvWith.f (k : Nat) (l0 : List (S54)) (a1 : Int) (a2 : Int) (l3 : List Int) : Option (Int) := (spec_cvCost.f l0 a1 a2).bind fun t1079 => ((spec_cvTile.f k l0 a1 a2).bind fun bt1080 => (spec_cvWith.l0 k l3 t1079 bt1080.1 (bt1080.1.length : Int) 0))
theorem spec_cvWith.calls (k : Nat) (A0 : Option Addr) (c0 : Nat) (l0 : List (S54)) (a1 : Int) (a2 : Int) (A3 : Option Addr) (c3 : Nat) (l3 : List Int) (r : Int) (w : World) (hr0 : Kd.C k54 w A0 l0.length l0) (hc0 : l0.length ≤ c0) (hr3 : Kd.C (Kd.int .i64) w A3 l3.length l3) (hc3 : l3.length ≤ c3) (h : spec_cvWith.f k l0 a1 a2 l3 = some r) :
  Calls Try.prog 92 #[.slice A0 l0.length c0, .int .i64 a1, .int .i64 a2, .slice A3 l3.length c3] w fun e w' => e = .returned (.int .i64 r) ∧ Below w.heap.size w w' := by
 have HR0 := Aside0.mk hr0
 have HC0 := Aside0.mk hc0
 clear hr0 hc0
 have HR3 := Aside0.mk hr3
 have HC3 := Aside0.mk hc3
 clear hr3 hc3
 have HB := Aside0.mk (Below.refl w.heap.size w)
 have H := h
 clear h
 unfold spec_cvWith.f at H
 obtain ⟨t1079, A5, H⟩ := ob H
 (try dsimp only at H)
 replace H := Option.bind_eq_some_iff.mp H
 obtain ⟨⟨t1080, t1081, t1082⟩, A60, H⟩ := H
 (try dsimp only at H)
 have A6 := Aside0.mk A60
 clear A60
 have H' := Aside0.mk H
 clear H
 go_enter Try.func92, Try.ntmps92
 go_wp2_with (first | ((with_reducible refine gate_callee (f := 49) rfl ?_); refine gK (some 18) Try.func49 #[.slice A0 l0.length c0, .int .i64 a1, .int .i64 a2] rfl rfl rfl ?_; (with_reducible refine (spec_cvCost.calls _ _ l0 a1 a2 t1079 _ ?side1 ?side2 A5.out).mono ?_); (case side1 => exact cb HR0.out); (case side2 => exact HC0.out); rintro e w' ⟨rfl, ⟨nd, rfl⟩⟩; refine ⟨_, rfl, ?_⟩) | ((with_reducible refine gate_callee (f := 53) rfl ?_); refine gK (some 23) Try.func53 #[.slice A0 l0.length c0, .int .i64 a1, .int .i64 a2] rfl rfl rfl ?_; (with_reducible refine (spec_cvTile.calls k _ _ l0 a1 a2 t1080 t1081 t1082 _ ?side1 ?side2 A6.out).mono ?_); (case side1 => exact cb HR0.out); (case side2 => exact HC0.out); rintro e w7 ⟨v1083, v1085, rfl, ho0, ho1, hb⟩; refine ⟨_, rfl, ?_⟩; have HO1084 := Aside0.mk (Kd.R_lower ho0 (below_size BA)); have HO1086 := Aside0.mk (Kd.R_lower ho1 (below_size BA)); replace HB := bs hb; (try clear hb); (try clear ho0); (try clear ho1); obtain ⟨Ao8, co8, eo8⟩ := Kd.R_slice HO1084.out; subst eo8))
 go_loopg [9, 29] k (fun kq v9 v29 w' => ∃ (x9_1 : Int) (x29_1 : Int), v9 = .int .i64 x9_1 ∧ v29 = .int .i64 x29_1 ∧ Aside0 (spec_cvWith.l0 kq l3 x9_1 t1080 (t1080.length : Int) x29_1 = some r) ∧ Aside0 (kq ≤ k) ∧ Aside0 (Kd.R (Kd.int .i64) 3 w' w.heap.size (fun _ => True) (.slice Ao8 t1080.length co8) t1080) ∧ Aside0 (Below w.heap.size w w'))
 case atStart => exact ⟨(t1079), (0), EQ1, EQ1, H', ⟨Nat.le_refl _⟩, ⟨rb (Kd.R_mono HO1084.out (fun _ hk => trivial))⟩, ⟨BA⟩⟩
 case round =>
  clear H'
  (try clear c3)
  obtain ⟨x9_1, x29_1, rfl, rfl, HA, HK1, HO_27, HB⟩ := hrel
  cases gk with
  | zero => exact absurd HA.out (by simp [spec_cvWith.l0])
  | succ k1 =>
   have H := HA.out
   clear HA
   simp only [spec_cvWith.l0] at H
   by_cases c9 : x29_1 < (t1080.length : Int)
   ·rw [if_pos c9] at H
    have c9b0 := decide_eq_true c9
    clear c9
    obtain ⟨c10, H⟩ := ifs H
    have c10b0 := decide_eq_true c10
    clear c10
    obtain ⟨c11, H⟩ := ifs H
    have c11b0 := decide_eq_true c11
    clear c11
    obtain ⟨c12, H⟩ := ifs H
    have c12b0 := decide_eq_true c12
    clear c12
    obtain ⟨c13, H⟩ := ifs H
    have c13b0 := decide_eq_true c13
    clear c13
    have H' := Aside0.mk H
    clear H
    have p1087 : 0 ≤ (x29_1 : Int) := DT
    have q1087 : x29_1 < (t1080.length : Int) := DT
    obtain ⟨ad1087, e1087, hx1087_0⟩ := Kd.at_int (Kd.R_reads' HO_27.out).2.2 x29_1 p1087 q1087
    cases e1087
    replace p1087 := eq_true p1087
    replace q1087 := eq_true q1087
    have p1088 : 0 ≤ ((rd t1080 x29_1) : Int) := DT
    have q1088 : (rd t1080 x29_1) < (l3.length : Int) := DT
    obtain ⟨ad1088, e1088, hx1088_0⟩ := Kd.at_int HR3.out (rd t1080 x29_1) p1088 q1088
    cases e1088
    replace hx1088_0 := (HB.out.cell (World.block_lt_of_cell? w _ hx1088_0)).trans hx1088_0
    replace p1088 := eq_true p1088
    replace q1088 := eq_true q1088
    go_wp2
    go_roundg k1
    case measure => have := HK1.out; omega
    case rel => exact ⟨(wrap64 (x9_1 + (rd l3 (rd t1080 x29_1)))), (wrap64 (x29_1 + 1)), EQ1, EQ1, H', ⟨by have := HK1.out; omega⟩, ⟨rb HO_27.out⟩, ⟨BA⟩⟩
   ·rw [if_neg c9] at H
    have c9b0 := decide_eq_false c9
    clear c9
    obtain rfl := Option.some.inj H
    go_wp2
    go_ret
    exact ⟨EQ, BA⟩

/-! ### impl_tile_total: function 94 -/
def impl_tile_total.l0 : Nat → List Int → Int → List Int → Int → Int → Option (Int)
 | 0, _, _, _, _, _ => none
 | k + 1, x1, x5, x11, x12, x13 => if x13 < x12 then (if 0 ≤ x13 then (if x13 < (x11.length : Int) then (if 0 ≤ (rd x11 x13) then (if (rd x11 x13) < (x1.length : Int) then (impl_tile_total.l0 k x1 (wrap64 (x5 + (rd x1 (rd x11 x13)))) x11 x12 (wrap64 (x13 + 1))) else (none)) else (none)) else (none)) else (none)) else (some x5)
def impl_tile_total.f (k : Nat) (l0_0 : List Int) (l0_1 : List Int) (a0_2 : Int) (l1 : List Int) : Option (Int) := impl_tile_total.l0 k l1 a0_2 l0_0 (l0_0.length : Int) 0
theorem impl_tile_total.calls (k : Nat) (A0_0 : Option Addr) (c0_0 : Nat) (l0_0 : List Int) (A0_1 : Option Addr) (c0_1 : Nat) (l0_1 : List Int) (a0_2 : Int) (A1 : Option Addr) (c1 : Nat) (l1 : List Int) (r : Int) (w : World) (hr0_0 : Kd.C (Kd.int .i64) w A0_0 l0_0.length l0_0) (hc0_0 : l0_0.length ≤ c0_0) (hr0_1 : Kd.C (Kd.int .i64) w A0_1 l0_1.length l0_1) (hc0_1 : l0_1.length ≤ c0_1) (hr1 : Kd.C (Kd.int .i64) w A1 l1.length l1) (hc1 : l1.length ≤ c1) (h : impl_tile_total.f k l0_0 l0_1 a0_2 l1 = some r) :
  Calls Try.prog 94 #[.agg #[.slice A0_0 l0_0.length c0_0, .slice A0_1 l0_1.length c0_1, .int .i64 a0_2], .slice A1 l1.length c1] w fun e w' => e = .returned (.int .i64 r) ∧ Below w.heap.size w w' := by
 have hu57 := Try.underlying57
 have HR0_0 := Aside0.mk hr0_0
 have HC0_0 := Aside0.mk hc0_0
 clear hr0_0 hc0_0
 have HR0_1 := Aside0.mk hr0_1
 have HC0_1 := Aside0.mk hc0_1
 clear hr0_1 hc0_1
 have HR1 := Aside0.mk hr1
 have HC1 := Aside0.mk hc1
 clear hr1 hc1
 have HB := Aside0.mk (Below.refl w.heap.size w)
 have H := h
 clear h
 unfold impl_tile_total.f at H
 have H' := Aside0.mk H
 clear H
 go_enter Try.func94, Try.ntmps94
 go_wp2_with (first | ((with_reducible refine gd 2 rfl ?_); refine bx 2 #[.slice A0_0 l0_0.length c0_0, .slice A0_1 l0_1.length c0_1, .int .i64 a0_2] 57 ?_; intro gb1110 hg w3 BK1110 GW1110 HB hb; have GE1110 := GW1110; clear hb hg; obtain ⟨hcz4_0, hcz4_1, hcz4_2⟩ := bc3 BK1110.out; have hfz4 := blk_frozen BK1110.out))
 go_loopg [5, 13] k (fun kq v5 v13 w' => ∃ (x5_1 : Int) (x13_1 : Int), v5 = .int .i64 x5_1 ∧ v13 = .int .i64 x13_1 ∧ Aside0 (impl_tile_total.l0 kq l1 x5_1 l0_0 (l0_0.length : Int) x13_1 = some r) ∧ Aside0 (kq ≤ k) ∧ Aside0 (w'.heap[gb1110]? = some (.cells #[(.slice A0_0 l0_0.length c0_0), (.slice A0_1 l0_1.length c0_1), .int .i64 a0_2] 57 (0, 0))) ∧ Aside0 (Below w.heap.size w w'))
 case atStart => exact ⟨(a0_2), (0), EQ1, EQ1, H', ⟨Nat.le_refl _⟩, ⟨by (with_reducible repeat (first | refine blk_drewN ?_ _ | refine blk_drew ?_ | refine blk_alloc ?_ _)); exact BK1110.out⟩, ⟨BA⟩⟩
 case round =>
  clear H'
  (try clear c1); (try clear hcz4_0); (try clear hcz4_1); (try clear hcz4_2)
  obtain ⟨x5_1, x13_1, rfl, rfl, HA, HK1, BK1110, HB⟩ := hrel
  cases gk with
  | zero => exact absurd HA.out (by simp [impl_tile_total.l0])
  | succ k1 =>
   have H := HA.out
   clear HA
   simp only [impl_tile_total.l0] at H
   by_cases c5 : x13_1 < (l0_0.length : Int)
   ·rw [if_pos c5] at H
    have c5b0 := decide_eq_true c5
    clear c5
    obtain ⟨c6, H⟩ := ifs H
    have c6b0 := decide_eq_true c6
    clear c6
    obtain ⟨c7, H⟩ := ifs H
    have c7b0 := decide_eq_true c7
    clear c7
    obtain ⟨c8, H⟩ := ifs H
    have c8b0 := decide_eq_true c8
    clear c8
    obtain ⟨c9, H⟩ := ifs H
    have c9b0 := decide_eq_true c9
    clear c9
    have H' := Aside0.mk H
    clear H
    have p1111 : 0 ≤ (x13_1 : Int) := DT
    have q1111 : x13_1 < (l0_0.length : Int) := DT
    obtain ⟨ad1111, e1111, hx1111_0⟩ := Kd.at_int HR0_0.out x13_1 p1111 q1111
    cases e1111
    replace hx1111_0 := (HB.out.cell (World.block_lt_of_cell? w _ hx1111_0)).trans hx1111_0
    replace p1111 := eq_true p1111
    replace q1111 := eq_true q1111
    have p1112 : 0 ≤ ((rd l0_0 x13_1) : Int) := DT
    have q1112 : (rd l0_0 x13_1) < (l1.length : Int) := DT
    obtain ⟨ad1112, e1112, hx1112_0⟩ := Kd.at_int HR1.out (rd l0_0 x13_1) p1112 q1112
    cases e1112
    replace hx1112_0 := (HB.out.cell (World.block_lt_of_cell? w _ hx1112_0)).trans hx1112_0
    replace p1112 := eq_true p1112
    replace q1112 := eq_true q1112
    go_wp2
    go_roundg k1
    case measure => have := HK1.out; omega
    case rel => exact ⟨(wrap64 (x5_1 + (rd l1 (rd l0_0 x13_1)))), (wrap64 (x13_1 + 1)), EQ1, EQ1, H', ⟨by have := HK1.out; omega⟩, ⟨by (with_reducible repeat (first | refine blk_drewN ?_ _ | refine blk_drew ?_ | refine blk_alloc ?_ _)); exact BK1110.out⟩, ⟨BA⟩⟩
   ·rw [if_neg c5] at H
    have c5b0 := decide_eq_false c5
    clear c5
    obtain rfl := Option.some.inj H
    go_wp2
    go_ret
    exact ⟨EQ, BA⟩

end Go.Proofs.Ytlmegefdnkjcbaa.Pa
