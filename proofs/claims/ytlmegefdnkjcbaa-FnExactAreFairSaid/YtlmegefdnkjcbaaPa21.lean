-- Made by this session's program gen.py over the translation.
import Derived.Test.YtlmegefdnkjcbaaPa0
import Derived.Test.YtlmegefdnkjcbaaPa1
import Derived.Test.YtlmegefdnkjcbaaPa4
import Derived.Test.YtlmegefdnkjcbaaPa5
import Derived.Test.YtlmegefdnkjcbaaPa9
import Derived.Test.YtlmegefdnkjcbaaPa10
import Derived.Test.YtlmegefdnkjcbaaPa16
namespace Go.Proofs.Ytlmegefdnkjcbaa.Pa
open Go.RowKit Go.Proofs.YtlmegefdnkjcbaaW.PrintWords Go.Proofs.YtlmegefdnkjcbaaW.PrintLast Go.Proofs.YtlmegefdnkjcbaaW.PrintMore
attribute [local go_sem] max2_int min2_int max_two min_two max_three min_three max_four min_four   -- for this text's walks alone
set_option linter.unusedVariables false
set_option linter.unusedSimpArgs false
set_option maxHeartbeats 8000000
set_option maxRecDepth 100000

/-! ### spec_UnfairAt: function 30 -/
def spec_UnfairAt.f (k : Nat) (l0 : List (S54)) (l1 : List Int) : Option (Int × Int × Bool) := (spec_cvTree.f k l0).bind fun t1095 => (if t1095 = true then ((spec_cvPriced.f k l0 l1).bind fun t1096 => (if t1096 = true then ((spec_cvUnfair.f k l0 l1).bind fun bt1097 => (some (bt1097.1, bt1097.2.1, bt1097.2.2))) else (some (0, 0, false)))) else (some (0, 0, false)))
theorem spec_UnfairAt.calls (k : Nat) (A0 : Option Addr) (c0 : Nat) (l0 : List (S54)) (A1 : Option Addr) (c1 : Nat) (l1 : List Int) (r1 : Int) (r2 : Int) (r3 : Bool) (w : World) (hr0 : Kd.C k54 w A0 l0.length l0) (hc0 : l0.length ≤ c0) (hr1 : Kd.C (Kd.int .i64) w A1 l1.length l1) (hc1 : l1.length ≤ c1) (h : spec_UnfairAt.f k l0 l1 = some (r1, r2, r3)) :
  Calls Try.prog 30 #[.slice A0 l0.length c0, .slice A1 l1.length c1] w fun e w' => e = .returned (.tuple #[.int .i64 r1, .int .i64 r2, .bool r3]) ∧ Below w.heap.size w w' := by
 have HR0 := Aside0.mk hr0
 have HC0 := Aside0.mk hc0
 clear hr0 hc0
 have HR1 := Aside0.mk hr1
 have HC1 := Aside0.mk hc1
 clear hr1 hc1
 have HB := Aside0.mk (Below.refl w.heap.size w)
 have H := h
 clear h
 unfold spec_UnfairAt.f at H
 obtain ⟨t1095, A3, H⟩ := ob H
 (try dsimp only at H)
 by_cases c4 : t1095 = true
 ·subst c4
  rw [if_pos rfl] at H
  obtain ⟨t1096, A5, H⟩ := ob H
  (try dsimp only at H)
  by_cases c6 : t1096 = true
  ·subst c6
   rw [if_pos rfl] at H
   replace H := Option.bind_eq_some_iff.mp H
   obtain ⟨⟨t1097, t1098, t1099⟩, A70, H⟩ := H
   (try dsimp only at H)
   have A7 := Aside0.mk A70
   clear A70
   simp only [Option.some.injEq, Prod.mk.injEq] at H
   obtain ⟨rfl, rfl, rfl⟩ := H
   go_enter Try.func30, Try.ntmps30
   go_wp2_with (first | ((with_reducible refine gate_callee (f := 55) rfl ?_); refine gK (some 8) Try.func55 #[.slice A0 l0.length c0] rfl rfl rfl ?_; (with_reducible refine (spec_cvTree.calls k _ _ l0 true _ ?side1 ?side2 A3.out).mono ?_); (case side1 => exact cb HR0.out); (case side2 => exact HC0.out); rintro e w8 ⟨rfl, hb⟩; refine ⟨_, rfl, ?_⟩; replace HB := bs hb; (try clear hb)) | (go_at_call 61; (with_reducible refine (spec_cvPriced.calls k _ _ l0 _ _ l1 true _ ?side1 ?side2 ?side3 ?side4 A5.out).mono ?_); (case side1 => exact cb (Kd.C_below HR0.out HB.out)); (case side2 => exact HC0.out); (case side3 => exact cb (Kd.C_below HR1.out HB.out)); (case side4 => exact HC1.out); rintro e w' ⟨rfl, ⟨nd, rfl⟩⟩) | ((with_reducible refine gate_callee (f := 62) rfl ?_); refine gK (some 18) Try.func62 #[.slice A0 l0.length c0, .slice A1 l1.length c1] rfl rfl rfl ?_; (with_reducible refine (spec_cvUnfair.calls k _ _ l0 _ _ l1 t1097 t1098 t1099 _ ?side1 ?side2 ?side3 ?side4 A7.out).mono ?_); (case side1 => exact cb (Kd.C_below HR0.out BA)); (case side2 => exact HC0.out); (case side3 => exact cb (Kd.C_below HR1.out BA)); (case side4 => exact HC1.out); rintro e w9 ⟨rfl, hb⟩; refine ⟨_, rfl, ?_⟩; replace HB := bs hb; (try clear hb)))
   go_ret3
   exact ⟨EQ, BA⟩
  ·replace c6 := Bool.eq_false_iff.mpr c6
   subst c6
   rw [if_neg (show ¬ (false = true) by decide)] at H
   simp only [Option.some.injEq, Prod.mk.injEq] at H
   obtain ⟨rfl, rfl, rfl⟩ := H
   go_enter Try.func30, Try.ntmps30
   go_wp2_with (first | ((with_reducible refine gate_callee (f := 55) rfl ?_); refine gK (some 8) Try.func55 #[.slice A0 l0.length c0] rfl rfl rfl ?_; (with_reducible refine (spec_cvTree.calls k _ _ l0 true _ ?side1 ?side2 A3.out).mono ?_); (case side1 => exact cb HR0.out); (case side2 => exact HC0.out); rintro e w10 ⟨rfl, hb⟩; refine ⟨_, rfl, ?_⟩; replace HB := bs hb; (try clear hb)) | (go_at_call 61; (with_reducible refine (spec_cvPriced.calls k _ _ l0 _ _ l1 false _ ?side1 ?side2 ?side3 ?side4 A5.out).mono ?_); (case side1 => exact cb (Kd.C_below HR0.out HB.out)); (case side2 => exact HC0.out); (case side3 => exact cb (Kd.C_below HR1.out HB.out)); (case side4 => exact HC1.out); rintro e w' ⟨rfl, ⟨nd, rfl⟩⟩))
   go_ret3
   exact ⟨EQ, BA⟩
 ·replace c4 := Bool.eq_false_iff.mpr c4
  subst c4
  rw [if_neg (show ¬ (false = true) by decide)] at H
  simp only [Option.some.injEq, Prod.mk.injEq] at H
  obtain ⟨rfl, rfl, rfl⟩ := H
  go_enter Try.func30, Try.ntmps30
  go_wp2_with (first | ((with_reducible refine gate_callee (f := 55) rfl ?_); refine gK (some 8) Try.func55 #[.slice A0 l0.length c0] rfl rfl rfl ?_; (with_reducible refine (spec_cvTree.calls k _ _ l0 false _ ?side1 ?side2 A3.out).mono ?_); (case side1 => exact cb HR0.out); (case side2 => exact HC0.out); rintro e w11 ⟨rfl, hb⟩; refine ⟨_, rfl, ?_⟩; replace HB := bs hb; (try clear hb)))
  go_ret3
  exact ⟨EQ, BA⟩

/-! ### impl_UnfairAt: function 32 -/
def impl_UnfairAt.f (k : Nat) (l0 : List (S54)) (l1 : List Int) : Option (Int × Int × Bool) := (impl_isTree.f k l0).bind fun t1128 => (if t1128 = true then ((impl_arePrices.f k l0 l1).bind fun t1129 => (if t1129 = true then ((impl_unfair.f k l0 l1).bind fun bt1130 => (some (bt1130.1, bt1130.2.1, bt1130.2.2))) else (some (0, 0, false)))) else (some (0, 0, false)))
theorem impl_UnfairAt.calls (k : Nat) (A0 : Option Addr) (c0 : Nat) (l0 : List (S54)) (A1 : Option Addr) (c1 : Nat) (l1 : List Int) (r1 : Int) (r2 : Int) (r3 : Bool) (w : World) (hr0 : Kd.C k54 w A0 l0.length l0) (hc0 : l0.length ≤ c0) (hr1 : Kd.C (Kd.int .i64) w A1 l1.length l1) (hc1 : l1.length ≤ c1) (h : impl_UnfairAt.f k l0 l1 = some (r1, r2, r3)) :
  Calls Try.prog 32 #[.slice A0 l0.length c0, .slice A1 l1.length c1] w fun e w' => e = .returned (.tuple #[.int .i64 r1, .int .i64 r2, .bool r3]) ∧ Below w.heap.size w w' := by
 have HR0 := Aside0.mk hr0
 have HC0 := Aside0.mk hc0
 clear hr0 hc0
 have HR1 := Aside0.mk hr1
 have HC1 := Aside0.mk hc1
 clear hr1 hc1
 have HB := Aside0.mk (Below.refl w.heap.size w)
 have H := h
 clear h
 unfold impl_UnfairAt.f at H
 obtain ⟨t1128, A3, H⟩ := ob H
 (try dsimp only at H)
 by_cases c4 : t1128 = true
 ·subst c4
  rw [if_pos rfl] at H
  obtain ⟨t1129, A5, H⟩ := ob H
  (try dsimp only at H)
  by_cases c6 : t1129 = true
  ·subst c6
   rw [if_pos rfl] at H
   replace H := Option.bind_eq_some_iff.mp H
   obtain ⟨⟨t1130, t1131, t1132⟩, A70, H⟩ := H
   (try dsimp only at H)
   have A7 := Aside0.mk A70
   clear A70
   simp only [Option.some.injEq, Prod.mk.injEq] at H
   obtain ⟨rfl, rfl, rfl⟩ := H
   go_enter Try.func32, Try.ntmps32
   go_wp2_with (first | ((with_reducible refine gate_callee (f := 58) rfl ?_); refine gK (some 8) Try.func58 #[.slice A0 l0.length c0] rfl rfl rfl ?_; (with_reducible refine (impl_isTree.calls k _ _ l0 true _ ?side1 ?side2 A3.out).mono ?_); (case side1 => exact cb HR0.out); (case side2 => exact HC0.out); rintro e w8 ⟨rfl, hb⟩; refine ⟨_, rfl, ?_⟩; replace HB := bs hb; (try clear hb)) | (go_at_call 63; (with_reducible refine (impl_arePrices.calls k _ _ l0 _ _ l1 true _ ?side1 ?side2 ?side3 ?side4 A5.out).mono ?_); (case side1 => exact cb (Kd.C_below HR0.out HB.out)); (case side2 => exact HC0.out); (case side3 => exact cb (Kd.C_below HR1.out HB.out)); (case side4 => exact HC1.out); rintro e w' ⟨rfl, ⟨nd, rfl⟩⟩) | ((with_reducible refine gate_callee (f := 64) rfl ?_); refine gK (some 18) Try.func64 #[.slice A0 l0.length c0, .slice A1 l1.length c1] rfl rfl rfl ?_; (with_reducible refine (impl_unfair.calls k _ _ l0 _ _ l1 t1130 t1131 t1132 _ ?side1 ?side2 ?side3 ?side4 A7.out).mono ?_); (case side1 => exact cb (Kd.C_below HR0.out BA)); (case side2 => exact HC0.out); (case side3 => exact cb (Kd.C_below HR1.out BA)); (case side4 => exact HC1.out); rintro e w9 ⟨rfl, hb⟩; refine ⟨_, rfl, ?_⟩; replace HB := bs hb; (try clear hb)))
   go_ret3
   exact ⟨EQ, BA⟩
  ·replace c6 := Bool.eq_false_iff.mpr c6
   subst c6
   rw [if_neg (show ¬ (false = true) by decide)] at H
   simp only [Option.some.injEq, Prod.mk.injEq] at H
   obtain ⟨rfl, rfl, rfl⟩ := H
   go_enter Try.func32, Try.ntmps32
   go_wp2_with (first | ((with_reducible refine gate_callee (f := 58) rfl ?_); refine gK (some 8) Try.func58 #[.slice A0 l0.length c0] rfl rfl rfl ?_; (with_reducible refine (impl_isTree.calls k _ _ l0 true _ ?side1 ?side2 A3.out).mono ?_); (case side1 => exact cb HR0.out); (case side2 => exact HC0.out); rintro e w10 ⟨rfl, hb⟩; refine ⟨_, rfl, ?_⟩; replace HB := bs hb; (try clear hb)) | (go_at_call 63; (with_reducible refine (impl_arePrices.calls k _ _ l0 _ _ l1 false _ ?side1 ?side2 ?side3 ?side4 A5.out).mono ?_); (case side1 => exact cb (Kd.C_below HR0.out HB.out)); (case side2 => exact HC0.out); (case side3 => exact cb (Kd.C_below HR1.out HB.out)); (case side4 => exact HC1.out); rintro e w' ⟨rfl, ⟨nd, rfl⟩⟩))
   go_ret3
   exact ⟨EQ, BA⟩
 ·replace c4 := Bool.eq_false_iff.mpr c4
  subst c4
  rw [if_neg (show ¬ (false = true) by decide)] at H
  simp only [Option.some.injEq, Prod.mk.injEq] at H
  obtain ⟨rfl, rfl, rfl⟩ := H
  go_enter Try.func32, Try.ntmps32
  go_wp2_with (first | ((with_reducible refine gate_callee (f := 58) rfl ?_); refine gK (some 8) Try.func58 #[.slice A0 l0.length c0] rfl rfl rfl ?_; (with_reducible refine (impl_isTree.calls k _ _ l0 false _ ?side1 ?side2 A3.out).mono ?_); (case side1 => exact cb HR0.out); (case side2 => exact HC0.out); rintro e w11 ⟨rfl, hb⟩; refine ⟨_, rfl, ?_⟩; replace HB := bs hb; (try clear hb)))
  go_ret3
  exact ⟨EQ, BA⟩

/-! ### laws_FnExactUnfairAt: function 7 -/
def laws_FnExactUnfairAt.j0 : Nat → List (S51) → List Int → List (S54) → List Int → Bool → Option (Bool)
 | 0, _, _, _, _, _ => none
 | k + 1, x0, x1, x9, x10, x54 => if x54 = true then (some false) else ((laws_toNodeS.f k x0).bind fun t1152 => ((laws_eqNodeS.f k x9 t1152).bind fun t1155 => (if t1155 = true then ((laws_toIntS.f k x1).bind fun t1156 => ((laws_eqIntS.f k x10 t1156).bind fun t1159 => (if t1159 = true then (some true) else (some false)))) else (some false))))
def laws_FnExactUnfairAt.f (k : Nat) (l0 : List (S51)) (l1 : List Int) : Option (Bool) := if (l1.length : Int) > 1048576 then (some true) else ((laws_szNodeS.f k l0 1048576).bind fun t1133 => (if t1133 < 0 then (some true) else ((laws_toNodeS.f k l0).bind fun t1134 => ((laws_toIntS.f k l1).bind fun t1137 => ((spec_UnfairAt.f k t1134 t1137).bind fun bt1140 => ((laws_toNodeS.f k l0).bind fun t1143 => ((laws_toIntS.f k l1).bind fun t1146 => ((impl_UnfairAt.f k t1143 t1146).bind fun bt1149 => (if bt1149.1 = bt1140.1 then (if bt1149.2.1 = bt1140.2.1 then (laws_FnExactUnfairAt.j0 k l0 l1 t1143 t1146 (bt1149.2.2 != bt1140.2.2)) else (laws_FnExactUnfairAt.j0 k l0 l1 t1143 t1146 true)) else (laws_FnExactUnfairAt.j0 k l0 l1 t1143 t1146 true))))))))))
theorem laws_FnExactUnfairAt.calls (k : Nat) (A0 : Option Addr) (c0 : Nat) (l0 : List (S51)) (A1 : Option Addr) (c1 : Nat) (l1 : List Int) (r : Bool) (w : World) (hr0 : Kd.C k51 w A0 l0.length l0) (hc0 : l0.length ≤ c0) (hr1 : Kd.C (Kd.int .i64) w A1 l1.length l1) (hc1 : l1.length ≤ c1) (h : laws_FnExactUnfairAt.f k l0 l1 = some r) :
  Calls Try.prog 7 #[.slice A0 l0.length c0, .slice A1 l1.length c1] w fun e w' => e = .returned (.bool r) ∧ Below w.heap.size w w' := by
 have HR0 := Aside0.mk hr0
 have HC0 := Aside0.mk hc0
 clear hr0 hc0
 have HR1 := Aside0.mk hr1
 have HC1 := Aside0.mk hc1
 clear hr1 hc1
 have HB := Aside0.mk (Below.refl w.heap.size w)
 have H := h
 clear h
 unfold laws_FnExactUnfairAt.f at H
 by_cases c3 : (l1.length : Int) > 1048576
 ·rw [if_pos c3] at H
  have c3b0 := decide_eq_true c3
  have c3b1 : decide (1048576 < l1.length) = true := decide_eq_true (by omega)
  clear c3
  obtain rfl := Option.some.inj H
  go_enter Try.func7, Try.ntmps7
  go_wp2
  go_ret
  exact ⟨EQ, BA⟩
 ·rw [if_neg c3] at H
  have c3b0 := decide_eq_false c3
  have c3b1 : decide (1048576 < l1.length) = false := decide_eq_false (by omega)
  clear c3
  obtain ⟨t1133, A4, H⟩ := ob H
  (try dsimp only at H)
  by_cases c5 : t1133 < 0
  ·rw [if_pos c5] at H
   have c5b0 := decide_eq_true c5
   clear c5
   obtain rfl := Option.some.inj H
   go_enter Try.func7, Try.ntmps7
   go_wp2_with (first | ((with_reducible refine gate_callee (f := 15) rfl ?_); refine gK (some 19) Try.func15 #[.slice A0 l0.length c0, .int .i64 1048576] rfl rfl rfl ?_; (with_reducible refine (laws_szNodeS.calls k _ _ l0 1048576 t1133 _ ?side1 ?side2 A4.out).mono ?_); (case side1 => exact cb HR0.out); (case side2 => exact HC0.out); rintro e w6 ⟨rfl, hb⟩; refine ⟨_, rfl, ?_⟩; replace HB := bs hb; (try clear hb)))
   go_ret
   exact ⟨EQ, BA⟩
  ·rw [if_neg c5] at H
   have c5b0 := decide_eq_false c5
   clear c5
   obtain ⟨t1134, A7, H⟩ := ob H
   (try dsimp only at H)
   obtain ⟨t1137, A8, H⟩ := ob H
   (try dsimp only at H)
   replace H := Option.bind_eq_some_iff.mp H
   obtain ⟨⟨t1140, t1141, t1142⟩, A90, H⟩ := H
   (try dsimp only at H)
   have A9 := Aside0.mk A90
   clear A90
   obtain ⟨t1143, A10, H⟩ := ob H
   (try dsimp only at H)
   obtain ⟨t1146, A11, H⟩ := ob H
   (try dsimp only at H)
   replace H := Option.bind_eq_some_iff.mp H
   obtain ⟨⟨t1149, t1150, t1151⟩, A120, H⟩ := H
   (try dsimp only at H)
   have A12 := Aside0.mk A120
   clear A120
   have HC13 := Aside0.mk H
   clear H
   go_enter Try.func7, Try.ntmps7
   go_upto_region 11 with (first | ((with_reducible refine gate_callee (f := 15) rfl ?_); refine gK (some 19) Try.func15 #[.slice A0 l0.length c0, .int .i64 1048576] rfl rfl rfl ?_; (with_reducible refine (laws_szNodeS.calls k _ _ l0 1048576 t1133 _ ?side1 ?side2 A4.out).mono ?_); (case side1 => exact cb HR0.out); (case side2 => exact HC0.out); rintro e w14 ⟨rfl, hb⟩; refine ⟨_, rfl, ?_⟩; replace HB := bs hb; (try clear hb)) | ((with_reducible refine gate_callee (f := 17) rfl ?_); refine gK (some 24) Try.func17 #[.slice A0 l0.length c0] rfl rfl rfl ?_; (with_reducible refine (laws_toNodeS.calls k _ _ l0 t1134 _ ?side1 ?side2 A7.out).mono ?_); (case side1 => exact cb (Kd.C_below HR0.out HB.out)); (case side2 => exact HC0.out); rintro e w15 ⟨v1135, rfl, ho0, hb⟩; refine ⟨_, rfl, ?_⟩; have HO1136 := Aside0.mk (Kd.R_lower ho0 (below_size BA)); replace HB := bs hb; (try clear hb); (try clear ho0)) | ((with_reducible refine gate_callee (f := 31) rfl ?_); refine gK (some 26) Try.func31 #[.slice A1 l1.length c1] rfl rfl rfl ?_; (with_reducible refine (laws_toIntS.calls k _ _ l1 t1137 _ ?side1 ?side2 A8.out).mono ?_); (case side1 => exact cb (Kd.C_below HR1.out HB.out)); (case side2 => exact HC1.out); rintro e w16 ⟨v1138, rfl, ho0, hb⟩; refine ⟨_, rfl, ?_⟩; replace HO1136 := Aside0.mk (Kd.R_below (rb HO1136.out) hb); have HO1139 := Aside0.mk (Kd.R_lower ho0 (below_size BA)); replace HB := bs hb; (try clear hb); (try clear ho0); obtain ⟨Ao17, co17, eo17⟩ := Kd.R_slice HO1136.out; subst eo17; obtain ⟨Ao18, co18, eo18⟩ := Kd.R_slice HO1139.out; subst eo18) | ((with_reducible refine gate_callee (f := 30) rfl ?_); refine gK (some 27) Try.func30 #[.slice Ao17 t1134.length co17, .slice Ao18 t1137.length co18] rfl rfl rfl ?_; (with_reducible refine (spec_UnfairAt.calls k _ _ t1134 _ _ t1137 t1140 t1141 t1142 _ ?side1 ?side2 ?side3 ?side4 A9.out).mono ?_); (case side1 => exact cb (Kd.R_reads' HO1136.out).2.2); (case side2 => exact (Kd.R_reads' HO1136.out).2.1); (case side3 => exact cb (Kd.R_reads' HO1139.out).2.2); (case side4 => exact (Kd.R_reads' HO1139.out).2.1); rintro e w19 ⟨rfl, hb⟩; refine ⟨_, rfl, ?_⟩; replace HO1136 := Aside0.mk (Kd.R_below (rb HO1136.out) hb); replace HO1139 := Aside0.mk (Kd.R_below (rb HO1139.out) hb); replace HB := bs hb; (try clear hb)) | ((with_reducible refine gate_callee (f := 17) rfl ?_); refine gK (some 32) Try.func17 #[.slice A0 l0.length c0] rfl rfl rfl ?_; (with_reducible refine (laws_toNodeS.calls k _ _ l0 t1143 _ ?side1 ?side2 A10.out).mono ?_); (case side1 => exact cb (Kd.C_below HR0.out HB.out)); (case side2 => exact HC0.out); rintro e w20 ⟨v1144, rfl, ho0, hb⟩; refine ⟨_, rfl, ?_⟩; replace HO1139 := Aside0.mk (Kd.R_below (rb HO1139.out) hb); have HO1145 := Aside0.mk (Kd.R_lower (Kd.R_new' ho0 (Kd.R_lt (rb HO1136.out))) (below_size BA)); replace HO1136 := Aside0.mk (Kd.R_elder' (rb HO1136.out) (Kd.R_base ho0) hb); replace HB := bs hb; (try clear hb); (try clear ho0)) | ((with_reducible refine gate_callee (f := 31) rfl ?_); refine gK (some 34) Try.func31 #[.slice A1 l1.length c1] rfl rfl rfl ?_; (with_reducible refine (laws_toIntS.calls k _ _ l1 t1146 _ ?side1 ?side2 A11.out).mono ?_); (case side1 => exact cb (Kd.C_below HR1.out HB.out)); (case side2 => exact HC1.out); rintro e w21 ⟨v1147, rfl, ho0, hb⟩; refine ⟨_, rfl, ?_⟩; replace HO1136 := Aside0.mk (Kd.R_below (rb HO1136.out) hb); replace HO1145 := Aside0.mk (Kd.R_below (rb HO1145.out) hb); have HO1148 := Aside0.mk (Kd.R_lower (Kd.R_new' ho0 (Kd.R_lt (rb HO1139.out))) (below_size BA)); replace HO1139 := Aside0.mk (Kd.R_elder' (rb HO1139.out) (Kd.R_base ho0) hb); replace HB := bs hb; (try clear hb); (try clear ho0); obtain ⟨Ao22, co22, eo22⟩ := Kd.R_slice HO1145.out; subst eo22; obtain ⟨Ao23, co23, eo23⟩ := Kd.R_slice HO1148.out; subst eo23) | ((with_reducible refine gate_callee (f := 32) rfl ?_); refine gK (some 38) Try.func32 #[.slice Ao22 t1143.length co22, .slice Ao23 t1146.length co23] rfl rfl rfl ?_; (with_reducible refine (impl_UnfairAt.calls k _ _ t1143 _ _ t1146 t1149 t1150 t1151 _ ?side1 ?side2 ?side3 ?side4 A12.out).mono ?_); (case side1 => exact cb (Kd.R_reads' HO1145.out).2.2); (case side2 => exact (Kd.R_reads' HO1145.out).2.1); (case side3 => exact cb (Kd.R_reads' HO1148.out).2.2); (case side4 => exact (Kd.R_reads' HO1148.out).2.1); rintro e w24 ⟨rfl, hb⟩; refine ⟨_, rfl, ?_⟩; replace HO1136 := Aside0.mk (Kd.R_below (rb HO1136.out) hb); replace HO1139 := Aside0.mk (Kd.R_below (rb HO1139.out) hb); replace HO1145 := Aside0.mk (Kd.R_below (rb HO1145.out) hb); replace HO1148 := Aside0.mk (Kd.R_below (rb HO1148.out) hb); replace HB := bs hb; (try clear hb)))
   (try simp only [Act.put, List.setIfInBounds_toArray, List.set_cons_zero, List.set_cons_succ])
   go_cut [54] (fun v54 wc => ∃ (kq : Nat) (x54_12 : Bool), v54 = .bool x54_12 ∧ Aside0 (laws_FnExactUnfairAt.j0 kq l0 l1 t1143 t1146 x54_12 = some r) ∧ Aside0 (kq ≤ k) ∧ Aside0 (Kd.R k54 54 wc w.heap.size (fun _ => True) (.slice Ao22 t1143.length co22) t1143) ∧ Aside0 (Kd.R (Kd.int .i64) 3 wc w.heap.size (fun _ => True) (.slice Ao23 t1146.length co23) t1146) ∧ Aside0 (Below w.heap.size w wc))
   case first =>
    have H := HC13.out
    clear HC13
    by_cases c25 : t1149 = t1140
    ·rw [if_pos c25] at H
     have c25b0 := beq_iff_eq.mpr c25
     have c25b1 := bne_eq_false_iff_eq.mpr c25
     clear c25
     (first | rw [c25b0] | (simp only [i64_w, i32_w]; rw [c25b0]) | skip)
     by_cases c26 : t1150 = t1141
     ·rw [if_pos c26] at H
      have c26b0 := beq_iff_eq.mpr c26
      have c26b1 := bne_eq_false_iff_eq.mpr c26
      clear c26
      have H' := Aside0.mk H
      clear H
      go_wp2
      go_meet
      case rel => exact ⟨_, ((t1151 != t1142)), EQ1, H', ⟨by first | omega | exact Nat.le_refl _⟩, ⟨rb (Kd.R_mono HO1145.out (fun _ hk => trivial))⟩, ⟨rb (Kd.R_mono HO1148.out (fun _ hk => trivial))⟩, ⟨BA⟩⟩
     ·rw [if_neg c26] at H
      have c26b0 := beq_eq_false_iff_ne.mpr c26
      have c26b1 := bne_iff_ne.mpr c26
      have H' := Aside0.mk H
      clear H
      go_wp2
      go_meet
      case rel => exact ⟨_, (true), EQ1, H', ⟨by first | omega | exact Nat.le_refl _⟩, ⟨rb (Kd.R_mono HO1145.out (fun _ hk => trivial))⟩, ⟨rb (Kd.R_mono HO1148.out (fun _ hk => trivial))⟩, ⟨BA⟩⟩
    ·rw [if_neg c25] at H
     have c25b0 := beq_eq_false_iff_ne.mpr c25
     have c25b1 := bne_iff_ne.mpr c25
     (first | rw [c25b0] | (simp only [i64_w, i32_w]; rw [c25b0]) | skip)
     have H' := Aside0.mk H
     clear H
     go_wp2
     go_meet
     case rel => exact ⟨_, (true), EQ1, H', ⟨by first | omega | exact Nat.le_refl _⟩, ⟨rb (Kd.R_mono HO1145.out (fun _ hk => trivial))⟩, ⟨rb (Kd.R_mono HO1148.out (fun _ hk => trivial))⟩, ⟨BA⟩⟩
   case rest =>
    clear HC13
    (try clear c1); (try clear c3b0); (try clear c3b1); (try clear c5b0); (try clear c25b0); (try clear c25b1); (try clear c26b0); (try clear c26b1)
    obtain ⟨kq, x54_12, rfl, HA, HJ12, HO_9, HO_10, HB⟩ := hcut
    cases kq with
    | zero => exact absurd HA.out (by simp [laws_FnExactUnfairAt.j0])
    | succ kj12 =>
     have H := HA.out
     clear HA
     simp only [laws_FnExactUnfairAt.j0] at H
     by_cases c27 : x54_12 = true
     ·subst c27
      rw [if_pos rfl] at H
      obtain rfl := Option.some.inj H
      go_wp2
      go_ret
      exact ⟨EQ, BA⟩
     ·replace c27 := Bool.eq_false_iff.mpr c27
      subst c27
      rw [if_neg (show ¬ (false = true) by decide)] at H
      obtain ⟨t1152, A28, H⟩ := ob H
      (try dsimp only at H)
      obtain ⟨t1155, A29, H⟩ := ob H
      (try dsimp only at H)
      by_cases c30 : t1155 = true
      ·subst c30
       rw [if_pos rfl] at H
       obtain ⟨t1156, A31, H⟩ := ob H
       (try dsimp only at H)
       obtain ⟨t1159, A32, H⟩ := ob H
       (try dsimp only at H)
       by_cases c33 : t1159 = true
       ·subst c33
        rw [if_pos rfl] at H
        obtain rfl := Option.some.inj H
        go_wp2_with (first | ((with_reducible refine gate_callee (f := 17) rfl ?_); refine gK (some 57) Try.func17 #[.slice A0 l0.length c0] rfl rfl rfl ?_; (with_reducible refine (laws_toNodeS.calls kj12 _ _ l0 t1152 _ ?side1 ?side2 A28.out).mono ?_); (case side1 => exact cb (Kd.C_below HR0.out HB.out)); (case side2 => exact HC0.out); rintro e w34 ⟨v1153, rfl, ho0, hb⟩; refine ⟨_, rfl, ?_⟩; replace HO_10 := Aside0.mk (Kd.R_below (rb HO_10.out) hb); have HO1154 := Aside0.mk (Kd.R_lower (Kd.R_new' ho0 (Kd.R_lt (rb HO_9.out))) (below_size BA)); replace HO_9 := Aside0.mk (Kd.R_elder' (rb HO_9.out) (Kd.R_base ho0) hb); replace HB := bs hb; (try clear hb); (try clear ho0); obtain ⟨Ao35, co35, eo35⟩ := Kd.R_slice HO1154.out; subst eo35) | ((with_reducible refine gate_callee (f := 19) rfl ?_); refine gK (some 58) Try.func19 #[.slice Ao22 t1143.length co22, .slice Ao35 t1152.length co35] rfl rfl rfl ?_; (with_reducible refine (laws_eqNodeS.calls kj12 _ _ t1143 _ _ t1152 true _ ?side1 ?side2 ?side3 ?side4 A29.out).mono ?_); (case side1 => exact cb (Kd.R_reads' HO_9.out).2.2); (case side2 => exact (Kd.R_reads' HO_9.out).2.1); (case side3 => exact cb (Kd.R_reads' HO1154.out).2.2); (case side4 => exact (Kd.R_reads' HO1154.out).2.1); rintro e w36 ⟨rfl, hb⟩; refine ⟨_, rfl, ?_⟩; replace HO_9 := Aside0.mk (Kd.R_below (rb HO_9.out) hb); replace HO_10 := Aside0.mk (Kd.R_below (rb HO_10.out) hb); replace HO1154 := Aside0.mk (Kd.R_below (rb HO1154.out) hb); replace HB := bs hb; (try clear hb)) | ((with_reducible refine gate_callee (f := 31) rfl ?_); refine gK (some 62) Try.func31 #[.slice A1 l1.length c1] rfl rfl rfl ?_; (with_reducible refine (laws_toIntS.calls kj12 _ _ l1 t1156 _ ?side1 ?side2 A31.out).mono ?_); (case side1 => exact cb (Kd.C_below HR1.out HB.out)); (case side2 => exact HC1.out); rintro e w37 ⟨v1157, rfl, ho0, hb⟩; refine ⟨_, rfl, ?_⟩; replace HO_9 := Aside0.mk (Kd.R_below (rb HO_9.out) hb); replace HO1154 := Aside0.mk (Kd.R_below (rb HO1154.out) hb); have HO1158 := Aside0.mk (Kd.R_lower (Kd.R_new' ho0 (Kd.R_lt (rb HO_10.out))) (below_size BA)); replace HO_10 := Aside0.mk (Kd.R_elder' (rb HO_10.out) (Kd.R_base ho0) hb); replace HB := bs hb; (try clear hb); (try clear ho0); obtain ⟨Ao38, co38, eo38⟩ := Kd.R_slice HO1158.out; subst eo38) | ((with_reducible refine gate_callee (f := 22) rfl ?_); refine gK (some 63) Try.func22 #[.slice Ao23 t1146.length co23, .slice Ao38 t1156.length co38] rfl rfl rfl ?_; (with_reducible refine (laws_eqIntS.calls kj12 _ _ t1146 _ _ t1156 true _ ?side1 ?side2 ?side3 ?side4 A32.out).mono ?_); (case side1 => exact cb (Kd.R_reads' HO_10.out).2.2); (case side2 => exact (Kd.R_reads' HO_10.out).2.1); (case side3 => exact cb (Kd.R_reads' HO1158.out).2.2); (case side4 => exact (Kd.R_reads' HO1158.out).2.1); rintro e w' ⟨rfl, ⟨nd, rfl⟩⟩; refine ⟨_, rfl, ?_⟩))
        go_ret
        exact ⟨EQ, BA⟩
       ·replace c33 := Bool.eq_false_iff.mpr c33
        subst c33
        rw [if_neg (show ¬ (false = true) by decide)] at H
        obtain rfl := Option.some.inj H
        go_wp2_with (first | ((with_reducible refine gate_callee (f := 17) rfl ?_); refine gK (some 57) Try.func17 #[.slice A0 l0.length c0] rfl rfl rfl ?_; (with_reducible refine (laws_toNodeS.calls kj12 _ _ l0 t1152 _ ?side1 ?side2 A28.out).mono ?_); (case side1 => exact cb (Kd.C_below HR0.out HB.out)); (case side2 => exact HC0.out); rintro e w39 ⟨v1153, rfl, ho0, hb⟩; refine ⟨_, rfl, ?_⟩; replace HO_10 := Aside0.mk (Kd.R_below (rb HO_10.out) hb); have HO1154 := Aside0.mk (Kd.R_lower (Kd.R_new' ho0 (Kd.R_lt (rb HO_9.out))) (below_size BA)); replace HO_9 := Aside0.mk (Kd.R_elder' (rb HO_9.out) (Kd.R_base ho0) hb); replace HB := bs hb; (try clear hb); (try clear ho0); obtain ⟨Ao40, co40, eo40⟩ := Kd.R_slice HO1154.out; subst eo40) | ((with_reducible refine gate_callee (f := 19) rfl ?_); refine gK (some 58) Try.func19 #[.slice Ao22 t1143.length co22, .slice Ao40 t1152.length co40] rfl rfl rfl ?_; (with_reducible refine (laws_eqNodeS.calls kj12 _ _ t1143 _ _ t1152 true _ ?side1 ?side2 ?side3 ?side4 A29.out).mono ?_); (case side1 => exact cb (Kd.R_reads' HO_9.out).2.2); (case side2 => exact (Kd.R_reads' HO_9.out).2.1); (case side3 => exact cb (Kd.R_reads' HO1154.out).2.2); (case side4 => exact (Kd.R_reads' HO1154.out).2.1); rintro e w41 ⟨rfl, hb⟩; refine ⟨_, rfl, ?_⟩; replace HO_9 := Aside0.mk (Kd.R_below (rb HO_9.out) hb); replace HO_10 := Aside0.mk (Kd.R_below (rb HO_10.out) hb); replace HO1154 := Aside0.mk (Kd.R_below (rb HO1154.out) hb); replace HB := bs hb; (try clear hb)) | ((with_reducible refine gate_callee (f := 31) rfl ?_); refine gK (some 62) Try.func31 #[.slice A1 l1.length c1] rfl rfl rfl ?_; (with_reducible refine (laws_toIntS.calls kj12 _ _ l1 t1156 _ ?side1 ?side2 A31.out).mono ?_); (case side1 => exact cb (Kd.C_below HR1.out HB.out)); (case side2 => exact HC1.out); rintro e w42 ⟨v1157, rfl, ho0, hb⟩; refine ⟨_, rfl, ?_⟩; replace HO_9 := Aside0.mk (Kd.R_below (rb HO_9.out) hb); replace HO1154 := Aside0.mk (Kd.R_below (rb HO1154.out) hb); have HO1158 := Aside0.mk (Kd.R_lower (Kd.R_new' ho0 (Kd.R_lt (rb HO_10.out))) (below_size BA)); replace HO_10 := Aside0.mk (Kd.R_elder' (rb HO_10.out) (Kd.R_base ho0) hb); replace HB := bs hb; (try clear hb); (try clear ho0); obtain ⟨Ao43, co43, eo43⟩ := Kd.R_slice HO1158.out; subst eo43) | ((with_reducible refine gate_callee (f := 22) rfl ?_); refine gK (some 63) Try.func22 #[.slice Ao23 t1146.length co23, .slice Ao43 t1156.length co43] rfl rfl rfl ?_; (with_reducible refine (laws_eqIntS.calls kj12 _ _ t1146 _ _ t1156 false _ ?side1 ?side2 ?side3 ?side4 A32.out).mono ?_); (case side1 => exact cb (Kd.R_reads' HO_10.out).2.2); (case side2 => exact (Kd.R_reads' HO_10.out).2.1); (case side3 => exact cb (Kd.R_reads' HO1158.out).2.2); (case side4 => exact (Kd.R_reads' HO1158.out).2.1); rintro e w' ⟨rfl, ⟨nd, rfl⟩⟩; refine ⟨_, rfl, ?_⟩))
        go_ret
        exact ⟨EQ, BA⟩
      ·replace c30 := Bool.eq_false_iff.mpr c30
       subst c30
       rw [if_neg (show ¬ (false = true) by decide)] at H
       obtain rfl := Option.some.inj H
       go_wp2_with (first | ((with_reducible refine gate_callee (f := 17) rfl ?_); refine gK (some 57) Try.func17 #[.slice A0 l0.length c0] rfl rfl rfl ?_; (with_reducible refine (laws_toNodeS.calls kj12 _ _ l0 t1152 _ ?side1 ?side2 A28.out).mono ?_); (case side1 => exact cb (Kd.C_below HR0.out HB.out)); (case side2 => exact HC0.out); rintro e w44 ⟨v1153, rfl, ho0, hb⟩; refine ⟨_, rfl, ?_⟩; replace HO_10 := Aside0.mk (Kd.R_below (rb HO_10.out) hb); have HO1154 := Aside0.mk (Kd.R_lower (Kd.R_new' ho0 (Kd.R_lt (rb HO_9.out))) (below_size BA)); replace HO_9 := Aside0.mk (Kd.R_elder' (rb HO_9.out) (Kd.R_base ho0) hb); replace HB := bs hb; (try clear hb); (try clear ho0); obtain ⟨Ao45, co45, eo45⟩ := Kd.R_slice HO1154.out; subst eo45) | ((with_reducible refine gate_callee (f := 19) rfl ?_); refine gK (some 58) Try.func19 #[.slice Ao22 t1143.length co22, .slice Ao45 t1152.length co45] rfl rfl rfl ?_; (with_reducible refine (laws_eqNodeS.calls kj12 _ _ t1143 _ _ t1152 false _ ?side1 ?side2 ?side3 ?side4 A29.out).mono ?_); (case side1 => exact cb (Kd.R_reads' HO_9.out).2.2); (case side2 => exact (Kd.R_reads' HO_9.out).2.1); (case side3 => exact cb (Kd.R_reads' HO1154.out).2.2); (case side4 => exact (Kd.R_reads' HO1154.out).2.1); rintro e w46 ⟨rfl, hb⟩; refine ⟨_, rfl, ?_⟩; replace HO_9 := Aside0.mk (Kd.R_below (rb HO_9.out) hb); replace HO_10 := Aside0.mk (Kd.R_below (rb HO_10.out) hb); replace HO1154 := Aside0.mk (Kd.R_below (rb HO1154.out) hb); replace HB := bs hb; (try clear hb)))
       go_ret
       exact ⟨EQ, BA⟩

end Go.Proofs.Ytlmegefdnkjcbaa.Pa
