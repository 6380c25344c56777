-- Made by this session's program gen.py over the translation.
import Derived.Test.YtlmegefdnkjcbaaPa0
import Derived.Test.YtlmegefdnkjcbaaPa1
import Derived.Test.YtlmegefdnkjcbaaPa4
import Derived.Test.YtlmegefdnkjcbaaPa5
import Derived.Test.YtlmegefdnkjcbaaPa9
import Derived.Test.YtlmegefdnkjcbaaPa10
import Derived.Test.YtlmegefdnkjcbaaPa16
namespace Go.Proofs.Ytlmegefdnkjcbaa.Pa
open Go.RowKit Go.Proofs.YtlmegefdnkjcbaaW.PrintWords Go.Proofs.YtlmegefdnkjcbaaW.PrintLast Go.Proofs.YtlmegefdnkjcbaaW.PrintMore
attribute [local go_sem] max2_int min2_int max_two min_two max_three min_three max_four min_four   -- for this text's walks alone
set_option linter.unusedVariables false
set_option linter.unusedSimpArgs false
set_option maxHeartbeats 8000000
set_option maxRecDepth 100000

/-! ### spec_AreFair: function 33 -/
def spec_AreFair.f (k : Nat) (l0 : List (S54)) (l1 : List Int) : Option (Bool × Bool) := (spec_cvTree.f k l0).bind fun t1160 => (if t1160 = true then ((spec_cvPriced.f k l0 l1).bind fun t1161 => (if t1161 = true then ((spec_cvUnfair.f k l0 l1).bind fun bt1162 => (some (!bt1162.2.2, true))) else (some (false, true)))) else (some (false, false)))
theorem spec_AreFair.calls (k : Nat) (A0 : Option Addr) (c0 : Nat) (l0 : List (S54)) (A1 : Option Addr) (c1 : Nat) (l1 : List Int) (r1 : Bool) (r2 : Bool) (w : World) (hr0 : Kd.C k54 w A0 l0.length l0) (hc0 : l0.length ≤ c0) (hr1 : Kd.C (Kd.int .i64) w A1 l1.length l1) (hc1 : l1.length ≤ c1) (h : spec_AreFair.f k l0 l1 = some (r1, r2)) :
  Calls Try.prog 33 #[.slice A0 l0.length c0, .slice A1 l1.length c1] w fun e w' => e = .returned (.tuple #[.bool r1, .bool r2]) ∧ Below w.heap.size w w' := by
 have HR0 := Aside0.mk hr0
 have HC0 := Aside0.mk hc0
 clear hr0 hc0
 have HR1 := Aside0.mk hr1
 have HC1 := Aside0.mk hc1
 clear hr1 hc1
 have HB := Aside0.mk (Below.refl w.heap.size w)
 have H := h
 clear h
 unfold spec_AreFair.f at H
 obtain ⟨t1160, A3, H⟩ := ob H
 (try dsimp only at H)
 by_cases c4 : t1160 = true
 ·subst c4
  rw [if_pos rfl] at H
  obtain ⟨t1161, A5, H⟩ := ob H
  (try dsimp only at H)
  by_cases c6 : t1161 = true
  ·subst c6
   rw [if_pos rfl] at H
   replace H := Option.bind_eq_some_iff.mp H
   obtain ⟨⟨t1162, t1163, t1164⟩, A70, H⟩ := H
   (try dsimp only at H)
   have A7 := Aside0.mk A70
   clear A70
   simp only [Option.some.injEq, Prod.mk.injEq] at H
   obtain ⟨rfl, rfl⟩ := H
   go_enter Try.func33, Try.ntmps33
   go_wp2_with (first | ((with_reducible refine gate_callee (f := 55) rfl ?_); refine gK (some 10) Try.func55 #[.slice A0 l0.length c0] rfl rfl rfl ?_; (with_reducible refine (spec_cvTree.calls k _ _ l0 true _ ?side1 ?side2 A3.out).mono ?_); (case side1 => exact cb HR0.out); (case side2 => exact HC0.out); rintro e w8 ⟨rfl, hb⟩; refine ⟨_, rfl, ?_⟩; replace HB := bs hb; (try clear hb)) | ((with_reducible refine gate_callee (f := 61) rfl ?_); refine gK (some 14) Try.func61 #[.slice A0 l0.length c0, .slice A1 l1.length c1] rfl rfl rfl ?_; (with_reducible refine (spec_cvPriced.calls k _ _ l0 _ _ l1 true _ ?side1 ?side2 ?side3 ?side4 A5.out).mono ?_); (case side1 => exact cb (Kd.C_below HR0.out HB.out)); (case side2 => exact HC0.out); (case side3 => exact cb (Kd.C_below HR1.out HB.out)); (case side4 => exact HC1.out); rintro e w' ⟨rfl, ⟨nd, rfl⟩⟩; refine ⟨_, rfl, ?_⟩) | ((with_reducible refine gate_callee (f := 62) rfl ?_); refine gK (some 19) Try.func62 #[.slice A0 l0.length c0, .slice A1 l1.length c1] rfl rfl rfl ?_; (with_reducible refine (spec_cvUnfair.calls k _ _ l0 _ _ l1 t1162 t1163 t1164 _ ?side1 ?side2 ?side3 ?side4 A7.out).mono ?_); (case side1 => exact cb (Kd.C_below HR0.out BA)); (case side2 => exact HC0.out); (case side3 => exact cb (Kd.C_below HR1.out BA)); (case side4 => exact HC1.out); rintro e w9 ⟨rfl, hb⟩; refine ⟨_, rfl, ?_⟩; replace HB := bs hb; (try clear hb)))
   go_ret2
   exact ⟨EQ, BA⟩
  ·replace c6 := Bool.eq_false_iff.mpr c6
   subst c6
   rw [if_neg (show ¬ (false = true) by decide)] at H
   simp only [Option.some.injEq, Prod.mk.injEq] at H
   obtain ⟨rfl, rfl⟩ := H
   go_enter Try.func33, Try.ntmps33
   go_wp2_with (first | ((with_reducible refine gate_callee (f := 55) rfl ?_); refine gK (some 10) Try.func55 #[.slice A0 l0.length c0] rfl rfl rfl ?_; (with_reducible refine (spec_cvTree.calls k _ _ l0 true _ ?side1 ?side2 A3.out).mono ?_); (case side1 => exact cb HR0.out); (case side2 => exact HC0.out); rintro e w10 ⟨rfl, hb⟩; refine ⟨_, rfl, ?_⟩; replace HB := bs hb; (try clear hb)) | ((with_reducible refine gate_callee (f := 61) rfl ?_); refine gK (some 14) Try.func61 #[.slice A0 l0.length c0, .slice A1 l1.length c1] rfl rfl rfl ?_; (with_reducible refine (spec_cvPriced.calls k _ _ l0 _ _ l1 false _ ?side1 ?side2 ?side3 ?side4 A5.out).mono ?_); (case side1 => exact cb (Kd.C_below HR0.out HB.out)); (case side2 => exact HC0.out); (case side3 => exact cb (Kd.C_below HR1.out HB.out)); (case side4 => exact HC1.out); rintro e w' ⟨rfl, ⟨nd, rfl⟩⟩; refine ⟨_, rfl, ?_⟩))
   go_ret2
   exact ⟨EQ, BA⟩
 ·replace c4 := Bool.eq_false_iff.mpr c4
  subst c4
  rw [if_neg (show ¬ (false = true) by decide)] at H
  simp only [Option.some.injEq, Prod.mk.injEq] at H
  obtain ⟨rfl, rfl⟩ := H
  go_enter Try.func33, Try.ntmps33
  go_wp2_with (first | ((with_reducible refine gate_callee (f := 55) rfl ?_); refine gK (some 10) Try.func55 #[.slice A0 l0.length c0] rfl rfl rfl ?_; (with_reducible refine (spec_cvTree.calls k _ _ l0 false _ ?side1 ?side2 A3.out).mono ?_); (case side1 => exact cb HR0.out); (case side2 => exact HC0.out); rintro e w11 ⟨rfl, hb⟩; refine ⟨_, rfl, ?_⟩; replace HB := bs hb; (try clear hb)))
  go_ret2
  exact ⟨EQ, BA⟩

/-! ### impl_AreFair: function 34 -/
def impl_AreFair.f (k : Nat) (l0 : List (S54)) (l1 : List Int) : Option (Bool × Bool) := (impl_isTree.f k l0).bind fun t1165 => (if t1165 = true then ((impl_arePrices.f k l0 l1).bind fun t1166 => (if t1166 = true then ((impl_unfair.f k l0 l1).bind fun bt1167 => (some (!bt1167.2.2, true))) else (some (false, true)))) else (some (false, false)))
theorem impl_AreFair.calls (k : Nat) (A0 : Option Addr) (c0 : Nat) (l0 : List (S54)) (A1 : Option Addr) (c1 : Nat) (l1 : List Int) (r1 : Bool) (r2 : Bool) (w : World) (hr0 : Kd.C k54 w A0 l0.length l0) (hc0 : l0.length ≤ c0) (hr1 : Kd.C (Kd.int .i64) w A1 l1.length l1) (hc1 : l1.length ≤ c1) (h : impl_AreFair.f k l0 l1 = some (r1, r2)) :
  Calls Try.prog 34 #[.slice A0 l0.length c0, .slice A1 l1.length c1] w fun e w' => e = .returned (.tuple #[.bool r1, .bool r2]) ∧ Below w.heap.size w w' := by
 have HR0 := Aside0.mk hr0
 have HC0 := Aside0.mk hc0
 clear hr0 hc0
 have HR1 := Aside0.mk hr1
 have HC1 := Aside0.mk hc1
 clear hr1 hc1
 have HB := Aside0.mk (Below.refl w.heap.size w)
 have H := h
 clear h
 unfold impl_AreFair.f at H
 obtain ⟨t1165, A3, H⟩ := ob H
 (try dsimp only at H)
 by_cases c4 : t1165 = true
 ·subst c4
  rw [if_pos rfl] at H
  obtain ⟨t1166, A5, H⟩ := ob H
  (try dsimp only at H)
  by_cases c6 : t1166 = true
  ·subst c6
   rw [if_pos rfl] at H
   replace H := Option.bind_eq_some_iff.mp H
   obtain ⟨⟨t1167, t1168, t1169⟩, A70, H⟩ := H
   (try dsimp only at H)
   have A7 := Aside0.mk A70
   clear A70
   simp only [Option.some.injEq, Prod.mk.injEq] at H
   obtain ⟨rfl, rfl⟩ := H
   go_enter Try.func34, Try.ntmps34
   go_wp2_with (first | ((with_reducible refine gate_callee (f := 58) rfl ?_); refine gK (some 10) Try.func58 #[.slice A0 l0.length c0] rfl rfl rfl ?_; (with_reducible refine (impl_isTree.calls k _ _ l0 true _ ?side1 ?side2 A3.out).mono ?_); (case side1 => exact cb HR0.out); (case side2 => exact HC0.out); rintro e w8 ⟨rfl, hb⟩; refine ⟨_, rfl, ?_⟩; replace HB := bs hb; (try clear hb)) | ((with_reducible refine gate_callee (f := 63) rfl ?_); refine gK (some 14) Try.func63 #[.slice A0 l0.length c0, .slice A1 l1.length c1] rfl rfl rfl ?_; (with_reducible refine (impl_arePrices.calls k _ _ l0 _ _ l1 true _ ?side1 ?side2 ?side3 ?side4 A5.out).mono ?_); (case side1 => exact cb (Kd.C_below HR0.out HB.out)); (case side2 => exact HC0.out); (case side3 => exact cb (Kd.C_below HR1.out HB.out)); (case side4 => exact HC1.out); rintro e w' ⟨rfl, ⟨nd, rfl⟩⟩; refine ⟨_, rfl, ?_⟩) | ((with_reducible refine gate_callee (f := 64) rfl ?_); refine gK (some 19) Try.func64 #[.slice A0 l0.length c0, .slice A1 l1.length c1] rfl rfl rfl ?_; (with_reducible refine (impl_unfair.calls k _ _ l0 _ _ l1 t1167 t1168 t1169 _ ?side1 ?side2 ?side3 ?side4 A7.out).mono ?_); (case side1 => exact cb (Kd.C_below HR0.out BA)); (case side2 => exact HC0.out); (case side3 => exact cb (Kd.C_below HR1.out BA)); (case side4 => exact HC1.out); rintro e w9 ⟨rfl, hb⟩; refine ⟨_, rfl, ?_⟩; replace HB := bs hb; (try clear hb)))
   go_ret2
   exact ⟨EQ, BA⟩
  ·replace c6 := Bool.eq_false_iff.mpr c6
   subst c6
   rw [if_neg (show ¬ (false = true) by decide)] at H
   simp only [Option.some.injEq, Prod.mk.injEq] at H
   obtain ⟨rfl, rfl⟩ := H
   go_enter Try.func34, Try.ntmps34
   go_wp2_with (first | ((with_reducible refine gate_callee (f := 58) rfl ?_); refine gK (some 10) Try.func58 #[.slice A0 l0.length c0] rfl rfl rfl ?_; (with_reducible refine (impl_isTree.calls k _ _ l0 true _ ?side1 ?side2 A3.out).mono ?_); (case side1 => exact cb HR0.out); (case side2 => exact HC0.out); rintro e w10 ⟨rfl, hb⟩; refine ⟨_, rfl, ?_⟩; replace HB := bs hb; (try clear hb)) | ((with_reducible refine gate_callee (f := 63) rfl ?_); refine gK (some 14) Try.func63 #[.slice A0 l0.length c0, .slice A1 l1.length c1] rfl rfl rfl ?_; (with_reducible refine (impl_arePrices.calls k _ _ l0 _ _ l1 false _ ?side1 ?side2 ?side3 ?side4 A5.out).mono ?_); (case side1 => exact cb (Kd.C_below HR0.out HB.out)); (case side2 => exact HC0.out); (case side3 => exact cb (Kd.C_below HR1.out HB.out)); (case side4 => exact HC1.out); rintro e w' ⟨rfl, ⟨nd, rfl⟩⟩; refine ⟨_, rfl, ?_⟩))
   go_ret2
   exact ⟨EQ, BA⟩
 ·replace c4 := Bool.eq_false_iff.mpr c4
  subst c4
  rw [if_neg (show ¬ (false = true) by decide)] at H
  simp only [Option.some.injEq, Prod.mk.injEq] at H
  obtain ⟨rfl, rfl⟩ := H
  go_enter Try.func34, Try.ntmps34
  go_wp2_with (first | ((with_reducible refine gate_callee (f := 58) rfl ?_); refine gK (some 10) Try.func58 #[.slice A0 l0.length c0] rfl rfl rfl ?_; (with_reducible refine (impl_isTree.calls k _ _ l0 false _ ?side1 ?side2 A3.out).mono ?_); (case side1 => exact cb HR0.out); (case side2 => exact HC0.out); rintro e w11 ⟨rfl, hb⟩; refine ⟨_, rfl, ?_⟩; replace HB := bs hb; (try clear hb)))
  go_ret2
  exact ⟨EQ, BA⟩

/-! ### laws_FnExactAreFair: function 8 -/
def laws_FnExactAreFair.j0 : Nat → List (S51) → List Int → List (S54) → List Int → Bool → Option (Bool)
 | 0, _, _, _, _, _ => none
 | k + 1, x0, x1, x8, x9, x45 => if x45 = true then (some false) else ((laws_toNodeS.f k x0).bind fun t1187 => ((laws_eqNodeS.f k x8 t1187).bind fun t1190 => (if t1190 = true then ((laws_toIntS.f k x1).bind fun t1191 => ((laws_eqIntS.f k x9 t1191).bind fun t1194 => (if t1194 = true then (some true) else (some false)))) else (some false))))
def laws_FnExactAreFair.f (k : Nat) (l0 : List (S51)) (l1 : List Int) : Option (Bool) := if (l1.length : Int) > 1048576 then (some true) else ((laws_szNodeS.f k l0 1048576).bind fun t1170 => (if t1170 < 0 then (some true) else ((laws_toNodeS.f k l0).bind fun t1171 => ((laws_toIntS.f k l1).bind fun t1174 => ((spec_AreFair.f k t1171 t1174).bind fun bt1177 => ((laws_toNodeS.f k l0).bind fun t1179 => ((laws_toIntS.f k l1).bind fun t1182 => ((impl_AreFair.f k t1179 t1182).bind fun bt1185 => (if (bt1185.1 != bt1177.1) = true then (laws_FnExactAreFair.j0 k l0 l1 t1179 t1182 true) else (laws_FnExactAreFair.j0 k l0 l1 t1179 t1182 (bt1185.2 != bt1177.2)))))))))))
theorem laws_FnExactAreFair.calls (k : Nat) (A0 : Option Addr) (c0 : Nat) (l0 : List (S51)) (A1 : Option Addr) (c1 : Nat) (l1 : List Int) (r : Bool) (w : World) (hr0 : Kd.C k51 w A0 l0.length l0) (hc0 : l0.length ≤ c0) (hr1 : Kd.C (Kd.int .i64) w A1 l1.length l1) (hc1 : l1.length ≤ c1) (h : laws_FnExactAreFair.f k l0 l1 = some r) :
  Calls Try.prog 8 #[.slice A0 l0.length c0, .slice A1 l1.length c1] w fun e w' => e = .returned (.bool r) ∧ Below w.heap.size w w' := by
 have HR0 := Aside0.mk hr0
 have HC0 := Aside0.mk hc0
 clear hr0 hc0
 have HR1 := Aside0.mk hr1
 have HC1 := Aside0.mk hc1
 clear hr1 hc1
 have HB := Aside0.mk (Below.refl w.heap.size w)
 have H := h
 clear h
 unfold laws_FnExactAreFair.f at H
 by_cases c3 : (l1.length : Int) > 1048576
 ·rw [if_pos c3] at H
  have c3b0 := decide_eq_true c3
  have c3b1 : decide (1048576 < l1.length) = true := decide_eq_true (by omega)
  clear c3
  obtain rfl := Option.some.inj H
  go_enter Try.func8, Try.ntmps8
  go_wp2
  go_ret
  exact ⟨EQ, BA⟩
 ·rw [if_neg c3] at H
  have c3b0 := decide_eq_false c3
  have c3b1 : decide (1048576 < l1.length) = false := decide_eq_false (by omega)
  clear c3
  obtain ⟨t1170, A4, H⟩ := ob H
  (try dsimp only at H)
  by_cases c5 : t1170 < 0
  ·rw [if_pos c5] at H
   have c5b0 := decide_eq_true c5
   clear c5
   obtain rfl := Option.some.inj H
   go_enter Try.func8, Try.ntmps8
   go_wp2_with (first | ((with_reducible refine gate_callee (f := 15) rfl ?_); refine gK (some 17) Try.func15 #[.slice A0 l0.length c0, .int .i64 1048576] rfl rfl rfl ?_; (with_reducible refine (laws_szNodeS.calls k _ _ l0 1048576 t1170 _ ?side1 ?side2 A4.out).mono ?_); (case side1 => exact cb HR0.out); (case side2 => exact HC0.out); rintro e w6 ⟨rfl, hb⟩; refine ⟨_, rfl, ?_⟩; replace HB := bs hb; (try clear hb)))
   go_ret
   exact ⟨EQ, BA⟩
  ·rw [if_neg c5] at H
   have c5b0 := decide_eq_false c5
   clear c5
   obtain ⟨t1171, A7, H⟩ := ob H
   (try dsimp only at H)
   obtain ⟨t1174, A8, H⟩ := ob H
   (try dsimp only at H)
   replace H := Option.bind_eq_some_iff.mp H
   obtain ⟨⟨t1177, t1178⟩, A90, H⟩ := H
   (try dsimp only at H)
   have A9 := Aside0.mk A90
   clear A90
   obtain ⟨t1179, A10, H⟩ := ob H
   (try dsimp only at H)
   obtain ⟨t1182, A11, H⟩ := ob H
   (try dsimp only at H)
   replace H := Option.bind_eq_some_iff.mp H
   obtain ⟨⟨t1185, t1186⟩, A120, H⟩ := H
   (try dsimp only at H)
   have A12 := Aside0.mk A120
   clear A120
   have HC13 := Aside0.mk H
   clear H
   go_enter Try.func8, Try.ntmps8
   go_upto_region 11 with (first | ((with_reducible refine gate_callee (f := 15) rfl ?_); refine gK (some 17) Try.func15 #[.slice A0 l0.length c0, .int .i64 1048576] rfl rfl rfl ?_; (with_reducible refine (laws_szNodeS.calls k _ _ l0 1048576 t1170 _ ?side1 ?side2 A4.out).mono ?_); (case side1 => exact cb HR0.out); (case side2 => exact HC0.out); rintro e w14 ⟨rfl, hb⟩; refine ⟨_, rfl, ?_⟩; replace HB := bs hb; (try clear hb)) | ((with_reducible refine gate_callee (f := 17) rfl ?_); refine gK (some 22) Try.func17 #[.slice A0 l0.length c0] rfl rfl rfl ?_; (with_reducible refine (laws_toNodeS.calls k _ _ l0 t1171 _ ?side1 ?side2 A7.out).mono ?_); (case side1 => exact cb (Kd.C_below HR0.out HB.out)); (case side2 => exact HC0.out); rintro e w15 ⟨v1172, rfl, ho0, hb⟩; refine ⟨_, rfl, ?_⟩; have HO1173 := Aside0.mk (Kd.R_lower ho0 (below_size BA)); replace HB := bs hb; (try clear hb); (try clear ho0)) | ((with_reducible refine gate_callee (f := 31) rfl ?_); refine gK (some 24) Try.func31 #[.slice A1 l1.length c1] rfl rfl rfl ?_; (with_reducible refine (laws_toIntS.calls k _ _ l1 t1174 _ ?side1 ?side2 A8.out).mono ?_); (case side1 => exact cb (Kd.C_below HR1.out HB.out)); (case side2 => exact HC1.out); rintro e w16 ⟨v1175, rfl, ho0, hb⟩; refine ⟨_, rfl, ?_⟩; replace HO1173 := Aside0.mk (Kd.R_below (rb HO1173.out) hb); have HO1176 := Aside0.mk (Kd.R_lower ho0 (below_size BA)); replace HB := bs hb; (try clear hb); (try clear ho0); obtain ⟨Ao17, co17, eo17⟩ := Kd.R_slice HO1173.out; subst eo17; obtain ⟨Ao18, co18, eo18⟩ := Kd.R_slice HO1176.out; subst eo18) | ((with_reducible refine gate_callee (f := 33) rfl ?_); refine gK (some 25) Try.func33 #[.slice Ao17 t1171.length co17, .slice Ao18 t1174.length co18] rfl rfl rfl ?_; (with_reducible refine (spec_AreFair.calls k _ _ t1171 _ _ t1174 t1177 t1178 _ ?side1 ?side2 ?side3 ?side4 A9.out).mono ?_); (case side1 => exact cb (Kd.R_reads' HO1173.out).2.2); (case side2 => exact (Kd.R_reads' HO1173.out).2.1); (case side3 => exact cb (Kd.R_reads' HO1176.out).2.2); (case side4 => exact (Kd.R_reads' HO1176.out).2.1); rintro e w19 ⟨rfl, hb⟩; refine ⟨_, rfl, ?_⟩; replace HO1173 := Aside0.mk (Kd.R_below (rb HO1173.out) hb); replace HO1176 := Aside0.mk (Kd.R_below (rb HO1176.out) hb); replace HB := bs hb; (try clear hb)) | ((with_reducible refine gate_callee (f := 17) rfl ?_); refine gK (some 29) Try.func17 #[.slice A0 l0.length c0] rfl rfl rfl ?_; (with_reducible refine (laws_toNodeS.calls k _ _ l0 t1179 _ ?side1 ?side2 A10.out).mono ?_); (case side1 => exact cb (Kd.C_below HR0.out HB.out)); (case side2 => exact HC0.out); rintro e w20 ⟨v1180, rfl, ho0, hb⟩; refine ⟨_, rfl, ?_⟩; replace HO1176 := Aside0.mk (Kd.R_below (rb HO1176.out) hb); have HO1181 := Aside0.mk (Kd.R_lower (Kd.R_new' ho0 (Kd.R_lt (rb HO1173.out))) (below_size BA)); replace HO1173 := Aside0.mk (Kd.R_elder' (rb HO1173.out) (Kd.R_base ho0) hb); replace HB := bs hb; (try clear hb); (try clear ho0)) | ((with_reducible refine gate_callee (f := 31) rfl ?_); refine gK (some 31) Try.func31 #[.slice A1 l1.length c1] rfl rfl rfl ?_; (with_reducible refine (laws_toIntS.calls k _ _ l1 t1182 _ ?side1 ?side2 A11.out).mono ?_); (case side1 => exact cb (Kd.C_below HR1.out HB.out)); (case side2 => exact HC1.out); rintro e w21 ⟨v1183, rfl, ho0, hb⟩; refine ⟨_, rfl, ?_⟩; replace HO1173 := Aside0.mk (Kd.R_below (rb HO1173.out) hb); replace HO1181 := Aside0.mk (Kd.R_below (rb HO1181.out) hb); have HO1184 := Aside0.mk (Kd.R_lower (Kd.R_new' ho0 (Kd.R_lt (rb HO1176.out))) (below_size BA)); replace HO1176 := Aside0.mk (Kd.R_elder' (rb HO1176.out) (Kd.R_base ho0) hb); replace HB := bs hb; (try clear hb); (try clear ho0); obtain ⟨Ao22, co22, eo22⟩ := Kd.R_slice HO1181.out; subst eo22; obtain ⟨Ao23, co23, eo23⟩ := Kd.R_slice HO1184.out; subst eo23) | ((with_reducible refine gate_callee (f := 34) rfl ?_); refine gK (some 35) Try.func34 #[.slice Ao22 t1179.length co22, .slice Ao23 t1182.length co23] rfl rfl rfl ?_; (with_reducible refine (impl_AreFair.calls k _ _ t1179 _ _ t1182 t1185 t1186 _ ?side1 ?side2 ?side3 ?side4 A12.out).mono ?_); (case side1 => exact cb (Kd.R_reads' HO1181.out).2.2); (case side2 => exact (Kd.R_reads' HO1181.out).2.1); (case side3 => exact cb (Kd.R_reads' HO1184.out).2.2); (case side4 => exact (Kd.R_reads' HO1184.out).2.1); rintro e w24 ⟨rfl, hb⟩; refine ⟨_, rfl, ?_⟩; replace HO1173 := Aside0.mk (Kd.R_below (rb HO1173.out) hb); replace HO1176 := Aside0.mk (Kd.R_below (rb HO1176.out) hb); replace HO1181 := Aside0.mk (Kd.R_below (rb HO1181.out) hb); replace HO1184 := Aside0.mk (Kd.R_below (rb HO1184.out) hb); replace HB := bs hb; (try clear hb)))
   (try simp only [Act.put, List.setIfInBounds_toArray, List.set_cons_zero, List.set_cons_succ])
   go_cut [45] (fun v45 wc => ∃ (kq : Nat) (x45_12 : Bool), v45 = .bool x45_12 ∧ Aside0 (laws_FnExactAreFair.j0 kq l0 l1 t1179 t1182 x45_12 = some r) ∧ Aside0 (kq ≤ k) ∧ Aside0 (Kd.R k54 54 wc w.heap.size (fun _ => True) (.slice Ao22 t1179.length co22) t1179) ∧ Aside0 (Kd.R (Kd.int .i64) 3 wc w.heap.size (fun _ => True) (.slice Ao23 t1182.length co23) t1182) ∧ Aside0 (Below w.heap.size w wc))
   case first =>
    have H := HC13.out
    clear HC13
    by_cases c25 : (t1185 != t1177) = true
    ·rw [if_pos c25] at H
     have c25b0 : (t1185 != t1177) = true := c25
     (try (have c25b1 : decide (t1185 = t1177) = false := by simpa using c25))
     (try (have c25b2 : (t1185 == t1177) = false := by simpa using c25))
     (try (have c25b3 : ¬ (t1185 = t1177) := by simpa using c25))
     clear c25
     (first | rw [c25b0] | (simp only [i64_w, i32_w]; rw [c25b0]) | skip)
     have H' := Aside0.mk H
     clear H
     go_wp2
     go_meet
     case rel => exact ⟨_, (true), EQ1, H', ⟨by first | omega | exact Nat.le_refl _⟩, ⟨rb (Kd.R_mono HO1181.out (fun _ hk => trivial))⟩, ⟨rb (Kd.R_mono HO1184.out (fun _ hk => trivial))⟩, ⟨BA⟩⟩
    ·rw [if_neg c25] at H
     have c25b0 : (t1185 != t1177) = false := by simpa using c25
     (try (have c25b1 : decide (t1185 = t1177) = true := by simpa using c25))
     (try (have c25b2 : (t1185 == t1177) = true := by simpa using c25))
     clear c25
     (first | rw [c25b0] | (simp only [i64_w, i32_w]; rw [c25b0]) | skip)
     have H' := Aside0.mk H
     clear H
     go_wp2
     go_meet
     case rel => exact ⟨_, ((t1186 != t1178)), EQ1, H', ⟨by first | omega | exact Nat.le_refl _⟩, ⟨rb (Kd.R_mono HO1181.out (fun _ hk => trivial))⟩, ⟨rb (Kd.R_mono HO1184.out (fun _ hk => trivial))⟩, ⟨BA⟩⟩
   case rest =>
    clear HC13
    (try clear c1); (try clear c3b0); (try clear c3b1); (try clear c5b0); (try clear c25b0); (try clear c25b1); (try clear c25b2)
    obtain ⟨kq, x45_12, rfl, HA, HJ12, HO_8, HO_9, HB⟩ := hcut
    cases kq with
    | zero => exact absurd HA.out (by simp [laws_FnExactAreFair.j0])
    | succ kj12 =>
     have H := HA.out
     clear HA
     simp only [laws_FnExactAreFair.j0] at H
     by_cases c26 : x45_12 = true
     ·subst c26
      rw [if_pos rfl] at H
      obtain rfl := Option.some.inj H
      go_wp2
      go_ret
      exact ⟨EQ, BA⟩
     ·replace c26 := Bool.eq_false_iff.mpr c26
      subst c26
      rw [if_neg (show ¬ (false = true) by decide)] at H
      obtain ⟨t1187, A27, H⟩ := ob H
      (try dsimp only at H)
      obtain ⟨t1190, A28, H⟩ := ob H
      (try dsimp only at H)
      by_cases c29 : t1190 = true
      ·subst c29
       rw [if_pos rfl] at H
       obtain ⟨t1191, A30, H⟩ := ob H
       (try dsimp only at H)
       obtain ⟨t1194, A31, H⟩ := ob H
       (try dsimp only at H)
       by_cases c32 : t1194 = true
       ·subst c32
        rw [if_pos rfl] at H
        obtain rfl := Option.some.inj H
        go_wp2_with (first | ((with_reducible refine gate_callee (f := 17) rfl ?_); refine gK (some 48) Try.func17 #[.slice A0 l0.length c0] rfl rfl rfl ?_; (with_reducible refine (laws_toNodeS.calls kj12 _ _ l0 t1187 _ ?side1 ?side2 A27.out).mono ?_); (case side1 => exact cb (Kd.C_below HR0.out HB.out)); (case side2 => exact HC0.out); rintro e w33 ⟨v1188, rfl, ho0, hb⟩; refine ⟨_, rfl, ?_⟩; replace HO_9 := Aside0.mk (Kd.R_below (rb HO_9.out) hb); have HO1189 := Aside0.mk (Kd.R_lower (Kd.R_new' ho0 (Kd.R_lt (rb HO_8.out))) (below_size BA)); replace HO_8 := Aside0.mk (Kd.R_elder' (rb HO_8.out) (Kd.R_base ho0) hb); replace HB := bs hb; (try clear hb); (try clear ho0); obtain ⟨Ao34, co34, eo34⟩ := Kd.R_slice HO1189.out; subst eo34) | ((with_reducible refine gate_callee (f := 19) rfl ?_); refine gK (some 49) Try.func19 #[.slice Ao22 t1179.length co22, .slice Ao34 t1187.length co34] rfl rfl rfl ?_; (with_reducible refine (laws_eqNodeS.calls kj12 _ _ t1179 _ _ t1187 true _ ?side1 ?side2 ?side3 ?side4 A28.out).mono ?_); (case side1 => exact cb (Kd.R_reads' HO_8.out).2.2); (case side2 => exact (Kd.R_reads' HO_8.out).2.1); (case side3 => exact cb (Kd.R_reads' HO1189.out).2.2); (case side4 => exact (Kd.R_reads' HO1189.out).2.1); rintro e w35 ⟨rfl, hb⟩; refine ⟨_, rfl, ?_⟩; replace HO_8 := Aside0.mk (Kd.R_below (rb HO_8.out) hb); replace HO_9 := Aside0.mk (Kd.R_below (rb HO_9.out) hb); replace HO1189 := Aside0.mk (Kd.R_below (rb HO1189.out) hb); replace HB := bs hb; (try clear hb)) | ((with_reducible refine gate_callee (f := 31) rfl ?_); refine gK (some 53) Try.func31 #[.slice A1 l1.length c1] rfl rfl rfl ?_; (with_reducible refine (laws_toIntS.calls kj12 _ _ l1 t1191 _ ?side1 ?side2 A30.out).mono ?_); (case side1 => exact cb (Kd.C_below HR1.out HB.out)); (case side2 => exact HC1.out); rintro e w36 ⟨v1192, rfl, ho0, hb⟩; refine ⟨_, rfl, ?_⟩; replace HO_8 := Aside0.mk (Kd.R_below (rb HO_8.out) hb); replace HO1189 := Aside0.mk (Kd.R_below (rb HO1189.out) hb); have HO1193 := Aside0.mk (Kd.R_lower (Kd.R_new' ho0 (Kd.R_lt (rb HO_9.out))) (below_size BA)); replace HO_9 := Aside0.mk (Kd.R_elder' (rb HO_9.out) (Kd.R_base ho0) hb); replace HB := bs hb; (try clear hb); (try clear ho0); obtain ⟨Ao37, co37, eo37⟩ := Kd.R_slice HO1193.out; subst eo37) | ((with_reducible refine gate_callee (f := 22) rfl ?_); refine gK (some 54) Try.func22 #[.slice Ao23 t1182.length co23, .slice Ao37 t1191.length co37] rfl rfl rfl ?_; (with_reducible refine (laws_eqIntS.calls kj12 _ _ t1182 _ _ t1191 true _ ?side1 ?side2 ?side3 ?side4 A31.out).mono ?_); (case side1 => exact cb (Kd.R_reads' HO_9.out).2.2); (case side2 => exact (Kd.R_reads' HO_9.out).2.1); (case side3 => exact cb (Kd.R_reads' HO1193.out).2.2); (case side4 => exact (Kd.R_reads' HO1193.out).2.1); rintro e w' ⟨rfl, ⟨nd, rfl⟩⟩; refine ⟨_, rfl, ?_⟩))
        go_ret
        exact ⟨EQ, BA⟩
       ·replace c32 := Bool.eq_false_iff.mpr c32
        subst c32
        rw [if_neg (show ¬ (false = true) by decide)] at H
        obtain rfl := Option.some.inj H
        go_wp2_with (first | ((with_reducible refine gate_callee (f := 17) rfl ?_); refine gK (some 48) Try.func17 #[.slice A0 l0.length c0] rfl rfl rfl ?_; (with_reducible refine (laws_toNodeS.calls kj12 _ _ l0 t1187 _ ?side1 ?side2 A27.out).mono ?_); (case side1 => exact cb (Kd.C_below HR0.out HB.out)); (case side2 => exact HC0.out); rintro e w38 ⟨v1188, rfl, ho0, hb⟩; refine ⟨_, rfl, ?_⟩; replace HO_9 := Aside0.mk (Kd.R_below (rb HO_9.out) hb); have HO1189 := Aside0.mk (Kd.R_lower (Kd.R_new' ho0 (Kd.R_lt (rb HO_8.out))) (below_size BA)); replace HO_8 := Aside0.mk (Kd.R_elder' (rb HO_8.out) (Kd.R_base ho0) hb); replace HB := bs hb; (try clear hb); (try clear ho0); obtain ⟨Ao39, co39, eo39⟩ := Kd.R_slice HO1189.out; subst eo39) | ((with_reducible refine gate_callee (f := 19) rfl ?_); refine gK (some 49) Try.func19 #[.slice Ao22 t1179.length co22, .slice Ao39 t1187.length co39] rfl rfl rfl ?_; (with_reducible refine (laws_eqNodeS.calls kj12 _ _ t1179 _ _ t1187 true _ ?side1 ?side2 ?side3 ?side4 A28.out).mono ?_); (case side1 => exact cb (Kd.R_reads' HO_8.out).2.2); (case side2 => exact (Kd.R_reads' HO_8.out).2.1); (case side3 => exact cb (Kd.R_reads' HO1189.out).2.2); (case side4 => exact (Kd.R_reads' HO1189.out).2.1); rintro e w40 ⟨rfl, hb⟩; refine ⟨_, rfl, ?_⟩; replace HO_8 := Aside0.mk (Kd.R_below (rb HO_8.out) hb); replace HO_9 := Aside0.mk (Kd.R_below (rb HO_9.out) hb); replace HO1189 := Aside0.mk (Kd.R_below (rb HO1189.out) hb); replace HB := bs hb; (try clear hb)) | ((with_reducible refine gate_callee (f := 31) rfl ?_); refine gK (some 53) Try.func31 #[.slice A1 l1.length c1] rfl rfl rfl ?_; (with_reducible refine (laws_toIntS.calls kj12 _ _ l1 t1191 _ ?side1 ?side2 A30.out).mono ?_); (case side1 => exact cb (Kd.C_below HR1.out HB.out)); (case side2 => exact HC1.out); rintro e w41 ⟨v1192, rfl, ho0, hb⟩; refine ⟨_, rfl, ?_⟩; replace HO_8 := Aside0.mk (Kd.R_below (rb HO_8.out) hb); replace HO1189 := Aside0.mk (Kd.R_below (rb HO1189.out) hb); have HO1193 := Aside0.mk (Kd.R_lower (Kd.R_new' ho0 (Kd.R_lt (rb HO_9.out))) (below_size BA)); replace HO_9 := Aside0.mk (Kd.R_elder' (rb HO_9.out) (Kd.R_base ho0) hb); replace HB := bs hb; (try clear hb); (try clear ho0); obtain ⟨Ao42, co42, eo42⟩ := Kd.R_slice HO1193.out; subst eo42) | ((with_reducible refine gate_callee (f := 22) rfl ?_); refine gK (some 54) Try.func22 #[.slice Ao23 t1182.length co23, .slice Ao42 t1191.length co42] rfl rfl rfl ?_; (with_reducible refine (laws_eqIntS.calls kj12 _ _ t1182 _ _ t1191 false _ ?side1 ?side2 ?side3 ?side4 A31.out).mono ?_); (case side1 => exact cb (Kd.R_reads' HO_9.out).2.2); (case side2 => exact (Kd.R_reads' HO_9.out).2.1); (case side3 => exact cb (Kd.R_reads' HO1193.out).2.2); (case side4 => exact (Kd.R_reads' HO1193.out).2.1); rintro e w' ⟨rfl, ⟨nd, rfl⟩⟩; refine ⟨_, rfl, ?_⟩))
        go_ret
        exact ⟨EQ, BA⟩
      ·replace c29 := Bool.eq_false_iff.mpr c29
       subst c29
       rw [if_neg (show ¬ (false = true) by decide)] at H
       obtain rfl := Option.some.inj H
       go_wp2_with (first | ((with_reducible refine gate_callee (f := 17) rfl ?_); refine gK (some 48) Try.func17 #[.slice A0 l0.length c0] rfl rfl rfl ?_; (with_reducible refine (laws_toNodeS.calls kj12 _ _ l0 t1187 _ ?side1 ?side2 A27.out).mono ?_); (case side1 => exact cb (Kd.C_below HR0.out HB.out)); (case side2 => exact HC0.out); rintro e w43 ⟨v1188, rfl, ho0, hb⟩; refine ⟨_, rfl, ?_⟩; replace HO_9 := Aside0.mk (Kd.R_below (rb HO_9.out) hb); have HO1189 := Aside0.mk (Kd.R_lower (Kd.R_new' ho0 (Kd.R_lt (rb HO_8.out))) (below_size BA)); replace HO_8 := Aside0.mk (Kd.R_elder' (rb HO_8.out) (Kd.R_base ho0) hb); replace HB := bs hb; (try clear hb); (try clear ho0); obtain ⟨Ao44, co44, eo44⟩ := Kd.R_slice HO1189.out; subst eo44) | ((with_reducible refine gate_callee (f := 19) rfl ?_); refine gK (some 49) Try.func19 #[.slice Ao22 t1179.length co22, .slice Ao44 t1187.length co44] rfl rfl rfl ?_; (with_reducible refine (laws_eqNodeS.calls kj12 _ _ t1179 _ _ t1187 false _ ?side1 ?side2 ?side3 ?side4 A28.out).mono ?_); (case side1 => exact cb (Kd.R_reads' HO_8.out).2.2); (case side2 => exact (Kd.R_reads' HO_8.out).2.1); (case side3 => exact cb (Kd.R_reads' HO1189.out).2.2); (case side4 => exact (Kd.R_reads' HO1189.out).2.1); rintro e w45 ⟨rfl, hb⟩; refine ⟨_, rfl, ?_⟩; replace HO_8 := Aside0.mk (Kd.R_below (rb HO_8.out) hb); replace HO_9 := Aside0.mk (Kd.R_below (rb HO_9.out) hb); replace HO1189 := Aside0.mk (Kd.R_below (rb HO1189.out) hb); replace HB := bs hb; (try clear hb)))
       go_ret
       exact ⟨EQ, BA⟩

end Go.Proofs.Ytlmegefdnkjcbaa.Pa
