-- Made by this session's program gen.py over the translation.
import Derived.Test.YtefipbekabmncaaPa0
import Derived.Test.YtefipbekabmncaaPa6
import Derived.Test.YtefipbekabmncaaPa7
import Derived.Test.YtefipbekabmncaaPa8
namespace Go.Proofs.Ytefipbekabmncaa.Pa
open Go.RowKit Go.Proofs.YtefipbekabmncaaW.PrintWords Go.Proofs.YtefipbekabmncaaW.PrintLast Go.Proofs.YtefipbekabmncaaW.PrintMore
attribute [local go_sem] max2_int min2_int max_two min_two max_three min_three max_four min_four   -- for this text's walks alone
set_option linter.unusedVariables false
set_option linter.unusedSimpArgs false

/-! ### spec_ComputesExpr: function 49 -/
def spec_ComputesExpr.f (k : Nat) (l0 : List (S104)) (l1 : List (S80)) (a2 : Int) : Option (Bool × Bool) := (spec_seAsked.f k l0 l1 a2).bind fun t872 => (if t872 = true then ((spec_seDifference.f k l0 l1 a2).bind fun bt873 => (some (!bt873.2.2, true))) else (some (false, false)))
theorem spec_ComputesExpr.mono : ∀ a0 a1 a2 k, LeO (spec_ComputesExpr.f k a0 a1 a2) (spec_ComputesExpr.f (k + 1) a0 a1 a2) := by
  intro a0 a1 a2 k
  unfold spec_ComputesExpr.f
  repeat' first | (with_reducible first | exact spec_seAsked.mono _ _ _ _ | exact spec_seDifference.mono _ _ _ _ | exact LeO.refl _ | exact LeO.none _ | refine LeO.ite ?_ ?_ | refine LeO.bind ?_ (fun _ => ?_)) | exact LeO.none _ | refine LeO.ite ?_ ?_ | refine LeO.bind ?_ (fun _ => ?_)
set_option maxHeartbeats 8000000 in
set_option maxRecDepth 100000 in
theorem spec_ComputesExpr.calls (k : Nat) (A0 : Option Addr) (c0 : Nat) (l0 : List (S104)) (A1 : Option Addr) (c1 : Nat) (l1 : List (S80)) (a2 : Int) (r1 : Bool) (r2 : Bool) (w : World) (hr0 : Kd.C k104 w A0 l0.length l0) (hc0 : l0.length ≤ c0) (hr1 : Kd.C k80 w A1 l1.length l1) (hc1 : l1.length ≤ c1) (h : spec_ComputesExpr.f k l0 l1 a2 = some (r1, r2)) :
    Calls Try.prog 49 #[.slice A0 l0.length c0, .slice A1 l1.length c1, .int .i64 a2] w fun e w' => e = .returned (.tuple #[.bool r1, .bool r2]) ∧ Below w.heap.size w w' := by
  have HR0 := Aside0.mk hr0
  have HC0 := Aside0.mk hc0
  clear hr0 hc0
  have HR1 := Aside0.mk hr1
  have HC1 := Aside0.mk hc1
  clear hr1 hc1
  have HB := Aside0.mk (Below.refl w.heap.size w)
  have H : ((spec_seAsked.f k l0 l1 a2).bind fun t872 => (if t872 = true then ((spec_seDifference.f k l0 l1 a2).bind fun bt873 => (some (!bt873.2.2, true))) else (some (false, false)))) = some (r1, r2) := h
  clear h
  replace H := Option.bind_eq_some_iff.mp H
  obtain ⟨t872, A40, H⟩ := H
  replace H : (if t872 = true then ((spec_seDifference.f k l0 l1 a2).bind fun bt873 => (some (!bt873.2.2, true))) else (some (false, false))) = some (r1, r2) := H
  have A4 := Aside0.mk A40
  clear A40
  by_cases c5 : t872 = true
  · subst c5
    have H1 : ((spec_seDifference.f k l0 l1 a2).bind fun bt873 => (some (!bt873.2.2, true))) = some (r1, r2) := by rw [if_pos rfl] at H; exact H
    clear H
    have H := H1
    clear H1
    replace H := Option.bind_eq_some_iff.mp H
    obtain ⟨⟨t873, t874, t875⟩, A60, H⟩ := H
    replace H : (some (!t875, true)) = some (r1, r2) := H
    have A6 := Aside0.mk A60
    clear A60
    simp only [Option.some.injEq, Prod.mk.injEq] at H
    obtain ⟨rfl, rfl⟩ := H
    go_enter Try.func49, Try.ntmps49
    go_wp2_with (first | ((with_reducible refine gate_callee (f := 100) rfl ?_); refine gK (some 14) Try.func100 #[.slice A0 l0.length c0, .slice A1 l1.length c1, .int .i64 a2] rfl rfl rfl ?_; (with_reducible refine (spec_seAsked.calls k _ _ l0 _ _ l1 a2 true _ ?side1 ?side2 ?side3 ?side4 A4.out).mono ?_); (case side1 => exact cb HR0.out); (case side2 => exact HC0.out); (case side3 => exact cb HR1.out); (case side4 => exact HC1.out); rintro e w7 ⟨rfl, hb⟩; refine ⟨_, rfl, ?_⟩; replace HB := Aside0.mk (below_step BA hb); (try clear hb)) | ((with_reducible refine gate_callee (f := 101) rfl ?_); refine gK (some 20) Try.func101 #[.slice A0 l0.length c0, .slice A1 l1.length c1, .int .i64 a2] rfl rfl rfl ?_; (with_reducible refine (spec_seDifference.calls k _ _ l0 _ _ l1 a2 t873 t874 t875 _ ?side1 ?side2 ?side3 ?side4 A6.out).mono ?_); (case side1 => exact cb (Kd.C_below HR0.out HB.out)); (case side2 => exact HC0.out); (case side3 => exact cb (Kd.C_below HR1.out HB.out)); (case side4 => exact HC1.out); rintro e w8 ⟨rfl, hb⟩; refine ⟨_, rfl, ?_⟩; replace HB := Aside0.mk (below_step BA hb); (try clear hb)))
    go_ret2
    exact ⟨EQ, BA⟩
  · replace c5 := Bool.eq_false_iff.mpr c5
    subst c5
    have H1 : (some (false, false)) = some (r1, r2) := by rw [if_neg (show ¬ (false = true) by decide)] at H; exact H
    clear H
    have H := H1
    clear H1
    simp only [Option.some.injEq, Prod.mk.injEq] at H
    obtain ⟨rfl, rfl⟩ := H
    go_enter Try.func49, Try.ntmps49
    go_wp2_with (first | ((with_reducible refine gate_callee (f := 100) rfl ?_); refine gK (some 14) Try.func100 #[.slice A0 l0.length c0, .slice A1 l1.length c1, .int .i64 a2] rfl rfl rfl ?_; (with_reducible refine (spec_seAsked.calls k _ _ l0 _ _ l1 a2 false _ ?side1 ?side2 ?side3 ?side4 A4.out).mono ?_); (case side1 => exact cb HR0.out); (case side2 => exact HC0.out); (case side3 => exact cb HR1.out); (case side4 => exact HC1.out); rintro e w9 ⟨rfl, hb⟩; refine ⟨_, rfl, ?_⟩; replace HB := Aside0.mk (below_step BA hb); (try clear hb)))
    go_ret2
    exact ⟨EQ, BA⟩

/-! ### impl_ComputesExpr: function 50 -/
def impl_ComputesExpr.f (k : Nat) (l0 : List (S104)) (l1 : List (S80)) (a2 : Int) : Option (Bool × Bool) := (impl_DifferenceOf.f k l0 l1 a2).bind fun bt876 => ((impl_IsExpr.f k l0).bind fun t879 => (if t879 = true then ((impl_IsCode.f k l1).bind fun t880 => (if t880 = true then ((impl_isRegister.f a2).bind fun t881 => (if t881 = true then (some (!bt876.2.2, t881)) else (some (false, t881)))) else (some (false, false)))) else (some (false, false))))
theorem impl_ComputesExpr.mono : ∀ a0 a1 a2 k, LeO (impl_ComputesExpr.f k a0 a1 a2) (impl_ComputesExpr.f (k + 1) a0 a1 a2) := by
  intro a0 a1 a2 k
  unfold impl_ComputesExpr.f
  repeat' first | (with_reducible first | exact impl_DifferenceOf.mono _ _ _ _ | exact impl_IsCode.mono _ _ | exact impl_IsExpr.mono _ _ | exact LeO.refl _ | exact LeO.none _ | refine LeO.ite ?_ ?_ | refine LeO.bind ?_ (fun _ => ?_)) | exact LeO.none _ | refine LeO.ite ?_ ?_ | refine LeO.bind ?_ (fun _ => ?_)
set_option maxHeartbeats 8000000 in
set_option maxRecDepth 100000 in
theorem impl_ComputesExpr.calls (k : Nat) (A0 : Option Addr) (c0 : Nat) (l0 : List (S104)) (A1 : Option Addr) (c1 : Nat) (l1 : List (S80)) (a2 : Int) (r1 : Bool) (r2 : Bool) (w : World) (hr0 : Kd.C k104 w A0 l0.length l0) (hc0 : l0.length ≤ c0) (hr1 : Kd.C k80 w A1 l1.length l1) (hc1 : l1.length ≤ c1) (h : impl_ComputesExpr.f k l0 l1 a2 = some (r1, r2)) :
    Calls Try.prog 50 #[.slice A0 l0.length c0, .slice A1 l1.length c1, .int .i64 a2] w fun e w' => e = .returned (.tuple #[.bool r1, .bool r2]) ∧ Below w.heap.size w w' := by
  have HR0 := Aside0.mk hr0
  have HC0 := Aside0.mk hc0
  clear hr0 hc0
  have HR1 := Aside0.mk hr1
  have HC1 := Aside0.mk hc1
  clear hr1 hc1
  have HB := Aside0.mk (Below.refl w.heap.size w)
  have H : ((impl_DifferenceOf.f k l0 l1 a2).bind fun bt876 => ((impl_IsExpr.f k l0).bind fun t879 => (if t879 = true then ((impl_IsCode.f k l1).bind fun t880 => (if t880 = true then ((impl_isRegister.f a2).bind fun t881 => (if t881 = true then (some (!bt876.2.2, t881)) else (some (false, t881)))) else (some (false, false)))) else (some (false, false))))) = some (r1, r2) := h
  clear h
  replace H := Option.bind_eq_some_iff.mp H
  obtain ⟨⟨t876, t877, t878⟩, A40, H⟩ := H
  replace H : ((impl_IsExpr.f k l0).bind fun t879 => (if t879 = true then ((impl_IsCode.f k l1).bind fun t880 => (if t880 = true then ((impl_isRegister.f a2).bind fun t881 => (if t881 = true then (some (!t878, t881)) else (some (false, t881)))) else (some (false, false)))) else (some (false, false)))) = some (r1, r2) := H
  have A4 := Aside0.mk A40
  clear A40
  replace H := Option.bind_eq_some_iff.mp H
  obtain ⟨t879, A50, H⟩ := H
  replace H : (if t879 = true then ((impl_IsCode.f k l1).bind fun t880 => (if t880 = true then ((impl_isRegister.f a2).bind fun t881 => (if t881 = true then (some (!t878, t881)) else (some (false, t881)))) else (some (false, false)))) else (some (false, false))) = some (r1, r2) := H
  have A5 := Aside0.mk A50
  clear A50
  by_cases c6 : t879 = true
  · subst c6
    have H1 : ((impl_IsCode.f k l1).bind fun t880 => (if t880 = true then ((impl_isRegister.f a2).bind fun t881 => (if t881 = true then (some (!t878, t881)) else (some (false, t881)))) else (some (false, false)))) = some (r1, r2) := by rw [if_pos rfl] at H; exact H
    clear H
    have H := H1
    clear H1
    replace H := Option.bind_eq_some_iff.mp H
    obtain ⟨t880, A70, H⟩ := H
    replace H : (if t880 = true then ((impl_isRegister.f a2).bind fun t881 => (if t881 = true then (some (!t878, t881)) else (some (false, t881)))) else (some (false, false))) = some (r1, r2) := H
    have A7 := Aside0.mk A70
    clear A70
    by_cases c8 : t880 = true
    · subst c8
      have H1 : ((impl_isRegister.f a2).bind fun t881 => (if t881 = true then (some (!t878, t881)) else (some (false, t881)))) = some (r1, r2) := by rw [if_pos rfl] at H; exact H
      clear H
      have H := H1
      clear H1
      replace H := Option.bind_eq_some_iff.mp H
      obtain ⟨t881, A90, H⟩ := H
      replace H : (if t881 = true then (some (!t878, t881)) else (some (false, t881))) = some (r1, r2) := H
      have A9 := Aside0.mk A90
      clear A90
      by_cases c10 : t881 = true
      · subst c10
        have H1 : (some (!t878, true)) = some (r1, r2) := by rw [if_pos rfl] at H; exact H
        clear H
        have H := H1
        clear H1
        simp only [Option.some.injEq, Prod.mk.injEq] at H
        obtain ⟨rfl, rfl⟩ := H
        go_enter Try.func50, Try.ntmps50
        go_wp2_with (first | ((with_reducible refine gate_callee (f := 48) rfl ?_); refine gK (some 16) Try.func48 #[.slice A0 l0.length c0, .slice A1 l1.length c1, .int .i64 a2] rfl rfl rfl ?_; (with_reducible refine (impl_DifferenceOf.calls k _ _ l0 _ _ l1 a2 t876 t877 t878 _ ?side1 ?side2 ?side3 ?side4 A4.out).mono ?_); (case side1 => exact cb HR0.out); (case side2 => exact HC0.out); (case side3 => exact cb HR1.out); (case side4 => exact HC1.out); rintro e w11 ⟨rfl, hb⟩; refine ⟨_, rfl, ?_⟩; replace HB := Aside0.mk (below_step BA hb); (try clear hb)) | ((with_reducible refine gate_callee (f := 83) rfl ?_); refine gK (some 21) Try.func83 #[.slice A0 l0.length c0] rfl rfl rfl ?_; (with_reducible refine (impl_IsExpr.calls k _ _ l0 true _ ?side1 ?side2 A5.out).mono ?_); (case side1 => exact cb (Kd.C_below HR0.out HB.out)); (case side2 => exact HC0.out); rintro e w12 ⟨rfl, hb⟩; refine ⟨_, rfl, ?_⟩; replace HB := Aside0.mk (below_step BA hb); (try clear hb)) | (go_at_call 63; (with_reducible refine (impl_IsCode.calls k _ _ l1 true _ ?side1 ?side2 A7.out).mono ?_); (case side1 => exact cb (Kd.C_below HR1.out HB.out)); (case side2 => exact HC1.out); rintro e w13 ⟨rfl, hb⟩; replace HB := Aside0.mk (below_step BA hb); (try clear hb)) | (go_at_call 102; (with_reducible refine (impl_isRegister.calls a2 true _ A9.out).mono ?_); rintro e w' ⟨rfl, ⟨nd, rfl⟩⟩))
        go_ret2
        exact ⟨EQ, BA⟩
      · replace c10 := Bool.eq_false_iff.mpr c10
        subst c10
        have H1 : (some (false, false)) = some (r1, r2) := by rw [if_neg (show ¬ (false = true) by decide)] at H; exact H
        clear H
        have H := H1
        clear H1
        simp only [Option.some.injEq, Prod.mk.injEq] at H
        obtain ⟨rfl, rfl⟩ := H
        go_enter Try.func50, Try.ntmps50
        go_wp2_with (first | ((with_reducible refine gate_callee (f := 48) rfl ?_); refine gK (some 16) Try.func48 #[.slice A0 l0.length c0, .slice A1 l1.length c1, .int .i64 a2] rfl rfl rfl ?_; (with_reducible refine (impl_DifferenceOf.calls k _ _ l0 _ _ l1 a2 t876 t877 t878 _ ?side1 ?side2 ?side3 ?side4 A4.out).mono ?_); (case side1 => exact cb HR0.out); (case side2 => exact HC0.out); (case side3 => exact cb HR1.out); (case side4 => exact HC1.out); rintro e w14 ⟨rfl, hb⟩; refine ⟨_, rfl, ?_⟩; replace HB := Aside0.mk (below_step BA hb); (try clear hb)) | ((with_reducible refine gate_callee (f := 83) rfl ?_); refine gK (some 21) Try.func83 #[.slice A0 l0.length c0] rfl rfl rfl ?_; (with_reducible refine (impl_IsExpr.calls k _ _ l0 true _ ?side1 ?side2 A5.out).mono ?_); (case side1 => exact cb (Kd.C_below HR0.out HB.out)); (case side2 => exact HC0.out); rintro e w15 ⟨rfl, hb⟩; refine ⟨_, rfl, ?_⟩; replace HB := Aside0.mk (below_step BA hb); (try clear hb)) | (go_at_call 63; (with_reducible refine (impl_IsCode.calls k _ _ l1 true _ ?side1 ?side2 A7.out).mono ?_); (case side1 => exact cb (Kd.C_below HR1.out HB.out)); (case side2 => exact HC1.out); rintro e w16 ⟨rfl, hb⟩; replace HB := Aside0.mk (below_step BA hb); (try clear hb)) | (go_at_call 102; (with_reducible refine (impl_isRegister.calls a2 false _ A9.out).mono ?_); rintro e w' ⟨rfl, ⟨nd, rfl⟩⟩))
        go_ret2
        exact ⟨EQ, BA⟩
    · replace c8 := Bool.eq_false_iff.mpr c8
      subst c8
      have H1 : (some (false, false)) = some (r1, r2) := by rw [if_neg (show ¬ (false = true) by decide)] at H; exact H
      clear H
      have H := H1
      clear H1
      simp only [Option.some.injEq, Prod.mk.injEq] at H
      obtain ⟨rfl, rfl⟩ := H
      go_enter Try.func50, Try.ntmps50
      go_wp2_with (first | ((with_reducible refine gate_callee (f := 48) rfl ?_); refine gK (some 16) Try.func48 #[.slice A0 l0.length c0, .slice A1 l1.length c1, .int .i64 a2] rfl rfl rfl ?_; (with_reducible refine (impl_DifferenceOf.calls k _ _ l0 _ _ l1 a2 t876 t877 t878 _ ?side1 ?side2 ?side3 ?side4 A4.out).mono ?_); (case side1 => exact cb HR0.out); (case side2 => exact HC0.out); (case side3 => exact cb HR1.out); (case side4 => exact HC1.out); rintro e w17 ⟨rfl, hb⟩; refine ⟨_, rfl, ?_⟩; replace HB := Aside0.mk (below_step BA hb); (try clear hb)) | ((with_reducible refine gate_callee (f := 83) rfl ?_); refine gK (some 21) Try.func83 #[.slice A0 l0.length c0] rfl rfl rfl ?_; (with_reducible refine (impl_IsExpr.calls k _ _ l0 true _ ?side1 ?side2 A5.out).mono ?_); (case side1 => exact cb (Kd.C_below HR0.out HB.out)); (case side2 => exact HC0.out); rintro e w18 ⟨rfl, hb⟩; refine ⟨_, rfl, ?_⟩; replace HB := Aside0.mk (below_step BA hb); (try clear hb)) | (go_at_call 63; (with_reducible refine (impl_IsCode.calls k _ _ l1 false _ ?side1 ?side2 A7.out).mono ?_); (case side1 => exact cb (Kd.C_below HR1.out HB.out)); (case side2 => exact HC1.out); rintro e w19 ⟨rfl, hb⟩; replace HB := Aside0.mk (below_step BA hb); (try clear hb)))
      go_ret2
      exact ⟨EQ, BA⟩
  · replace c6 := Bool.eq_false_iff.mpr c6
    subst c6
    have H1 : (some (false, false)) = some (r1, r2) := by rw [if_neg (show ¬ (false = true) by decide)] at H; exact H
    clear H
    have H := H1
    clear H1
    simp only [Option.some.injEq, Prod.mk.injEq] at H
    obtain ⟨rfl, rfl⟩ := H
    go_enter Try.func50, Try.ntmps50
    go_wp2_with (first | ((with_reducible refine gate_callee (f := 48) rfl ?_); refine gK (some 16) Try.func48 #[.slice A0 l0.length c0, .slice A1 l1.length c1, .int .i64 a2] rfl rfl rfl ?_; (with_reducible refine (impl_DifferenceOf.calls k _ _ l0 _ _ l1 a2 t876 t877 t878 _ ?side1 ?side2 ?side3 ?side4 A4.out).mono ?_); (case side1 => exact cb HR0.out); (case side2 => exact HC0.out); (case side3 => exact cb HR1.out); (case side4 => exact HC1.out); rintro e w20 ⟨rfl, hb⟩; refine ⟨_, rfl, ?_⟩; replace HB := Aside0.mk (below_step BA hb); (try clear hb)) | ((with_reducible refine gate_callee (f := 83) rfl ?_); refine gK (some 21) Try.func83 #[.slice A0 l0.length c0] rfl rfl rfl ?_; (with_reducible refine (impl_IsExpr.calls k _ _ l0 false _ ?side1 ?side2 A5.out).mono ?_); (case side1 => exact cb (Kd.C_below HR0.out HB.out)); (case side2 => exact HC0.out); rintro e w21 ⟨rfl, hb⟩; refine ⟨_, rfl, ?_⟩; replace HB := Aside0.mk (below_step BA hb); (try clear hb)))
    go_ret2
    exact ⟨EQ, BA⟩

/-! ### laws_FnExactComputesExpr: function 12 -/
def laws_FnExactComputesExpr.j0 : Nat → List (S101) → List (S78) → List (S104) → List (S80) → Bool → Option (Bool)
  | 0, _, _, _, _, _ => none
  | k + 1, x0, x1, x10, x11, x51 => if x51 = true then (some false) else ((laws_toNodeS.f k x0).bind fun t900 => ((laws_eqNodeS.f k x10 t900).bind fun t903 => (if t903 = true then ((laws_toInstrS.f k x1).bind fun t904 => ((laws_eqInstrS.f k x11 t904).bind fun t907 => (if t907 = true then (some true) else (some false)))) else (some false))))
def laws_FnExactComputesExpr.f (k : Nat) (l0 : List (S101)) (l1 : List (S78)) (a2 : Int) : Option (Bool) := (laws_szNodeS.f k l0 1048576).bind fun t882 => (if t882 < 0 then (some true) else ((laws_szInstrS.f k l1 t882).bind fun t883 => (if t883 < 0 then (some true) else ((laws_toNodeS.f k l0).bind fun t884 => ((laws_toInstrS.f k l1).bind fun t887 => ((spec_ComputesExpr.f k t884 t887 a2).bind fun bt890 => ((laws_toNodeS.f k l0).bind fun t892 => ((laws_toInstrS.f k l1).bind fun t895 => ((impl_ComputesExpr.f k t892 t895 a2).bind fun bt898 => (if (bt898.1 != bt890.1) = true then (laws_FnExactComputesExpr.j0 k l0 l1 t892 t895 true) else (laws_FnExactComputesExpr.j0 k l0 l1 t892 t895 (bt898.2 != bt890.2))))))))))))
theorem laws_FnExactComputesExpr.mono_l : ∀ k, (∀ y0 y1 y2 y3 y4, LeO (laws_FnExactComputesExpr.j0 k y0 y1 y2 y3 y4) (laws_FnExactComputesExpr.j0 (k + 1) y0 y1 y2 y3 y4))
  | 0 => fun _ _ _ _ _ r h => by simp [laws_FnExactComputesExpr.j0] at h
  | k + 1 => by
    have ih0 := laws_FnExactComputesExpr.mono_l k
    · intro y0 y1 y2 y3 y4
      unfold laws_FnExactComputesExpr.j0
      repeat' first | (with_reducible first | exact ih0 _ _ _ _ _ | exact impl_ComputesExpr.mono _ _ _ _ | exact laws_eqInstrS.mono _ _ _ | exact laws_eqNodeS.mono _ _ _ | exact laws_szInstrS.mono _ _ _ | exact laws_szNodeS.mono _ _ _ | exact laws_toInstrS.mono _ _ | exact laws_toNodeS.mono _ _ | exact spec_ComputesExpr.mono _ _ _ _ | exact LeO.refl _ | exact LeO.none _ | refine LeO.ite ?_ ?_ | refine LeO.bind ?_ (fun _ => ?_)) | exact LeO.none _ | refine LeO.ite ?_ ?_ | refine LeO.bind ?_ (fun _ => ?_)
theorem laws_FnExactComputesExpr.mono : ∀ a0 a1 a2 k, LeO (laws_FnExactComputesExpr.f k a0 a1 a2) (laws_FnExactComputesExpr.f (k + 1) a0 a1 a2) := by
  intro a0 a1 a2 k
  have ih0 := laws_FnExactComputesExpr.mono_l k
  unfold laws_FnExactComputesExpr.f
  repeat' first | (with_reducible first | exact ih0 _ _ _ _ _ | exact impl_ComputesExpr.mono _ _ _ _ | exact laws_eqInstrS.mono _ _ _ | exact laws_eqNodeS.mono _ _ _ | exact laws_szInstrS.mono _ _ _ | exact laws_szNodeS.mono _ _ _ | exact laws_toInstrS.mono _ _ | exact laws_toNodeS.mono _ _ | exact spec_ComputesExpr.mono _ _ _ _ | exact LeO.refl _ | exact LeO.none _ | refine LeO.ite ?_ ?_ | refine LeO.bind ?_ (fun _ => ?_)) | exact LeO.none _ | refine LeO.ite ?_ ?_ | refine LeO.bind ?_ (fun _ => ?_)
set_option maxHeartbeats 8000000 in
set_option maxRecDepth 100000 in
theorem laws_FnExactComputesExpr.calls (k : Nat) (A0 : Option Addr) (c0 : Nat) (l0 : List (S101)) (A1 : Option Addr) (c1 : Nat) (l1 : List (S78)) (a2 : Int) (r : Bool) (w : World) (hr0 : Kd.C k101 w A0 l0.length l0) (hc0 : l0.length ≤ c0) (hr1 : Kd.C k78 w A1 l1.length l1) (hc1 : l1.length ≤ c1) (h : laws_FnExactComputesExpr.f k l0 l1 a2 = some r) :
    Calls Try.prog 12 #[.slice A0 l0.length c0, .slice A1 l1.length c1, .int .i64 a2] w fun e w' => e = .returned (.bool r) ∧ Below w.heap.size w w' := by
  have HR0 := Aside0.mk hr0
  have HC0 := Aside0.mk hc0
  clear hr0 hc0
  have HR1 := Aside0.mk hr1
  have HC1 := Aside0.mk hc1
  clear hr1 hc1
  have HB := Aside0.mk (Below.refl w.heap.size w)
  have H : ((laws_szNodeS.f k l0 1048576).bind fun t882 => (if t882 < 0 then (some true) else ((laws_szInstrS.f k l1 t882).bind fun t883 => (if t883 < 0 then (some true) else ((laws_toNodeS.f k l0).bind fun t884 => ((laws_toInstrS.f k l1).bind fun t887 => ((spec_ComputesExpr.f k t884 t887 a2).bind fun bt890 => ((laws_toNodeS.f k l0).bind fun t892 => ((laws_toInstrS.f k l1).bind fun t895 => ((impl_ComputesExpr.f k t892 t895 a2).bind fun bt898 => (if (bt898.1 != bt890.1) = true then (laws_FnExactComputesExpr.j0 k l0 l1 t892 t895 true) else (laws_FnExactComputesExpr.j0 k l0 l1 t892 t895 (bt898.2 != bt890.2))))))))))))) = some r := h
  clear h
  replace H := Option.bind_eq_some_iff.mp H
  obtain ⟨t882, A40, H⟩ := H
  replace H : (if t882 < 0 then (some true) else ((laws_szInstrS.f k l1 t882).bind fun t883 => (if t883 < 0 then (some true) else ((laws_toNodeS.f k l0).bind fun t884 => ((laws_toInstrS.f k l1).bind fun t887 => ((spec_ComputesExpr.f k t884 t887 a2).bind fun bt890 => ((laws_toNodeS.f k l0).bind fun t892 => ((laws_toInstrS.f k l1).bind fun t895 => ((impl_ComputesExpr.f k t892 t895 a2).bind fun bt898 => (if (bt898.1 != bt890.1) = true then (laws_FnExactComputesExpr.j0 k l0 l1 t892 t895 true) else (laws_FnExactComputesExpr.j0 k l0 l1 t892 t895 (bt898.2 != bt890.2)))))))))))) = some r := H
  have A4 := Aside0.mk A40
  clear A40
  by_cases c5 : t882 < 0
  · rw [if_pos c5] at H
    have c5b0 := decide_eq_true c5
    clear c5
    obtain rfl := Option.some.inj H
    go_enter Try.func12, Try.ntmps12
    go_wp2_with (first | ((with_reducible refine gate_callee (f := 26) rfl ?_); refine gK (some 16) Try.func26 #[.slice A0 l0.length c0, .int .i64 1048576] rfl rfl rfl ?_; (with_reducible refine (laws_szNodeS.calls k _ _ l0 1048576 t882 _ ?side1 ?side2 A4.out).mono ?_); (case side1 => exact cb HR0.out); (case side2 => exact HC0.out); rintro e w6 ⟨rfl, hb⟩; refine ⟨_, rfl, ?_⟩; replace HB := Aside0.mk (below_step BA hb); (try clear hb)))
    go_ret
    exact ⟨EQ, BA⟩
  · rw [if_neg c5] at H
    have c5b0 := decide_eq_false c5
    clear c5
    replace H := Option.bind_eq_some_iff.mp H
    obtain ⟨t883, A70, H⟩ := H
    replace H : (if t883 < 0 then (some true) else ((laws_toNodeS.f k l0).bind fun t884 => ((laws_toInstrS.f k l1).bind fun t887 => ((spec_ComputesExpr.f k t884 t887 a2).bind fun bt890 => ((laws_toNodeS.f k l0).bind fun t892 => ((laws_toInstrS.f k l1).bind fun t895 => ((impl_ComputesExpr.f k t892 t895 a2).bind fun bt898 => (if (bt898.1 != bt890.1) = true then (laws_FnExactComputesExpr.j0 k l0 l1 t892 t895 true) else (laws_FnExactComputesExpr.j0 k l0 l1 t892 t895 (bt898.2 != bt890.2)))))))))) = some r := H
    have A7 := Aside0.mk A70
    clear A70
    by_cases c8 : t883 < 0
    · rw [if_pos c8] at H
      have c8b0 := decide_eq_true c8
      clear c8
      obtain rfl := Option.some.inj H
      go_enter Try.func12, Try.ntmps12
      go_wp2_with (first | ((with_reducible refine gate_callee (f := 26) rfl ?_); refine gK (some 16) Try.func26 #[.slice A0 l0.length c0, .int .i64 1048576] rfl rfl rfl ?_; (with_reducible refine (laws_szNodeS.calls k _ _ l0 1048576 t882 _ ?side1 ?side2 A4.out).mono ?_); (case side1 => exact cb HR0.out); (case side2 => exact HC0.out); rintro e w9 ⟨rfl, hb⟩; refine ⟨_, rfl, ?_⟩; replace HB := Aside0.mk (below_step BA hb); (try clear hb)) | ((with_reducible refine gate_callee (f := 16) rfl ?_); refine gK (some 21) Try.func16 #[.slice A1 l1.length c1, .int .i64 t882] rfl rfl rfl ?_; (with_reducible refine (laws_szInstrS.calls k _ _ l1 t882 t883 _ ?side1 ?side2 A7.out).mono ?_); (case side1 => exact cb (Kd.C_below HR1.out HB.out)); (case side2 => exact HC1.out); rintro e w10 ⟨rfl, hb⟩; refine ⟨_, rfl, ?_⟩; replace HB := Aside0.mk (below_step BA hb); (try clear hb)))
      go_ret
      exact ⟨EQ, BA⟩
    · rw [if_neg c8] at H
      have c8b0 := decide_eq_false c8
      clear c8
      replace H := Option.bind_eq_some_iff.mp H
      obtain ⟨t884, A110, H⟩ := H
      replace H : ((laws_toInstrS.f k l1).bind fun t887 => ((spec_ComputesExpr.f k t884 t887 a2).bind fun bt890 => ((laws_toNodeS.f k l0).bind fun t892 => ((laws_toInstrS.f k l1).bind fun t895 => ((impl_ComputesExpr.f k t892 t895 a2).bind fun bt898 => (if (bt898.1 != bt890.1) = true then (laws_FnExactComputesExpr.j0 k l0 l1 t892 t895 true) else (laws_FnExactComputesExpr.j0 k l0 l1 t892 t895 (bt898.2 != bt890.2)))))))) = some r := H
      have A11 := Aside0.mk A110
      clear A110
      replace H := Option.bind_eq_some_iff.mp H
      obtain ⟨t887, A120, H⟩ := H
      replace H : ((spec_ComputesExpr.f k t884 t887 a2).bind fun bt890 => ((laws_toNodeS.f k l0).bind fun t892 => ((laws_toInstrS.f k l1).bind fun t895 => ((impl_ComputesExpr.f k t892 t895 a2).bind fun bt898 => (if (bt898.1 != bt890.1) = true then (laws_FnExactComputesExpr.j0 k l0 l1 t892 t895 true) else (laws_FnExactComputesExpr.j0 k l0 l1 t892 t895 (bt898.2 != bt890.2))))))) = some r := H
      have A12 := Aside0.mk A120
      clear A120
      replace H := Option.bind_eq_some_iff.mp H
      obtain ⟨⟨t890, t891⟩, A130, H⟩ := H
      replace H : ((laws_toNodeS.f k l0).bind fun t892 => ((laws_toInstrS.f k l1).bind fun t895 => ((impl_ComputesExpr.f k t892 t895 a2).bind fun bt898 => (if (bt898.1 != t890) = true then (laws_FnExactComputesExpr.j0 k l0 l1 t892 t895 true) else (laws_FnExactComputesExpr.j0 k l0 l1 t892 t895 (bt898.2 != t891)))))) = some r := H
      have A13 := Aside0.mk A130
      clear A130
      replace H := Option.bind_eq_some_iff.mp H
      obtain ⟨t892, A140, H⟩ := H
      replace H : ((laws_toInstrS.f k l1).bind fun t895 => ((impl_ComputesExpr.f k t892 t895 a2).bind fun bt898 => (if (bt898.1 != t890) = true then (laws_FnExactComputesExpr.j0 k l0 l1 t892 t895 true) else (laws_FnExactComputesExpr.j0 k l0 l1 t892 t895 (bt898.2 != t891))))) = some r := H
      have A14 := Aside0.mk A140
      clear A140
      replace H := Option.bind_eq_some_iff.mp H
      obtain ⟨t895, A150, H⟩ := H
      replace H : ((impl_ComputesExpr.f k t892 t895 a2).bind fun bt898 => (if (bt898.1 != t890) = true then (laws_FnExactComputesExpr.j0 k l0 l1 t892 t895 true) else (laws_FnExactComputesExpr.j0 k l0 l1 t892 t895 (bt898.2 != t891)))) = some r := H
      have A15 := Aside0.mk A150
      clear A150
      replace H := Option.bind_eq_some_iff.mp H
      obtain ⟨⟨t898, t899⟩, A160, H⟩ := H
      replace H : (if (t898 != t890) = true then (laws_FnExactComputesExpr.j0 k l0 l1 t892 t895 true) else (laws_FnExactComputesExpr.j0 k l0 l1 t892 t895 (t899 != t891))) = some r := H
      have A16 := Aside0.mk A160
      clear A160
      have HC17 := Aside0.mk H
      clear H
      go_enter Try.func12, Try.ntmps12
      go_upto_region 12 with (first | ((with_reducible refine gate_callee (f := 26) rfl ?_); refine gK (some 16) Try.func26 #[.slice A0 l0.length c0, .int .i64 1048576] rfl rfl rfl ?_; (with_reducible refine (laws_szNodeS.calls k _ _ l0 1048576 t882 _ ?side1 ?side2 A4.out).mono ?_); (case side1 => exact cb HR0.out); (case side2 => exact HC0.out); rintro e w18 ⟨rfl, hb⟩; refine ⟨_, rfl, ?_⟩; replace HB := Aside0.mk (below_step BA hb); (try clear hb)) | ((with_reducible refine gate_callee (f := 16) rfl ?_); refine gK (some 21) Try.func16 #[.slice A1 l1.length c1, .int .i64 t882] rfl rfl rfl ?_; (with_reducible refine (laws_szInstrS.calls k _ _ l1 t882 t883 _ ?side1 ?side2 A7.out).mono ?_); (case side1 => exact cb (Kd.C_below HR1.out HB.out)); (case side2 => exact HC1.out); rintro e w19 ⟨rfl, hb⟩; refine ⟨_, rfl, ?_⟩; replace HB := Aside0.mk (below_step BA hb); (try clear hb)) | ((with_reducible refine gate_callee (f := 28) rfl ?_); refine gK (some 26) Try.func28 #[.slice A0 l0.length c0] rfl rfl rfl ?_; (with_reducible refine (laws_toNodeS.calls k _ _ l0 t884 _ ?side1 ?side2 A11.out).mono ?_); (case side1 => exact cb (Kd.C_below HR0.out HB.out)); (case side2 => exact HC0.out); rintro e w20 ⟨v885, rfl, ho0, hb⟩; refine ⟨_, rfl, ?_⟩; have HO886 := Aside0.mk (Kd.R_lower ho0 (below_size BA)); replace HB := Aside0.mk (below_step BA hb); (try clear hb); (try clear ho0)) | ((with_reducible refine gate_callee (f := 18) rfl ?_); refine gK (some 28) Try.func18 #[.slice A1 l1.length c1] rfl rfl rfl ?_; (with_reducible refine (laws_toInstrS.calls k _ _ l1 t887 _ ?side1 ?side2 A12.out).mono ?_); (case side1 => exact cb (Kd.C_below HR1.out HB.out)); (case side2 => exact HC1.out); rintro e w21 ⟨v888, rfl, ho0, hb⟩; refine ⟨_, rfl, ?_⟩; replace HO886 := Aside0.mk (Kd.R_below (by (with_reducible repeat (first | apply Kd.R_alloc | apply Kd.R_drewN | apply Kd.R_drew)); exact HO886.out) hb); have HO889 := Aside0.mk (Kd.R_lower ho0 (below_size BA)); replace HB := Aside0.mk (below_step BA hb); (try clear hb); (try clear ho0); obtain ⟨Ao22, co22, eo22⟩ := Kd.R_slice HO886.out; subst eo22; obtain ⟨Ao23, co23, eo23⟩ := Kd.R_slice HO889.out; subst eo23) | ((with_reducible refine gate_callee (f := 49) rfl ?_); refine gK (some 30) Try.func49 #[.slice Ao22 t884.length co22, .slice Ao23 t887.length co23, .int .i64 a2] rfl rfl rfl ?_; (with_reducible refine (spec_ComputesExpr.calls k _ _ t884 _ _ t887 a2 t890 t891 _ ?side1 ?side2 ?side3 ?side4 A13.out).mono ?_); (case side1 => exact cb (Kd.R_reads' HO886.out).2.2); (case side2 => exact (Kd.R_reads' HO886.out).2.1); (case side3 => exact cb (Kd.R_reads' HO889.out).2.2); (case side4 => exact (Kd.R_reads' HO889.out).2.1); rintro e w24 ⟨rfl, hb⟩; refine ⟨_, rfl, ?_⟩; replace HO886 := Aside0.mk (Kd.R_below (by (with_reducible repeat (first | apply Kd.R_alloc | apply Kd.R_drewN | apply Kd.R_drew)); exact HO886.out) hb); replace HO889 := Aside0.mk (Kd.R_below (by (with_reducible repeat (first | apply Kd.R_alloc | apply Kd.R_drewN | apply Kd.R_drew)); exact HO889.out) hb); replace HB := Aside0.mk (below_step BA hb); (try clear hb)) | ((with_reducible refine gate_callee (f := 28) rfl ?_); refine gK (some 34) Try.func28 #[.slice A0 l0.length c0] rfl rfl rfl ?_; (with_reducible refine (laws_toNodeS.calls k _ _ l0 t892 _ ?side1 ?side2 A14.out).mono ?_); (case side1 => exact cb (Kd.C_below HR0.out HB.out)); (case side2 => exact HC0.out); rintro e w25 ⟨v893, rfl, ho0, hb⟩; refine ⟨_, rfl, ?_⟩; replace HO889 := Aside0.mk (Kd.R_below (by (with_reducible repeat (first | apply Kd.R_alloc | apply Kd.R_drewN | apply Kd.R_drew)); exact HO889.out) hb); have HO894 := Aside0.mk (Kd.R_lower (Kd.R_new' ho0 (Kd.R_lt (by (with_reducible repeat (first | apply Kd.R_alloc | apply Kd.R_drewN | apply Kd.R_drew)); exact HO886.out))) (below_size BA)); replace HO886 := Aside0.mk (Kd.R_elder' (by (with_reducible repeat (first | apply Kd.R_alloc | apply Kd.R_drewN | apply Kd.R_drew)); exact HO886.out) (Kd.R_base ho0) hb); replace HB := Aside0.mk (below_step BA hb); (try clear hb); (try clear ho0)) | ((with_reducible refine gate_callee (f := 18) rfl ?_); refine gK (some 36) Try.func18 #[.slice A1 l1.length c1] rfl rfl rfl ?_; (with_reducible refine (laws_toInstrS.calls k _ _ l1 t895 _ ?side1 ?side2 A15.out).mono ?_); (case side1 => exact cb (Kd.C_below HR1.out HB.out)); (case side2 => exact HC1.out); rintro e w26 ⟨v896, rfl, ho0, hb⟩; refine ⟨_, rfl, ?_⟩; replace HO886 := Aside0.mk (Kd.R_below (by (with_reducible repeat (first | apply Kd.R_alloc | apply Kd.R_drewN | apply Kd.R_drew)); exact HO886.out) hb); replace HO894 := Aside0.mk (Kd.R_below (by (with_reducible repeat (first | apply Kd.R_alloc | apply Kd.R_drewN | apply Kd.R_drew)); exact HO894.out) hb); have HO897 := Aside0.mk (Kd.R_lower (Kd.R_new' ho0 (Kd.R_lt (by (with_reducible repeat (first | apply Kd.R_alloc | apply Kd.R_drewN | apply Kd.R_drew)); exact HO889.out))) (below_size BA)); replace HO889 := Aside0.mk (Kd.R_elder' (by (with_reducible repeat (first | apply Kd.R_alloc | apply Kd.R_drewN | apply Kd.R_drew)); exact HO889.out) (Kd.R_base ho0) hb); replace HB := Aside0.mk (below_step BA hb); (try clear hb); (try clear ho0); obtain ⟨Ao27, co27, eo27⟩ := Kd.R_slice HO894.out; subst eo27; obtain ⟨Ao28, co28, eo28⟩ := Kd.R_slice HO897.out; subst eo28) | ((with_reducible refine gate_callee (f := 50) rfl ?_); refine gK (some 41) Try.func50 #[.slice Ao27 t892.length co27, .slice Ao28 t895.length co28, .int .i64 a2] rfl rfl rfl ?_; (with_reducible refine (impl_ComputesExpr.calls k _ _ t892 _ _ t895 a2 t898 t899 _ ?side1 ?side2 ?side3 ?side4 A16.out).mono ?_); (case side1 => exact cb (Kd.R_reads' HO894.out).2.2); (case side2 => exact (Kd.R_reads' HO894.out).2.1); (case side3 => exact cb (Kd.R_reads' HO897.out).2.2); (case side4 => exact (Kd.R_reads' HO897.out).2.1); rintro e w29 ⟨rfl, hb⟩; refine ⟨_, rfl, ?_⟩; replace HO886 := Aside0.mk (Kd.R_below (by (with_reducible repeat (first | apply Kd.R_alloc | apply Kd.R_drewN | apply Kd.R_drew)); exact HO886.out) hb); replace HO889 := Aside0.mk (Kd.R_below (by (with_reducible repeat (first | apply Kd.R_alloc | apply Kd.R_drewN | apply Kd.R_drew)); exact HO889.out) hb); replace HO894 := Aside0.mk (Kd.R_below (by (with_reducible repeat (first | apply Kd.R_alloc | apply Kd.R_drewN | apply Kd.R_drew)); exact HO894.out) hb); replace HO897 := Aside0.mk (Kd.R_below (by (with_reducible repeat (first | apply Kd.R_alloc | apply Kd.R_drewN | apply Kd.R_drew)); exact HO897.out) hb); replace HB := Aside0.mk (below_step BA hb); (try clear hb)))
      (try simp only [Act.put, List.setIfInBounds_toArray, List.set_cons_zero, List.set_cons_succ])
      go_cut [51] (fun v51 wc => ∃ (kq : Nat) (x51_16 : Bool), v51 = .bool x51_16 ∧ Aside0 (laws_FnExactComputesExpr.j0 kq l0 l1 t892 t895 x51_16 = some r) ∧ Aside0 (kq ≤ k) ∧ Aside0 (Kd.R k104 104 wc w.heap.size (fun _ => True) (.slice Ao27 t892.length co27) t892) ∧ Aside0 (Kd.R k80 80 wc w.heap.size (fun _ => True) (.slice Ao28 t895.length co28) t895) ∧ Aside0 (Below w.heap.size w wc))
      case first =>
        have H := HC17.out
        clear HC17
        by_cases c30 : (t898 != t890) = true
        · rw [if_pos c30] at H
          have c30b0 : (t898 != t890) = true := c30
          (try (have c30b1 : decide (t898 = t890) = false := by simpa using c30))
          (try (have c30b2 : (t898 == t890) = false := by simpa using c30))
          (try (have c30b3 : ¬ (t898 = t890) := by simpa using c30))
          clear c30
          (first | rw [c30b0] | (simp only [i64_w, i32_w]; rw [c30b0]) | skip)
          have H' := Aside0.mk H
          clear H
          go_wp2
          go_meet
          case rel => exact ⟨_, (true), EQ1, H', ⟨by first | omega | exact Nat.le_refl _⟩, ⟨by (with_reducible repeat (first | apply Kd.R_alloc | apply Kd.R_drewN | apply Kd.R_drew)); exact Kd.R_mono HO894.out (fun _ hk => trivial)⟩, ⟨by (with_reducible repeat (first | apply Kd.R_alloc | apply Kd.R_drewN | apply Kd.R_drew)); exact Kd.R_mono HO897.out (fun _ hk => trivial)⟩, ⟨BA⟩⟩
        · rw [if_neg c30] at H
          have c30b0 : (t898 != t890) = false := by simpa using c30
          (try (have c30b1 : decide (t898 = t890) = true := by simpa using c30))
          (try (have c30b2 : (t898 == t890) = true := by simpa using c30))
          clear c30
          (first | rw [c30b0] | (simp only [i64_w, i32_w]; rw [c30b0]) | skip)
          have H' := Aside0.mk H
          clear H
          go_wp2
          go_meet
          case rel => exact ⟨_, ((t899 != t891)), EQ1, H', ⟨by first | omega | exact Nat.le_refl _⟩, ⟨by (with_reducible repeat (first | apply Kd.R_alloc | apply Kd.R_drewN | apply Kd.R_drew)); exact Kd.R_mono HO894.out (fun _ hk => trivial)⟩, ⟨by (with_reducible repeat (first | apply Kd.R_alloc | apply Kd.R_drewN | apply Kd.R_drew)); exact Kd.R_mono HO897.out (fun _ hk => trivial)⟩, ⟨BA⟩⟩
      case rest =>
        clear HC17
        (try clear c1); (try clear c2); (try clear p2); (try clear c3); (try clear c4); (try clear c5); (try clear c5b0); (try clear c8); (try clear c8b0); (try clear c12); (try clear c16); (try clear c18); (try clear c26); (try clear c28); (try clear c30); (try clear c30b0); (try clear c30b1); (try clear c30b2)
        obtain ⟨kq, x51_16, rfl, HA, HJ16, HO_10, HO_11, HB⟩ := hcut
        cases kq with
        | zero => exact absurd HA.out (by simp [laws_FnExactComputesExpr.j0])
        | succ kj16 =>
          have H := HA.out
          clear HA
          simp only [laws_FnExactComputesExpr.j0] at H
          by_cases c31 : x51_16 = true
          · subst c31
            have H1 : (some false) = some r := by rw [if_pos rfl] at H; exact H
            clear H
            have H := H1
            clear H1
            obtain rfl := Option.some.inj H
            go_wp2
            go_ret
            exact ⟨EQ, BA⟩
          · replace c31 := Bool.eq_false_iff.mpr c31
            subst c31
            have H1 : ((laws_toNodeS.f kj16 l0).bind fun t900 => ((laws_eqNodeS.f kj16 t892 t900).bind fun t903 => (if t903 = true then ((laws_toInstrS.f kj16 l1).bind fun t904 => ((laws_eqInstrS.f kj16 t895 t904).bind fun t907 => (if t907 = true then (some true) else (some false)))) else (some false)))) = some r := by rw [if_neg (show ¬ (false = true) by decide)] at H; exact H
            clear H
            have H := H1
            clear H1
            replace H := Option.bind_eq_some_iff.mp H
            obtain ⟨t900, A320, H⟩ := H
            replace H : ((laws_eqNodeS.f kj16 t892 t900).bind fun t903 => (if t903 = true then ((laws_toInstrS.f kj16 l1).bind fun t904 => ((laws_eqInstrS.f kj16 t895 t904).bind fun t907 => (if t907 = true then (some true) else (some false)))) else (some false))) = some r := H
            have A32 := Aside0.mk A320
            clear A320
            replace H := Option.bind_eq_some_iff.mp H
            obtain ⟨t903, A330, H⟩ := H
            replace H : (if t903 = true then ((laws_toInstrS.f kj16 l1).bind fun t904 => ((laws_eqInstrS.f kj16 t895 t904).bind fun t907 => (if t907 = true then (some true) else (some false)))) else (some false)) = some r := H
            have A33 := Aside0.mk A330
            clear A330
            by_cases c34 : t903 = true
            · subst c34
              have H1 : ((laws_toInstrS.f kj16 l1).bind fun t904 => ((laws_eqInstrS.f kj16 t895 t904).bind fun t907 => (if t907 = true then (some true) else (some false)))) = some r := by rw [if_pos rfl] at H; exact H
              clear H
              have H := H1
              clear H1
              replace H := Option.bind_eq_some_iff.mp H
              obtain ⟨t904, A350, H⟩ := H
              replace H : ((laws_eqInstrS.f kj16 t895 t904).bind fun t907 => (if t907 = true then (some true) else (some false))) = some r := H
              have A35 := Aside0.mk A350
              clear A350
              replace H := Option.bind_eq_some_iff.mp H
              obtain ⟨t907, A360, H⟩ := H
              replace H : (if t907 = true then (some true) else (some false)) = some r := H
              have A36 := Aside0.mk A360
              clear A360
              by_cases c37 : t907 = true
              · subst c37
                have H1 : (some true) = some r := by rw [if_pos rfl] at H; exact H
                clear H
                have H := H1
                clear H1
                obtain rfl := Option.some.inj H
                go_wp2_with (first | ((with_reducible refine gate_callee (f := 28) rfl ?_); refine gK (some 54) Try.func28 #[.slice A0 l0.length c0] rfl rfl rfl ?_; (with_reducible refine (laws_toNodeS.calls kj16 _ _ l0 t900 _ ?side1 ?side2 A32.out).mono ?_); (case side1 => exact cb (Kd.C_below HR0.out HB.out)); (case side2 => exact HC0.out); rintro e w38 ⟨v901, rfl, ho0, hb⟩; refine ⟨_, rfl, ?_⟩; replace HO_11 := Aside0.mk (Kd.R_below (by (with_reducible repeat (first | apply Kd.R_alloc | apply Kd.R_drewN | apply Kd.R_drew)); exact HO_11.out) hb); have HO902 := Aside0.mk (Kd.R_lower (Kd.R_new' ho0 (Kd.R_lt (by (with_reducible repeat (first | apply Kd.R_alloc | apply Kd.R_drewN | apply Kd.R_drew)); exact HO_10.out))) (below_size BA)); replace HO_10 := Aside0.mk (Kd.R_elder' (by (with_reducible repeat (first | apply Kd.R_alloc | apply Kd.R_drewN | apply Kd.R_drew)); exact HO_10.out) (Kd.R_base ho0) hb); replace HB := Aside0.mk (below_step BA hb); (try clear hb); (try clear ho0); obtain ⟨Ao39, co39, eo39⟩ := Kd.R_slice HO902.out; subst eo39) | ((with_reducible refine gate_callee (f := 30) rfl ?_); refine gK (some 55) Try.func30 #[.slice Ao27 t892.length co27, .slice Ao39 t900.length co39] rfl rfl rfl ?_; (with_reducible refine (laws_eqNodeS.calls kj16 _ _ t892 _ _ t900 true _ ?side1 ?side2 ?side3 ?side4 A33.out).mono ?_); (case side1 => exact cb (Kd.R_reads' HO_10.out).2.2); (case side2 => exact (Kd.R_reads' HO_10.out).2.1); (case side3 => exact cb (Kd.R_reads' HO902.out).2.2); (case side4 => exact (Kd.R_reads' HO902.out).2.1); rintro e w40 ⟨rfl, hb⟩; refine ⟨_, rfl, ?_⟩; replace HO_10 := Aside0.mk (Kd.R_below (by (with_reducible repeat (first | apply Kd.R_alloc | apply Kd.R_drewN | apply Kd.R_drew)); exact HO_10.out) hb); replace HO_11 := Aside0.mk (Kd.R_below (by (with_reducible repeat (first | apply Kd.R_alloc | apply Kd.R_drewN | apply Kd.R_drew)); exact HO_11.out) hb); replace HO902 := Aside0.mk (Kd.R_below (by (with_reducible repeat (first | apply Kd.R_alloc | apply Kd.R_drewN | apply Kd.R_drew)); exact HO902.out) hb); replace HB := Aside0.mk (below_step BA hb); (try clear hb)) | ((with_reducible refine gate_callee (f := 18) rfl ?_); refine gK (some 59) Try.func18 #[.slice A1 l1.length c1] rfl rfl rfl ?_; (with_reducible refine (laws_toInstrS.calls kj16 _ _ l1 t904 _ ?side1 ?side2 A35.out).mono ?_); (case side1 => exact cb (Kd.C_below HR1.out HB.out)); (case side2 => exact HC1.out); rintro e w41 ⟨v905, rfl, ho0, hb⟩; refine ⟨_, rfl, ?_⟩; replace HO_10 := Aside0.mk (Kd.R_below (by (with_reducible repeat (first | apply Kd.R_alloc | apply Kd.R_drewN | apply Kd.R_drew)); exact HO_10.out) hb); replace HO902 := Aside0.mk (Kd.R_below (by (with_reducible repeat (first | apply Kd.R_alloc | apply Kd.R_drewN | apply Kd.R_drew)); exact HO902.out) hb); have HO906 := Aside0.mk (Kd.R_lower (Kd.R_new' ho0 (Kd.R_lt (by (with_reducible repeat (first | apply Kd.R_alloc | apply Kd.R_drewN | apply Kd.R_drew)); exact HO_11.out))) (below_size BA)); replace HO_11 := Aside0.mk (Kd.R_elder' (by (with_reducible repeat (first | apply Kd.R_alloc | apply Kd.R_drewN | apply Kd.R_drew)); exact HO_11.out) (Kd.R_base ho0) hb); replace HB := Aside0.mk (below_step BA hb); (try clear hb); (try clear ho0); obtain ⟨Ao42, co42, eo42⟩ := Kd.R_slice HO906.out; subst eo42) | ((with_reducible refine gate_callee (f := 20) rfl ?_); refine gK (some 60) Try.func20 #[.slice Ao28 t895.length co28, .slice Ao42 t904.length co42] rfl rfl rfl ?_; (with_reducible refine (laws_eqInstrS.calls kj16 _ _ t895 _ _ t904 true _ ?side1 ?side2 ?side3 ?side4 A36.out).mono ?_); (case side1 => exact cb (Kd.R_reads' HO_11.out).2.2); (case side2 => exact (Kd.R_reads' HO_11.out).2.1); (case side3 => exact cb (Kd.R_reads' HO906.out).2.2); (case side4 => exact (Kd.R_reads' HO906.out).2.1); rintro e w43 ⟨rfl, hb⟩; refine ⟨_, rfl, ?_⟩; replace HO_10 := Aside0.mk (Kd.R_below (by (with_reducible repeat (first | apply Kd.R_alloc | apply Kd.R_drewN | apply Kd.R_drew)); exact HO_10.out) hb); replace HO_11 := Aside0.mk (Kd.R_below (by (with_reducible repeat (first | apply Kd.R_alloc | apply Kd.R_drewN | apply Kd.R_drew)); exact HO_11.out) hb); replace HO902 := Aside0.mk (Kd.R_below (by (with_reducible repeat (first | apply Kd.R_alloc | apply Kd.R_drewN | apply Kd.R_drew)); exact HO902.out) hb); replace HO906 := Aside0.mk (Kd.R_below (by (with_reducible repeat (first | apply Kd.R_alloc | apply Kd.R_drewN | apply Kd.R_drew)); exact HO906.out) hb); replace HB := Aside0.mk (below_step BA hb); (try clear hb)))
                go_ret
                exact ⟨EQ, BA⟩
              · replace c37 := Bool.eq_false_iff.mpr c37
                subst c37
                have H1 : (some false) = some r := by rw [if_neg (show ¬ (false = true) by decide)] at H; exact H
                clear H
                have H := H1
                clear H1
                obtain rfl := Option.some.inj H
                go_wp2_with (first | ((with_reducible refine gate_callee (f := 28) rfl ?_); refine gK (some 54) Try.func28 #[.slice A0 l0.length c0] rfl rfl rfl ?_; (with_reducible refine (laws_toNodeS.calls kj16 _ _ l0 t900 _ ?side1 ?side2 A32.out).mono ?_); (case side1 => exact cb (Kd.C_below HR0.out HB.out)); (case side2 => exact HC0.out); rintro e w44 ⟨v901, rfl, ho0, hb⟩; refine ⟨_, rfl, ?_⟩; replace HO_11 := Aside0.mk (Kd.R_below (by (with_reducible repeat (first | apply Kd.R_alloc | apply Kd.R_drewN | apply Kd.R_drew)); exact HO_11.out) hb); have HO902 := Aside0.mk (Kd.R_lower (Kd.R_new' ho0 (Kd.R_lt (by (with_reducible repeat (first | apply Kd.R_alloc | apply Kd.R_drewN | apply Kd.R_drew)); exact HO_10.out))) (below_size BA)); replace HO_10 := Aside0.mk (Kd.R_elder' (by (with_reducible repeat (first | apply Kd.R_alloc | apply Kd.R_drewN | apply Kd.R_drew)); exact HO_10.out) (Kd.R_base ho0) hb); replace HB := Aside0.mk (below_step BA hb); (try clear hb); (try clear ho0); obtain ⟨Ao45, co45, eo45⟩ := Kd.R_slice HO902.out; subst eo45) | ((with_reducible refine gate_callee (f := 30) rfl ?_); refine gK (some 55) Try.func30 #[.slice Ao27 t892.length co27, .slice Ao45 t900.length co45] rfl rfl rfl ?_; (with_reducible refine (laws_eqNodeS.calls kj16 _ _ t892 _ _ t900 true _ ?side1 ?side2 ?side3 ?side4 A33.out).mono ?_); (case side1 => exact cb (Kd.R_reads' HO_10.out).2.2); (case side2 => exact (Kd.R_reads' HO_10.out).2.1); (case side3 => exact cb (Kd.R_reads' HO902.out).2.2); (case side4 => exact (Kd.R_reads' HO902.out).2.1); rintro e w46 ⟨rfl, hb⟩; refine ⟨_, rfl, ?_⟩; replace HO_10 := Aside0.mk (Kd.R_below (by (with_reducible repeat (first | apply Kd.R_alloc | apply Kd.R_drewN | apply Kd.R_drew)); exact HO_10.out) hb); replace HO_11 := Aside0.mk (Kd.R_below (by (with_reducible repeat (first | apply Kd.R_alloc | apply Kd.R_drewN | apply Kd.R_drew)); exact HO_11.out) hb); replace HO902 := Aside0.mk (Kd.R_below (by (with_reducible repeat (first | apply Kd.R_alloc | apply Kd.R_drewN | apply Kd.R_drew)); exact HO902.out) hb); replace HB := Aside0.mk (below_step BA hb); (try clear hb)) | ((with_reducible refine gate_callee (f := 18) rfl ?_); refine gK (some 59) Try.func18 #[.slice A1 l1.length c1] rfl rfl rfl ?_; (with_reducible refine (laws_toInstrS.calls kj16 _ _ l1 t904 _ ?side1 ?side2 A35.out).mono ?_); (case side1 => exact cb (Kd.C_below HR1.out HB.out)); (case side2 => exact HC1.out); rintro e w47 ⟨v905, rfl, ho0, hb⟩; refine ⟨_, rfl, ?_⟩; replace HO_10 := Aside0.mk (Kd.R_below (by (with_reducible repeat (first | apply Kd.R_alloc | apply Kd.R_drewN | apply Kd.R_drew)); exact HO_10.out) hb); replace HO902 := Aside0.mk (Kd.R_below (by (with_reducible repeat (first | apply Kd.R_alloc | apply Kd.R_drewN | apply Kd.R_drew)); exact HO902.out) hb); have HO906 := Aside0.mk (Kd.R_lower (Kd.R_new' ho0 (Kd.R_lt (by (with_reducible repeat (first | apply Kd.R_alloc | apply Kd.R_drewN | apply Kd.R_drew)); exact HO_11.out))) (below_size BA)); replace HO_11 := Aside0.mk (Kd.R_elder' (by (with_reducible repeat (first | apply Kd.R_alloc | apply Kd.R_drewN | apply Kd.R_drew)); exact HO_11.out) (Kd.R_base ho0) hb); replace HB := Aside0.mk (below_step BA hb); (try clear hb); (try clear ho0); obtain ⟨Ao48, co48, eo48⟩ := Kd.R_slice HO906.out; subst eo48) | ((with_reducible refine gate_callee (f := 20) rfl ?_); refine gK (some 60) Try.func20 #[.slice Ao28 t895.length co28, .slice Ao48 t904.length co48] rfl rfl rfl ?_; (with_reducible refine (laws_eqInstrS.calls kj16 _ _ t895 _ _ t904 false _ ?side1 ?side2 ?side3 ?side4 A36.out).mono ?_); (case side1 => exact cb (Kd.R_reads' HO_11.out).2.2); (case side2 => exact (Kd.R_reads' HO_11.out).2.1); (case side3 => exact cb (Kd.R_reads' HO906.out).2.2); (case side4 => exact (Kd.R_reads' HO906.out).2.1); rintro e w49 ⟨rfl, hb⟩; refine ⟨_, rfl, ?_⟩; replace HO_10 := Aside0.mk (Kd.R_below (by (with_reducible repeat (first | apply Kd.R_alloc | apply Kd.R_drewN | apply Kd.R_drew)); exact HO_10.out) hb); replace HO_11 := Aside0.mk (Kd.R_below (by (with_reducible repeat (first | apply Kd.R_alloc | apply Kd.R_drewN | apply Kd.R_drew)); exact HO_11.out) hb); replace HO902 := Aside0.mk (Kd.R_below (by (with_reducible repeat (first | apply Kd.R_alloc | apply Kd.R_drewN | apply Kd.R_drew)); exact HO902.out) hb); replace HO906 := Aside0.mk (Kd.R_below (by (with_reducible repeat (first | apply Kd.R_alloc | apply Kd.R_drewN | apply Kd.R_drew)); exact HO906.out) hb); replace HB := Aside0.mk (below_step BA hb); (try clear hb)))
                go_ret
                exact ⟨EQ, BA⟩
            · replace c34 := Bool.eq_false_iff.mpr c34
              subst c34
              have H1 : (some false) = some r := by rw [if_neg (show ¬ (false = true) by decide)] at H; exact H
              clear H
              have H := H1
              clear H1
              obtain rfl := Option.some.inj H
              go_wp2_with (first | ((with_reducible refine gate_callee (f := 28) rfl ?_); refine gK (some 54) Try.func28 #[.slice A0 l0.length c0] rfl rfl rfl ?_; (with_reducible refine (laws_toNodeS.calls kj16 _ _ l0 t900 _ ?side1 ?side2 A32.out).mono ?_); (case side1 => exact cb (Kd.C_below HR0.out HB.out)); (case side2 => exact HC0.out); rintro e w50 ⟨v901, rfl, ho0, hb⟩; refine ⟨_, rfl, ?_⟩; replace HO_11 := Aside0.mk (Kd.R_below (by (with_reducible repeat (first | apply Kd.R_alloc | apply Kd.R_drewN | apply Kd.R_drew)); exact HO_11.out) hb); have HO902 := Aside0.mk (Kd.R_lower (Kd.R_new' ho0 (Kd.R_lt (by (with_reducible repeat (first | apply Kd.R_alloc | apply Kd.R_drewN | apply Kd.R_drew)); exact HO_10.out))) (below_size BA)); replace HO_10 := Aside0.mk (Kd.R_elder' (by (with_reducible repeat (first | apply Kd.R_alloc | apply Kd.R_drewN | apply Kd.R_drew)); exact HO_10.out) (Kd.R_base ho0) hb); replace HB := Aside0.mk (below_step BA hb); (try clear hb); (try clear ho0); obtain ⟨Ao51, co51, eo51⟩ := Kd.R_slice HO902.out; subst eo51) | ((with_reducible refine gate_callee (f := 30) rfl ?_); refine gK (some 55) Try.func30 #[.slice Ao27 t892.length co27, .slice Ao51 t900.length co51] rfl rfl rfl ?_; (with_reducible refine (laws_eqNodeS.calls kj16 _ _ t892 _ _ t900 false _ ?side1 ?side2 ?side3 ?side4 A33.out).mono ?_); (case side1 => exact cb (Kd.R_reads' HO_10.out).2.2); (case side2 => exact (Kd.R_reads' HO_10.out).2.1); (case side3 => exact cb (Kd.R_reads' HO902.out).2.2); (case side4 => exact (Kd.R_reads' HO902.out).2.1); rintro e w52 ⟨rfl, hb⟩; refine ⟨_, rfl, ?_⟩; replace HO_10 := Aside0.mk (Kd.R_below (by (with_reducible repeat (first | apply Kd.R_alloc | apply Kd.R_drewN | apply Kd.R_drew)); exact HO_10.out) hb); replace HO_11 := Aside0.mk (Kd.R_below (by (with_reducible repeat (first | apply Kd.R_alloc | apply Kd.R_drewN | apply Kd.R_drew)); exact HO_11.out) hb); replace HO902 := Aside0.mk (Kd.R_below (by (with_reducible repeat (first | apply Kd.R_alloc | apply Kd.R_drewN | apply Kd.R_drew)); exact HO902.out) hb); replace HB := Aside0.mk (below_step BA hb); (try clear hb)))
              go_ret
              exact ⟨EQ, BA⟩

end Go.Proofs.Ytefipbekabmncaa.Pa
