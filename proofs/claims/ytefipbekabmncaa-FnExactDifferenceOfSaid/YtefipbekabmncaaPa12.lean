-- Made by this session's program gen.py over the translation.
import Derived.Test.YtefipbekabmncaaPa0
import Derived.Test.YtefipbekabmncaaPa6
import Derived.Test.YtefipbekabmncaaPa7
import Derived.Test.YtefipbekabmncaaPa8
namespace Go.Proofs.Ytefipbekabmncaa.Pa
open Go.RowKit Go.Proofs.YtefipbekabmncaaW.PrintWords Go.Proofs.YtefipbekabmncaaW.PrintLast Go.Proofs.YtefipbekabmncaaW.PrintMore
attribute [local go_sem] max2_int min2_int max_two min_two max_three min_three max_four min_four   -- for this text's walks alone
set_option linter.unusedVariables false
set_option linter.unusedSimpArgs false

/-! ### spec_DifferenceOf: function 47 -/
def spec_DifferenceOf.f (k : Nat) (l0 : List (S104)) (l1 : List (S80)) (a2 : Int) : Option (Int × Int × Bool) := (spec_seAsked.f k l0 l1 a2).bind fun t792 => (if t792 = true then ((spec_seDifference.f k l0 l1 a2).bind fun bt793 => (some (bt793.1, bt793.2.1, bt793.2.2))) else (some (0, 0, false)))
theorem spec_DifferenceOf.mono : ∀ a0 a1 a2 k, LeO (spec_DifferenceOf.f k a0 a1 a2) (spec_DifferenceOf.f (k + 1) a0 a1 a2) := by
  intro a0 a1 a2 k
  unfold spec_DifferenceOf.f
  repeat' first | (with_reducible first | exact spec_seAsked.mono _ _ _ _ | exact spec_seDifference.mono _ _ _ _ | exact LeO.refl _ | exact LeO.none _ | refine LeO.ite ?_ ?_ | refine LeO.bind ?_ (fun _ => ?_)) | exact LeO.none _ | refine LeO.ite ?_ ?_ | refine LeO.bind ?_ (fun _ => ?_)
set_option maxHeartbeats 8000000 in
set_option maxRecDepth 100000 in
theorem spec_DifferenceOf.calls (k : Nat) (A0 : Option Addr) (c0 : Nat) (l0 : List (S104)) (A1 : Option Addr) (c1 : Nat) (l1 : List (S80)) (a2 : Int) (r1 : Int) (r2 : Int) (r3 : Bool) (w : World) (hr0 : Kd.C k104 w A0 l0.length l0) (hc0 : l0.length ≤ c0) (hr1 : Kd.C k80 w A1 l1.length l1) (hc1 : l1.length ≤ c1) (h : spec_DifferenceOf.f k l0 l1 a2 = some (r1, r2, r3)) :
    Calls Try.prog 47 #[.slice A0 l0.length c0, .slice A1 l1.length c1, .int .i64 a2] w fun e w' => e = .returned (.tuple #[.int .i64 r1, .int .i64 r2, .bool r3]) ∧ Below w.heap.size w w' := by
  have HR0 := Aside0.mk hr0
  have HC0 := Aside0.mk hc0
  clear hr0 hc0
  have HR1 := Aside0.mk hr1
  have HC1 := Aside0.mk hc1
  clear hr1 hc1
  have HB := Aside0.mk (Below.refl w.heap.size w)
  have H : ((spec_seAsked.f k l0 l1 a2).bind fun t792 => (if t792 = true then ((spec_seDifference.f k l0 l1 a2).bind fun bt793 => (some (bt793.1, bt793.2.1, bt793.2.2))) else (some (0, 0, false)))) = some (r1, r2, r3) := h
  clear h
  replace H := Option.bind_eq_some_iff.mp H
  obtain ⟨t792, A40, H⟩ := H
  replace H : (if t792 = true then ((spec_seDifference.f k l0 l1 a2).bind fun bt793 => (some (bt793.1, bt793.2.1, bt793.2.2))) else (some (0, 0, false))) = some (r1, r2, r3) := H
  have A4 := Aside0.mk A40
  clear A40
  by_cases c5 : t792 = true
  · subst c5
    have H1 : ((spec_seDifference.f k l0 l1 a2).bind fun bt793 => (some (bt793.1, bt793.2.1, bt793.2.2))) = some (r1, r2, r3) := by rw [if_pos rfl] at H; exact H
    clear H
    have H := H1
    clear H1
    replace H := Option.bind_eq_some_iff.mp H
    obtain ⟨⟨t793, t794, t795⟩, A60, H⟩ := H
    replace H : (some (t793, t794, t795)) = some (r1, r2, r3) := H
    have A6 := Aside0.mk A60
    clear A60
    simp only [Option.some.injEq, Prod.mk.injEq] at H
    obtain ⟨rfl, rfl, rfl⟩ := H
    go_enter Try.func47, Try.ntmps47
    go_wp2_with (first | ((with_reducible refine gate_callee (f := 100) rfl ?_); refine gK (some 12) Try.func100 #[.slice A0 l0.length c0, .slice A1 l1.length c1, .int .i64 a2] rfl rfl rfl ?_; (with_reducible refine (spec_seAsked.calls k _ _ l0 _ _ l1 a2 true _ ?side1 ?side2 ?side3 ?side4 A4.out).mono ?_); (case side1 => exact cb HR0.out); (case side2 => exact HC0.out); (case side3 => exact cb HR1.out); (case side4 => exact HC1.out); rintro e w7 ⟨rfl, hb⟩; refine ⟨_, rfl, ?_⟩; replace HB := Aside0.mk (below_step BA hb); (try clear hb)) | ((with_reducible refine gate_callee (f := 101) rfl ?_); refine gK (some 17) Try.func101 #[.slice A0 l0.length c0, .slice A1 l1.length c1, .int .i64 a2] rfl rfl rfl ?_; (with_reducible refine (spec_seDifference.calls k _ _ l0 _ _ l1 a2 t793 t794 t795 _ ?side1 ?side2 ?side3 ?side4 A6.out).mono ?_); (case side1 => exact cb (Kd.C_below HR0.out HB.out)); (case side2 => exact HC0.out); (case side3 => exact cb (Kd.C_below HR1.out HB.out)); (case side4 => exact HC1.out); rintro e w8 ⟨rfl, hb⟩; refine ⟨_, rfl, ?_⟩; replace HB := Aside0.mk (below_step BA hb); (try clear hb)))
    go_ret3
    exact ⟨EQ, BA⟩
  · replace c5 := Bool.eq_false_iff.mpr c5
    subst c5
    have H1 : (some (0, 0, false)) = some (r1, r2, r3) := by rw [if_neg (show ¬ (false = true) by decide)] at H; exact H
    clear H
    have H := H1
    clear H1
    simp only [Option.some.injEq, Prod.mk.injEq] at H
    obtain ⟨rfl, rfl, rfl⟩ := H
    go_enter Try.func47, Try.ntmps47
    go_wp2_with (first | ((with_reducible refine gate_callee (f := 100) rfl ?_); refine gK (some 12) Try.func100 #[.slice A0 l0.length c0, .slice A1 l1.length c1, .int .i64 a2] rfl rfl rfl ?_; (with_reducible refine (spec_seAsked.calls k _ _ l0 _ _ l1 a2 false _ ?side1 ?side2 ?side3 ?side4 A4.out).mono ?_); (case side1 => exact cb HR0.out); (case side2 => exact HC0.out); (case side3 => exact cb HR1.out); (case side4 => exact HC1.out); rintro e w9 ⟨rfl, hb⟩; refine ⟨_, rfl, ?_⟩; replace HB := Aside0.mk (below_step BA hb); (try clear hb)))
    go_ret3
    exact ⟨EQ, BA⟩

/-! ### laws_FnExactDifferenceOf: function 11 -/
def laws_FnExactDifferenceOf.j0 : Nat → List (S101) → List (S78) → List (S104) → List (S80) → Bool → Option (Bool)
  | 0, _, _, _, _, _ => none
  | k + 1, x0, x1, x11, x12, x60 => if x60 = true then (some false) else ((laws_toNodeS.f k x0).bind fun t864 => ((laws_eqNodeS.f k x11 t864).bind fun t867 => (if t867 = true then ((laws_toInstrS.f k x1).bind fun t868 => ((laws_eqInstrS.f k x12 t868).bind fun t871 => (if t871 = true then (some true) else (some false)))) else (some false))))
def laws_FnExactDifferenceOf.f (k : Nat) (l0 : List (S101)) (l1 : List (S78)) (a2 : Int) : Option (Bool) := (laws_szNodeS.f k l0 1048576).bind fun t844 => (if t844 < 0 then (some true) else ((laws_szInstrS.f k l1 t844).bind fun t845 => (if t845 < 0 then (some true) else ((laws_toNodeS.f k l0).bind fun t846 => ((laws_toInstrS.f k l1).bind fun t849 => ((spec_DifferenceOf.f k t846 t849 a2).bind fun bt852 => ((laws_toNodeS.f k l0).bind fun t855 => ((laws_toInstrS.f k l1).bind fun t858 => ((impl_DifferenceOf.f k t855 t858 a2).bind fun bt861 => (if bt861.1 = bt852.1 then (if bt861.2.1 = bt852.2.1 then (laws_FnExactDifferenceOf.j0 k l0 l1 t855 t858 (bt861.2.2 != bt852.2.2)) else (laws_FnExactDifferenceOf.j0 k l0 l1 t855 t858 true)) else (laws_FnExactDifferenceOf.j0 k l0 l1 t855 t858 true)))))))))))
theorem laws_FnExactDifferenceOf.mono_l : ∀ k, (∀ y0 y1 y2 y3 y4, LeO (laws_FnExactDifferenceOf.j0 k y0 y1 y2 y3 y4) (laws_FnExactDifferenceOf.j0 (k + 1) y0 y1 y2 y3 y4))
  | 0 => fun _ _ _ _ _ r h => by simp [laws_FnExactDifferenceOf.j0] at h
  | k + 1 => by
    have ih0 := laws_FnExactDifferenceOf.mono_l k
    · intro y0 y1 y2 y3 y4
      unfold laws_FnExactDifferenceOf.j0
      repeat' first | (with_reducible first | exact ih0 _ _ _ _ _ | exact impl_DifferenceOf.mono _ _ _ _ | exact laws_eqInstrS.mono _ _ _ | exact laws_eqNodeS.mono _ _ _ | exact laws_szInstrS.mono _ _ _ | exact laws_szNodeS.mono _ _ _ | exact laws_toInstrS.mono _ _ | exact laws_toNodeS.mono _ _ | exact spec_DifferenceOf.mono _ _ _ _ | exact LeO.refl _ | exact LeO.none _ | refine LeO.ite ?_ ?_ | refine LeO.bind ?_ (fun _ => ?_)) | exact LeO.none _ | refine LeO.ite ?_ ?_ | refine LeO.bind ?_ (fun _ => ?_)
theorem laws_FnExactDifferenceOf.mono : ∀ a0 a1 a2 k, LeO (laws_FnExactDifferenceOf.f k a0 a1 a2) (laws_FnExactDifferenceOf.f (k + 1) a0 a1 a2) := by
  intro a0 a1 a2 k
  have ih0 := laws_FnExactDifferenceOf.mono_l k
  unfold laws_FnExactDifferenceOf.f
  repeat' first | (with_reducible first | exact ih0 _ _ _ _ _ | exact impl_DifferenceOf.mono _ _ _ _ | exact laws_eqInstrS.mono _ _ _ | exact laws_eqNodeS.mono _ _ _ | exact laws_szInstrS.mono _ _ _ | exact laws_szNodeS.mono _ _ _ | exact laws_toInstrS.mono _ _ | exact laws_toNodeS.mono _ _ | exact spec_DifferenceOf.mono _ _ _ _ | exact LeO.refl _ | exact LeO.none _ | refine LeO.ite ?_ ?_ | refine LeO.bind ?_ (fun _ => ?_)) | exact LeO.none _ | refine LeO.ite ?_ ?_ | refine LeO.bind ?_ (fun _ => ?_)
set_option maxHeartbeats 8000000 in
set_option maxRecDepth 100000 in
theorem laws_FnExactDifferenceOf.calls (k : Nat) (A0 : Option Addr) (c0 : Nat) (l0 : List (S101)) (A1 : Option Addr) (c1 : Nat) (l1 : List (S78)) (a2 : Int) (r : Bool) (w : World) (hr0 : Kd.C k101 w A0 l0.length l0) (hc0 : l0.length ≤ c0) (hr1 : Kd.C k78 w A1 l1.length l1) (hc1 : l1.length ≤ c1) (h : laws_FnExactDifferenceOf.f k l0 l1 a2 = some r) :
    Calls Try.prog 11 #[.slice A0 l0.length c0, .slice A1 l1.length c1, .int .i64 a2] w fun e w' => e = .returned (.bool r) ∧ Below w.heap.size w w' := by
  have HR0 := Aside0.mk hr0
  have HC0 := Aside0.mk hc0
  clear hr0 hc0
  have HR1 := Aside0.mk hr1
  have HC1 := Aside0.mk hc1
  clear hr1 hc1
  have HB := Aside0.mk (Below.refl w.heap.size w)
  have H : ((laws_szNodeS.f k l0 1048576).bind fun t844 => (if t844 < 0 then (some true) else ((laws_szInstrS.f k l1 t844).bind fun t845 => (if t845 < 0 then (some true) else ((laws_toNodeS.f k l0).bind fun t846 => ((laws_toInstrS.f k l1).bind fun t849 => ((spec_DifferenceOf.f k t846 t849 a2).bind fun bt852 => ((laws_toNodeS.f k l0).bind fun t855 => ((laws_toInstrS.f k l1).bind fun t858 => ((impl_DifferenceOf.f k t855 t858 a2).bind fun bt861 => (if bt861.1 = bt852.1 then (if bt861.2.1 = bt852.2.1 then (laws_FnExactDifferenceOf.j0 k l0 l1 t855 t858 (bt861.2.2 != bt852.2.2)) else (laws_FnExactDifferenceOf.j0 k l0 l1 t855 t858 true)) else (laws_FnExactDifferenceOf.j0 k l0 l1 t855 t858 true)))))))))))) = some r := h
  clear h
  replace H := Option.bind_eq_some_iff.mp H
  obtain ⟨t844, A40, H⟩ := H
  replace H : (if t844 < 0 then (some true) else ((laws_szInstrS.f k l1 t844).bind fun t845 => (if t845 < 0 then (some true) else ((laws_toNodeS.f k l0).bind fun t846 => ((laws_toInstrS.f k l1).bind fun t849 => ((spec_DifferenceOf.f k t846 t849 a2).bind fun bt852 => ((laws_toNodeS.f k l0).bind fun t855 => ((laws_toInstrS.f k l1).bind fun t858 => ((impl_DifferenceOf.f k t855 t858 a2).bind fun bt861 => (if bt861.1 = bt852.1 then (if bt861.2.1 = bt852.2.1 then (laws_FnExactDifferenceOf.j0 k l0 l1 t855 t858 (bt861.2.2 != bt852.2.2)) else (laws_FnExactDifferenceOf.j0 k l0 l1 t855 t858 true)) else (laws_FnExactDifferenceOf.j0 k l0 l1 t855 t858 true))))))))))) = some r := H
  have A4 := Aside0.mk A40
  clear A40
  by_cases c5 : t844 < 0
  · rw [if_pos c5] at H
    have c5b0 := decide_eq_true c5
    clear c5
    obtain rfl := Option.some.inj H
    go_enter Try.func11, Try.ntmps11
    go_wp2_with (first | ((with_reducible refine gate_callee (f := 26) rfl ?_); refine gK (some 18) Try.func26 #[.slice A0 l0.length c0, .int .i64 1048576] rfl rfl rfl ?_; (with_reducible refine (laws_szNodeS.calls k _ _ l0 1048576 t844 _ ?side1 ?side2 A4.out).mono ?_); (case side1 => exact cb HR0.out); (case side2 => exact HC0.out); rintro e w6 ⟨rfl, hb⟩; refine ⟨_, rfl, ?_⟩; replace HB := Aside0.mk (below_step BA hb); (try clear hb)))
    go_ret
    exact ⟨EQ, BA⟩
  · rw [if_neg c5] at H
    have c5b0 := decide_eq_false c5
    clear c5
    replace H := Option.bind_eq_some_iff.mp H
    obtain ⟨t845, A70, H⟩ := H
    replace H : (if t845 < 0 then (some true) else ((laws_toNodeS.f k l0).bind fun t846 => ((laws_toInstrS.f k l1).bind fun t849 => ((spec_DifferenceOf.f k t846 t849 a2).bind fun bt852 => ((laws_toNodeS.f k l0).bind fun t855 => ((laws_toInstrS.f k l1).bind fun t858 => ((impl_DifferenceOf.f k t855 t858 a2).bind fun bt861 => (if bt861.1 = bt852.1 then (if bt861.2.1 = bt852.2.1 then (laws_FnExactDifferenceOf.j0 k l0 l1 t855 t858 (bt861.2.2 != bt852.2.2)) else (laws_FnExactDifferenceOf.j0 k l0 l1 t855 t858 true)) else (laws_FnExactDifferenceOf.j0 k l0 l1 t855 t858 true))))))))) = some r := H
    have A7 := Aside0.mk A70
    clear A70
    by_cases c8 : t845 < 0
    · rw [if_pos c8] at H
      have c8b0 := decide_eq_true c8
      clear c8
      obtain rfl := Option.some.inj H
      go_enter Try.func11, Try.ntmps11
      go_wp2_with (first | ((with_reducible refine gate_callee (f := 26) rfl ?_); refine gK (some 18) Try.func26 #[.slice A0 l0.length c0, .int .i64 1048576] rfl rfl rfl ?_; (with_reducible refine (laws_szNodeS.calls k _ _ l0 1048576 t844 _ ?side1 ?side2 A4.out).mono ?_); (case side1 => exact cb HR0.out); (case side2 => exact HC0.out); rintro e w9 ⟨rfl, hb⟩; refine ⟨_, rfl, ?_⟩; replace HB := Aside0.mk (below_step BA hb); (try clear hb)) | ((with_reducible refine gate_callee (f := 16) rfl ?_); refine gK (some 23) Try.func16 #[.slice A1 l1.length c1, .int .i64 t844] rfl rfl rfl ?_; (with_reducible refine (laws_szInstrS.calls k _ _ l1 t844 t845 _ ?side1 ?side2 A7.out).mono ?_); (case side1 => exact cb (Kd.C_below HR1.out HB.out)); (case side2 => exact HC1.out); rintro e w10 ⟨rfl, hb⟩; refine ⟨_, rfl, ?_⟩; replace HB := Aside0.mk (below_step BA hb); (try clear hb)))
      go_ret
      exact ⟨EQ, BA⟩
    · rw [if_neg c8] at H
      have c8b0 := decide_eq_false c8
      clear c8
      replace H := Option.bind_eq_some_iff.mp H
      obtain ⟨t846, A110, H⟩ := H
      replace H : ((laws_toInstrS.f k l1).bind fun t849 => ((spec_DifferenceOf.f k t846 t849 a2).bind fun bt852 => ((laws_toNodeS.f k l0).bind fun t855 => ((laws_toInstrS.f k l1).bind fun t858 => ((impl_DifferenceOf.f k t855 t858 a2).bind fun bt861 => (if bt861.1 = bt852.1 then (if bt861.2.1 = bt852.2.1 then (laws_FnExactDifferenceOf.j0 k l0 l1 t855 t858 (bt861.2.2 != bt852.2.2)) else (laws_FnExactDifferenceOf.j0 k l0 l1 t855 t858 true)) else (laws_FnExactDifferenceOf.j0 k l0 l1 t855 t858 true))))))) = some r := H
      have A11 := Aside0.mk A110
      clear A110
      replace H := Option.bind_eq_some_iff.mp H
      obtain ⟨t849, A120, H⟩ := H
      replace H : ((spec_DifferenceOf.f k t846 t849 a2).bind fun bt852 => ((laws_toNodeS.f k l0).bind fun t855 => ((laws_toInstrS.f k l1).bind fun t858 => ((impl_DifferenceOf.f k t855 t858 a2).bind fun bt861 => (if bt861.1 = bt852.1 then (if bt861.2.1 = bt852.2.1 then (laws_FnExactDifferenceOf.j0 k l0 l1 t855 t858 (bt861.2.2 != bt852.2.2)) else (laws_FnExactDifferenceOf.j0 k l0 l1 t855 t858 true)) else (laws_FnExactDifferenceOf.j0 k l0 l1 t855 t858 true)))))) = some r := H
      have A12 := Aside0.mk A120
      clear A120
      replace H := Option.bind_eq_some_iff.mp H
      obtain ⟨⟨t852, t853, t854⟩, A130, H⟩ := H
      replace H : ((laws_toNodeS.f k l0).bind fun t855 => ((laws_toInstrS.f k l1).bind fun t858 => ((impl_DifferenceOf.f k t855 t858 a2).bind fun bt861 => (if bt861.1 = t852 then (if bt861.2.1 = t853 then (laws_FnExactDifferenceOf.j0 k l0 l1 t855 t858 (bt861.2.2 != t854)) else (laws_FnExactDifferenceOf.j0 k l0 l1 t855 t858 true)) else (laws_FnExactDifferenceOf.j0 k l0 l1 t855 t858 true))))) = some r := H
      have A13 := Aside0.mk A130
      clear A130
      replace H := Option.bind_eq_some_iff.mp H
      obtain ⟨t855, A140, H⟩ := H
      replace H : ((laws_toInstrS.f k l1).bind fun t858 => ((impl_DifferenceOf.f k t855 t858 a2).bind fun bt861 => (if bt861.1 = t852 then (if bt861.2.1 = t853 then (laws_FnExactDifferenceOf.j0 k l0 l1 t855 t858 (bt861.2.2 != t854)) else (laws_FnExactDifferenceOf.j0 k l0 l1 t855 t858 true)) else (laws_FnExactDifferenceOf.j0 k l0 l1 t855 t858 true)))) = some r := H
      have A14 := Aside0.mk A140
      clear A140
      replace H := Option.bind_eq_some_iff.mp H
      obtain ⟨t858, A150, H⟩ := H
      replace H : ((impl_DifferenceOf.f k t855 t858 a2).bind fun bt861 => (if bt861.1 = t852 then (if bt861.2.1 = t853 then (laws_FnExactDifferenceOf.j0 k l0 l1 t855 t858 (bt861.2.2 != t854)) else (laws_FnExactDifferenceOf.j0 k l0 l1 t855 t858 true)) else (laws_FnExactDifferenceOf.j0 k l0 l1 t855 t858 true))) = some r := H
      have A15 := Aside0.mk A150
      clear A150
      replace H := Option.bind_eq_some_iff.mp H
      obtain ⟨⟨t861, t862, t863⟩, A160, H⟩ := H
      replace H : (if t861 = t852 then (if t862 = t853 then (laws_FnExactDifferenceOf.j0 k l0 l1 t855 t858 (t863 != t854)) else (laws_FnExactDifferenceOf.j0 k l0 l1 t855 t858 true)) else (laws_FnExactDifferenceOf.j0 k l0 l1 t855 t858 true)) = some r := H
      have A16 := Aside0.mk A160
      clear A160
      have HC17 := Aside0.mk H
      clear H
      go_enter Try.func11, Try.ntmps11
      go_upto_region 12 with (first | ((with_reducible refine gate_callee (f := 26) rfl ?_); refine gK (some 18) Try.func26 #[.slice A0 l0.length c0, .int .i64 1048576] rfl rfl rfl ?_; (with_reducible refine (laws_szNodeS.calls k _ _ l0 1048576 t844 _ ?side1 ?side2 A4.out).mono ?_); (case side1 => exact cb HR0.out); (case side2 => exact HC0.out); rintro e w18 ⟨rfl, hb⟩; refine ⟨_, rfl, ?_⟩; replace HB := Aside0.mk (below_step BA hb); (try clear hb)) | ((with_reducible refine gate_callee (f := 16) rfl ?_); refine gK (some 23) Try.func16 #[.slice A1 l1.length c1, .int .i64 t844] rfl rfl rfl ?_; (with_reducible refine (laws_szInstrS.calls k _ _ l1 t844 t845 _ ?side1 ?side2 A7.out).mono ?_); (case side1 => exact cb (Kd.C_below HR1.out HB.out)); (case side2 => exact HC1.out); rintro e w19 ⟨rfl, hb⟩; refine ⟨_, rfl, ?_⟩; replace HB := Aside0.mk (below_step BA hb); (try clear hb)) | ((with_reducible refine gate_callee (f := 28) rfl ?_); refine gK (some 28) Try.func28 #[.slice A0 l0.length c0] rfl rfl rfl ?_; (with_reducible refine (laws_toNodeS.calls k _ _ l0 t846 _ ?side1 ?side2 A11.out).mono ?_); (case side1 => exact cb (Kd.C_below HR0.out HB.out)); (case side2 => exact HC0.out); rintro e w20 ⟨v847, rfl, ho0, hb⟩; refine ⟨_, rfl, ?_⟩; have HO848 := Aside0.mk (Kd.R_lower ho0 (below_size BA)); replace HB := Aside0.mk (below_step BA hb); (try clear hb); (try clear ho0)) | ((with_reducible refine gate_callee (f := 18) rfl ?_); refine gK (some 30) Try.func18 #[.slice A1 l1.length c1] rfl rfl rfl ?_; (with_reducible refine (laws_toInstrS.calls k _ _ l1 t849 _ ?side1 ?side2 A12.out).mono ?_); (case side1 => exact cb (Kd.C_below HR1.out HB.out)); (case side2 => exact HC1.out); rintro e w21 ⟨v850, rfl, ho0, hb⟩; refine ⟨_, rfl, ?_⟩; replace HO848 := Aside0.mk (Kd.R_below (by (with_reducible repeat (first | apply Kd.R_alloc | apply Kd.R_drewN | apply Kd.R_drew)); exact HO848.out) hb); have HO851 := Aside0.mk (Kd.R_lower ho0 (below_size BA)); replace HB := Aside0.mk (below_step BA hb); (try clear hb); (try clear ho0); obtain ⟨Ao22, co22, eo22⟩ := Kd.R_slice HO848.out; subst eo22; obtain ⟨Ao23, co23, eo23⟩ := Kd.R_slice HO851.out; subst eo23) | ((with_reducible refine gate_callee (f := 47) rfl ?_); refine gK (some 32) Try.func47 #[.slice Ao22 t846.length co22, .slice Ao23 t849.length co23, .int .i64 a2] rfl rfl rfl ?_; (with_reducible refine (spec_DifferenceOf.calls k _ _ t846 _ _ t849 a2 t852 t853 t854 _ ?side1 ?side2 ?side3 ?side4 A13.out).mono ?_); (case side1 => exact cb (Kd.R_reads' HO848.out).2.2); (case side2 => exact (Kd.R_reads' HO848.out).2.1); (case side3 => exact cb (Kd.R_reads' HO851.out).2.2); (case side4 => exact (Kd.R_reads' HO851.out).2.1); rintro e w24 ⟨rfl, hb⟩; refine ⟨_, rfl, ?_⟩; replace HO848 := Aside0.mk (Kd.R_below (by (with_reducible repeat (first | apply Kd.R_alloc | apply Kd.R_drewN | apply Kd.R_drew)); exact HO848.out) hb); replace HO851 := Aside0.mk (Kd.R_below (by (with_reducible repeat (first | apply Kd.R_alloc | apply Kd.R_drewN | apply Kd.R_drew)); exact HO851.out) hb); replace HB := Aside0.mk (below_step BA hb); (try clear hb)) | ((with_reducible refine gate_callee (f := 28) rfl ?_); refine gK (some 37) Try.func28 #[.slice A0 l0.length c0] rfl rfl rfl ?_; (with_reducible refine (laws_toNodeS.calls k _ _ l0 t855 _ ?side1 ?side2 A14.out).mono ?_); (case side1 => exact cb (Kd.C_below HR0.out HB.out)); (case side2 => exact HC0.out); rintro e w25 ⟨v856, rfl, ho0, hb⟩; refine ⟨_, rfl, ?_⟩; replace HO851 := Aside0.mk (Kd.R_below (by (with_reducible repeat (first | apply Kd.R_alloc | apply Kd.R_drewN | apply Kd.R_drew)); exact HO851.out) hb); have HO857 := Aside0.mk (Kd.R_lower (Kd.R_new' ho0 (Kd.R_lt (by (with_reducible repeat (first | apply Kd.R_alloc | apply Kd.R_drewN | apply Kd.R_drew)); exact HO848.out))) (below_size BA)); replace HO848 := Aside0.mk (Kd.R_elder' (by (with_reducible repeat (first | apply Kd.R_alloc | apply Kd.R_drewN | apply Kd.R_drew)); exact HO848.out) (Kd.R_base ho0) hb); replace HB := Aside0.mk (below_step BA hb); (try clear hb); (try clear ho0)) | ((with_reducible refine gate_callee (f := 18) rfl ?_); refine gK (some 39) Try.func18 #[.slice A1 l1.length c1] rfl rfl rfl ?_; (with_reducible refine (laws_toInstrS.calls k _ _ l1 t858 _ ?side1 ?side2 A15.out).mono ?_); (case side1 => exact cb (Kd.C_below HR1.out HB.out)); (case side2 => exact HC1.out); rintro e w26 ⟨v859, rfl, ho0, hb⟩; refine ⟨_, rfl, ?_⟩; replace HO848 := Aside0.mk (Kd.R_below (by (with_reducible repeat (first | apply Kd.R_alloc | apply Kd.R_drewN | apply Kd.R_drew)); exact HO848.out) hb); replace HO857 := Aside0.mk (Kd.R_below (by (with_reducible repeat (first | apply Kd.R_alloc | apply Kd.R_drewN | apply Kd.R_drew)); exact HO857.out) hb); have HO860 := Aside0.mk (Kd.R_lower (Kd.R_new' ho0 (Kd.R_lt (by (with_reducible repeat (first | apply Kd.R_alloc | apply Kd.R_drewN | apply Kd.R_drew)); exact HO851.out))) (below_size BA)); replace HO851 := Aside0.mk (Kd.R_elder' (by (with_reducible repeat (first | apply Kd.R_alloc | apply Kd.R_drewN | apply Kd.R_drew)); exact HO851.out) (Kd.R_base ho0) hb); replace HB := Aside0.mk (below_step BA hb); (try clear hb); (try clear ho0); obtain ⟨Ao27, co27, eo27⟩ := Kd.R_slice HO857.out; subst eo27; obtain ⟨Ao28, co28, eo28⟩ := Kd.R_slice HO860.out; subst eo28) | ((with_reducible refine gate_callee (f := 48) rfl ?_); refine gK (some 44) Try.func48 #[.slice Ao27 t855.length co27, .slice Ao28 t858.length co28, .int .i64 a2] rfl rfl rfl ?_; (with_reducible refine (impl_DifferenceOf.calls k _ _ t855 _ _ t858 a2 t861 t862 t863 _ ?side1 ?side2 ?side3 ?side4 A16.out).mono ?_); (case side1 => exact cb (Kd.R_reads' HO857.out).2.2); (case side2 => exact (Kd.R_reads' HO857.out).2.1); (case side3 => exact cb (Kd.R_reads' HO860.out).2.2); (case side4 => exact (Kd.R_reads' HO860.out).2.1); rintro e w29 ⟨rfl, hb⟩; refine ⟨_, rfl, ?_⟩; replace HO848 := Aside0.mk (Kd.R_below (by (with_reducible repeat (first | apply Kd.R_alloc | apply Kd.R_drewN | apply Kd.R_drew)); exact HO848.out) hb); replace HO851 := Aside0.mk (Kd.R_below (by (with_reducible repeat (first | apply Kd.R_alloc | apply Kd.R_drewN | apply Kd.R_drew)); exact HO851.out) hb); replace HO857 := Aside0.mk (Kd.R_below (by (with_reducible repeat (first | apply Kd.R_alloc | apply Kd.R_drewN | apply Kd.R_drew)); exact HO857.out) hb); replace HO860 := Aside0.mk (Kd.R_below (by (with_reducible repeat (first | apply Kd.R_alloc | apply Kd.R_drewN | apply Kd.R_drew)); exact HO860.out) hb); replace HB := Aside0.mk (below_step BA hb); (try clear hb)))
      (try simp only [Act.put, List.setIfInBounds_toArray, List.set_cons_zero, List.set_cons_succ])
      go_cut [60] (fun v60 wc => ∃ (kq : Nat) (x60_16 : Bool), v60 = .bool x60_16 ∧ Aside0 (laws_FnExactDifferenceOf.j0 kq l0 l1 t855 t858 x60_16 = some r) ∧ Aside0 (kq ≤ k) ∧ Aside0 (Kd.R k104 104 wc w.heap.size (fun _ => True) (.slice Ao27 t855.length co27) t855) ∧ Aside0 (Kd.R k80 80 wc w.heap.size (fun _ => True) (.slice Ao28 t858.length co28) t858) ∧ Aside0 (Below w.heap.size w wc))
      case first =>
        have H := HC17.out
        clear HC17
        by_cases c30 : t861 = t852
        · rw [if_pos c30] at H
          have c30b0 := beq_iff_eq.mpr c30
          have c30b1 := bne_eq_false_iff_eq.mpr c30
          clear c30
          (first | rw [c30b0] | (simp only [i64_w, i32_w]; rw [c30b0]) | skip)
          by_cases c31 : t862 = t853
          · rw [if_pos c31] at H
            have c31b0 := beq_iff_eq.mpr c31
            have c31b1 := bne_eq_false_iff_eq.mpr c31
            clear c31
            have H' := Aside0.mk H
            clear H
            go_wp2
            go_meet
            case rel => exact ⟨_, ((t863 != t854)), EQ1, H', ⟨by first | omega | exact Nat.le_refl _⟩, ⟨by (with_reducible repeat (first | apply Kd.R_alloc | apply Kd.R_drewN | apply Kd.R_drew)); exact Kd.R_mono HO857.out (fun _ hk => trivial)⟩, ⟨by (with_reducible repeat (first | apply Kd.R_alloc | apply Kd.R_drewN | apply Kd.R_drew)); exact Kd.R_mono HO860.out (fun _ hk => trivial)⟩, ⟨BA⟩⟩
          · rw [if_neg c31] at H
            have c31b0 := beq_eq_false_iff_ne.mpr c31
            have c31b1 := bne_iff_ne.mpr c31
            have H' := Aside0.mk H
            clear H
            go_wp2
            go_meet
            case rel => exact ⟨_, (true), EQ1, H', ⟨by first | omega | exact Nat.le_refl _⟩, ⟨by (with_reducible repeat (first | apply Kd.R_alloc | apply Kd.R_drewN | apply Kd.R_drew)); exact Kd.R_mono HO857.out (fun _ hk => trivial)⟩, ⟨by (with_reducible repeat (first | apply Kd.R_alloc | apply Kd.R_drewN | apply Kd.R_drew)); exact Kd.R_mono HO860.out (fun _ hk => trivial)⟩, ⟨BA⟩⟩
        · rw [if_neg c30] at H
          have c30b0 := beq_eq_false_iff_ne.mpr c30
          have c30b1 := bne_iff_ne.mpr c30
          (first | rw [c30b0] | (simp only [i64_w, i32_w]; rw [c30b0]) | skip)
          have H' := Aside0.mk H
          clear H
          go_wp2
          go_meet
          case rel => exact ⟨_, (true), EQ1, H', ⟨by first | omega | exact Nat.le_refl _⟩, ⟨by (with_reducible repeat (first | apply Kd.R_alloc | apply Kd.R_drewN | apply Kd.R_drew)); exact Kd.R_mono HO857.out (fun _ hk => trivial)⟩, ⟨by (with_reducible repeat (first | apply Kd.R_alloc | apply Kd.R_drewN | apply Kd.R_drew)); exact Kd.R_mono HO860.out (fun _ hk => trivial)⟩, ⟨BA⟩⟩
      case rest =>
        clear HC17
        (try clear c1); (try clear c2); (try clear p2); (try clear c3); (try clear c4); (try clear c5); (try clear c5b0); (try clear c8); (try clear c8b0); (try clear c11); (try clear c16); (try clear c18); (try clear c26); (try clear c28); (try clear c30); (try clear c30b0); (try clear c30b1); (try clear c31); (try clear c31b0); (try clear c31b1)
        obtain ⟨kq, x60_16, rfl, HA, HJ16, HO_11, HO_12, HB⟩ := hcut
        cases kq with
        | zero => exact absurd HA.out (by simp [laws_FnExactDifferenceOf.j0])
        | succ kj16 =>
          have H := HA.out
          clear HA
          simp only [laws_FnExactDifferenceOf.j0] at H
          by_cases c32 : x60_16 = true
          · subst c32
            have H1 : (some false) = some r := by rw [if_pos rfl] at H; exact H
            clear H
            have H := H1
            clear H1
            obtain rfl := Option.some.inj H
            go_wp2
            go_ret
            exact ⟨EQ, BA⟩
          · replace c32 := Bool.eq_false_iff.mpr c32
            subst c32
            have H1 : ((laws_toNodeS.f kj16 l0).bind fun t864 => ((laws_eqNodeS.f kj16 t855 t864).bind fun t867 => (if t867 = true then ((laws_toInstrS.f kj16 l1).bind fun t868 => ((laws_eqInstrS.f kj16 t858 t868).bind fun t871 => (if t871 = true then (some true) else (some false)))) else (some false)))) = some r := by rw [if_neg (show ¬ (false = true) by decide)] at H; exact H
            clear H
            have H := H1
            clear H1
            replace H := Option.bind_eq_some_iff.mp H
            obtain ⟨t864, A330, H⟩ := H
            replace H : ((laws_eqNodeS.f kj16 t855 t864).bind fun t867 => (if t867 = true then ((laws_toInstrS.f kj16 l1).bind fun t868 => ((laws_eqInstrS.f kj16 t858 t868).bind fun t871 => (if t871 = true then (some true) else (some false)))) else (some false))) = some r := H
            have A33 := Aside0.mk A330
            clear A330
            replace H := Option.bind_eq_some_iff.mp H
            obtain ⟨t867, A340, H⟩ := H
            replace H : (if t867 = true then ((laws_toInstrS.f kj16 l1).bind fun t868 => ((laws_eqInstrS.f kj16 t858 t868).bind fun t871 => (if t871 = true then (some true) else (some false)))) else (some false)) = some r := H
            have A34 := Aside0.mk A340
            clear A340
            by_cases c35 : t867 = true
            · subst c35
              have H1 : ((laws_toInstrS.f kj16 l1).bind fun t868 => ((laws_eqInstrS.f kj16 t858 t868).bind fun t871 => (if t871 = true then (some true) else (some false)))) = some r := by rw [if_pos rfl] at H; exact H
              clear H
              have H := H1
              clear H1
              replace H := Option.bind_eq_some_iff.mp H
              obtain ⟨t868, A360, H⟩ := H
              replace H : ((laws_eqInstrS.f kj16 t858 t868).bind fun t871 => (if t871 = true then (some true) else (some false))) = some r := H
              have A36 := Aside0.mk A360
              clear A360
              replace H := Option.bind_eq_some_iff.mp H
              obtain ⟨t871, A370, H⟩ := H
              replace H : (if t871 = true then (some true) else (some false)) = some r := H
              have A37 := Aside0.mk A370
              clear A370
              by_cases c38 : t871 = true
              · subst c38
                have H1 : (some true) = some r := by rw [if_pos rfl] at H; exact H
                clear H
                have H := H1
                clear H1
                obtain rfl := Option.some.inj H
                go_wp2_with (first | ((with_reducible refine gate_callee (f := 28) rfl ?_); refine gK (some 63) Try.func28 #[.slice A0 l0.length c0] rfl rfl rfl ?_; (with_reducible refine (laws_toNodeS.calls kj16 _ _ l0 t864 _ ?side1 ?side2 A33.out).mono ?_); (case side1 => exact cb (Kd.C_below HR0.out HB.out)); (case side2 => exact HC0.out); rintro e w39 ⟨v865, rfl, ho0, hb⟩; refine ⟨_, rfl, ?_⟩; replace HO_12 := Aside0.mk (Kd.R_below (by (with_reducible repeat (first | apply Kd.R_alloc | apply Kd.R_drewN | apply Kd.R_drew)); exact HO_12.out) hb); have HO866 := Aside0.mk (Kd.R_lower (Kd.R_new' ho0 (Kd.R_lt (by (with_reducible repeat (first | apply Kd.R_alloc | apply Kd.R_drewN | apply Kd.R_drew)); exact HO_11.out))) (below_size BA)); replace HO_11 := Aside0.mk (Kd.R_elder' (by (with_reducible repeat (first | apply Kd.R_alloc | apply Kd.R_drewN | apply Kd.R_drew)); exact HO_11.out) (Kd.R_base ho0) hb); replace HB := Aside0.mk (below_step BA hb); (try clear hb); (try clear ho0); obtain ⟨Ao40, co40, eo40⟩ := Kd.R_slice HO866.out; subst eo40) | ((with_reducible refine gate_callee (f := 30) rfl ?_); refine gK (some 64) Try.func30 #[.slice Ao27 t855.length co27, .slice Ao40 t864.length co40] rfl rfl rfl ?_; (with_reducible refine (laws_eqNodeS.calls kj16 _ _ t855 _ _ t864 true _ ?side1 ?side2 ?side3 ?side4 A34.out).mono ?_); (case side1 => exact cb (Kd.R_reads' HO_11.out).2.2); (case side2 => exact (Kd.R_reads' HO_11.out).2.1); (case side3 => exact cb (Kd.R_reads' HO866.out).2.2); (case side4 => exact (Kd.R_reads' HO866.out).2.1); rintro e w41 ⟨rfl, hb⟩; refine ⟨_, rfl, ?_⟩; replace HO_11 := Aside0.mk (Kd.R_below (by (with_reducible repeat (first | apply Kd.R_alloc | apply Kd.R_drewN | apply Kd.R_drew)); exact HO_11.out) hb); replace HO_12 := Aside0.mk (Kd.R_below (by (with_reducible repeat (first | apply Kd.R_alloc | apply Kd.R_drewN | apply Kd.R_drew)); exact HO_12.out) hb); replace HO866 := Aside0.mk (Kd.R_below (by (with_reducible repeat (first | apply Kd.R_alloc | apply Kd.R_drewN | apply Kd.R_drew)); exact HO866.out) hb); replace HB := Aside0.mk (below_step BA hb); (try clear hb)) | ((with_reducible refine gate_callee (f := 18) rfl ?_); refine gK (some 68) Try.func18 #[.slice A1 l1.length c1] rfl rfl rfl ?_; (with_reducible refine (laws_toInstrS.calls kj16 _ _ l1 t868 _ ?side1 ?side2 A36.out).mono ?_); (case side1 => exact cb (Kd.C_below HR1.out HB.out)); (case side2 => exact HC1.out); rintro e w42 ⟨v869, rfl, ho0, hb⟩; refine ⟨_, rfl, ?_⟩; replace HO_11 := Aside0.mk (Kd.R_below (by (with_reducible repeat (first | apply Kd.R_alloc | apply Kd.R_drewN | apply Kd.R_drew)); exact HO_11.out) hb); replace HO866 := Aside0.mk (Kd.R_below (by (with_reducible repeat (first | apply Kd.R_alloc | apply Kd.R_drewN | apply Kd.R_drew)); exact HO866.out) hb); have HO870 := Aside0.mk (Kd.R_lower (Kd.R_new' ho0 (Kd.R_lt (by (with_reducible repeat (first | apply Kd.R_alloc | apply Kd.R_drewN | apply Kd.R_drew)); exact HO_12.out))) (below_size BA)); replace HO_12 := Aside0.mk (Kd.R_elder' (by (with_reducible repeat (first | apply Kd.R_alloc | apply Kd.R_drewN | apply Kd.R_drew)); exact HO_12.out) (Kd.R_base ho0) hb); replace HB := Aside0.mk (below_step BA hb); (try clear hb); (try clear ho0); obtain ⟨Ao43, co43, eo43⟩ := Kd.R_slice HO870.out; subst eo43) | ((with_reducible refine gate_callee (f := 20) rfl ?_); refine gK (some 69) Try.func20 #[.slice Ao28 t858.length co28, .slice Ao43 t868.length co43] rfl rfl rfl ?_; (with_reducible refine (laws_eqInstrS.calls kj16 _ _ t858 _ _ t868 true _ ?side1 ?side2 ?side3 ?side4 A37.out).mono ?_); (case side1 => exact cb (Kd.R_reads' HO_12.out).2.2); (case side2 => exact (Kd.R_reads' HO_12.out).2.1); (case side3 => exact cb (Kd.R_reads' HO870.out).2.2); (case side4 => exact (Kd.R_reads' HO870.out).2.1); rintro e w44 ⟨rfl, hb⟩; refine ⟨_, rfl, ?_⟩; replace HO_11 := Aside0.mk (Kd.R_below (by (with_reducible repeat (first | apply Kd.R_alloc | apply Kd.R_drewN | apply Kd.R_drew)); exact HO_11.out) hb); replace HO_12 := Aside0.mk (Kd.R_below (by (with_reducible repeat (first | apply Kd.R_alloc | apply Kd.R_drewN | apply Kd.R_drew)); exact HO_12.out) hb); replace HO866 := Aside0.mk (Kd.R_below (by (with_reducible repeat (first | apply Kd.R_alloc | apply Kd.R_drewN | apply Kd.R_drew)); exact HO866.out) hb); replace HO870 := Aside0.mk (Kd.R_below (by (with_reducible repeat (first | apply Kd.R_alloc | apply Kd.R_drewN | apply Kd.R_drew)); exact HO870.out) hb); replace HB := Aside0.mk (below_step BA hb); (try clear hb)))
                go_ret
                exact ⟨EQ, BA⟩
              · replace c38 := Bool.eq_false_iff.mpr c38
                subst c38
                have H1 : (some false) = some r := by rw [if_neg (show ¬ (false = true) by decide)] at H; exact H
                clear H
                have H := H1
                clear H1
                obtain rfl := Option.some.inj H
                go_wp2_with (first | ((with_reducible refine gate_callee (f := 28) rfl ?_); refine gK (some 63) Try.func28 #[.slice A0 l0.length c0] rfl rfl rfl ?_; (with_reducible refine (laws_toNodeS.calls kj16 _ _ l0 t864 _ ?side1 ?side2 A33.out).mono ?_); (case side1 => exact cb (Kd.C_below HR0.out HB.out)); (case side2 => exact HC0.out); rintro e w45 ⟨v865, rfl, ho0, hb⟩; refine ⟨_, rfl, ?_⟩; replace HO_12 := Aside0.mk (Kd.R_below (by (with_reducible repeat (first | apply Kd.R_alloc | apply Kd.R_drewN | apply Kd.R_drew)); exact HO_12.out) hb); have HO866 := Aside0.mk (Kd.R_lower (Kd.R_new' ho0 (Kd.R_lt (by (with_reducible repeat (first | apply Kd.R_alloc | apply Kd.R_drewN | apply Kd.R_drew)); exact HO_11.out))) (below_size BA)); replace HO_11 := Aside0.mk (Kd.R_elder' (by (with_reducible repeat (first | apply Kd.R_alloc | apply Kd.R_drewN | apply Kd.R_drew)); exact HO_11.out) (Kd.R_base ho0) hb); replace HB := Aside0.mk (below_step BA hb); (try clear hb); (try clear ho0); obtain ⟨Ao46, co46, eo46⟩ := Kd.R_slice HO866.out; subst eo46) | ((with_reducible refine gate_callee (f := 30) rfl ?_); refine gK (some 64) Try.func30 #[.slice Ao27 t855.length co27, .slice Ao46 t864.length co46] rfl rfl rfl ?_; (with_reducible refine (laws_eqNodeS.calls kj16 _ _ t855 _ _ t864 true _ ?side1 ?side2 ?side3 ?side4 A34.out).mono ?_); (case side1 => exact cb (Kd.R_reads' HO_11.out).2.2); (case side2 => exact (Kd.R_reads' HO_11.out).2.1); (case side3 => exact cb (Kd.R_reads' HO866.out).2.2); (case side4 => exact (Kd.R_reads' HO866.out).2.1); rintro e w47 ⟨rfl, hb⟩; refine ⟨_, rfl, ?_⟩; replace HO_11 := Aside0.mk (Kd.R_below (by (with_reducible repeat (first | apply Kd.R_alloc | apply Kd.R_drewN | apply Kd.R_drew)); exact HO_11.out) hb); replace HO_12 := Aside0.mk (Kd.R_below (by (with_reducible repeat (first | apply Kd.R_alloc | apply Kd.R_drewN | apply Kd.R_drew)); exact HO_12.out) hb); replace HO866 := Aside0.mk (Kd.R_below (by (with_reducible repeat (first | apply Kd.R_alloc | apply Kd.R_drewN | apply Kd.R_drew)); exact HO866.out) hb); replace HB := Aside0.mk (below_step BA hb); (try clear hb)) | ((with_reducible refine gate_callee (f := 18) rfl ?_); refine gK (some 68) Try.func18 #[.slice A1 l1.length c1] rfl rfl rfl ?_; (with_reducible refine (laws_toInstrS.calls kj16 _ _ l1 t868 _ ?side1 ?side2 A36.out).mono ?_); (case side1 => exact cb (Kd.C_below HR1.out HB.out)); (case side2 => exact HC1.out); rintro e w48 ⟨v869, rfl, ho0, hb⟩; refine ⟨_, rfl, ?_⟩; replace HO_11 := Aside0.mk (Kd.R_below (by (with_reducible repeat (first | apply Kd.R_alloc | apply Kd.R_drewN | apply Kd.R_drew)); exact HO_11.out) hb); replace HO866 := Aside0.mk (Kd.R_below (by (with_reducible repeat (first | apply Kd.R_alloc | apply Kd.R_drewN | apply Kd.R_drew)); exact HO866.out) hb); have HO870 := Aside0.mk (Kd.R_lower (Kd.R_new' ho0 (Kd.R_lt (by (with_reducible repeat (first | apply Kd.R_alloc | apply Kd.R_drewN | apply Kd.R_drew)); exact HO_12.out))) (below_size BA)); replace HO_12 := Aside0.mk (Kd.R_elder' (by (with_reducible repeat (first | apply Kd.R_alloc | apply Kd.R_drewN | apply Kd.R_drew)); exact HO_12.out) (Kd.R_base ho0) hb); replace HB := Aside0.mk (below_step BA hb); (try clear hb); (try clear ho0); obtain ⟨Ao49, co49, eo49⟩ := Kd.R_slice HO870.out; subst eo49) | ((with_reducible refine gate_callee (f := 20) rfl ?_); refine gK (some 69) Try.func20 #[.slice Ao28 t858.length co28, .slice Ao49 t868.length co49] rfl rfl rfl ?_; (with_reducible refine (laws_eqInstrS.calls kj16 _ _ t858 _ _ t868 false _ ?side1 ?side2 ?side3 ?side4 A37.out).mono ?_); (case side1 => exact cb (Kd.R_reads' HO_12.out).2.2); (case side2 => exact (Kd.R_reads' HO_12.out).2.1); (case side3 => exact cb (Kd.R_reads' HO870.out).2.2); (case side4 => exact (Kd.R_reads' HO870.out).2.1); rintro e w50 ⟨rfl, hb⟩; refine ⟨_, rfl, ?_⟩; replace HO_11 := Aside0.mk (Kd.R_below (by (with_reducible repeat (first | apply Kd.R_alloc | apply Kd.R_drewN | apply Kd.R_drew)); exact HO_11.out) hb); replace HO_12 := Aside0.mk (Kd.R_below (by (with_reducible repeat (first | apply Kd.R_alloc | apply Kd.R_drewN | apply Kd.R_drew)); exact HO_12.out) hb); replace HO866 := Aside0.mk (Kd.R_below (by (with_reducible repeat (first | apply Kd.R_alloc | apply Kd.R_drewN | apply Kd.R_drew)); exact HO866.out) hb); replace HO870 := Aside0.mk (Kd.R_below (by (with_reducible repeat (first | apply Kd.R_alloc | apply Kd.R_drewN | apply Kd.R_drew)); exact HO870.out) hb); replace HB := Aside0.mk (below_step BA hb); (try clear hb)))
                go_ret
                exact ⟨EQ, BA⟩
            · replace c35 := Bool.eq_false_iff.mpr c35
              subst c35
              have H1 : (some false) = some r := by rw [if_neg (show ¬ (false = true) by decide)] at H; exact H
              clear H
              have H := H1
              clear H1
              obtain rfl := Option.some.inj H
              go_wp2_with (first | ((with_reducible refine gate_callee (f := 28) rfl ?_); refine gK (some 63) Try.func28 #[.slice A0 l0.length c0] rfl rfl rfl ?_; (with_reducible refine (laws_toNodeS.calls kj16 _ _ l0 t864 _ ?side1 ?side2 A33.out).mono ?_); (case side1 => exact cb (Kd.C_below HR0.out HB.out)); (case side2 => exact HC0.out); rintro e w51 ⟨v865, rfl, ho0, hb⟩; refine ⟨_, rfl, ?_⟩; replace HO_12 := Aside0.mk (Kd.R_below (by (with_reducible repeat (first | apply Kd.R_alloc | apply Kd.R_drewN | apply Kd.R_drew)); exact HO_12.out) hb); have HO866 := Aside0.mk (Kd.R_lower (Kd.R_new' ho0 (Kd.R_lt (by (with_reducible repeat (first | apply Kd.R_alloc | apply Kd.R_drewN | apply Kd.R_drew)); exact HO_11.out))) (below_size BA)); replace HO_11 := Aside0.mk (Kd.R_elder' (by (with_reducible repeat (first | apply Kd.R_alloc | apply Kd.R_drewN | apply Kd.R_drew)); exact HO_11.out) (Kd.R_base ho0) hb); replace HB := Aside0.mk (below_step BA hb); (try clear hb); (try clear ho0); obtain ⟨Ao52, co52, eo52⟩ := Kd.R_slice HO866.out; subst eo52) | ((with_reducible refine gate_callee (f := 30) rfl ?_); refine gK (some 64) Try.func30 #[.slice Ao27 t855.length co27, .slice Ao52 t864.length co52] rfl rfl rfl ?_; (with_reducible refine (laws_eqNodeS.calls kj16 _ _ t855 _ _ t864 false _ ?side1 ?side2 ?side3 ?side4 A34.out).mono ?_); (case side1 => exact cb (Kd.R_reads' HO_11.out).2.2); (case side2 => exact (Kd.R_reads' HO_11.out).2.1); (case side3 => exact cb (Kd.R_reads' HO866.out).2.2); (case side4 => exact (Kd.R_reads' HO866.out).2.1); rintro e w53 ⟨rfl, hb⟩; refine ⟨_, rfl, ?_⟩; replace HO_11 := Aside0.mk (Kd.R_below (by (with_reducible repeat (first | apply Kd.R_alloc | apply Kd.R_drewN | apply Kd.R_drew)); exact HO_11.out) hb); replace HO_12 := Aside0.mk (Kd.R_below (by (with_reducible repeat (first | apply Kd.R_alloc | apply Kd.R_drewN | apply Kd.R_drew)); exact HO_12.out) hb); replace HO866 := Aside0.mk (Kd.R_below (by (with_reducible repeat (first | apply Kd.R_alloc | apply Kd.R_drewN | apply Kd.R_drew)); exact HO866.out) hb); replace HB := Aside0.mk (below_step BA hb); (try clear hb)))
              go_ret
              exact ⟨EQ, BA⟩

end Go.Proofs.Ytefipbekabmncaa.Pa
