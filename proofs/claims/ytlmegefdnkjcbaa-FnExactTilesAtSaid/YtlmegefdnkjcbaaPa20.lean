-- Made by this session's program gen.py over the translation.
import Derived.Test.YtlmegefdnkjcbaaPa0
import Derived.Test.YtlmegefdnkjcbaaPa1
import Derived.Test.YtlmegefdnkjcbaaPa3
import Derived.Test.YtlmegefdnkjcbaaPa4
import Derived.Test.YtlmegefdnkjcbaaPa5
import Derived.Test.YtlmegefdnkjcbaaPa9
import Derived.Test.YtlmegefdnkjcbaaPa10
import Derived.Test.YtlmegefdnkjcbaaPa11
import Derived.Test.YtlmegefdnkjcbaaPa13
namespace Go.Proofs.Ytlmegefdnkjcbaa.Pa
open Go.RowKit Go.Proofs.YtlmegefdnkjcbaaW.PrintWords Go.Proofs.YtlmegefdnkjcbaaW.PrintLast Go.Proofs.YtlmegefdnkjcbaaW.PrintMore
attribute [local go_sem] max2_int min2_int max_two min_two max_three min_three max_four min_four   -- for this text's walks alone
set_option linter.unusedVariables false
set_option linter.unusedSimpArgs false
set_option maxHeartbeats 8000000
set_option maxRecDepth 100000

/-! ### spec_TilesAt: function 28 -/
def spec_TilesAt.f (k : Nat) (l0 : List (S54)) (a1 : Int) : Option (List Int × Bool) := (spec_cvTree.f k l0).bind fun t1018 => (if t1018 = true then ((spec_l1In.f a1 0 (wrap64 ((l0.length : Int) - 1))).bind fun t1019 => (if t1019 = true then ((spec_cvTiles.f k l0 a1).bind fun t1020 => (some (t1020, true))) else (some (([] : List Int), false)))) else (some (([] : List Int), false)))
theorem spec_TilesAt.calls (k : Nat) (A0 : Option Addr) (c0 : Nat) (l0 : List (S54)) (a1 : Int) (r1 : List Int) (r2 : Bool) (w : World) (hr0 : Kd.C k54 w A0 l0.length l0) (hc0 : l0.length ≤ c0) (h : spec_TilesAt.f k l0 a1 = some (r1, r2)) :
  Calls Try.prog 28 #[.slice A0 l0.length c0, .int .i64 a1] w fun e w' => ∃ v0_ : Value, e = .returned (.tuple #[v0_, .bool r2]) ∧ Kd.R (Kd.int .i64) 3 w' w.heap.size (fun _ => True) v0_ r1 ∧ Below w.heap.size w w' := by
 have HR0 := Aside0.mk hr0
 have HC0 := Aside0.mk hc0
 clear hr0 hc0
 have HB := Aside0.mk (Below.refl w.heap.size w)
 have H := h
 clear h
 unfold spec_TilesAt.f at H
 obtain ⟨t1018, A3, H⟩ := ob H
 (try dsimp only at H)
 by_cases c4 : t1018 = true
 ·subst c4
  rw [if_pos rfl] at H
  obtain ⟨t1019, A5, H⟩ := ob H
  (try dsimp only at H)
  by_cases c6 : t1019 = true
  ·subst c6
   rw [if_pos rfl] at H
   obtain ⟨t1020, A7, H⟩ := ob H
   (try dsimp only at H)
   simp only [Option.some.injEq, Prod.mk.injEq] at H
   obtain ⟨rfl, rfl⟩ := H
   go_enter Try.func28, Try.ntmps28
   go_wp2_with (first | ((with_reducible refine gate_callee (f := 55) rfl ?_); refine gK (some 7) Try.func55 #[.slice A0 l0.length c0] rfl rfl rfl ?_; (with_reducible refine (spec_cvTree.calls k _ _ l0 true _ ?side1 ?side2 A3.out).mono ?_); (case side1 => exact cb HR0.out); (case side2 => exact HC0.out); rintro e w8 ⟨rfl, hb⟩; refine ⟨_, rfl, ?_⟩; replace HB := bs hb; (try clear hb)) | (go_at_call 56; (with_reducible refine (spec_l1In.calls a1 0 (wrap64 ((l0.length : Int) - 1)) true _ A5.out).mono ?_); rintro e w' ⟨rfl, ⟨nd, rfl⟩⟩) | ((with_reducible refine gate_callee (f := 57) rfl ?_); refine gK (some 19) Try.func57 #[.slice A0 l0.length c0, .int .i64 a1] rfl rfl rfl ?_; (with_reducible refine (spec_cvTiles.calls k _ _ l0 a1 t1020 _ ?side1 ?side2 A7.out).mono ?_); (case side1 => exact cb (Kd.C_below HR0.out BA)); (case side2 => exact HC0.out); rintro e w9 ⟨v1021, rfl, ho0, hb⟩; refine ⟨_, rfl, ?_⟩; have HO1022 := Aside0.mk (Kd.R_lower ho0 (below_size BA)); replace HB := bs hb; (try clear hb); (try clear ho0)))
   go_ret2
   exact ⟨_, EQ, rb HO1022.out, BA⟩
  ·replace c6 := Bool.eq_false_iff.mpr c6
   subst c6
   rw [if_neg (show ¬ (false = true) by decide)] at H
   simp only [Option.some.injEq, Prod.mk.injEq] at H
   obtain ⟨rfl, rfl⟩ := H
   go_enter Try.func28, Try.ntmps28
   go_wp2_with (first | ((with_reducible refine gate_callee (f := 55) rfl ?_); refine gK (some 7) Try.func55 #[.slice A0 l0.length c0] rfl rfl rfl ?_; (with_reducible refine (spec_cvTree.calls k _ _ l0 true _ ?side1 ?side2 A3.out).mono ?_); (case side1 => exact cb HR0.out); (case side2 => exact HC0.out); rintro e w10 ⟨rfl, hb⟩; refine ⟨_, rfl, ?_⟩; replace HB := bs hb; (try clear hb)) | (go_at_call 56; (with_reducible refine (spec_l1In.calls a1 0 (wrap64 ((l0.length : Int) - 1)) false _ A5.out).mono ?_); rintro e w' ⟨rfl, ⟨nd, rfl⟩⟩))
   go_ret2
   exact ⟨_, EQ, by first | exact Kd.R_nil _ _ _ _ _ | exact Kd.N_nil _ _ _ _ _ | exact Kd.V_nil _ _ _ _ _ | exact Kd.Q_nil _ _ _ _ _ | exact Kd.S_nil _ _ _ _ _, BA⟩
 ·replace c4 := Bool.eq_false_iff.mpr c4
  subst c4
  rw [if_neg (show ¬ (false = true) by decide)] at H
  simp only [Option.some.injEq, Prod.mk.injEq] at H
  obtain ⟨rfl, rfl⟩ := H
  go_enter Try.func28, Try.ntmps28
  go_wp2_with (first | ((with_reducible refine gate_callee (f := 55) rfl ?_); refine gK (some 7) Try.func55 #[.slice A0 l0.length c0] rfl rfl rfl ?_; (with_reducible refine (spec_cvTree.calls k _ _ l0 false _ ?side1 ?side2 A3.out).mono ?_); (case side1 => exact cb HR0.out); (case side2 => exact HC0.out); rintro e w11 ⟨rfl, hb⟩; refine ⟨_, rfl, ?_⟩; replace HB := bs hb; (try clear hb)))
  go_ret2
  exact ⟨_, EQ, by first | exact Kd.R_nil _ _ _ _ _ | exact Kd.N_nil _ _ _ _ _ | exact Kd.V_nil _ _ _ _ _ | exact Kd.Q_nil _ _ _ _ _ | exact Kd.S_nil _ _ _ _ _, BA⟩

/-! ### impl_TilesAt: function 29 -/
def impl_TilesAt.f (k : Nat) (l0 : List (S54)) (a1 : Int) : Option (List Int × Bool) := (impl_isTree.f k l0).bind fun t1038 => (if t1038 = true then ((impl_within.f a1 0 (wrap64 ((l0.length : Int) - 1))).bind fun t1039 => (if t1039 = true then ((impl_tilesAt.f k l0 a1).bind fun t1040 => (some (t1040, true))) else (some (([] : List Int), false)))) else (some (([] : List Int), false)))
theorem impl_TilesAt.calls (k : Nat) (A0 : Option Addr) (c0 : Nat) (l0 : List (S54)) (a1 : Int) (r1 : List Int) (r2 : Bool) (w : World) (hr0 : Kd.C k54 w A0 l0.length l0) (hc0 : l0.length ≤ c0) (h : impl_TilesAt.f k l0 a1 = some (r1, r2)) :
  Calls Try.prog 29 #[.slice A0 l0.length c0, .int .i64 a1] w fun e w' => ∃ v0_ : Value, e = .returned (.tuple #[v0_, .bool r2]) ∧ Kd.R (Kd.int .i64) 3 w' w.heap.size (fun _ => True) v0_ r1 ∧ Below w.heap.size w w' := by
 have HR0 := Aside0.mk hr0
 have HC0 := Aside0.mk hc0
 clear hr0 hc0
 have HB := Aside0.mk (Below.refl w.heap.size w)
 have H := h
 clear h
 unfold impl_TilesAt.f at H
 obtain ⟨t1038, A3, H⟩ := ob H
 (try dsimp only at H)
 by_cases c4 : t1038 = true
 ·subst c4
  rw [if_pos rfl] at H
  obtain ⟨t1039, A5, H⟩ := ob H
  (try dsimp only at H)
  by_cases c6 : t1039 = true
  ·subst c6
   rw [if_pos rfl] at H
   obtain ⟨t1040, A7, H⟩ := ob H
   (try dsimp only at H)
   simp only [Option.some.injEq, Prod.mk.injEq] at H
   obtain ⟨rfl, rfl⟩ := H
   go_enter Try.func29, Try.ntmps29
   go_wp2_with (first | ((with_reducible refine gate_callee (f := 58) rfl ?_); refine gK (some 7) Try.func58 #[.slice A0 l0.length c0] rfl rfl rfl ?_; (with_reducible refine (impl_isTree.calls k _ _ l0 true _ ?side1 ?side2 A3.out).mono ?_); (case side1 => exact cb HR0.out); (case side2 => exact HC0.out); rintro e w8 ⟨rfl, hb⟩; refine ⟨_, rfl, ?_⟩; replace HB := bs hb; (try clear hb)) | (go_at_call 59; (with_reducible refine (impl_within.calls a1 0 (wrap64 ((l0.length : Int) - 1)) true _ A5.out).mono ?_); rintro e w' ⟨rfl, ⟨nd, rfl⟩⟩) | ((with_reducible refine gate_callee (f := 60) rfl ?_); refine gK (some 19) Try.func60 #[.slice A0 l0.length c0, .int .i64 a1] rfl rfl rfl ?_; (with_reducible refine (impl_tilesAt.calls k _ _ l0 a1 t1040 _ ?side1 ?side2 A7.out).mono ?_); (case side1 => exact cb (Kd.C_below HR0.out BA)); (case side2 => exact HC0.out); rintro e w9 ⟨v1041, rfl, ho0, hb⟩; refine ⟨_, rfl, ?_⟩; have HO1042 := Aside0.mk (Kd.R_lower ho0 (below_size BA)); replace HB := bs hb; (try clear hb); (try clear ho0)))
   go_ret2
   exact ⟨_, EQ, rb HO1042.out, BA⟩
  ·replace c6 := Bool.eq_false_iff.mpr c6
   subst c6
   rw [if_neg (show ¬ (false = true) by decide)] at H
   simp only [Option.some.injEq, Prod.mk.injEq] at H
   obtain ⟨rfl, rfl⟩ := H
   go_enter Try.func29, Try.ntmps29
   go_wp2_with (first | ((with_reducible refine gate_callee (f := 58) rfl ?_); refine gK (some 7) Try.func58 #[.slice A0 l0.length c0] rfl rfl rfl ?_; (with_reducible refine (impl_isTree.calls k _ _ l0 true _ ?side1 ?side2 A3.out).mono ?_); (case side1 => exact cb HR0.out); (case side2 => exact HC0.out); rintro e w10 ⟨rfl, hb⟩; refine ⟨_, rfl, ?_⟩; replace HB := bs hb; (try clear hb)) | (go_at_call 59; (with_reducible refine (impl_within.calls a1 0 (wrap64 ((l0.length : Int) - 1)) false _ A5.out).mono ?_); rintro e w' ⟨rfl, ⟨nd, rfl⟩⟩))
   go_ret2
   exact ⟨_, EQ, by first | exact Kd.R_nil _ _ _ _ _ | exact Kd.N_nil _ _ _ _ _ | exact Kd.V_nil _ _ _ _ _ | exact Kd.Q_nil _ _ _ _ _ | exact Kd.S_nil _ _ _ _ _, BA⟩
 ·replace c4 := Bool.eq_false_iff.mpr c4
  subst c4
  rw [if_neg (show ¬ (false = true) by decide)] at H
  simp only [Option.some.injEq, Prod.mk.injEq] at H
  obtain ⟨rfl, rfl⟩ := H
  go_enter Try.func29, Try.ntmps29
  go_wp2_with (first | ((with_reducible refine gate_callee (f := 58) rfl ?_); refine gK (some 7) Try.func58 #[.slice A0 l0.length c0] rfl rfl rfl ?_; (with_reducible refine (impl_isTree.calls k _ _ l0 false _ ?side1 ?side2 A3.out).mono ?_); (case side1 => exact cb HR0.out); (case side2 => exact HC0.out); rintro e w11 ⟨rfl, hb⟩; refine ⟨_, rfl, ?_⟩; replace HB := bs hb; (try clear hb)))
  go_ret2
  exact ⟨_, EQ, by first | exact Kd.R_nil _ _ _ _ _ | exact Kd.N_nil _ _ _ _ _ | exact Kd.V_nil _ _ _ _ _ | exact Kd.Q_nil _ _ _ _ _ | exact Kd.S_nil _ _ _ _ _, BA⟩

/-! ### laws_FnExactTilesAt: function 6 -/
mutual
def laws_FnExactTilesAt.j0 : Nat → List (S51) → Int → List Int → Bool → List (S54) → List Int → Bool → Bool → Option (Bool)
 | 0, _, _, _, _, _, _, _, _ => none
 | k + 1, x0, x1, x6, x7, x8, x9, x10, x44 => if x44 = true then (some false) else ((laws_toNodeS.f k x0).bind fun t1059 => ((laws_eqNodeS.f k x8 t1059).bind fun t1062 => (if t1062 = true then ((laws_markNodeS.f k x8 1).bind fun bt1063 => (if bt1063.1 < 0 then (laws_FnExactTilesAt.j1 k x0 x1 x6 x7 x9 true) else ((laws_eqIntS.f k x9 x6).bind fun t1065 => (if t1065 = true then (laws_FnExactTilesAt.j1 k x0 x1 x6 x7 x9 (x10 != x7)) else (laws_FnExactTilesAt.j1 k x0 x1 x6 x7 x9 true))))) else (some false))))
def laws_FnExactTilesAt.j1 : Nat → List (S51) → Int → List Int → Bool → List Int → Bool → Option (Bool)
 | 0, _, _, _, _, _, _ => none
 | k + 1, x0, x1, x6, x7, x9, x65 => if x65 = true then (some false) else ((laws_markIntS.f k x9 1).bind fun bt1066 => ((laws_heldIntS.f k bt1066.2 1).bind fun t1068 => (if t1068 < 0 then (some false) else (if t1068 = bt1066.1 then ((laws_toNodeS.f k x0).bind fun t1069 => ((impl_TilesAt.f k t1069 x1).bind fun bt1072 => ((laws_eqIntS.f k bt1072.1 x6).bind fun t1076 => (if t1076 = true then (laws_FnExactTilesAt.j2 k bt1066.2 bt1066.1 (bt1072.2 != x7)) else (laws_FnExactTilesAt.j2 k bt1066.2 bt1066.1 true))))) else (some false)))))
def laws_FnExactTilesAt.j2 : Nat → List Int → Int → Bool → Option (Bool)
 | 0, _, _, _ => none
 | k + 1, x9, x12, x92 => if x92 = true then (some false) else ((laws_heldIntS.f k x9 1).bind fun t1077 => (if t1077 < 0 then (some false) else (if t1077 = x12 then (some true) else (some false))))
end
def laws_FnExactTilesAt.f (k : Nat) (l0 : List (S51)) (a1 : Int) : Option (Bool) := (laws_szNodeS.f k l0 1048576).bind fun t1043 => (if t1043 < 0 then (some true) else ((laws_toNodeS.f k l0).bind fun t1044 => ((spec_TilesAt.f k t1044 a1).bind fun bt1047 => ((laws_toNodeS.f k l0).bind fun t1051 => ((impl_TilesAt.f k t1051 a1).bind fun bt1054 => ((laws_eqIntS.f k bt1054.1 bt1047.1).bind fun t1058 => (if t1058 = true then (laws_FnExactTilesAt.j0 k l0 a1 bt1047.1 bt1047.2 t1051 bt1054.1 bt1054.2 (bt1054.2 != bt1047.2)) else (laws_FnExactTilesAt.j0 k l0 a1 bt1047.1 bt1047.2 t1051 bt1054.1 bt1054.2 true))))))))
theorem laws_FnExactTilesAt.calls (k : Nat) (A0 : Option Addr) (c0 : Nat) (l0 : List (S51)) (a1 : Int) (r : Bool) (w : World) (hr0 : Kd.C k51 w A0 l0.length l0) (hc0 : l0.length ≤ c0) (h : laws_FnExactTilesAt.f k l0 a1 = some r) :
  Calls Try.prog 6 #[.slice A0 l0.length c0, .int .i64 a1] w fun e w' => e = .returned (.bool r) ∧ Below w.heap.size w w' := by
 have HR0 := Aside0.mk hr0
 have HC0 := Aside0.mk hc0
 clear hr0 hc0
 have HB := Aside0.mk (Below.refl w.heap.size w)
 have H := h
 clear h
 unfold laws_FnExactTilesAt.f at H
 obtain ⟨t1043, A3, H⟩ := ob H
 (try dsimp only at H)
 by_cases c4 : t1043 < 0
 ·rw [if_pos c4] at H
  have c4b0 := decide_eq_true c4
  clear c4
  obtain rfl := Option.some.inj H
  go_enter Try.func6, Try.ntmps6
  go_wp2_with (first | ((with_reducible refine gate_callee (f := 15) rfl ?_); refine gK (some 18) Try.func15 #[.slice A0 l0.length c0, .int .i64 1048576] rfl rfl rfl ?_; (with_reducible refine (laws_szNodeS.calls k _ _ l0 1048576 t1043 _ ?side1 ?side2 A3.out).mono ?_); (case side1 => exact cb HR0.out); (case side2 => exact HC0.out); rintro e w5 ⟨rfl, hb⟩; refine ⟨_, rfl, ?_⟩; replace HB := bs hb; (try clear hb)))
  go_ret
  exact ⟨EQ, BA⟩
 ·rw [if_neg c4] at H
  have c4b0 := decide_eq_false c4
  clear c4
  obtain ⟨t1044, A6, H⟩ := ob H
  (try dsimp only at H)
  replace H := Option.bind_eq_some_iff.mp H
  obtain ⟨⟨t1047, t1048⟩, A70, H⟩ := H
  (try dsimp only at H)
  have A7 := Aside0.mk A70
  clear A70
  obtain ⟨t1051, A8, H⟩ := ob H
  (try dsimp only at H)
  replace H := Option.bind_eq_some_iff.mp H
  obtain ⟨⟨t1054, t1055⟩, A90, H⟩ := H
  (try dsimp only at H)
  have A9 := Aside0.mk A90
  clear A90
  have HC10 := Aside0.mk H
  clear H
  go_enter Try.func6, Try.ntmps6
  go_upto_region 8 with (first | ((with_reducible refine gate_callee (f := 15) rfl ?_); refine gK (some 18) Try.func15 #[.slice A0 l0.length c0, .int .i64 1048576] rfl rfl rfl ?_; (with_reducible refine (laws_szNodeS.calls k _ _ l0 1048576 t1043 _ ?side1 ?side2 A3.out).mono ?_); (case side1 => exact cb HR0.out); (case side2 => exact HC0.out); rintro e w11 ⟨rfl, hb⟩; refine ⟨_, rfl, ?_⟩; replace HB := bs hb; (try clear hb)) | ((with_reducible refine gate_callee (f := 17) rfl ?_); refine gK (some 23) Try.func17 #[.slice A0 l0.length c0] rfl rfl rfl ?_; (with_reducible refine (laws_toNodeS.calls k _ _ l0 t1044 _ ?side1 ?side2 A6.out).mono ?_); (case side1 => exact cb (Kd.C_below HR0.out HB.out)); (case side2 => exact HC0.out); rintro e w12 ⟨v1045, rfl, ho0, hb⟩; refine ⟨_, rfl, ?_⟩; have HO1046 := Aside0.mk (Kd.R_lower ho0 (below_size BA)); replace HB := bs hb; (try clear hb); (try clear ho0); obtain ⟨Ao13, co13, eo13⟩ := Kd.R_slice HO1046.out; subst eo13) | ((with_reducible refine gate_callee (f := 28) rfl ?_); refine gK (some 25) Try.func28 #[.slice Ao13 t1044.length co13, .int .i64 a1] rfl rfl rfl ?_; (with_reducible refine (spec_TilesAt.calls k _ _ t1044 a1 t1047 t1048 _ ?side1 ?side2 A7.out).mono ?_); (case side1 => exact cb (Kd.R_reads' HO1046.out).2.2); (case side2 => exact (Kd.R_reads' HO1046.out).2.1); rintro e w14 ⟨v1049, rfl, ho0, hb⟩; refine ⟨_, rfl, ?_⟩; replace HO1046 := Aside0.mk (Kd.R_below (rb HO1046.out) hb); have HO1050 := Aside0.mk (Kd.R_lower ho0 (below_size BA)); replace HB := bs hb; (try clear hb); (try clear ho0)) | ((with_reducible refine gate_callee (f := 17) rfl ?_); refine gK (some 29) Try.func17 #[.slice A0 l0.length c0] rfl rfl rfl ?_; (with_reducible refine (laws_toNodeS.calls k _ _ l0 t1051 _ ?side1 ?side2 A8.out).mono ?_); (case side1 => exact cb (Kd.C_below HR0.out HB.out)); (case side2 => exact HC0.out); rintro e w15 ⟨v1052, rfl, ho0, hb⟩; refine ⟨_, rfl, ?_⟩; replace HO1050 := Aside0.mk (Kd.R_below (rb HO1050.out) hb); have HO1053 := Aside0.mk (Kd.R_lower (Kd.R_new' ho0 (Kd.R_lt (rb HO1046.out))) (below_size BA)); replace HO1046 := Aside0.mk (Kd.R_elder' (rb HO1046.out) (Kd.R_base ho0) hb); replace HB := bs hb; (try clear hb); (try clear ho0); obtain ⟨Ao16, co16, eo16⟩ := Kd.R_slice HO1053.out; subst eo16) | ((with_reducible refine gate_callee (f := 29) rfl ?_); refine gK (some 33) Try.func29 #[.slice Ao16 t1051.length co16, .int .i64 a1] rfl rfl rfl ?_; (with_reducible refine (impl_TilesAt.calls k _ _ t1051 a1 t1054 t1055 _ ?side1 ?side2 A9.out).mono ?_); (case side1 => exact cb (Kd.R_reads' HO1053.out).2.2); (case side2 => exact (Kd.R_reads' HO1053.out).2.1); rintro e w17 ⟨v1056, rfl, ho0, hb⟩; refine ⟨_, rfl, ?_⟩; replace HO1046 := Aside0.mk (Kd.R_below (rb HO1046.out) hb); replace HO1053 := Aside0.mk (Kd.R_below (rb HO1053.out) hb); have HO1057 := Aside0.mk (Kd.R_lower (Kd.R_new' ho0 (Kd.R_lt (rb HO1050.out))) (below_size BA)); replace HO1050 := Aside0.mk (Kd.R_elder' (rb HO1050.out) (Kd.R_base ho0) hb); replace HB := bs hb; (try clear hb); (try clear ho0)))
  (try simp only [Act.put, List.setIfInBounds_toArray, List.set_cons_zero, List.set_cons_succ])
  go_cut [44] (fun v44 wc => ∃ (kq : Nat) (x44_9 : Bool), v44 = .bool x44_9 ∧ Aside0 (laws_FnExactTilesAt.j0 kq l0 a1 t1047 t1048 t1051 t1054 t1055 x44_9 = some r) ∧ Aside0 (kq ≤ k) ∧ Aside0 (Kd.R (Kd.int .i64) 3 wc w.heap.size (fun k_ => some k_ ≠ (v1056 : Value).ownBlock) v1049 t1047) ∧ Aside0 (Kd.R k54 54 wc w.heap.size (fun _ => True) (.slice Ao16 t1051.length co16) t1051) ∧ Aside0 (Kd.R (Kd.int .i64) 3 wc w.heap.size (fun k_ => some k_ ≠ (v1049 : Value).ownBlock) v1056 t1054) ∧ Aside0 (Below w.heap.size w wc))
  case first =>
   have H := HC10.out
   clear HC10
   obtain ⟨t1058, A18, H⟩ := ob H
   (try dsimp only at H)
   by_cases c19 : t1058 = true
   ·subst c19
    rw [if_pos rfl] at H
    have H' := Aside0.mk H
    clear H
    obtain ⟨Ao20, co20, eo20⟩ := Kd.R_slice HO1057.out
    subst eo20
    obtain ⟨Ao21, co21, eo21⟩ := Kd.R_slice HO1050.out
    subst eo21
    go_wp2_with (first | ((with_reducible refine gate_callee (f := 22) rfl ?_); refine gK (some 38) Try.func22 #[.slice Ao20 t1054.length co20, .slice Ao21 t1047.length co21] rfl rfl rfl ?_; (with_reducible refine (laws_eqIntS.calls k _ _ t1054 _ _ t1047 true _ ?side1 ?side2 ?side3 ?side4 A18.out).mono ?_); (case side1 => exact cb (Kd.R_reads' HO1057.out).2.2); (case side2 => exact (Kd.R_reads' HO1057.out).2.1); (case side3 => exact cb (Kd.R_reads' HO1050.out).2.2); (case side4 => exact (Kd.R_reads' HO1050.out).2.1); rintro e w' ⟨rfl, ⟨nd, rfl⟩⟩; refine ⟨_, rfl, ?_⟩))
    go_meet
    case rel => exact ⟨_, ((t1055 != t1048)), EQ1, H', ⟨by first | omega | exact Nat.le_refl _⟩, ⟨rb (Kd.R_mono HO1050.out (fun _ hk => hk.2))⟩, ⟨rb (Kd.R_mono HO1053.out (fun _ hk => trivial))⟩, ⟨rb (Kd.R_mono HO1057.out (fun _ hk => hk.2))⟩, ⟨BA⟩⟩
   ·replace c19 := Bool.eq_false_iff.mpr c19
    subst c19
    rw [if_neg (show ¬ (false = true) by decide)] at H
    have H' := Aside0.mk H
    clear H
    obtain ⟨Ao22, co22, eo22⟩ := Kd.R_slice HO1057.out
    subst eo22
    obtain ⟨Ao23, co23, eo23⟩ := Kd.R_slice HO1050.out
    subst eo23
    go_wp2_with (first | ((with_reducible refine gate_callee (f := 22) rfl ?_); refine gK (some 38) Try.func22 #[.slice Ao22 t1054.length co22, .slice Ao23 t1047.length co23] rfl rfl rfl ?_; (with_reducible refine (laws_eqIntS.calls k _ _ t1054 _ _ t1047 false _ ?side1 ?side2 ?side3 ?side4 A18.out).mono ?_); (case side1 => exact cb (Kd.R_reads' HO1057.out).2.2); (case side2 => exact (Kd.R_reads' HO1057.out).2.1); (case side3 => exact cb (Kd.R_reads' HO1050.out).2.2); (case side4 => exact (Kd.R_reads' HO1050.out).2.1); rintro e w' ⟨rfl, ⟨nd, rfl⟩⟩; refine ⟨_, rfl, ?_⟩))
    go_meet
    case rel => exact ⟨_, (true), EQ1, H', ⟨by first | omega | exact Nat.le_refl _⟩, ⟨rb (Kd.R_mono HO1050.out (fun _ hk => hk.2))⟩, ⟨rb (Kd.R_mono HO1053.out (fun _ hk => trivial))⟩, ⟨rb (Kd.R_mono HO1057.out (fun _ hk => hk.2))⟩, ⟨BA⟩⟩
  case rest =>
   clear HC10
   (try clear c4b0); (try clear c19)
   obtain ⟨kq, x44_9, rfl, HA, HJ9, HO_6, HO_8, HO_9, HB⟩ := hcut
   cases kq with
   | zero => exact absurd HA.out (by simp [laws_FnExactTilesAt.j0])
   | succ kj9 =>
    have H := HA.out
    clear HA
    simp only [laws_FnExactTilesAt.j0] at H
    by_cases c24 : x44_9 = true
    ·subst c24
     rw [if_pos rfl] at H
     obtain rfl := Option.some.inj H
     go_wp2
     go_ret
     exact ⟨EQ, BA⟩
    ·replace c24 := Bool.eq_false_iff.mpr c24
     subst c24
     rw [if_neg (show ¬ (false = true) by decide)] at H
     obtain ⟨t1059, A25, H⟩ := ob H
     (try dsimp only at H)
     obtain ⟨t1062, A26, H⟩ := ob H
     (try dsimp only at H)
     by_cases c27 : t1062 = true
     ·subst c27
      rw [if_pos rfl] at H
      replace H := Option.bind_eq_some_iff.mp H
      obtain ⟨⟨t1063, t1064⟩, A280, H⟩ := H
      (try dsimp only at H)
      have A28 := Aside0.mk A280
      clear A280
      have HC29 := Aside0.mk H
      clear H
      go_upto_region 14 with (first | ((with_reducible refine gate_callee (f := 17) rfl ?_); refine gK (some 47) Try.func17 #[.slice A0 l0.length c0] rfl rfl rfl ?_; (with_reducible refine (laws_toNodeS.calls kj9 _ _ l0 t1059 _ ?side1 ?side2 A25.out).mono ?_); (case side1 => exact cb (Kd.C_below HR0.out HB.out)); (case side2 => exact HC0.out); rintro e w30 ⟨v1060, rfl, ho0, hb⟩; refine ⟨_, rfl, ?_⟩; replace HO_6 := Aside0.mk (Kd.R_below (rb HO_6.out) hb); replace HO_9 := Aside0.mk (Kd.R_below (rb HO_9.out) hb); have HO1061 := Aside0.mk (Kd.R_lower (Kd.R_new' ho0 (Kd.R_lt (rb HO_8.out))) (below_size BA)); replace HO_8 := Aside0.mk (Kd.R_elder' (rb HO_8.out) (Kd.R_base ho0) hb); replace HB := bs hb; (try clear hb); (try clear ho0); obtain ⟨Ao31, co31, eo31⟩ := Kd.R_slice HO1061.out; subst eo31) | ((with_reducible refine gate_callee (f := 19) rfl ?_); refine gK (some 48) Try.func19 #[.slice Ao16 t1051.length co16, .slice Ao31 t1059.length co31] rfl rfl rfl ?_; (with_reducible refine (laws_eqNodeS.calls kj9 _ _ t1051 _ _ t1059 true _ ?side1 ?side2 ?side3 ?side4 A26.out).mono ?_); (case side1 => exact cb (Kd.R_reads' HO_8.out).2.2); (case side2 => exact (Kd.R_reads' HO_8.out).2.1); (case side3 => exact cb (Kd.R_reads' HO1061.out).2.2); (case side4 => exact (Kd.R_reads' HO1061.out).2.1); rintro e w32 ⟨rfl, hb⟩; refine ⟨_, rfl, ?_⟩; replace HO_6 := Aside0.mk (Kd.R_below (rb HO_6.out) hb); replace HO_8 := Aside0.mk (Kd.R_below (rb HO_8.out) hb); replace HO_9 := Aside0.mk (Kd.R_below (rb HO_9.out) hb); replace HO1061 := Aside0.mk (Kd.R_below (rb HO1061.out) hb); replace HB := bs hb; (try clear hb)) | ((with_reducible refine gate_callee (f := 23) rfl ?_); refine gK (some 52) Try.func23 #[.slice Ao16 t1051.length co16, .int .i64 1] rfl rfl rfl ?_; (with_reducible refine (laws_markNodeS.calls kj9 (fun k_ => some k_ = (.slice Ao16 t1051.length co16 : Value).ownBlock) (.slice Ao16 t1051.length co16) t1051 1 t1063 t1064 w _ ?side1 ?side2 A28.out).mono ?_); (case side1 => repeat (first | (with_reducible first | exact HB.out | apply below_alloc | apply pw_below_drewN | apply below_drew1) | exact HB.out)); (case side2 => exact Kd.R_tight rfl HO_8.out); rintro e w33 ⟨rfl, hy0, hb, hkp⟩; refine ⟨_, rfl, ?_⟩; replace HO_6 := Aside0.mk (Kd.R_mono (ok' := fun k_ => some k_ ≠ (v1056 : Value).ownBlock) (Kd.R_keptB ((Kd.R_apart' HO_6.out (Kd.R_typed HO_8.out) (by decide))) hkp (fun k_ hk_ hs_ => (hk_.2) hs_)) (fun k_ hk_ => hk_.1.1)); replace HO_9 := Aside0.mk (Kd.R_mono (ok' := fun k_ => some k_ ≠ (v1049 : Value).ownBlock) (Kd.R_keptB ((Kd.R_apart' HO_9.out (Kd.R_typed HO_8.out) (by decide))) hkp (fun k_ hk_ hs_ => (hk_.2) hs_)) (fun k_ hk_ => hk_.1.1)); replace HO_8 := Aside0.mk (Kd.R_reok rfl hy0 (fun k_ e_ => HO_8.out.1 k_ e_)); replace HO1061 := Aside0.mk (Kd.R_mono (ok' := fun k_ => some k_ ≠ (.slice Ao16 t1051.length co16 : Value).ownBlock) (Kd.R_keptB (HO1061.out) hkp (fun k_ hk_ hs_ => (hk_.2) hs_)) (fun k_ hk_ => hk_.1.2)); replace HB := Aside0.mk (hb); (try clear hb); (try clear hkp); (try clear hy0)))
      (try simp only [Act.put, List.setIfInBounds_toArray, List.set_cons_zero, List.set_cons_succ])
      go_cut [65] (fun v65 wc => ∃ (kq : Nat) (x65_28 : Bool), v65 = .bool x65_28 ∧ Aside0 (laws_FnExactTilesAt.j1 kq l0 a1 t1047 t1048 t1054 x65_28 = some r) ∧ Aside0 (kq ≤ kj9) ∧ Aside0 (Kd.R (Kd.int .i64) 3 wc w.heap.size (fun k_ => some k_ ≠ (v1056 : Value).ownBlock) v1049 t1047) ∧ Aside0 (Kd.R (Kd.int .i64) 3 wc w.heap.size (fun k_ => some k_ ≠ (v1049 : Value).ownBlock) v1056 t1054) ∧ Aside0 (Below w.heap.size w wc))
      case first =>
       have H := HC29.out
       clear HC29
       by_cases c34 : t1063 < 0
       ·rw [if_pos c34] at H
        have c34b0 := decide_eq_true c34
        clear c34
        (first | rw [c34b0] | (simp only [i64_w, i32_w]; rw [c34b0]) | skip)
        have H' := Aside0.mk H
        clear H
        go_wp2
        go_meet
        case rel => exact ⟨_, (true), EQ1, H', ⟨by have := HJ9.out; first | omega | exact Nat.le_refl _⟩, ⟨rb HO_6.out⟩, ⟨rb HO_9.out⟩, ⟨BA⟩⟩
       ·rw [if_neg c34] at H
        have c34b0 := decide_eq_false c34
        clear c34
        (first | rw [c34b0] | (simp only [i64_w, i32_w]; rw [c34b0]) | skip)
        obtain ⟨t1065, A35, H⟩ := ob H
        (try dsimp only at H)
        by_cases c36 : t1065 = true
        ·subst c36
         rw [if_pos rfl] at H
         have H' := Aside0.mk H
         clear H
         obtain ⟨Ao37, co37, eo37⟩ := Kd.R_slice HO_9.out
         subst eo37
         obtain ⟨Ao38, co38, eo38⟩ := Kd.R_slice HO_6.out
         subst eo38
         go_wp2_with (first | (go_at_call 22; (with_reducible refine (laws_eqIntS.calls kj9 _ _ t1054 _ _ t1047 true _ ?side1 ?side2 ?side3 ?side4 A35.out).mono ?_); (case side1 => exact cb (Kd.R_reads' HO_9.out).2.2); (case side2 => exact (Kd.R_reads' HO_9.out).2.1); (case side3 => exact cb (Kd.R_reads' HO_6.out).2.2); (case side4 => exact (Kd.R_reads' HO_6.out).2.1); rintro e w' ⟨rfl, ⟨nd, rfl⟩⟩))
         go_meet
         case rel => exact ⟨_, ((t1055 != t1048)), EQ1, H', ⟨by have := HJ9.out; first | omega | exact Nat.le_refl _⟩, ⟨rb HO_6.out⟩, ⟨rb HO_9.out⟩, ⟨BA⟩⟩
        ·replace c36 := Bool.eq_false_iff.mpr c36
         subst c36
         rw [if_neg (show ¬ (false = true) by decide)] at H
         have H' := Aside0.mk H
         clear H
         obtain ⟨Ao39, co39, eo39⟩ := Kd.R_slice HO_9.out
         subst eo39
         obtain ⟨Ao40, co40, eo40⟩ := Kd.R_slice HO_6.out
         subst eo40
         go_wp2_with (first | (go_at_call 22; (with_reducible refine (laws_eqIntS.calls kj9 _ _ t1054 _ _ t1047 false _ ?side1 ?side2 ?side3 ?side4 A35.out).mono ?_); (case side1 => exact cb (Kd.R_reads' HO_9.out).2.2); (case side2 => exact (Kd.R_reads' HO_9.out).2.1); (case side3 => exact cb (Kd.R_reads' HO_6.out).2.2); (case side4 => exact (Kd.R_reads' HO_6.out).2.1); rintro e w' ⟨rfl, ⟨nd, rfl⟩⟩))
         go_meet
         case rel => exact ⟨_, (true), EQ1, H', ⟨by have := HJ9.out; first | omega | exact Nat.le_refl _⟩, ⟨rb HO_6.out⟩, ⟨rb HO_9.out⟩, ⟨BA⟩⟩
      case rest =>
       clear HC29
       (try clear c4b0); (try clear c19); (try clear c24); (try clear c27); (try clear c34b0); (try clear c36)
       obtain ⟨kq, x65_28, rfl, HA, HJ28, HO_6, HO_9, HB⟩ := hcut
       cases kq with
       | zero => exact absurd HA.out (by simp [laws_FnExactTilesAt.j1])
       | succ kj28 =>
        have H := HA.out
        clear HA
        simp only [laws_FnExactTilesAt.j1] at H
        by_cases c41 : x65_28 = true
        ·subst c41
         rw [if_pos rfl] at H
         obtain rfl := Option.some.inj H
         go_wp2
         go_ret
         exact ⟨EQ, BA⟩
        ·replace c41 := Bool.eq_false_iff.mpr c41
         subst c41
         rw [if_neg (show ¬ (false = true) by decide)] at H
         replace H := Option.bind_eq_some_iff.mp H
         obtain ⟨⟨t1066, t1067⟩, A420, H⟩ := H
         (try dsimp only at H)
         have A42 := Aside0.mk A420
         clear A420
         obtain ⟨t1068, A43, H⟩ := ob H
         (try dsimp only at H)
         by_cases c44 : t1068 < 0
         ·rw [if_pos c44] at H
          have c44b0 := decide_eq_true c44
          clear c44
          obtain rfl := Option.some.inj H
          obtain ⟨Ao45, co45, eo45⟩ := Kd.R_slice HO_9.out
          subst eo45
          go_wp2_with (first | ((with_reducible refine gate_callee (f := 24) rfl ?_); refine gK (some 68) Try.func24 #[.slice Ao45 t1054.length co45, .int .i64 1] rfl rfl rfl ?_; (with_reducible refine (laws_markIntS.calls kj28 (fun k_ => some k_ = (.slice Ao45 t1054.length co45 : Value).ownBlock) (.slice Ao45 t1054.length co45) t1054 1 t1066 t1067 w _ ?side1 ?side2 A42.out).mono ?_); (case side1 => repeat (first | (with_reducible first | exact HB.out | apply below_alloc | apply pw_below_drewN | apply below_drew1) | exact HB.out)); (case side2 => exact Kd.R_tight rfl HO_9.out); rintro e w46 ⟨rfl, hy0, hb, hkp⟩; refine ⟨_, rfl, ?_⟩; replace HO_6 := Aside0.mk (Kd.R_mono (ok' := fun k_ => some k_ ≠ (.slice Ao45 t1054.length co45 : Value).ownBlock) (Kd.R_keptB (HO_6.out) hkp (fun k_ hk_ hs_ => (hk_) hs_)) (fun k_ hk_ => hk_.1)); replace HO_9 := Aside0.mk (Kd.R_reok rfl hy0 (fun k_ e_ => HO_9.out.1 k_ e_)); replace HB := Aside0.mk (hb); (try clear hb); (try clear hkp); (try clear hy0)) | ((with_reducible refine gate_callee (f := 25) rfl ?_); refine goesL_ (some 71) rfl rfl Try.func25 (by kernel_rfl) rfl #[.slice Ao45 t1067.length co45, .int .i64 1] rfl (by (try simp only [List.map_toArray, List.map_cons, List.map_nil]); first | done | (rw [show t1067.length = t1054.length from (Kd.R_reads' HO_9.out).1.symm] <;> rfl) | rfl | (simp only [List.length_drop, List.length_take]; rfl)) ?_; (with_reducible refine (laws_heldIntS.calls kj28 _ _ t1067 1 t1068 _ ?side1 ?side2 A43.out).mono ?_); (case side1 => exact cb (Kd.R_reads' HO_9.out).2.2); (case side2 => rw [show t1067.length = t1054.length from (Kd.R_reads' HO_9.out).1.symm]; exact (Kd.R_reads' HO_9.out).2.1); rintro e w' ⟨rfl, ⟨nd, rfl⟩⟩; refine ⟨_, rfl, ?_⟩))
          go_ret
          exact ⟨EQ, BA⟩
         ·rw [if_neg c44] at H
          have c44b0 := decide_eq_false c44
          clear c44
          by_cases c47 : t1068 = t1066
          ·rw [if_pos c47] at H
           have c47b0 := beq_iff_eq.mpr c47
           have c47b1 := bne_eq_false_iff_eq.mpr c47
           clear c47
           obtain ⟨t1069, A48, H⟩ := ob H
           (try dsimp only at H)
           replace H := Option.bind_eq_some_iff.mp H
           obtain ⟨⟨t1072, t1073⟩, A490, H⟩ := H
           (try dsimp only at H)
           have A49 := Aside0.mk A490
           clear A490
           have HC50 := Aside0.mk H
           clear H
           obtain ⟨Ao51, co51, eo51⟩ := Kd.R_slice HO_9.out
           subst eo51
           go_upto_region 25 with (first | ((with_reducible refine gate_callee (f := 24) rfl ?_); refine gK (some 68) Try.func24 #[.slice Ao51 t1054.length co51, .int .i64 1] rfl rfl rfl ?_; (with_reducible refine (laws_markIntS.calls kj28 (fun k_ => some k_ = (.slice Ao51 t1054.length co51 : Value).ownBlock) (.slice Ao51 t1054.length co51) t1054 1 t1066 t1067 w _ ?side1 ?side2 A42.out).mono ?_); (case side1 => repeat (first | (with_reducible first | exact HB.out | apply below_alloc | apply pw_below_drewN | apply below_drew1) | exact HB.out)); (case side2 => exact Kd.R_tight rfl HO_9.out); rintro e w52 ⟨rfl, hy0, hb, hkp⟩; refine ⟨_, rfl, ?_⟩; replace HO_6 := Aside0.mk (Kd.R_mono (ok' := fun k_ => some k_ ≠ (.slice Ao51 t1054.length co51 : Value).ownBlock) (Kd.R_keptB (HO_6.out) hkp (fun k_ hk_ hs_ => (hk_) hs_)) (fun k_ hk_ => hk_.1)); replace HO_9 := Aside0.mk (Kd.R_reok rfl hy0 (fun k_ e_ => HO_9.out.1 k_ e_)); replace HB := Aside0.mk (hb); (try clear hb); (try clear hkp); (try clear hy0)) | ((with_reducible refine gate_callee (f := 25) rfl ?_); refine goesL_ (some 71) rfl rfl Try.func25 (by kernel_rfl) rfl #[.slice Ao51 t1067.length co51, .int .i64 1] rfl (by (try simp only [List.map_toArray, List.map_cons, List.map_nil]); first | done | (rw [show t1067.length = t1054.length from (Kd.R_reads' HO_9.out).1.symm] <;> rfl) | rfl | (simp only [List.length_drop, List.length_take]; rfl)) ?_; (with_reducible refine (laws_heldIntS.calls kj28 _ _ t1067 1 t1068 _ ?side1 ?side2 A43.out).mono ?_); (case side1 => exact cb (Kd.R_reads' HO_9.out).2.2); (case side2 => rw [show t1067.length = t1054.length from (Kd.R_reads' HO_9.out).1.symm]; exact (Kd.R_reads' HO_9.out).2.1); rintro e w' ⟨rfl, ⟨nd, rfl⟩⟩; refine ⟨_, rfl, ?_⟩) | ((with_reducible refine gate_callee (f := 17) rfl ?_); refine gK (some 79) Try.func17 #[.slice A0 l0.length c0] rfl rfl rfl ?_; (with_reducible refine (laws_toNodeS.calls kj28 _ _ l0 t1069 _ ?side1 ?side2 A48.out).mono ?_); (case side1 => exact cb (Kd.C_below HR0.out BA)); (case side2 => exact HC0.out); rintro e w53 ⟨v1070, rfl, ho0, hb⟩; refine ⟨_, rfl, ?_⟩; replace HO_6 := Aside0.mk (Kd.R_below (rb HO_6.out) hb); replace HO_9 := Aside0.mk (Kd.R_below (rb HO_9.out) hb); have HO1071 := Aside0.mk (Kd.R_lower ho0 (below_size BA)); replace HB := bs hb; (try clear hb); (try clear ho0); obtain ⟨Ao54, co54, eo54⟩ := Kd.R_slice HO1071.out; subst eo54) | ((with_reducible refine gate_callee (f := 29) rfl ?_); refine gK (some 81) Try.func29 #[.slice Ao54 t1069.length co54, .int .i64 a1] rfl rfl rfl ?_; (with_reducible refine (impl_TilesAt.calls kj28 _ _ t1069 a1 t1072 t1073 _ ?side1 ?side2 A49.out).mono ?_); (case side1 => exact cb (Kd.R_reads' HO1071.out).2.2); (case side2 => exact (Kd.R_reads' HO1071.out).2.1); rintro e w55 ⟨v1074, rfl, ho0, hb⟩; refine ⟨_, rfl, ?_⟩; replace HO1071 := Aside0.mk (Kd.R_below (rb HO1071.out) hb); have HO1075 := Aside0.mk (Kd.R_lower (Kd.R_new' (Kd.R_new' ho0 (Kd.R_lt (rb HO_6.out))) (Kd.R_lt (rb HO_9.out))) (below_size BA)); replace HO_6 := Aside0.mk (Kd.R_elder' (rb HO_6.out) (Kd.R_base ho0) hb); replace HO_9 := Aside0.mk (Kd.R_elder' (rb HO_9.out) (Kd.R_base ho0) hb); replace HB := bs hb; (try clear hb); (try clear ho0)))
           (try simp only [Act.put, List.setIfInBounds_toArray, List.set_cons_zero, List.set_cons_succ])
           go_cut [92] (fun v92 wc => ∃ (kq : Nat) (x92_49 : Bool), v92 = .bool x92_49 ∧ Aside0 (laws_FnExactTilesAt.j2 kq t1067 t1066 x92_49 = some r) ∧ Aside0 (kq ≤ kj28) ∧ Aside0 (Kd.R (Kd.int .i64) 3 wc w.heap.size (fun _ => True) (.slice Ao51 t1054.length co51) t1067) ∧ Aside0 (Below w.heap.size w wc))
           case first =>
            have H := HC50.out
            clear HC50
            obtain ⟨t1076, A56, H⟩ := ob H
            (try dsimp only at H)
            by_cases c57 : t1076 = true
            ·subst c57
             rw [if_pos rfl] at H
             have H' := Aside0.mk H
             clear H
             obtain ⟨Ao58, co58, eo58⟩ := Kd.R_slice HO1075.out
             subst eo58
             obtain ⟨Ao59, co59, eo59⟩ := Kd.R_slice HO_6.out
             subst eo59
             go_wp2_with (first | ((with_reducible refine gate_callee (f := 22) rfl ?_); refine gK (some 86) Try.func22 #[.slice Ao58 t1072.length co58, .slice Ao59 t1047.length co59] rfl rfl rfl ?_; (with_reducible refine (laws_eqIntS.calls kj28 _ _ t1072 _ _ t1047 true _ ?side1 ?side2 ?side3 ?side4 A56.out).mono ?_); (case side1 => exact cb (Kd.R_reads' HO1075.out).2.2); (case side2 => exact (Kd.R_reads' HO1075.out).2.1); (case side3 => exact cb (Kd.R_reads' HO_6.out).2.2); (case side4 => exact (Kd.R_reads' HO_6.out).2.1); rintro e w' ⟨rfl, ⟨nd, rfl⟩⟩; refine ⟨_, rfl, ?_⟩))
             go_meet
             case rel => exact ⟨_, ((t1073 != t1048)), EQ1, H', ⟨by have := HJ9.out; have := HJ28.out; first | omega | exact Nat.le_refl _⟩, ⟨rb (Kd.R_mono HO_9.out (fun _ hk => trivial))⟩, ⟨BA⟩⟩
            ·replace c57 := Bool.eq_false_iff.mpr c57
             subst c57
             rw [if_neg (show ¬ (false = true) by decide)] at H
             have H' := Aside0.mk H
             clear H
             obtain ⟨Ao60, co60, eo60⟩ := Kd.R_slice HO1075.out
             subst eo60
             obtain ⟨Ao61, co61, eo61⟩ := Kd.R_slice HO_6.out
             subst eo61
             go_wp2_with (first | ((with_reducible refine gate_callee (f := 22) rfl ?_); refine gK (some 86) Try.func22 #[.slice Ao60 t1072.length co60, .slice Ao61 t1047.length co61] rfl rfl rfl ?_; (with_reducible refine (laws_eqIntS.calls kj28 _ _ t1072 _ _ t1047 false _ ?side1 ?side2 ?side3 ?side4 A56.out).mono ?_); (case side1 => exact cb (Kd.R_reads' HO1075.out).2.2); (case side2 => exact (Kd.R_reads' HO1075.out).2.1); (case side3 => exact cb (Kd.R_reads' HO_6.out).2.2); (case side4 => exact (Kd.R_reads' HO_6.out).2.1); rintro e w' ⟨rfl, ⟨nd, rfl⟩⟩; refine ⟨_, rfl, ?_⟩))
             go_meet
             case rel => exact ⟨_, (true), EQ1, H', ⟨by have := HJ9.out; have := HJ28.out; first | omega | exact Nat.le_refl _⟩, ⟨rb (Kd.R_mono HO_9.out (fun _ hk => trivial))⟩, ⟨BA⟩⟩
           case rest =>
            clear HC50
            (try clear c4b0); (try clear c19); (try clear c24); (try clear c27); (try clear c34b0); (try clear c36); (try clear c41); (try clear c44b0); (try clear c47b0); (try clear c47b1); (try clear c57)
            obtain ⟨kq, x92_49, rfl, HA, HJ49, HO_9, HB⟩ := hcut
            have hl9_49 := (Kd.R_reads' HO_9.out).1
            rw [hl9_49] at HO_9
            (try simp only [hl9_49])
            cases kq with
            | zero => exact absurd HA.out (by simp [laws_FnExactTilesAt.j2])
            | succ kj49 =>
             have H := HA.out
             clear HA
             simp only [laws_FnExactTilesAt.j2] at H
             by_cases c62 : x92_49 = true
             ·subst c62
              rw [if_pos rfl] at H
              obtain rfl := Option.some.inj H
              go_wp2
              go_ret
              exact ⟨EQ, BA⟩
             ·replace c62 := Bool.eq_false_iff.mpr c62
              subst c62
              rw [if_neg (show ¬ (false = true) by decide)] at H
              obtain ⟨t1077, A63, H⟩ := ob H
              (try dsimp only at H)
              by_cases c64 : t1077 < 0
              ·rw [if_pos c64] at H
               have c64b0 := decide_eq_true c64
               clear c64
               obtain rfl := Option.some.inj H
               go_wp2_with (first | ((with_reducible refine gate_callee (f := 25) rfl ?_); refine gK (some 95) Try.func25 #[.slice Ao51 t1067.length co51, .int .i64 1] rfl rfl rfl ?_; (with_reducible refine (laws_heldIntS.calls kj49 _ _ t1067 1 t1077 _ ?side1 ?side2 A63.out).mono ?_); (case side1 => exact cb (Kd.R_reads' HO_9.out).2.2); (case side2 => exact (Kd.R_reads' HO_9.out).2.1); rintro e w' ⟨rfl, ⟨nd, rfl⟩⟩; refine ⟨_, rfl, ?_⟩))
               go_ret
               exact ⟨EQ, BA⟩
              ·rw [if_neg c64] at H
               have c64b0 := decide_eq_false c64
               clear c64
               by_cases c65 : t1077 = t1066
               ·rw [if_pos c65] at H
                have c65b0 := beq_iff_eq.mpr c65
                have c65b1 := bne_eq_false_iff_eq.mpr c65
                clear c65
                obtain rfl := Option.some.inj H
                go_wp2_with (first | ((with_reducible refine gate_callee (f := 25) rfl ?_); refine gK (some 95) Try.func25 #[.slice Ao51 t1067.length co51, .int .i64 1] rfl rfl rfl ?_; (with_reducible refine (laws_heldIntS.calls kj49 _ _ t1067 1 t1077 _ ?side1 ?side2 A63.out).mono ?_); (case side1 => exact cb (Kd.R_reads' HO_9.out).2.2); (case side2 => exact (Kd.R_reads' HO_9.out).2.1); rintro e w' ⟨rfl, ⟨nd, rfl⟩⟩; refine ⟨_, rfl, ?_⟩))
                go_ret
                exact ⟨EQ, BA⟩
               ·rw [if_neg c65] at H
                have c65b0 := beq_eq_false_iff_ne.mpr c65
                have c65b1 := bne_iff_ne.mpr c65
                obtain rfl := Option.some.inj H
                go_wp2_with (first | ((with_reducible refine gate_callee (f := 25) rfl ?_); refine gK (some 95) Try.func25 #[.slice Ao51 t1067.length co51, .int .i64 1] rfl rfl rfl ?_; (with_reducible refine (laws_heldIntS.calls kj49 _ _ t1067 1 t1077 _ ?side1 ?side2 A63.out).mono ?_); (case side1 => exact cb (Kd.R_reads' HO_9.out).2.2); (case side2 => exact (Kd.R_reads' HO_9.out).2.1); rintro e w' ⟨rfl, ⟨nd, rfl⟩⟩; refine ⟨_, rfl, ?_⟩))
                go_ret
                exact ⟨EQ, BA⟩
          ·rw [if_neg c47] at H
           have c47b0 := beq_eq_false_iff_ne.mpr c47
           have c47b1 := bne_iff_ne.mpr c47
           obtain rfl := Option.some.inj H
           obtain ⟨Ao66, co66, eo66⟩ := Kd.R_slice HO_9.out
           subst eo66
           go_wp2_with (first | ((with_reducible refine gate_callee (f := 24) rfl ?_); refine gK (some 68) Try.func24 #[.slice Ao66 t1054.length co66, .int .i64 1] rfl rfl rfl ?_; (with_reducible refine (laws_markIntS.calls kj28 (fun k_ => some k_ = (.slice Ao66 t1054.length co66 : Value).ownBlock) (.slice Ao66 t1054.length co66) t1054 1 t1066 t1067 w _ ?side1 ?side2 A42.out).mono ?_); (case side1 => repeat (first | (with_reducible first | exact HB.out | apply below_alloc | apply pw_below_drewN | apply below_drew1) | exact HB.out)); (case side2 => exact Kd.R_tight rfl HO_9.out); rintro e w67 ⟨rfl, hy0, hb, hkp⟩; refine ⟨_, rfl, ?_⟩; replace HO_6 := Aside0.mk (Kd.R_mono (ok' := fun k_ => some k_ ≠ (.slice Ao66 t1054.length co66 : Value).ownBlock) (Kd.R_keptB (HO_6.out) hkp (fun k_ hk_ hs_ => (hk_) hs_)) (fun k_ hk_ => hk_.1)); replace HO_9 := Aside0.mk (Kd.R_reok rfl hy0 (fun k_ e_ => HO_9.out.1 k_ e_)); replace HB := Aside0.mk (hb); (try clear hb); (try clear hkp); (try clear hy0)) | ((with_reducible refine gate_callee (f := 25) rfl ?_); refine goesL_ (some 71) rfl rfl Try.func25 (by kernel_rfl) rfl #[.slice Ao66 t1067.length co66, .int .i64 1] rfl (by (try simp only [List.map_toArray, List.map_cons, List.map_nil]); first | done | (rw [show t1067.length = t1054.length from (Kd.R_reads' HO_9.out).1.symm] <;> rfl) | rfl | (simp only [List.length_drop, List.length_take]; rfl)) ?_; (with_reducible refine (laws_heldIntS.calls kj28 _ _ t1067 1 t1068 _ ?side1 ?side2 A43.out).mono ?_); (case side1 => exact cb (Kd.R_reads' HO_9.out).2.2); (case side2 => rw [show t1067.length = t1054.length from (Kd.R_reads' HO_9.out).1.symm]; exact (Kd.R_reads' HO_9.out).2.1); rintro e w' ⟨rfl, ⟨nd, rfl⟩⟩; refine ⟨_, rfl, ?_⟩))
           go_ret
           exact ⟨EQ, BA⟩
     ·replace c27 := Bool.eq_false_iff.mpr c27
      subst c27
      rw [if_neg (show ¬ (false = true) by decide)] at H
      obtain rfl := Option.some.inj H
      go_wp2_with (first | ((with_reducible refine gate_callee (f := 17) rfl ?_); refine gK (some 47) Try.func17 #[.slice A0 l0.length c0] rfl rfl rfl ?_; (with_reducible refine (laws_toNodeS.calls kj9 _ _ l0 t1059 _ ?side1 ?side2 A25.out).mono ?_); (case side1 => exact cb (Kd.C_below HR0.out HB.out)); (case side2 => exact HC0.out); rintro e w68 ⟨v1060, rfl, ho0, hb⟩; refine ⟨_, rfl, ?_⟩; replace HO_6 := Aside0.mk (Kd.R_below (rb HO_6.out) hb); replace HO_9 := Aside0.mk (Kd.R_below (rb HO_9.out) hb); have HO1061 := Aside0.mk (Kd.R_lower (Kd.R_new' ho0 (Kd.R_lt (rb HO_8.out))) (below_size BA)); replace HO_8 := Aside0.mk (Kd.R_elder' (rb HO_8.out) (Kd.R_base ho0) hb); replace HB := bs hb; (try clear hb); (try clear ho0); obtain ⟨Ao69, co69, eo69⟩ := Kd.R_slice HO1061.out; subst eo69) | ((with_reducible refine gate_callee (f := 19) rfl ?_); refine gK (some 48) Try.func19 #[.slice Ao16 t1051.length co16, .slice Ao69 t1059.length co69] rfl rfl rfl ?_; (with_reducible refine (laws_eqNodeS.calls kj9 _ _ t1051 _ _ t1059 false _ ?side1 ?side2 ?side3 ?side4 A26.out).mono ?_); (case side1 => exact cb (Kd.R_reads' HO_8.out).2.2); (case side2 => exact (Kd.R_reads' HO_8.out).2.1); (case side3 => exact cb (Kd.R_reads' HO1061.out).2.2); (case side4 => exact (Kd.R_reads' HO1061.out).2.1); rintro e w70 ⟨rfl, hb⟩; refine ⟨_, rfl, ?_⟩; replace HO_6 := Aside0.mk (Kd.R_below (rb HO_6.out) hb); replace HO_8 := Aside0.mk (Kd.R_below (rb HO_8.out) hb); replace HO_9 := Aside0.mk (Kd.R_below (rb HO_9.out) hb); replace HO1061 := Aside0.mk (Kd.R_below (rb HO1061.out) hb); replace HB := bs hb; (try clear hb)))
      go_ret
      exact ⟨EQ, BA⟩

end Go.Proofs.Ytlmegefdnkjcbaa.Pa
